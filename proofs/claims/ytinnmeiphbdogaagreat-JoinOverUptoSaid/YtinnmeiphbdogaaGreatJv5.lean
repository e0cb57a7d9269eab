/- Texts joined for a claim (IndexX, CmpTest, BasePut, RowAll, BaseAt, RowWith, BaseV, LaidPlain, MissTest, LaidRound, Proj, ProjSort, Laid). -/
import Derived.Test.YtinnmeiphbdogaaGreatJv4
import Derived.Deep.RegionWith
set_option linter.unusedVariables false
set_option linter.unusedSimpArgs false
set_option maxRecDepth 100000
namespace Go.Proofs.YtinnmeiphbdogaaGreat
section
open Go.RowKit
def dH{α:Type}(q:α->Bool)(l:List α):Int:=if l.any q=true then((l.findIdx q:Nat):Int)else-1
theorem zM{α:Type}{q:α->Bool}{l:List α}{i:Nat}{u:α}(hno:∀(j:Nat) x,j<i->l[j]?=some x->q x=false)(hi:l[i]?=some u)(hq:q u=true):dH q l=i:=by
 unfold dH;rw [if_pos (lI hi hq)];have hl:=List.getElem?_eq_some_iff.1 hi
 congr 1
 have h1:l.findIdx q≤i:=by refine Nat.not_lt.1 fun h=>?_;have:=List.not_of_lt_findIdx h;rw [hl.2,hq]at this;exact absurd this (by simp)
 rcases Nat.lt_or_eq_of_le h1 with h2|h2
 ·have h3:l.findIdx q<l.length:=Nat.lt_trans h2 hl.1;have h4:=List.findIdx_getElem (w:=h3);rw [hno _ _ h2 (qG h3)]at h4;cases h4
 ·exact h2
theorem tB{α:Type}{q:α->Bool}{l:List α}(hno:∀(j:Nat) x,j<l.length->l[j]?=some x->q x=false):dH q l= -1:=by unfold dH;rw [oN rfl hno];rfl
set_option maxHeartbeats 1000000 in
theorem tA(ss:List ByteArray)(s:ByteArray)(ao:Option Addr)(n cap:Nat)(w:World)(hn:n=ss.length)(h:CellsAt w ao (strs ss))(hl:n≤4611686018427387904):
 Calls Tryz.prog 75 #[.slice ao n cap,.string s] w (RetN w fun w' v=>v= .int .i64 (dH (fun x=>decide (x=s)) ss)):=by
 have HN:=qH hn;have HE:=qH h;clear hn h;go_enter Tryz.func75,Tryz.ntmps75;go_wp2;go_loopw [8] (fun iv wr=>aLh w ss s n iv wr) (fun iv _=>n- (intOf iv).toNat)
 case atStart=>exact⟨0,Nat.zero_le _,rfl,fun j u h=>by omega,Kp.refl w⟩
 case round=>
  obtain⟨i,hi,rfl,hno,hex⟩:=hrel;by_cases hlt:i<n
  ·have hlt':i<ss.length:=by rw [<-HN.out];exact hlt
   obtain⟨b,off,eao,hc0⟩:=(HE.out.ext hex.out).str hlt';subst eao;have ht:ss[i]?=some ss[i]:=qG hlt';generalize ss[i]=u at*;by_cases hu:s=u
   ·have HT:=qH (nIX ht hu);clear ht hlt';subst hu;have hb:=str_eq s;go_wp2;go_ret;exact RetN.mk hex.out (by rw [zM hno.out HT.out.1 (by simp)];rfl)
   ·have HT:=qH (nIX ht hu);have hb:=kO hu;clear ht hlt' hu;go_wp2;go_roundw
    case rel=>
     refine⟨i+1,by omega,nMX,fun j u hj hu=>?_,hex⟩;by_cases e:j=i
     ·subst e;rw [HT.out.1]at hu;cases hu;exact decide_eq_false (fun e=>HT.out.2 e.symm)
     ·exact hno.out j u (by omega) hu
    case measure=>simp [intOf];omega
  ·go_wp2;go_ret;exact RetN.mk hex.out (by rw [tB fun j u hj=>hno.out j u (by have:=HN.out;omega)];rfl)
def isT(k:Int)(s:ByteArray)(t:aE):Bool:=decide (t.1=k/\t.2.1=s)
def NoneX(w0:World)(ts:List aE)(q:aE->Bool)(n:Nat)(iv:Value)(w:World):Prop:=∃i:Nat,i≤n/\iv= .int .i64 i/\Hid (∀(j:Nat) u,j<i->ts[j]?=some u->q u=false)/\Hid (Ext w0 w)
set_option maxHeartbeats 2000000 in
theorem nK(ts:List aE)(k:Int)(s:ByteArray)(ao:Option Addr)(n cap:Nat)(w:World)(G:Nat->Prop)(hn:n=ts.length)(h:aR w G ao ts)(hl:n≤1048576):
 Calls Tryz.prog 150 #[.slice ao n cap,uM k s] w (RetN w fun w' v=>v= .int .i64 (dH (isT k s) ts)):=by
 have HN:=qH hn;have HE:=qH h;clear hn h;go_enter Tryz.func150,Tryz.ntmps150;obtain⟨w1,e1⟩:=nm (w.alloc (.cells #[.int .i64 k,.string s] 38));obtain⟨g0,eg0⟩:=nm w.heap.size;have hB:=bNX eg0 e1;have hx:Ext w w1:=xAX e1;have H1:=qH (nIX hx hB);clear hx hB;go_wp2;clear e1 eg0;go_loopw [8] (fun iv wr=>NoneX w1 ts (isT k s) n iv wr) (fun iv _=>n- (intOf iv).toNat)
 case atStart=>exact⟨0,Nat.zero_le _,rfl,fun j u h=>by omega,Kp.refl w1⟩
 case round=>
  obtain⟨i,hi,rfl,hno,hex⟩:=hrel;by_cases hlt:i<n
  ·obtain⟨t,ht⟩:∃t,ts[i]?=some t:=⟨_,qG (by rw [<-HN.out];exact hlt)⟩;obtain⟨b,off,eao,f0,f1,-,-⟩:=dT ((HE.out.ext H1.out.1).ext hex.out) ht;subst eao;have hB:=H1.out.2.ext hex.out;have b0:=hB.c0;have b1:=hB.c1;obtain⟨kt,st,⟨⟩⟩:=t;simp only at f0 f1;clear hB;by_cases hq:kt=k/\st=s
   ·have HT:=qH (nIX ht (show isT k s (kt,st,())=true from decide_eq_true hq));obtain⟨rfl,rfl⟩:=hq;have hb:=str_eq st;clear ht;go_wp2;go_quiet (fail)
    go_wp2;go_ret;exact RetN.mk ((H1.out.1.trans hex.out).drewN _) (by rw [zM hno.out HT.out.1 HT.out.2];rfl)
   ·have HT:=qH (nIX ht (show isT k s (kt,st,())=false from decide_eq_false hq));clear ht;by_cases h1:k=kt
    ·subst h1;have hb:=kO (a:=s) (b:=st) (fun e=>hq ⟨rfl,e.symm⟩);have hb2:(k==k)=true:=by simp
     clear hq;go_wp2;go_quiet (fail)
     go_wp2;go_roundw
     case rel=>
      refine⟨i+1,by omega,nMX,fun j u hj hu=>?_,qH (hex.out.drewN _)⟩;by_cases e:j=i
      ·subst e;rw [HT.out.1]at hu;cases hu;exact HT.out.2
      ·exact hno.out j u (by omega) hu
     case measure=>simp [intOf];omega
    ·have hb:(k==kt)=false:=by simp [h1]
     clear hq h1;go_wp2;go_quiet (fail)
     go_wp2;go_roundw
     case rel=>
      refine⟨i+1,by omega,nMX,fun j u hj hu=>?_,qH (hex.out.drewN _)⟩;by_cases e:j=i
      ·subst e;rw [HT.out.1]at hu;cases hu;exact HT.out.2
      ·exact hno.out j u (by omega) hu
     case measure=>simp [intOf];omega
  ·go_wp2;go_ret;exact RetN.mk (H1.out.1.trans hex.out) (by rw [tB fun j u hj=>hno.out j u (by have:=HN.out;omega)];rfl)
theorem xD(ts:List aE)(k:Int)(s:ByteArray)(ao:Option Addr)(n cap:Nat)(w:World)(G:Nat->Prop)(hn:n=ts.length)(h:aR w G ao ts)(hl:n≤1048576):
 Calls Tryz.prog 148 #[.slice ao n cap,uM k s] w (RetN w fun w' v=>v= .bool (ts.any (isT k s))):=by
 have HI:=qH (fun W (hW:Ext w W)=>nK ts k s ao n cap W G hn (h.ext hW) hl);clear hn h hl;go_enter Tryz.func148,Tryz.ntmps148;obtain⟨w1,e1⟩:=nm (w.alloc (.cells #[.int .i64 k,.string s] 38));obtain⟨g0,eg0⟩:=nm w.heap.size;have hB:=bNX eg0 e1;have hx:Ext w w1:=xAX e1;have b0:=hB.c0;have b1:=hB.c1;have H1:=qH hx;clear hx hB;go_wp2_with fail
 refine(HI.out w1 H1.out).mono ?_;rintro e w2 ⟨v,rfl,hk,rfl⟩;go_wp2;go_ret;refine RetN.mk (H1.out.trans hk) (congrArg Value.bool ?_);unfold dH;cases h2:ts.any (isT k s)
 ·simp
 ·simp
end
section
open Go.RowKit Go.Shelf
theorem pU{P:Program}{w:World}{a:Addr}{m:Mode}(f:Fn)(x y:Array Value):(store a (.func f x y) m).run P w=stored P w a (.func f x y) m:=run_store P w a _ m rfl
attribute [local go_sem] pU
def Fast(a b:Nat)(w:World)(P:World->Prop):Prop:=∀W,Kp (fun k=>¬(a≤k/\k<b)) w W->P W
theorem Fast.here{a b:Nat}{w:World}{P:World->Prop}(h:Fast a b w P):P w:=h w (Kp.refl _)
theorem Fast.kp{a b:Nat}{w w':World}{P:World->Prop}{G:Nat->Prop}(h:Fast a b w P)(hk:Kp G w w')(hG:∀k,G k->¬(a≤k/\k<b)):Fast a b w' P:=fun W hW=>h W ((hk.mono fun k _ hg=>hG k hg).trans hW)
theorem Fast.mono{a b a' b':Nat}{w:World}{P:World->Prop}(h:Fast a b w P)(ha:a'≤a)(hb:b≤b'):Fast a' b' w P:=fun W hW=>h W (hW.mono fun k _ hk h2=>hk ⟨by omega,by omega⟩)
theorem Fast.ext{a b:Nat}{w w':World}{P:World->Prop}(h:Fast a b w P)(hk:Ext w w'):Fast a b w' P:=h.kp hk fun _ h=>h.elim
def fM(V:List ByteArray)(a:Int)(s:ByteArray):ByteArray:=if a<0 then s else bF V a.toNat
set_option maxHeartbeats 1000000 in
theorem zX{w:World}{ra:Option Addr}{cp nv:Nat}{V:List ByteArray}(a:Int)(k:Int)(s:ByteArray)(hV:V.length=nv)(hc:CellsAt w ra (strs V))(ha:a<nv)(hn:nv≤1048576)(ha2: -1≤a):
 Calls Tryz.prog 153 #[.slice ra nv cp,.int .i64 a,uM k s] w (RetN w fun w' v=>v= .string (fM V a s)):=by
 go_enter Tryz.func153,Tryz.ntmps153;obtain⟨w1,e1⟩:=nm (w.alloc (.cells #[.int .i64 k,.string s] 38));obtain⟨g0,eg0⟩:=nm w.heap.size;have hB:=bNX eg0 e1;have hx:Ext w w1:=xAX e1;have b1:=hB.c1;have H1:=qH hx;have hc1:=hc.ext hx;clear hx hB hc;by_cases h0:a<0
 ·have HP:=qH (show fM V a s=s from if_pos h0);clear hc1 ha ha2;go_wp2;go_ret;exact RetN.mk H1.out (by rw [HP.out];rfl)
 ·obtain⟨i,rfl⟩:∃i:Nat,a=i:=⟨a.toNat,by omega⟩;have hi:i<nv:=by omega
  obtain⟨x,hx⟩:∃x,V[i]?=some x:=⟨_,qG (by omega)⟩;have HP:=qH (show fM V (i:Int) s=x from by unfold fM bF;rw [if_neg h0,Int.toNat_natCast,List.getD_eq_getElem?_getD,hx];rfl);obtain⟨b,o,e,c0⟩:=hc1 i (.string x) (by simp [strs,hx]);subst e;clear hc1 ha ha2 hx;go_wp2;go_ret;exact RetN.mk H1.out (by rw [HP.out];rfl)
theorem aGy(x y:ByteArray):(Op.bytesLess x.toList y.toList||x.toList==y.toList)=!Op.bytesLess y.toList x.toList:=by
 have sw:=cX x.toList y.toList;have no:∀{u v:List UInt8},¬aZ u v<0->Op.bytesLess u v=false:=fun{u v} h=>by
  cases h2:Op.bytesLess u v with
  |false=>rfl
  |true=>exact absurd (dY.2 h2) h
 rcases jY x.toList y.toList with h|h|h
 ·rw [dY.1 (by omega:aZ x.toList y.toList<0),no (by omega:¬aZ y.toList x.toList<0)];rfl
 ·have e:=cY (eD h);subst e;rw [no (by rw [fG];omega:¬aZ x.toList x.toList<0)];simp
 ·have h2:aZ y.toList x.toList<0:=by omega
  have hne:¬x=y:=fun e=>by subst e;rw [fG]at h2;omega
  rw [dY.1 h2,no (by omega:¬aZ x.toList y.toList<0),kO hne];rfl
set_option maxHeartbeats 4000000 in
theorem aI9{w:World}{ra:Option Addr}{cp nv ob ab lb bb:Nat}{V:List ByteArray}(a b op lk rk:Int)(lt rt:ByteArray)(hV:V.length=nv)(hc:CellsAt w ra (strs V))(ha:a<nv)(hb:b<nv)(hn:nv≤1048576)(ha2: -1≤a)(hb2: -1≤b)
 (o0:w.cell? ⟨ob,0,none⟩=some (.func (Fn.func 153) #[] #[]))(a0:w.cell? ⟨ab,0,none⟩=some (.int .i64 a))(b0:w.cell? ⟨bb,0,none⟩=some (.int .i64 b))
 (l3:w.cell? ⟨lb,3,none⟩=some (.int .i64 op))(l4:w.cell? ⟨lb,4,none⟩=some (.int .i64 lk))(l5:w.cell? ⟨lb,5,none⟩=some (.string lt))(l6:w.cell? ⟨lb,6,none⟩=some (.int .i64 rk))(l7:w.cell? ⟨lb,7,none⟩=some (.string rt)):
 Calls Tryz.prog 154 (#[.slice ra nv cp]++#[.pointer (some ⟨ob,0,none⟩),.pointer (some ⟨ab,0,none⟩),.pointer (some ⟨lb,0,none⟩),.pointer (some ⟨bb,0,none⟩)]) w (RetN w fun w' v=>v= .bool (opB op (fM V a lt) (fM V b rt))):=by
 have HL:=qH (fun W (hW:Ext w W)=>zX (cp:=cp) a lk lt hV (hc.ext hW) ha hn ha2);have HR:=qH (fun W (hW:Ext w W)=>zX (cp:=cp) b rk rt hV (hc.ext hW) hb hn hb2);obtain⟨x,ex⟩:=nm (fM V a lt);obtain⟨y,ey⟩:=nm (fM V b rt);rw [ex]at HL;rw [ey]at HR;rw [ex,ey];have HJ:=qH (show ∀w',Ext w w'->(fun w':World=>w'.cell? ⟨ob,0,none⟩=some (.func (Fn.func 153) #[] #[])/\w'.cell? ⟨ab,0,none⟩=some (.int .i64 a)/\w'.cell? ⟨bb,0,none⟩=some (.int .i64 b)/\w'.cell? ⟨lb,4,none⟩=some (.int .i64 lk)/\w'.cell? ⟨lb,5,none⟩=some (.string lt)/\w'.cell? ⟨lb,6,none⟩=some (.int .i64 rk)/\w'.cell? ⟨lb,7,none⟩=some (.string rt)) w' from fun w' hw'=>
  ⟨hw'.cell o0 id,hw'.cell a0 id,hw'.cell b0 id,hw'.cell l4 id,hw'.cell l5 id,hw'.cell l6 id,hw'.cell l7 id⟩)
 have HL3:=qH l3;clear hc ha hb ha2 hb2 hV ex ey l3;go_enter Tryz.func154,Tryz.ntmps154;go_wp2;refine aY (fun w':World=>w'.cell? ⟨ob,0,none⟩=some (.func (Fn.func 153) #[] #[])/\w'.cell? ⟨ab,0,none⟩=some (.int .i64 a)/\w'.cell? ⟨bb,0,none⟩=some (.int .i64 b)/\w'.cell? ⟨lb,4,none⟩=some (.int .i64 lk)/\w'.cell? ⟨lb,5,none⟩=some (.string lt)/\w'.cell? ⟨lb,6,none⟩=some (.int .i64 rk)/\w'.cell? ⟨lb,7,none⟩=some (.string rt)) [] (by kernel_rfl) (HJ.out _ (Kp.refl w).drew) (fun hHeld=>?_);refine eIX 0 ?_;refine eFX 1 ?_;refine eIX 2 ?_;refine eFX 3 ?_;refine eIX 4 ?_;refine eIX 6 ?_;refine eFX 7 ?_;refine eIX 8 ?_;refine eFX 9 ?_;refine eIX 10 ?_;refine eTX 5 fun K hK=>?_;go_simp
 (refine(HL.out _ (Kp.refl w).drew).mono ?_;rintro e w1 ⟨v1,rfl,hk1,rfl⟩;have X1:=qH (show Ext w w1 from((Kp.refl w).drew).trans hk1);clear hk1)
 go_wp2_with fail
 refine hK.out _ _ (HJ.out _ X1.out) fun hHeld=>?_;clear hK K;refine eTX 11 fun K hK=>?_;go_simp
 (refine(HR.out _ X1.out).mono ?_;rintro e w2 ⟨v2,rfl,hk2,rfl⟩;have X2:=qH (show Ext w w2 from X1.out.trans hk2);clear hk2)
 go_wp2_with fail
 refine hK.out _ _ (HJ.out _ X2.out) fun hHeld=>?_;clear hK K;refine eFX 12 ?_;refine eFX 13 ?_;refine aL (by kernel_rfl) ?_ _;clear hHeld;have l3:=X2.out.cell HL3.out id;by_cases h1:op=1
 ·subst h1;have hq:=lO x y;go_wp2;go_ret;exact RetN.mk X2.out (congrArg Value.bool (by unfold opB;rw [if_pos rfl]))
 ·have g1:(op==1)=false:=by simp [h1]
  by_cases h2:op=2
  ·subst h2;have hq:=lO x y;go_wp2;go_ret;exact RetN.mk X2.out (congrArg Value.bool (by unfold opB;rw [if_neg (by decide),if_pos rfl];simp))
  ·have g2:(op==2)=false:=by simp [h2]
   by_cases h3:op=3
   ·subst h3;clear h1 h2;go_wp2;go_ret;exact RetN.mk X2.out (congrArg Value.bool (by unfold opB;rw [if_neg (by decide),if_neg (by decide),if_pos rfl]))
   ·have g3:(op==3)=false:=by simp [h3]
    have HN:=qH (nIX h1 (nIX h2 h3));clear h1 h2 h3;go_wp2;go_ret;exact RetN.mk X2.out (congrArg Value.bool (by unfold opB;rw [if_neg HN.out.1,if_neg HN.out.2.1,if_neg HN.out.2.2];exact aGy x y))
def dE(N:List ByteArray)(k:Int)(s:ByteArray):Int:=if k=1 then dH (fun x=>decide (x=s)) N else-1
theorem aIy{α:Type}(q:α->Bool)(l:List α):dH q l<l.length/\ -1≤dH q l:=by
 unfold dH;split
 ·rename_i h;obtain⟨x,hx,hq⟩:=List.any_eq_true.1 h;have:=List.findIdx_lt_length_of_exists ⟨x,hx,hq⟩;omega
 ·omega
theorem yR(N:List ByteArray)(k:Int)(s:ByteArray):dE N k s<N.length/\ -1≤dE N k s:=by
 unfold dE;split
 ·exact aIy _ _
 ·omega
structure CmpAt(w X:World)(g0:Nat)(lc:List Value)(A B:Int):Prop where
 lit:Blk X g0 lc 40
 res:Blk X (g0+1) [.int .i64 0,.nilFunc] 180
 a:Blk X (g0+1+1) [.int .i64 A] 3
 b:Blk X (g0+1+1+1) [.int .i64 B] 3
 kp:Ext w X
theorem CmpAt.ext{w X Y:World}{g0:Nat}{lc:List Value}{A B:Int}(h:CmpAt w X g0 lc A B)(hk:Ext X Y):CmpAt w Y g0 lc A B:=⟨h.lit.ext hk,h.res.ext hk,h.a.ext hk,h.b.ext hk,h.kp.trans hk⟩
theorem CmpAt.putA{w X:World}{g0:Nat}{lc:List Value}{A B:Int}(h:CmpAt w X g0 lc A B)(hg:w.heap.size≤g0)(z:Int):CmpAt w (X.setCell ⟨g0+1+1,0,none⟩ (.int .i64 z)) g0 lc z B:=
 ⟨h.lit.other (by show g0≠g0+1+1;omega) _,h.res.other (by show g0+1≠g0+1+1;omega) _,h.a.set 0 _,h.b.other (by show g0+1+1+1≠g0+1+1;omega) _,h.kp.setCell (p:=⟨g0+1+1,0,none⟩) (fun h2=>by have h3:g0+1+1<w.heap.size:=h2;omega) _⟩
theorem CmpAt.putB{w X:World}{g0:Nat}{lc:List Value}{A B:Int}(h:CmpAt w X g0 lc A B)(hg:w.heap.size≤g0)(z:Int):CmpAt w (X.setCell ⟨g0+1+1+1,0,none⟩ (.int .i64 z)) g0 lc A z:=
 ⟨h.lit.other (by show g0≠g0+1+1+1;omega) _,h.res.other (by show g0+1≠g0+1+1+1;omega) _,h.a.other (by show g0+1+1≠g0+1+1+1;omega) _,h.b.set 0 _,h.kp.setCell (p:=⟨g0+1+1+1,0,none⟩) (fun h2=>by have h3:g0+1+1+1<w.heap.size:=h2;omega) _⟩
theorem CmpAt.close{w X:World}{g0 nn:Nat}{k op lk rk:Int}{p lt rt:ByteArray}{sl:Value}{A B:Int}(h:CmpAt w X g0 [.int .i64 k,.string p,sl,.int .i64 op,.int .i64 lk,.string lt,.int .i64 rk,.string rt] A B)(hg:w.heap.size=g0)(hA:A<nn/\ -1≤A)(hB:B<nn/\ -1≤B)(hn:nn≤1048576):
 ∃t:TestZ,Value.agg #[.int .i64 (max A B),.func (Fn.func 154) #[] #[.pointer (some ⟨X.heap.size,0,none⟩),.pointer (some ⟨g0+1+1,0,none⟩),.pointer (some ⟨g0,0,none⟩),.pointer (some ⟨g0+1+1+1,0,none⟩)]]= .agg #[.int .i64 t.last,t.val]/\t.last=max A B/\(∀V,t.ask V=opB op (fM V A lt) (fM V B rt))/\
  ∀W,Blk W g0 [.int .i64 k,.string p,sl,.int .i64 op,.int .i64 lk,.string lt,.int .i64 rk,.string rt] 40->Blk W (g0+1+1) [.int .i64 A] 3->Blk W (g0+1+1+1) [.int .i64 B] 3->Blk W X.heap.size [.func (Fn.func 153) #[] #[]] 215->TestOk W nn t:=by
 refine⟨⟨154,#[.pointer (some ⟨X.heap.size,0,none⟩),.pointer (some ⟨g0+1+1,0,none⟩),.pointer (some ⟨g0,0,none⟩),.pointer (some ⟨g0+1+1+1,0,none⟩)],max A B,fun V=>opB op (fM V A lt) (fM V B rt)⟩,rfl,rfl,fun V=>rfl,fun W b1 b2 b3 b4=>⟨enters_of Tryz.func154 (by kernel_rfl) rfl,fun W2 hW2 ra cp V hV hc=>?_⟩⟩;replace b1:=b1.ext hW2;replace b2:=b2.ext hW2;replace b3:=b3.ext hW2;replace b4:=b4.ext hW2;exact aI9 A B op lk rk lt rt hV hc hA.1 hB.1 hn hA.2 hB.2 (by rw [b4.cell'];rfl) (by rw [b2.cell'];rfl) (by rw [b3.cell'];rfl) (by rw [b1.cell'];rfl) (by rw [b1.cell'];rfl) (by rw [b1.cell'];rfl) (by rw [b1.cell'];rfl) (by rw [b1.cell'];rfl)
theorem kI{w X9:World}{g0 nn gX:Nat}{k op lk rk A B M:Int}{p lt rt:ByteArray}{sl:Value}{tm:Array Value}(H9:CmpAt w X9 g0 [.int .i64 k,.string p,sl,.int .i64 op,.int .i64 lk,.string lt,.int .i64 rk,.string rt] A B/\Blk X9 gX [.func (Fn.func 153) #[] #[]] 215)(hg:w.heap.size=g0)(hgX:g0+1+1+1<gX)(hM:max A B=M)(ht:tm[4]?.getD undef= .pointer (some ⟨g0+1,0,none⟩))
 (HT:∃t:TestZ,Value.agg #[.int .i64 (max A B),.func (Fn.func 154) #[] #[.pointer (some ⟨gX,0,none⟩),.pointer (some ⟨g0+1+1,0,none⟩),.pointer (some ⟨g0,0,none⟩),.pointer (some ⟨g0+1+1+1,0,none⟩)]]= .agg #[.int .i64 t.last,t.val]/\t.last=max A B/\(∀V,t.ask V=opB op (fM V A lt) (fM V B rt))/\
  ∀W,Blk W g0 [.int .i64 k,.string p,sl,.int .i64 op,.int .i64 lk,.string lt,.int .i64 rk,.string rt] 40->Blk W (g0+1+1) [.int .i64 A] 3->Blk W (g0+1+1+1) [.int .i64 B] 3->Blk W gX [.func (Fn.func 153) #[] #[]] 215->TestOk W nn t):
 bodyPost Tryz.prog Tryz.f121 (RetN w fun w' v=>∃t:TestZ,v= .agg #[.int .i64 t.last,t.val]/\t.last=max A B/\(∀V,t.ask V=opB op (fM V A lt) (fM V B rt))/\Fast g0 w'.heap.size w' fun W=>TestOk W nn t) .ret
  {tmps:=tm,defers:= []} ((X9.setCell ⟨g0+1,0,none⟩ (.int .i64 M)).setCell ⟨g0+1,1,none⟩ (.func (Fn.func 154) #[] #[.pointer (some ⟨gX,0,none⟩),.pointer (some ⟨g0+1+1,0,none⟩),.pointer (some ⟨g0,0,none⟩),.pointer (some ⟨g0+1+1+1,0,none⟩)])):=by
 obtain⟨t,et,htl,hask,hok⟩:=HT;obtain⟨fv,efv⟩:=nm (Value.func (Fn.func 154) #[] #[.pointer (some ⟨gX,0,none⟩),.pointer (some ⟨g0+1+1,0,none⟩),.pointer (some ⟨g0,0,none⟩),.pointer (some ⟨g0+1+1+1,0,none⟩)]);rw [efv,hM]at et;rw [efv];obtain⟨X,eX⟩:=nm ((X9.setCell ⟨g0+1,0,none⟩ (.int .i64 M)).setCell ⟨g0+1,1,none⟩ fv);have hres:Blk X (g0+1) [.int .i64 M,fv] 180:=by rw [<-eX];exact(H9.1.res.set 0 _).set 1 _
 have hkp:Kp (fun k=>k=g0+1) X9 X:=by rw [<-eX];exact kSb
 rw [eX];have u0:=hres.c0;have u1:=hres.c1;refine bodyPost_ret (v:= .agg #[.int .i64 M,fv]) (by simp [results,Tryz.results121,go_sem,ht,u0,u1]) rfl ?_;refine RetN.mk (H9.1.kp.trans' hkp fun i hi e=>?_) ⟨t,et,htl,hask,fun W hW=>?_⟩
 ·have e':i=g0+1:=e;omega
 ·have inn:∀{g:Nat} {cs:List Value} {e:TypeId},Blk X9 g cs e->g≠g0+1->g0≤g->Blk W g cs e:=fun{g cs e} hb hne hge=>by
   have hbX:=hb.kp hkp hne;exact hbX.kp hW fun h=>h ⟨by omega,hbX.lt⟩
  exact hok W (inn H9.1.lit (by omega) (Nat.le_refl _)) (inn H9.1.a (by omega) (by omega)) (inn H9.1.b (by omega) (by omega)) (inn H9.2 (by omega) (by omega))
set_option maxHeartbeats 4000000 in
theorem aA4{w:World}{na a:Option Addr}{m cap nn nc:Nat}(N:List ByteArray)(k:Int)(p:ByteArray)(op lk:Int)(lt:ByteArray)(rk:Int)(rt:ByteArray)(hN:nn=N.length)(hc:CellsAt w na (strs N))(hn:nn≤1048576):
 Calls Tryz.prog 121 #[litV k p a m cap op lk lt rk rt,.slice na nn nc] w (RetN w fun w' v=>∃t:TestZ,v= .agg #[.int .i64 t.last,t.val]/\t.last=max (dE N lk lt) (dE N rk rt)/\(∀V,t.ask V=opB op (fM V (dE N lk lt) lt) (fM V (dE N rk rt) rt))/\Fast w.heap.size w'.heap.size w' fun W=>TestOk W nn t):=by
 have HIL:=qH (fun W (hW:Ext w W)=>tA N lt na nn nc W hN (hc.ext hW) (by omega));have HIR:=qH (fun W (hW:Ext w W)=>tA N rt na nn nc W hN (hc.ext hW) (by omega));have HPL:=qH (show dE N lk lt<nn/\ -1≤dE N lk lt from by rw [hN];exact yR N lk lt);have HPR:=qH (show dE N rk rt<nn/\ -1≤dE N rk rt from by rw [hN];exact yR N rk rt);clear hc hN;obtain⟨w4,e4⟩:=nm ((((w.alloc (.cells #[.int .i64 k,.string p,.slice a m cap,.int .i64 op,.int .i64 lk,.string lt,.int .i64 rk,.string rt] 40)).alloc (.cells #[.int .i64 0,.nilFunc] 180)).alloc (.cells #[.int .i64 (-1)] 3)).alloc (.cells #[.int .i64 (-1)] 3));obtain⟨g0,eg0⟩:=nm w.heap.size;obtain⟨w1,e1⟩:=nm (w.alloc (.cells #[.int .i64 k,.string p,.slice a m cap,.int .i64 op,.int .i64 lk,.string lt,.int .i64 rk,.string rt] 40));obtain⟨w2,e2⟩:=nm (w1.alloc (.cells #[.int .i64 0,.nilFunc] 180));obtain⟨w3,e3⟩:=nm (w2.alloc (.cells #[.int .i64 (-1)] 3));rw [e1,e2,e3]at e4;have s1:w1.heap.size=g0+1:=by rw [<-e1,aI,eg0]
 have s2:w2.heap.size=g0+1+1:=by rw [<-e2,aI,s1]
 have s3:w3.heap.size=g0+1+1+1:=by rw [<-e3,aI,s2]
 have x1:Ext w w1:=xAX e1;have x2:Ext w1 w2:=xAX e2;have x3:Ext w2 w3:=xAX e3;have x4:Ext w3 w4:=xAX e4;have hC:=qH (show CmpAt w w4 g0 [.int .i64 k,.string p,.slice a m cap,.int .i64 op,.int .i64 lk,.string lt,.int .i64 rk,.string rt] (-1) (-1)from
  ⟨Blk.ext (by have h:=Blk.new w [.int .i64 k,.string p,.slice a m cap,.int .i64 op,.int .i64 lk,.string lt,.int .i64 rk,.string rt] 40;rw [eg0]at h;rw [<-e1];exact h) (x2.trans (x3.trans x4)),
   Blk.ext (by have h:=Blk.new w1 [.int .i64 0,.nilFunc] 180;rw [s1]at h;rw [<-e2];exact h) (x3.trans x4),
   Blk.ext (by have h:=Blk.new w2 [.int .i64 (-1)] 3;rw [s2]at h;rw [<-e3];exact h) x4,
   by have h:=Blk.new w3 [.int .i64 (-1)] 3;rw [s3]at h;rw [<-e4];exact h,x1.trans (x2.trans (x3.trans x4))⟩)
 clear x1 x2 x3 x4 s1 s2 s3;have ew4:(((w.alloc (.cells #[.int .i64 k,.string p,.slice a m cap,.int .i64 op,.int .i64 lk,.string lt,.int .i64 rk,.string rt] 40)).alloc (.cells #[.int .i64 0,.nilFunc] 180)).alloc (.cells #[.int .i64 (-1)] 3)).alloc (.cells #[.int .i64 (-1)] 3)=w4:=by rw [e1,e2,e3,e4]
 clear e1 e2 e3 e4 w1 w2 w3;have t0:=hC.out.lit.c4;have t1:=hC.out.lit.c5;have t2:=hC.out.lit.c6;by_cases hl:lk=1
 ·subst hl;by_cases hr:rk=1
  ·subst hr;have eL:dE N 1 lt=dH (fun x=>decide (x=lt)) N:=if_pos rfl;have eR:dE N 1 rt=dH (fun x=>decide (x=rt)) N:=if_pos rfl;obtain⟨za,eza⟩:=nm (dH (fun x=>decide (x=lt)) N);rw [eza]at HIL eL;obtain⟨zb,ezb⟩:=nm (dH (fun x=>decide (x=rt)) N);rw [ezb]at HIR eR;rw [eL]at HPL ⊢;rw [eR]at HPR ⊢;clear eL eR eza ezb;go_enter Tryz.func121,Tryz.ntmps121;go_wp2_with fail
   refine(HIL.out w4 hC.out.kp).mono ?_;rintro e w5 ⟨v,rfl,hk5,rfl⟩;have H5:=qH (hC.out.ext hk5);obtain⟨X5,eX5⟩:=nm (w5.setCell ⟨g0+1+1,0,none⟩ (.int .i64 za));have H6:=qH (show CmpAt w X5 g0 [.int .i64 k,.string p,.slice a m cap,.int .i64 op,.int .i64 1,.string lt,.int .i64 1,.string rt] za (-1)from by rw [<-eX5];exact H5.out.putA (by omega) za);have u0:=H5.out.a.c0;have u1:=H5.out.a.free 0;clear hk5 t0 t1 t2;have v2:=H6.out.lit.c6;have v3:=H6.out.lit.c7;go_wp2_with fail
   refine(HIR.out X5 H6.out.kp).mono ?_;rintro e w6 ⟨v,rfl,hk6,rfl⟩;have H7:=qH (H6.out.ext hk6);obtain⟨X7,eX7⟩:=nm (w6.setCell ⟨g0+1+1+1,0,none⟩ (.int .i64 zb));have H8:=qH (show CmpAt w X7 g0 [.int .i64 k,.string p,.slice a m cap,.int .i64 op,.int .i64 1,.string lt,.int .i64 1,.string rt] za zb from by rw [<-eX7];exact H7.out.putB (by omega) zb);have y0:=H7.out.b.c0;have y1:=H7.out.b.free 0;clear hk6 v2 v3 u0 u1;obtain⟨X8,eX8⟩:=nm (X7.alloc (.cells #[.nilFunc] 215));obtain⟨gX,egX⟩:=nm X7.heap.size;have B8:=bNX egX eX8;have x8:Ext X7 X8:=xAX eX8;have z0:=B8.c0;have z1:=B8.free 0;obtain⟨X9,eX9⟩:=nm (X8.setCell ⟨gX,0,none⟩ (.func (Fn.func 153) #[] #[]));have B9:Blk X9 gX [.func (Fn.func 153) #[] #[]] 215:=by rw [<-eX9];exact B8.set 0 _
   have hgX:g0+1+1+1<gX:=by rw [<-egX];exact H8.out.b.lt
   have x9:Ext X7 X9:=by rw [<-eX9];exact x8.setCell (p:=⟨gX,0,none⟩) (fun h2=>by have h3:gX<X7.heap.size:=h2;omega) _
   have H9:=qH (nIX (H8.out.ext x9) B9);have a9:=H9.out.1.a.c0;have b9:=H9.out.1.b.c0;have r0:=H9.out.1.res.c0;have r1:=H9.out.1.res.c1;have rf0:=H9.out.1.res.free 0;have rf1:=H9.out.1.res.free 1;have HT:=qH (CmpAt.close (nn:=nn) H8.out eg0 HPL.out HPR.out hn);rw [egX]at HT;have HGX:=qH (nIX hgX eg0);clear B8 x8 B9 x9 hgX;go_wp2
   all_goals
    first|(rw [HGX.out.2];refine kI H9.out HGX.out.2 HGX.out.1 ?_ rfl HT.out)|refine kI H9.out HGX.out.2 HGX.out.1 ?_ rfl HT.out
    omega
  ·skip
   have br:(rk==1)=false:=by simp [hr]
   have eL:dE N 1 lt=dH (fun x=>decide (x=lt)) N:=if_pos rfl;have eR:dE N rk rt= -1:=if_neg hr;obtain⟨za,eza⟩:=nm (dH (fun x=>decide (x=lt)) N);rw [eza]at HIL eL;rw [eL]at HPL ⊢;rw [eR]at HPR ⊢;clear eL eR eza hr;go_enter Tryz.func121,Tryz.ntmps121;go_wp2_with fail
   refine(HIL.out w4 hC.out.kp).mono ?_;rintro e w5 ⟨v,rfl,hk5,rfl⟩;have H5:=qH (hC.out.ext hk5);obtain⟨X5,eX5⟩:=nm (w5.setCell ⟨g0+1+1,0,none⟩ (.int .i64 za));have H6:=qH (show CmpAt w X5 g0 [.int .i64 k,.string p,.slice a m cap,.int .i64 op,.int .i64 1,.string lt,.int .i64 rk,.string rt] za (-1)from by rw [<-eX5];exact H5.out.putA (by omega) za);have u0:=H5.out.a.c0;have u1:=H5.out.a.free 0;clear hk5 t0 t1 t2;have v2:=H6.out.lit.c6;have H8:=H6;obtain⟨X8,eX8⟩:=nm (X5.alloc (.cells #[.nilFunc] 215));obtain⟨gX,egX⟩:=nm X5.heap.size;have B8:=bNX egX eX8;have x8:Ext X5 X8:=xAX eX8;have z0:=B8.c0;have z1:=B8.free 0;obtain⟨X9,eX9⟩:=nm (X8.setCell ⟨gX,0,none⟩ (.func (Fn.func 153) #[] #[]));have B9:Blk X9 gX [.func (Fn.func 153) #[] #[]] 215:=by rw [<-eX9];exact B8.set 0 _
   have hgX:g0+1+1+1<gX:=by rw [<-egX];exact H8.out.b.lt
   have x9:Ext X5 X9:=by rw [<-eX9];exact x8.setCell (p:=⟨gX,0,none⟩) (fun h2=>by have h3:gX<X5.heap.size:=h2;omega) _
   have H9:=qH (nIX (H8.out.ext x9) B9);have a9:=H9.out.1.a.c0;have b9:=H9.out.1.b.c0;have r0:=H9.out.1.res.c0;have r1:=H9.out.1.res.c1;have rf0:=H9.out.1.res.free 0;have rf1:=H9.out.1.res.free 1;have HT:=qH (CmpAt.close (nn:=nn) H8.out eg0 HPL.out HPR.out hn);rw [egX]at HT;have HGX:=qH (nIX hgX eg0);clear B8 x8 B9 x9 hgX;go_wp2
   all_goals
    first|(rw [HGX.out.2];refine kI H9.out HGX.out.2 HGX.out.1 ?_ rfl HT.out)|refine kI H9.out HGX.out.2 HGX.out.1 ?_ rfl HT.out
    omega
 ·by_cases hr:rk=1
  ·subst hr;have bl:(lk==1)=false:=by simp [hl]
   have eL:dE N lk lt= -1:=if_neg hl;have eR:dE N 1 rt=dH (fun x=>decide (x=rt)) N:=if_pos rfl;obtain⟨zb,ezb⟩:=nm (dH (fun x=>decide (x=rt)) N);rw [ezb]at HIR eR;rw [eL]at HPL ⊢;rw [eR]at HPR ⊢;clear eL eR hl ezb;go_enter Tryz.func121,Tryz.ntmps121;have H6:=hC;clear t1;have v2:=H6.out.lit.c6;have v3:=H6.out.lit.c7;go_wp2_with fail
   refine(HIR.out w4 H6.out.kp).mono ?_;rintro e w6 ⟨v,rfl,hk6,rfl⟩;have H7:=qH (H6.out.ext hk6);obtain⟨X7,eX7⟩:=nm (w6.setCell ⟨g0+1+1+1,0,none⟩ (.int .i64 zb));have H8:=qH (show CmpAt w X7 g0 [.int .i64 k,.string p,.slice a m cap,.int .i64 op,.int .i64 lk,.string lt,.int .i64 1,.string rt] (-1) zb from by rw [<-eX7];exact H7.out.putB (by omega) zb);have y0:=H7.out.b.c0;have y1:=H7.out.b.free 0;clear hk6 v2 v3;obtain⟨X8,eX8⟩:=nm (X7.alloc (.cells #[.nilFunc] 215));obtain⟨gX,egX⟩:=nm X7.heap.size;have B8:=bNX egX eX8;have x8:Ext X7 X8:=xAX eX8;have z0:=B8.c0;have z1:=B8.free 0;obtain⟨X9,eX9⟩:=nm (X8.setCell ⟨gX,0,none⟩ (.func (Fn.func 153) #[] #[]));have B9:Blk X9 gX [.func (Fn.func 153) #[] #[]] 215:=by rw [<-eX9];exact B8.set 0 _
   have hgX:g0+1+1+1<gX:=by rw [<-egX];exact H8.out.b.lt
   have x9:Ext X7 X9:=by rw [<-eX9];exact x8.setCell (p:=⟨gX,0,none⟩) (fun h2=>by have h3:gX<X7.heap.size:=h2;omega) _
   have H9:=qH (nIX (H8.out.ext x9) B9);have a9:=H9.out.1.a.c0;have b9:=H9.out.1.b.c0;have r0:=H9.out.1.res.c0;have r1:=H9.out.1.res.c1;have rf0:=H9.out.1.res.free 0;have rf1:=H9.out.1.res.free 1;have HT:=qH (CmpAt.close (nn:=nn) H8.out eg0 HPL.out HPR.out hn);rw [egX]at HT;have HGX:=qH (nIX hgX eg0);clear B8 x8 B9 x9 hgX;go_wp2
   all_goals
    first|(rw [HGX.out.2];refine kI H9.out HGX.out.2 HGX.out.1 ?_ rfl HT.out)|refine kI H9.out HGX.out.2 HGX.out.1 ?_ rfl HT.out
    omega
  ·skip
   have bl:(lk==1)=false:=by simp [hl]
   have br:(rk==1)=false:=by simp [hr]
   have eL:dE N lk lt= -1:=if_neg hl;have eR:dE N rk rt= -1:=if_neg hr;rw [eL]at HPL ⊢;rw [eR]at HPR ⊢;clear eL eR hl hr;go_enter Tryz.func121,Tryz.ntmps121;have H6:=hC;clear t1;have v2:=H6.out.lit.c6;have H8:=H6;obtain⟨X8,eX8⟩:=nm (w4.alloc (.cells #[.nilFunc] 215));obtain⟨gX,egX⟩:=nm w4.heap.size;have B8:=bNX egX eX8;have x8:Ext w4 X8:=xAX eX8;have z0:=B8.c0;have z1:=B8.free 0;obtain⟨X9,eX9⟩:=nm (X8.setCell ⟨gX,0,none⟩ (.func (Fn.func 153) #[] #[]));have B9:Blk X9 gX [.func (Fn.func 153) #[] #[]] 215:=by rw [<-eX9];exact B8.set 0 _
   have hgX:g0+1+1+1<gX:=by rw [<-egX];exact H8.out.b.lt
   have x9:Ext w4 X9:=by rw [<-eX9];exact x8.setCell (p:=⟨gX,0,none⟩) (fun h2=>by have h3:gX<w4.heap.size:=h2;omega) _
   have H9:=qH (nIX (H8.out.ext x9) B9);have a9:=H9.out.1.a.c0;have b9:=H9.out.1.b.c0;have r0:=H9.out.1.res.c0;have r1:=H9.out.1.res.c1;have rf0:=H9.out.1.res.free 0;have rf1:=H9.out.1.res.free 1;have HT:=qH (CmpAt.close (nn:=nn) H8.out eg0 HPL.out HPR.out hn);rw [egX]at HT;have HGX:=qH (nIX hgX eg0);clear B8 x8 B9 x9 hgX;go_wp2
   all_goals
    first|(rw [HGX.out.2];refine kI H9.out HGX.out.2 HGX.out.1 ?_ rfl HT.out)|refine kI H9.out HGX.out.2 HGX.out.1 ?_ rfl HT.out
    omega
end
section
open Go.RowKit
section
variable {w w':World}{bb r:Nat}{n:Int}{m:List (ByteArray×Value)}
theorem gF(hB:Blk w bb [.map (some r),.int .i64 n] 129)(hm:MapIs w r m)(s:ByteArray)(p:Option Addr):
 Calls Tryz.prog 89 #[.pointer (some ⟨bb,0,none⟩),.string s,.pointer p] w (RetF (fun k=>k=r) w fun w' v=>MapIs w' r (oQ m s (.pointer p))):=by
 have c0:=hB.c0;obtain⟨w2,hrun,hm2,hk2⟩:=uU (P:=Tryz.prog) Tryz.underlying127 Tryz.underlying9 hm s (.pointer p);have hq:∀w:World,(binOp .eql 127 (.map (some r)) (.map none)).run Tryz.prog w= .ok (.bool false) w:=fun w=>by kernel_rfl
 have HM:=qH (nIX hm2 hk2);clear hB hm hm2 hk2;go_enter Tryz.func89,Tryz.ntmps89;go_wp2
 go_end0
 exact RetF.mk HM.out.2 HM.out.1
theorem aCs(w:World):Calls Tryz.prog 106 #[] w (RetN w fun w' v=>v= .pointer (some ⟨w.heap.size+1,0,none⟩)/\Blk w' (w.heap.size+1) [.map (some w.heap.size),.int .i64 0] 129/\MapIs w' w.heap.size []):=by have hmm:= @run_makeMap Tryz.prog;go_enter Tryz.func106,Tryz.ntmps106;go_wp2;go_ret;have hB:=Blk.new (w.alloc (.map #[] 0)) [.map (some w.heap.size),.int .i64 0] 129;rw [aI]at hB;exact RetN.mk (((Kp.refl w).alloc _).alloc _) ⟨rfl,hB,(MapIs.new w).ext ((Kp.refl _).alloc _)⟩
end
end
section
open Go.RowKit Go.Shelf
attribute [local go_sem] Oper.semAt_some
def GotRows{α:Type}(f:α->List ByteArray)(m:Nat)(w0:World)(b:Nat)(pre:List α)(W:World):Prop:=
 pre.length≤m/\Kp (fun g=>g=b) w0 W/\∃v,Blk W b [v] 69/\OwnRows w0.heap.size W v (pre.map f)
theorem OwnRows.grown{lo:Nat}{W W':World}{v:Value}{LL:List (List ByteArray)}{row:Option Nat}(h:OwnRows lo W v LL)(hg:W.grownBy W' row)(hr:∀r,row=some r->∃o:Obj,W.heap[r]?=some o/\o.isCells=false):OwnRows lo W' v LL:=by obtain⟨ps,h1,h2,h3,h4⟩:=h;exact⟨ps,h1,h2.grown hg hr,fun p hp=>⟨(h3 p hp).1.grown hg hr,(h3 p hp).2⟩,h4⟩
theorem OwnRows.kpc{F:Nat->Prop}{lo:Nat}{w w':World}{v:Value}{LL:List (List ByteArray)}(h:OwnRows lo w v LL)(hk:Kp F w w')(hF:∀g,F g->¬∃o:Obj,w.heap[g]?=some o/\o.isCells=true):OwnRows lo w' v LL:=by
 obtain⟨ps,h1,h2,h3,h4⟩:=h;have key:∀{e:TypeId} {k n:Nat} {v:Value} {xs:List Value} {M:Nat->Prop},Row w e k v n xs M->Row w' e k v n xs M:=fun h=>h.kp' hk fun g hg _ hf=>by obtain⟨cs,hb,_⟩:=h.has hg;exact hF g hf ⟨_,hb,rfl⟩
 exact⟨ps,h1,key h2,fun p hp=>⟨key (h3 p hp).1,(h3 p hp).2⟩,h4⟩
theorem GotRows.own{α:Type}{f:α->List ByteArray}{m:Nat}{w0:World}{b B:Nat}(hB:w0.heap.size≤B):OwnFrom B (GotRows f m w0 b):=fun pre W W' row hs hg hr=>by obtain⟨h1,h2,v,h3,h4⟩:=hs;refine⟨h1,h2.grown hg fun k e hk=>?_,v,h3.grown hg fun r e=>(hr r e).2,h4.grown hg fun r e=>(hr r e).2⟩;have:=(hr k e).1;omega
theorem KeepsOthers.of_ext{W W':World}(h:Ext W W'):KeepsOthers W W':=⟨h.size,fun k o hk _=>(h.block k (lt_of_block hk) id).trans hk⟩
theorem kF{α:Type}{f:α->List ByteArray}{m:Nat}{w0 X X1:World}{B:Nat}{ao:Option Addr}{n cap:Nat}{pre:List α}{x:gK}{ss:List ByteArray}(hm:pre.length≤m/\m≤1048576*1048576)(hpk:Kp (fun g=>g=B) w0 X)(hBlt:B<w0.heap.size)
 (hB:Blk X B [.slice ao n cap] 69)(hr:OwnRows w0.heap.size X (.slice ao n cap) (pre.map f))(hk:Ext X X1)(hx:Row X1 9 1 (.slice x.1 x.2.1 x.2.2) ss.length (strs ss) (New X))(hss:ss.length≤8796093021952):
 ∃ao3 n3 cap3 w3,(Builtin.append_ #[69,69] 69 #[.slice ao n cap,.slice (some ⟨X1.heap.size,0,none⟩) 1 1]).run Tryz.prog (X1.alloc (.cells #[.slice x.1 x.2.1 x.2.2] 34))= .ok (.slice ao3 n3 cap3) w3/\
  w3.cell? ⟨B,0,none⟩=some (.slice ao n cap)/\w3.frozen? ⟨B,0,none⟩=false/\∀y,f y=ss->KeepsOthers X (w3.setCell ⟨B,0,none⟩ (.slice ao3 n3 cap3))/\Kp (fun g=>g=B\/w0.heap.size≤g) X (w3.setCell ⟨B,0,none⟩ (.slice ao3 n3 cap3))/\
   Kp (fun g=>g=B) w0 (w3.setCell ⟨B,0,none⟩ (.slice ao3 n3 cap3))/\∃v,Blk (w3.setCell ⟨B,0,none⟩ (.slice ao3 n3 cap3)) B [v] 69/\OwnRows w0.heap.size (w3.setCell ⟨B,0,none⟩ (.slice ao3 n3 cap3)) v ((pre++ [y]).map f):=by
 obtain⟨ps,e1,h2,h3,h4⟩:=hr;have hlen:ps.length=pre.length:=by have:=congrArg List.length e1;simpa using this.symm
 obtain⟨w2,ew2⟩:=nm (X1.alloc (.cells #[.slice x.1 x.2.1 x.2.2] 34));have hk2:Ext X w2:=by rw [<-ew2];exact hk.alloc _
 have hx2:Row w2 9 1 (.slice x.1 x.2.1 x.2.2) ss.length (strs ss) (New X):=by rw [<-ew2];exact hx.alloc _
 have hsrc:CellsAt w2 (some ⟨X1.heap.size,0,none⟩) [.slice x.1 x.2.1 x.2.2]:=by rw [<-ew2];exact CellsAt.one X1 _ _
 have h2':=h2.ext hk2;obtain⟨v3,w3,hrun,hr3,hk3,_⟩:=oE (P:=Tryz.prog) cQ 69 h2' (m:=1) (c:=1) rfl hsrc (by simp;rfl) (by omega) (by unfold maxLen;omega);obtain⟨ao3,cap3,ev,_,_⟩:=hr3.shape;subst ev;have hBne:(Value.slice ao n cap).ownBlock≠some B:=fun e=>by have:=h2.block B e;omega
 have hB3:Blk w3 B [.slice ao n cap] 69:=(hB.ext hk2).kp hk3 hBne;have hsz0:=hpk.size;refine⟨ao3,_,cap3,w3,by rw [ew2];exact hrun,by rw [hB3.cell'];rfl,hB3.free 0,fun y hy=>?_⟩;have hko:KeepsOthers w2 w3:=⟨hk3.size,fun k o hk' ho=>(hk3.block k (lt_of_block hk') (fun hg=>by obtain⟨cs,hb,_⟩:=h2'.has hg;unfold Blk at hb;rw [hb]at hk';cases hk';cases ho)).trans hk'⟩;have kX:Kp (fun g=>g=B\/w0.heap.size≤g) X w3:=(Ext.kp hk2).trans (hk3.mono fun g _ hg=> .inr (h2.block g hg));have k0:Kp (fun g=>g=B) w0 w3:=hpk.trans' kX fun i hi hg=>by rcases hg with hg|hg;exact hg;omega
 refine⟨((KeepsOthers.of_ext hk2).trans hko).trans (KeepsOthers.setCell _ _ _),kX.setCell (fun _=> .inl rfl) _,k0.setCell (fun _=>rfl) _,_,hB3.set 0 _,?_⟩;have hown:OwnRows w0.heap.size w3 (.slice ao3 (ps.length+1) cap3) (ps.map Prod.snd++ [ss]):=
  OwnRows.push h2' (fun p hp=>⟨(h3 p hp).1.ext hk2,(h3 p hp).2⟩) h4 (B:=X.heap.size) (fun p hp g hg=>(h3 p hp).1.lt g hg) hsz0 hx2 hss
   (hr3.mono fun g hg=>by rcases hg with hg|hg;exact h2.block g hg;exact Nat.le_trans hsz0 (Nat.le_trans hk2.size hg)) hk3
 rw [List.map_append,List.map_singleton,hy,e1];exact hown.kp (Kp.setCell (F:=fun g=>g=B) (Kp.refl _) (fun _=>rfl) _) fun g hg e=>by omega
theorem lP{F:Fence}{n:Nat}{P:Program}{o:Oper}{a:Act}{w w':World}{K:Act->World->Prop}{Q:Exit->Act->World->Prop}{b:Bool}{p:Prop} [Decidable (b=true)](s x:Operand){t:TypeId}{v vx v':Value}
 (ho:o.op= .call {callee:= .builtin .append,args:=#[s,x],argTypes:=#[t,t]})(hs:a.eval s=v)(hx:a.eval x=vx)(hb:b=true)(hrun:(Builtin.append_ #[t,t] o.type #[v,vx]).run P w= .ok v' w')(hK:K (a.put o.dst v') w'):if b=true then Oper.wpIn F n P o a w K Q else p:=by
 rw [if_pos hb];unfold Oper.wpIn;refine⟨by simp [Oper.about,ho,resolve,Target.leads,Sem.run_pure],?_⟩;rw [Oper.semAt_plain F _ _ (by rw [ho];intro c hc';cases hc')];simp only [execOp,ho,resolve,invoke,builtin,Sem.run_bind,Sem.run_pure,Result.andThen_ok,List.map_toArray,List.map_cons,List.map_nil,hs,hx,hrun];exact hK
theorem aB2{F:Nat->Prop}{w W:World}{P:World->Value->Prop}{tmps:Array Value}{ds:List Deferred}{lo:Nat}(hm:Marks lo W ds)(hk:Kp F w W)(hlo:w.heap.size≤lo){v:Value}(ht:tmps.getD 2 undef=v)
 (hP:∀w',Kp (fun k=>lo≤k/\¬∃o:Obj,W.heap[k]?=some o/\o.isCells=true) W w'->P w' v):
 bodyPostM Fence.wide 4 Tryz.prog Tryz.f53 (RetF F w P) .ret {tmps:=tmps,defers:=ds} W:=by
 refine fD hm fun w' e1 e2 e3 e4 e5 e6=>?_;have kx:Kp (fun k=>lo≤k/\¬∃o:Obj,W.heap[k]?=some o/\o.isCells=true) W w':=⟨e1,e2,e3,by omega,fun k hk hf=>by
  by_cases h:lo≤k
  ·by_cases h2:∃o:Obj,W.heap[k]?=some o/\o.isCells=true
   ·obtain⟨o,h2,h3⟩:=h2;rw [h2];exact e6 k o h2 h3
   ·exact absurd ⟨h,h2⟩ hf
  ·exact e5 k (by omega)⟩
 refine⟨v,?_,RetF.mk (hk.trans' kx fun i hi h=>absurd h.1 (by omega)) (hP w' kx)⟩;have ht':tmps[2]?.getD undef=v:=by simpa using ht
 simp [results,Tryz.f53,go_sem,ht']
section
variable {z:Prop}{S:Nat->Prop}{w w':World}{b:Nat}{iv:Value}{arity:Nat}{LL:List (List ByteArray)}
theorem RowsQ.ownLt(h:RowsQ z S w b iv arity LL):∀k,eY b iv k->k<w.heap.size:=by
 rcases h with⟨con,zs,hc,hs,hl⟩|⟨hz,rfl,rfl,hB,h1,h2⟩
 ·rintro k (rfl|hk)
  ·exact hs.blk.lt
  ·exact hs.row.lt k hk
 ·rintro k (rfl|hk)
  ·exact hB.lt
  ·cases hk
def aLd(w:World)(F:Nat->Prop)(R:World->Prop)(LL:List (List ByteArray))(rv:Value):Prop:=
 ∀W,Ext w W->Calls Tryz.prog 99 #[rv] W (RetF F W fun w' v=>R w'/\∃S con,∃zs:List gK,PtrSetRow Tryz.prog S w' v zs/\(∀k,S k->k<w.heap.size)/\zs.map con=LL/\
  ∀x∈zs,∃ss,ReadsAs w' x ss/\ss.length≤8796093021952/\(∀a,x.1=some a->x.2.1≠0->S a.block)/\con x=ss)
set_option maxHeartbeats 2000000 in
theorem uX{F:Nat->Prop}{R:World->Prop}{rv:Value}(hset:aLd w F R LL rv)(hF:∀k,F k->k<w.heap.size)(hR:∀{W W':World},R W->Kp (fun g=>w.heap.size≤g) W W'->R W'):
 Calls Tryz.prog 53 #[rv] w (RetF F w fun w' v=>R w'/\OwnRows w.heap.size w' v LL):=by
 refine callsIn_wide.1 (callsIn_of_wp_marks (n:=4) Tryz.func53 rfl trivial ?_ rfl);refine wpIn_wide.2 ?_;obtain⟨Q,eQ⟩:∃Q,Q=bodyPostM Fence.wide 4 Tryz.prog Tryz.f53 (RetF F w fun w' v=>R w'/\OwnRows w.heap.size w' v LL):=⟨_,rfl⟩;rw [<-eQ];have EQ:=qH eQ;clear eQ;have H:=qH hset;have HR:=qH (nIX hF (@hR));clear hset hF hR;simp only [Tryz.ntmps53,List.size_toArray,List.length_cons,List.length_nil,Nat.reduceAdd,Nat.reduceSub,Array.replicate_succ,Array.replicate_zero,List.push_toArray,List.append_toArray,List.nil_append,List.cons_append];go_wp2_with fail
 have x0:Ext w (w.alloc (.cells #[.slice none 0 0] 69)):=(Kp.refl w).alloc _;have b0:Blk (w.alloc (.cells #[.slice none 0 0] 69)) w.heap.size [.slice none 0 0] 69:=Blk.new w [_] _;refine(H.out _ x0).mono ?_;rintro e w1 ⟨v1,rfl,hk1,hR1,S,con,zs,hp,hSw,hl,hall⟩;have k01:Kp F w w1:=(Ext.kp x0).trans hk1;have b1:=b0.kp hk1 (fun e=>by have:=HR.out.1 _ e;omega);have HK1:=qH (nIX k01 hR1);have hlen:=hp.len;have HS:=qH (nIX hall hl);have HE:=qH (uP hp);have B1:=qH b1;have hsz1:=b1.lt;clear hall hp hl b0 b1 hk1 k01 x0 H hR1;go_wp2_with fail
 refine HE.out.mono ?_;rintro e w2 ⟨v2,rfl,hk2,hit⟩;obtain⟨Bs,hv2,hseq⟩:=hit.sub.stops Fence.wide 3 trivial rfl (by omega);subst hv2;have HQ:=qH hseq;clear hseq hit;have B2:=qH (B1.out.ext hk2);have HK2:=qH hk2;have hsz2:=hk2.size;have hn0:zs.attach.length=zs.length:=List.length_attach;have HSW:=qH hSw;clear hk2 HE B1 hSw;go_wp2_with fail
 refine' wpIn_wide.1 (wpIn_rangeFunc_ownG (F:=Fence.wide) (n:=4) (w0:=w2) rfl (by omega) (gf:=171) (lb:=#[.pointer (some ⟨Bs,0,none⟩)]) rfl trivial (enters_of Tryz.func171 (by kernel_rfl) rfl)
  HQ.out SameOn.trans (SameOn.put (fun k h=>h.2)) (Kp.refl w2).below (fun _=>rfl) (GotRows (fun x=>con x.1) zs.length w2 w.heap.size) (fun _ _ _=>False) (GotRows.own (Nat.le_refl _)) (fun _ _ _ _ _ h _ _=>h) ⟨by simp,Kp.refl _,_,B2.out,OwnRows.nil _ _⟩ _ ?assign ?body ?done ?stop)
 case assign=>
  intro l x W K hK;gi_wp2;exact hK
 case body=>
  rintro l pre x X ⟨hpl,hpk,v,hB,hr⟩ hlen';obtain⟨xv,xm⟩:=x;obtain⟨ao1,n1,cap1,ev,_⟩:∃ao n cap,v= .slice ao n cap/\True:=by obtain⟨ao,cap,e,_⟩:=hr.shape;exact⟨_,_,_,e,trivial⟩
  subst ev;have HPL:=qH (nIX hpl hlen);obtain⟨ss,hrd,hss,hxS,hcx⟩:=HS.out.1 xv xm;have hrd2:ReadsAs X xv ss:=⟨hrd.1,fun i u hu=>by
   have hne:xv.2.1≠0:=by have h1:=(List.getElem?_eq_some_iff.1 hu).1;simp only [strs,List.length_map]at h1;rw [hrd.1];omega
   obtain⟨b,o,e,c⟩:=(hrd.2.ext HK2.out) i u hu;exact⟨b,o,e,hpk.cell c fun hf=>by have h8:b<_:=HSW.out _ (hxS _ e hne);omega⟩⟩
  clear hrd hxS;obtain⟨ao,n,cap⟩:=xv;obtain⟨hn,hcs⟩:=hrd2;simp only at hn hcs;have hmix:Tryz.prog.follows .mixedOrders=true:=by kernel_rfl
  have HCL:=qH (jC (strs ss) ao cap X.drew n (by simp [strs,hn]) (hcs.ext (Kp.refl X).drew) (gN ss) (by omega));have hc0:=hB.cell 0 (by simp);have hf0:=hB.free 0;simp only [List.getElem_cons_zero]at hc0;have HB:=qH (nIX hB hr);have HCX:=qH (nIX hcx hn);clear hB hr hcx hn hcs;gi_wp2;refine wpIn_region_any (by kernel_rfl) ?_
  change wpAnyIn _ _ _ _ _ _ _ _ _ (World.drew _)
  refine wpAnyIn_ready (rs:= [0,1]) (by kernel_rfl) (by simp) (AllReadyIn.cons rfl (fun K hK=>?_) (AllReadyIn.cons rfl (fun K hK=>?_) AllReadyIn.nil))
  ·go_simp;refine hK _ _ ?_;clear hK K;refine wpAnyIn_ready (rs:= [1]) (by kernel_rfl) (by simp) (AllReadyIn.cons rfl (fun K hK=>?_) AllReadyIn.nil);go_simp;refine hK _ _ ?_;clear hK K;refine wpAnyIn_ready (rs:= [2]) (by kernel_rfl) (by simp) (AllReadyIn.cons rfl (fun K hK=>?_) AllReadyIn.nil);go_simp;refine nIX trivial ?_;refine(CallsIn.inRound l (callsIn_wide.2 HCL.out)).mono ?_;rintro e X1 ⟨v1,rfl,hk1,hr1⟩;obtain⟨ao2,cap2,ev,_,_⟩:=hr1.shape;subst ev;rw [HCX.out.2]at hr1;obtain⟨ao3,n3,cap3,w3,hrunA,d1,d2,HFIN⟩:=kF (x:=(ao2,ss.length,cap2)) HPL.out hpk (by omega) HB.out.1 HB.out.2 ((Kp.refl X).drew.trans hk1) hr1 hss;rw [<-HCX.out.2]at hrunA;have HFI:=qH HFIN;clear HFIN hr1;have e0:=hk1.cell (w:=X.drew) hc0 id;have e1:=(hk1.alloc (.cells #[.slice ao2 n cap2] 34)).cell (w:=X.drew) hc0 id
   change K _ _
   refine hK _ _ ?_;clear hK K;refine wpAnyIn_ready (rs:= [3]) (by kernel_rfl) (by simp) (AllReadyIn.cons rfl (fun K hK=>?_) AllReadyIn.nil);go_simp;refine hK _ _ ?_;clear hK K;refine wpAnyIn_ready (rs:= [4]) (by kernel_rfl) (by simp) (AllReadyIn.cons rfl (fun K hK=>?_) AllReadyIn.nil);refine lP (.tmp 9) (.tmp 12) rfl rfl rfl rfl hrunA ?_;refine hK _ _ ?_;clear hK K;refine wpAnyIn_ready (rs:= [5]) (by kernel_rfl) (by simp) (AllReadyIn.cons rfl (fun K hK=>?_) AllReadyIn.nil);go_simp;refine hK _ _ ?_;clear hK K;refine wpAnyIn_done (by kernel_rfl) ?_ _;obtain⟨q1,q2,q3,q4⟩:=HFI.out ⟨(ao,n,cap),xm⟩ HCX.out.1;refine nIX (q1.from _) (nIX (SameOn.of_kp q2 (fun k h=>Nat.lt_of_lt_of_le h.2 hpk.size) (fun k h h'=>by omega)) ⟨by rw [List.length_append];simp;omega,q3,q4⟩)
  ·go_simp;refine hK _ _ ?_;clear hK K;refine wpAnyIn_ready (rs:= [0,2]) (by kernel_rfl) (by simp) (AllReadyIn.cons rfl (fun K hK=>?_) (AllReadyIn.cons rfl (fun K hK=>?_) AllReadyIn.nil))
   ·go_simp;refine hK _ _ ?_;clear hK K;refine wpAnyIn_ready (rs:= [2]) (by kernel_rfl) (by simp) (AllReadyIn.cons rfl (fun K hK=>?_) AllReadyIn.nil);go_simp;refine nIX trivial ?_;refine(CallsIn.inRound l (callsIn_wide.2 HCL.out)).mono ?_;rintro e X1 ⟨v1,rfl,hk1,hr1⟩;obtain⟨ao2,cap2,ev,_,_⟩:=hr1.shape;subst ev;rw [HCX.out.2]at hr1;obtain⟨ao3,n3,cap3,w3,hrunA,d1,d2,HFIN⟩:=kF (x:=(ao2,ss.length,cap2)) HPL.out hpk (by omega) HB.out.1 HB.out.2 ((Kp.refl X).drew.trans hk1) hr1 hss;rw [<-HCX.out.2]at hrunA;have HFI:=qH HFIN;clear HFIN hr1;have e0:=hk1.cell (w:=X.drew) hc0 id;have e1:=(hk1.alloc (.cells #[.slice ao2 n cap2] 34)).cell (w:=X.drew) hc0 id
    change K _ _
    refine hK _ _ ?_;clear hK K;refine wpAnyIn_ready (rs:= [3]) (by kernel_rfl) (by simp) (AllReadyIn.cons rfl (fun K hK=>?_) AllReadyIn.nil);go_simp;refine hK _ _ ?_;clear hK K;refine wpAnyIn_ready (rs:= [4]) (by kernel_rfl) (by simp) (AllReadyIn.cons rfl (fun K hK=>?_) AllReadyIn.nil);refine lP (.tmp 9) (.tmp 12) rfl rfl rfl rfl hrunA ?_;refine hK _ _ ?_;clear hK K;refine wpAnyIn_ready (rs:= [5]) (by kernel_rfl) (by simp) (AllReadyIn.cons rfl (fun K hK=>?_) AllReadyIn.nil);go_simp;refine hK _ _ ?_;clear hK K;refine wpAnyIn_done (by kernel_rfl) ?_ _;obtain⟨q1,q2,q3,q4⟩:=HFI.out ⟨(ao,n,cap),xm⟩ HCX.out.1;refine nIX (q1.from _) (nIX (SameOn.of_kp q2 (fun k h=>Nat.lt_of_lt_of_le h.2 hpk.size) (fun k h h'=>by omega)) ⟨by rw [List.length_append];simp;omega,q3,q4⟩)
   ·go_simp;refine nIX trivial ?_;refine(CallsIn.inRound l (callsIn_wide.2 HCL.out)).mono ?_;rintro e X1 ⟨v1,rfl,hk1,hr1⟩;obtain⟨ao2,cap2,ev,_,_⟩:=hr1.shape;subst ev;rw [HCX.out.2]at hr1;obtain⟨ao3,n3,cap3,w3,hrunA,d1,d2,HFIN⟩:=kF (x:=(ao2,ss.length,cap2)) HPL.out hpk (by omega) HB.out.1 HB.out.2 ((Kp.refl X).drew.trans hk1) hr1 hss;rw [<-HCX.out.2]at hrunA;have HFI:=qH HFIN;clear HFIN hr1;have e0:=hk1.cell (w:=X.drew) hc0 id;have e1:=(hk1.alloc (.cells #[.slice ao2 n cap2] 34)).cell (w:=X.drew) hc0 id
    change K _ _
    refine hK _ _ ?_;clear hK K;refine wpAnyIn_ready (rs:= [0,3]) (by kernel_rfl) (by simp) (AllReadyIn.cons rfl (fun K hK=>?_) (AllReadyIn.cons rfl (fun K hK=>?_) AllReadyIn.nil))
    ·go_simp;refine hK _ _ ?_;clear hK K;refine wpAnyIn_ready (rs:= [3]) (by kernel_rfl) (by simp) (AllReadyIn.cons rfl (fun K hK=>?_) AllReadyIn.nil);go_simp;refine hK _ _ ?_;clear hK K;refine wpAnyIn_ready (rs:= [4]) (by kernel_rfl) (by simp) (AllReadyIn.cons rfl (fun K hK=>?_) AllReadyIn.nil);refine lP (.tmp 9) (.tmp 12) rfl rfl rfl rfl hrunA ?_;refine hK _ _ ?_;clear hK K;refine wpAnyIn_ready (rs:= [5]) (by kernel_rfl) (by simp) (AllReadyIn.cons rfl (fun K hK=>?_) AllReadyIn.nil);go_simp;refine hK _ _ ?_;clear hK K;refine wpAnyIn_done (by kernel_rfl) ?_ _;obtain⟨q1,q2,q3,q4⟩:=HFI.out ⟨(ao,n,cap),xm⟩ HCX.out.1;refine nIX (q1.from _) (nIX (SameOn.of_kp q2 (fun k h=>Nat.lt_of_lt_of_le h.2 hpk.size) (fun k h h'=>by omega)) ⟨by rw [List.length_append];simp;omega,q3,q4⟩)
    ·go_simp;refine hK _ _ ?_;clear hK K;refine wpAnyIn_ready (rs:= [0]) (by kernel_rfl) (by simp) (AllReadyIn.cons rfl (fun K hK=>?_) AllReadyIn.nil);go_simp;refine hK _ _ ?_;clear hK K;refine wpAnyIn_ready (rs:= [4]) (by kernel_rfl) (by simp) (AllReadyIn.cons rfl (fun K hK=>?_) AllReadyIn.nil);refine lP (.tmp 9) (.tmp 12) rfl rfl rfl rfl hrunA ?_;refine hK _ _ ?_;clear hK K;refine wpAnyIn_ready (rs:= [5]) (by kernel_rfl) (by simp) (AllReadyIn.cons rfl (fun K hK=>?_) AllReadyIn.nil);go_simp;refine hK _ _ ?_;clear hK K;refine wpAnyIn_done (by kernel_rfl) ?_ _;obtain⟨q1,q2,q3,q4⟩:=HFI.out ⟨(ao,n,cap),xm⟩ HCX.out.1;refine nIX (q1.from _) (nIX (SameOn.of_kp q2 (fun k h=>Nat.lt_of_lt_of_le h.2 hpk.size) (fun k h h'=>by omega)) ⟨by rw [List.length_append];simp;omega,q3,q4⟩)
 case stop=>
  rintro D c pre W _ _ h _;exact h.elim
 case done=>
  rintro D ys W2 hD hys ⟨hl2,hkd,v,hBd,hrd⟩ hd;subst hys;have kw:Kp F w W2:=(HK1.out.1.ext HK2.out).trans' hkd fun k hk e=>by omega
  have hra:R W2:=HR.out.2 HK1.out.2 ((Ext.kp HK2.out).trans (hkd.mono fun g _ e=>by omega));have hown:OwnRows w.heap.size W2 v LL:=by
   have e:zs.attach.map (fun x=>con x.1)=LL:=by
    rw [<-HS.out.2];have h:(zs.attach.map fun x:{x//x∈zs}=>con x.1)=(zs.attach.map Subtype.val).map con:=by rw [List.map_map];rfl
    rw [h,List.attach_map_subtype_val]
   rw [e]at hrd;exact hrd.mono (by omega)
  have hmk:=(Marks.nil w2.heap.size w2).push (w':=W2) (D:=D) (fun k o h ho=>(hkd.block k (lt_of_block h) (fun e=>by subst e;have hb:=B2.out;unfold Blk at hb;rw [hb]at h;cases h;cases ho)).trans h) hD hD hd;obtain⟨ao4,cap4,ev,_⟩:=hown.shape;subst ev;have c0:=hBd.cell 0 (by simp);simp only [List.getElem_cons_zero]at c0;have HF:=qH (nIX kw (nIX hra (nIX hown hmk)));clear kw hra hown hmk hrd hBd hkd hd;go_wp2;rw [EQ.out];obtain⟨kw,hra,hown,hmk⟩:=HF.out;refine aB2 hmk kw (by omega) rfl fun w' kx=>⟨HR.out.2 hra (kx.mono fun g _ h=>by omega),hown.kpc kx fun g h=>h.2⟩
theorem RowsAt.tells(h:RowsAt S w b iv arity LL):∃con,∃zs:List gK,PtrSetRow Tryz.prog S w (.pointer (some ⟨b,0,none⟩)) zs/\zs.map con=LL/\
 ∀x∈zs,∃ss,ReadsAs w x ss/\ss.length≤8796093021952/\(∀a,x.1=some a->x.2.1≠0->S a.block)/\con x=ss:=by
 obtain⟨con,zs,hc,hs,hl⟩:=h;refine⟨con,zs,.inr ⟨_,_,_,_,_,_,_,rfl,hs⟩,hl,fun x hx=>?_⟩;obtain⟨ss,h1,h2,h3⟩:=hs.all x hx;exact⟨ss,h1,h2,h3,hc x ss h1⟩
theorem aHv(h:RowsQ z S w b iv arity LL):
 Calls Tryz.prog 53 #[.pointer (some ⟨b,0,none⟩)] w (RetF (FQ z b) w fun w' v=>RowsAt S w' b iv arity LL/\OwnRows w.heap.size w' v LL):=by
 refine uX (R:=fun W=>RowsAt S W b iv arity LL) (fun W hW=>?_) (fun k hk=>by rw [hk.2];exact h.lt) (fun{W W'} hr hk=>?_)
 ·refine(oF (h.ext hW)).mono ?_;rintro e w1 ⟨v,rfl,hk,rfl,h1⟩;obtain⟨con,zs,hp,hl,hall⟩:=h1.tells;exact RetF.mk hk ⟨h1,S,con,zs,hp,h.inS,hl,hall⟩
 ·exact hr.move hk (fun k hg ho=>by have:=h.ownLt k ho;omega) (fun k hg hS=>by have:=h.inS k hS;omega) (fun _ h=>h) (fun k hS=>Nat.lt_of_lt_of_le (hr.inS k hS) hk.size) hr.notS
theorem aB3(w:World):Calls Tryz.prog 53 #[.pointer none] w (RetN w fun w' v=>OwnRows w.heap.size w' v []):=by
 refine(uX (w:=w) (F:=fun _=>False) (R:=fun _=>True) (LL:= []) (fun W hW=>?_) (fun k hk=>hk.elim) (fun _ _=>trivial)).mono ?_
 ·refine(aBy W).mono ?_;rintro e w1 ⟨rfl,rfl⟩;exact RetF.mk (Kp.refl _) ⟨trivial,fun _=>False,fun _=> [],[],.inl ⟨rfl,rfl⟩,fun k hk=>hk.elim,rfl,by simp⟩
 ·rintro e w' ⟨v,rfl,hk,_,h⟩;exact RetN.mk hk h
end
end
section
open Go.RowKit
structure Ent where
 name:ByteArray
 b:Nat
 iv:Value
 ar:Nat
 LL:List (List ByteArray)
def Ent.ptr(e:Ent):Value:= .pointer (some ⟨e.b,0,none⟩)
def Ent.cnt(e:Ent):bA:=(e.name,e.ar,e.LL)
def Ent.own(e:Ent):Nat->Prop:=eY e.b e.iv
def iR(E:List Ent):List (ByteArray×Value):=E.map fun e=>(e.name,e.ptr)
def aT(E:List Ent):List bA:=E.map Ent.cnt
def bS(E:List Ent)(s:ByteArray):Option Ent:=E.find? fun e=>decide (e.name=s)
theorem lH(E:List Ent)(s:ByteArray):aIs (iR E) s=(bS E s).map Ent.ptr:=by unfold aIs iR bS;rw [List.find?_map,Option.map_map];rfl
theorem qT(E:List Ent)(s:ByteArray):bU (aT E) s=(bS E s).map fun e=>(e.ar,e.LL):=by unfold bU aT bS;rw [List.find?_map,Option.map_map];rfl
theorem wT(E:List Ent):(iR E).map (·.1)=(aT E).map (·.1):=by unfold iR aT;rw [List.map_map,List.map_map];rfl
theorem cJ{E:List Ent}{s:ByteArray}{e:Ent}(h:bS E s=some e):e∈E/\e.name=s:=⟨List.mem_of_find?_eq_some h,by have:=List.find?_some h;simpa using this⟩
theorem dP{E:List Ent}{s:ByteArray}{e:Ent}(h:bS E s=some e):bU (aT E) s=some (e.ar,e.LL)/\bO (aT E) s=e.LL:=by
 have h1:bU (aT E) s=some (e.ar,e.LL):=by rw [qT,h];rfl
 exact⟨h1,fA h1⟩
theorem eT{E:List Ent}{s:ByteArray}(h:bS E s=none):bU (aT E) s=none/\bO (aT E) s= []:=by
 have h1:bU (aT E) s=none:=by rw [qT,h];rfl
 exact⟨h1,fZ h1⟩
theorem aCv{E:List Ent}{e:Ent}(h:e∈E):e.cnt∈aT E:=List.mem_map.2 ⟨e,h,rfl⟩
def OwnE(E:List Ent)(k:Nat):Prop:=∃e∈E,e.own k
def eJ(bb r:Nat)(E:List Ent)(k:Nat):Prop:=k=bb\/k=r\/OwnE E k
structure BaseAt(S:Nat->Prop)(w:World)(bb r:Nat)(E:List Ent):Prop where
 blk:Blk w bb [.map (some r),.int .i64 (aV (aT E):Nat)] 129
 map:MapIs w r (iR E)
 rows:∀e∈E,RowsAt S w e.b e.iv e.ar e.LL
 apart:E.Pairwise fun e f=>∀k,e.own k->¬f.own k
 inS:∀k,S k->k<w.heap.size
 notS:¬S bb/\¬S r
 ne:bb≠r
 off:∀e∈E,∀k,e.own k->k≠bb/\k≠r
 ok:BaseOk (aT E)
section
variable {S S':Nat->Prop}{w w':World}{bb r:Nat}{E:List Ent}
theorem BaseAt.kp{F:Nat->Prop}(h:BaseAt S w bb r E)(hk:Kp F w w')(hF:∀k,F k->¬eJ bb r E k)(hS:∀k,F k->¬S k):BaseAt S w' bb r E:=
 {blk:=h.blk.kp hk fun hf=>hF _ hf (.inl rfl)
  map:=h.map.kp hk fun hf=>hF _ hf (.inr (.inl rfl))
  rows:=fun e he=>(h.rows e he).move hk (fun k hf ho=>hF k hf (.inr (.inr ⟨e,he,ho⟩))) hS (fun _ x=>x) (fun k hk'=>Nat.lt_of_lt_of_le (h.inS k hk') hk.size) (h.rows e he).notS
  apart:=h.apart
  inS:=fun k hk'=>Nat.lt_of_lt_of_le (h.inS k hk') hk.size
  notS:=h.notS,ne:=h.ne,off:=h.off,ok:=h.ok}
theorem BaseAt.ext(h:BaseAt S w bb r E)(hk:Ext w w'):BaseAt S w' bb r E:=h.kp hk (fun _ x=>x.elim) (fun _ x=>x.elim)
theorem BaseAt.ownLt(h:BaseAt S w bb r E):∀k,eJ bb r E k->k<w.heap.size:=by
 rintro k (rfl|rfl|⟨e,he,ho⟩)
 ·exact h.blk.lt
 ·exact h.map.lt
 ·exact(RowsQ.ownLt (z:=True) (h.rows e he).q) k ho
theorem BaseAt.notOwn(h:BaseAt S w bb r E):∀k,eJ bb r E k->¬S k:=by
 rintro k (rfl|rfl|⟨e,he,ho⟩)
 ·exact h.notS.1
 ·exact h.notS.2
 ·exact(h.rows e he).notS k ho
theorem BaseAt.strict(h:BaseAt S w bb r E){e:Ent}(he:e∈E):Strict aB e.LL:=(h.ok.all _ (aCv he)).strict
theorem BaseAt.few(h:BaseAt S w bb r E){e:Ent}(he:e∈E):e.LL.length≤65536:=(h.ok.all _ (aCv he)).few
theorem BaseAt.new(S:Nat->Prop)(hS:∀k,S k->k<w.heap.size){wb:World}(hx:Ext w wb){bb r:Nat}(hb:w.heap.size≤bb)(hr:w.heap.size≤r)(hne:bb≠r)(hB:Blk wb bb [.map (some r),.int .i64 0] 129)(hm:MapIs wb r []):BaseAt S wb bb r []:=
 {blk:=hB,map:=hm,rows:=fun e he=>by simp at he
  apart:=List.Pairwise.nil
  inS:=fun k hk=>Nat.lt_of_lt_of_le (hS k hk) hx.size
  notS:=⟨fun h=>by have:=hS _ h;omega,fun h=>by have:=hS _ h;omega⟩
  ne:=hne,off:=fun e he=>by simp at he,ok:=vL}
theorem BaseAt.turn{pre post:List Ent}{e:Ent}(h:BaseAt S w bb r (pre++e::post)){iv':Value}{LL':List (List ByteArray)}(hk:Kp e.own w w')(hs:∀k,S k->S' k)(hnew:∀k,S' k->S k\/w.heap.size≤k)
 (hr:RowsAt S' w' e.b iv' e.ar LL')(hiv:∀k,iv'.ownBlock=some k->e.iv.ownBlock=some k\/w.heap.size≤k){n:Nat}{W:World}(hW:Kp (fun k=>k=bb\/k=r) w' W)(hm:MapIs W r (iR (pre++e::post)))(hB:Blk W bb [.map (some r),.int .i64 (n:Nat)] 129)(hn:n=aV (aT (pre++{e with iv:=iv',LL:=LL'}::post)))(hok:BaseOk (aT (pre++{e with iv:=iv',LL:=LL'}::post))):
 BaseAt S' W bb r (pre++{e with iv:=iv',LL:=LL'}::post):=by
 have hin':=hr.inS;have hown:∀f∈pre++e::post,∀k,f.own k->k<w.heap.size/\¬S' k:=fun f hf k ho=>by
  have h1:=h.ownLt k (.inr (.inr ⟨f,hf,ho⟩));refine⟨h1,fun hs'=>?_⟩;rcases hnew k hs' with h2|h2
  ·exact(h.rows f hf).notS k ho h2
  ·omega
 have hbb:=h.ownLt bb (.inl rfl);have hrr:=h.ownLt r (.inr (.inl rfl));have hem:e∈pre++e::post:=List.mem_append_right _ List.mem_cons_self;have hebb:¬S' bb:=fun hs'=>by rcases hnew _ hs' with h2|h2;exact h.notS.1 h2;omega
 have herr:¬S' r:=fun hs'=>by rcases hnew _ hs' with h2|h2;exact h.notS.2 h2;omega
 have hiv2:∀k,eY e.b iv' k->e.own k\/w.heap.size≤k:=fun k ho=>by
  rcases ho with ho|ho
  ·exact .inl (.inl ho)
  ·rcases hiv k ho with h2|h2
   ·exact .inl (.inr h2)
   ·exact .inr h2
 have hoff':∀k,eY e.b iv' k->k≠bb/\k≠r:=fun k ho=>by
  rcases hiv2 k ho with h2|h2
  ·exact h.off e hem k h2
  ·omega
 obtain⟨ap1,ap2,ap3⟩:=List.pairwise_append.1 h.apart;obtain⟨ap4,ap5⟩:=List.pairwise_cons.1 ap2;have hother:∀f,(f∈pre\/f∈post)->(∀k,e.own k->¬f.own k)/\f∈pre++e::post:=fun f hf=>by
  rcases hf with hf|hf
  ·exact⟨fun k h1 h2=>ap3 f hf e List.mem_cons_self k h2 h1,List.mem_append_left _ hf⟩
  ·exact⟨fun k h1 h2=>ap4 f hf k h1 h2,List.mem_append_right _ (List.mem_cons_of_mem _ hf)⟩
 have hF:∀k,k=bb\/k=r->¬S' k:=fun k e=>by
  rcases e with rfl|rfl
  ·exact hebb
  ·exact herr
 have hrows:∀f,(f∈pre\/f∈post)->RowsAt S' W f.b f.iv f.ar f.LL:=fun f hf=>by
  obtain⟨h1,h2⟩:=hother f hf;have h3:=(h.rows f h2).move (S':=S') hk h1 (fun k hf=>(h.rows e hem).notS k hf) hs (fun k hk'=>hin' k hk') (fun k ho=>(hown f h2 k ho).2);exact h3.move hW (fun k e2 ho=>by
   have h4:=h.off f h2 k ho;rcases e2 with e2|e2
   ·exact h4.1 e2
   ·exact h4.2 e2) hF (fun _ x=>x) (fun k hk'=>Nat.lt_of_lt_of_le (hin' k hk') hW.size) h3.notS
 refine{blk:=by rw [hn]at hB;exact hB,map:=?_,rows:=fun f hf=>?_,apart:=?_,inS:=fun k hk'=>Nat.lt_of_lt_of_le (hin' k hk') hW.size,notS:=⟨hebb,herr⟩,ne:=h.ne,off:=fun f hf=>?_,ok:=hok}
 ·have h2:iR (pre++{e with iv:=iv',LL:=LL'}::post)=iR (pre++e::post):=by simp [iR,Ent.ptr]
  rw [h2];exact hm
 ·rcases List.mem_append.1 hf with hf|hf
  ·exact hrows f (.inl hf)
  ·rcases List.mem_cons.1 hf with rfl|hf
   ·exact hr.move hW (fun k e2 ho=>by
     have h4:=hoff' k ho;rcases e2 with e2|e2
     ·exact h4.1 e2
     ·exact h4.2 e2) hF (fun _ x=>x) (fun k hk'=>Nat.lt_of_lt_of_le (hin' k hk') hW.size) hr.notS
   ·exact hrows f (.inr hf)
 ·refine List.pairwise_append.2 ⟨ap1,List.pairwise_cons.2 ⟨fun f hf k ho hf2=>?_,ap5⟩,fun f hf g hg k ho hg2=>?_⟩
  ·rcases hiv2 k ho with h2|h2
   ·exact ap4 f hf k h2 hf2
   ·have:=(hown f (hother f (.inr hf)).2 k hf2).1;omega
  ·rcases List.mem_cons.1 hg with rfl|hg
   ·rcases hiv2 k hg2 with h2|h2
    ·exact ap3 f hf e List.mem_cons_self k ho h2
    ·have:=(hown f (hother f (.inl hf)).2 k ho).1;omega
   ·exact ap3 f hf g (List.mem_cons_of_mem _ hg) k ho hg2
 ·rcases List.mem_append.1 hf with hf|hf
  ·exact h.off f (hother f (.inl hf)).2
  ·rcases List.mem_cons.1 hf with rfl|hf
   ·exact hoff'
   ·exact h.off f (hother f (.inr hf)).2
theorem BaseAt.push(h:BaseAt S w bb r E){e:Ent}(hx:Ext w w')(hs:∀k,S k->S' k)(hnew:∀k,S' k->S k\/w.heap.size≤k)(hr:RowsAt S' w' e.b e.iv e.ar e.LL)(ho:∀k,e.own k->w.heap.size≤k)
 {n:Nat}{W:World}(hW:Kp (fun k=>k=bb\/k=r) w' W)(hB:Blk W bb [.map (some r),.int .i64 (n:Nat)] 129)(hm:MapIs W r (iR (E++ [e])))(hn:n=aV (aT (E++ [e])))(hok:BaseOk (aT (E++ [e]))):BaseAt S' W bb r (E++ [e]):=by
 have hbb:=h.ownLt bb (.inl rfl);have hrr:=h.ownLt r (.inr (.inl rfl));have hin':=hr.inS;have hno:∀k,eJ bb r E k->¬S' k:=fun k ho hs'=>by
  rcases hnew k hs' with h2|h2
  ·exact h.notOwn k ho h2
  ·have:=h.ownLt k ho;omega
 have hF:∀k,k=bb\/k=r->¬S' k:=fun k hk=>hno k (hk.elim .inl fun h=> .inr (.inl h));refine{blk:=by rw [hn]at hB;exact hB,map:=hm,rows:=fun f hf=>?_,apart:=?_,inS:=fun k hk'=>Nat.lt_of_lt_of_le (hin' k hk') hW.size,notS:=⟨hF _ (.inl rfl),hF _ (.inr rfl)⟩,ne:=h.ne,off:=fun f hf=>?_,ok:=hok}
 ·rcases List.mem_append.1 hf with hf|hf
  ·have h3:=(h.rows f hf).move (S':=S') hx (fun _ x=>x.elim) (fun _ x=>x.elim) hs (fun k hk'=>hin' k hk') (fun k ho=>hno k (.inr (.inr ⟨f,hf,ho⟩)));exact h3.move hW (fun k e2 ho=>by
    have h4:=h.off f hf k ho;rcases e2 with e2|e2
    ·exact h4.1 e2
    ·exact h4.2 e2) hF (fun _ x=>x) (fun k hk'=>Nat.lt_of_lt_of_le (hin' k hk') hW.size) h3.notS
  ·obtain rfl:=List.mem_singleton.1 hf;exact hr.move hW (fun k e2 ho2=>by have:=ho k ho2;omega) hF (fun _ x=>x) (fun k hk'=>Nat.lt_of_lt_of_le (hin' k hk') hW.size) hr.notS
 ·refine List.pairwise_append.2 ⟨h.apart,List.pairwise_singleton _ _,fun f hf g hg k h1 h2=>?_⟩;obtain rfl:=List.mem_singleton.1 hg;have h3:=h.ownLt k (.inr (.inr ⟨f,hf,h1⟩));have h4:=ho k h2;omega
 ·rcases List.mem_append.1 hf with hf|hf
  ·exact h.off f hf
  ·obtain rfl:=List.mem_singleton.1 hf;intro k hk;have:=ho k hk;omega
theorem iQ{E:List Ent}{s:ByteArray}{e:Ent}(h:bS E s=some e):∃pre post,E=pre++e::post:=by obtain⟨_,pre,post,h2,_⟩:=List.find?_eq_some_iff_append.1 h;exact⟨pre,post,h2⟩
theorem xI{pre post:List Ent}{e:Ent}{s:ByteArray}(h:bS (pre++e::post) s=some e)(hn:((aT (pre++e::post)).map (·.1)).Nodup)(iv':Value)(LL':List (List ByteArray)):iV (aT (pre++e::post)) s (e.ar,LL')=aT (pre++{e with iv:=iv',LL:=LL'}::post):=by
 have hs:e.name=s:=(cJ h).2;have h1:(bU (aT (pre++e::post)) s).isSome=true:=by rw [qT,h];rfl
 unfold iV;rw [if_pos h1];have hid:∀q:Ent,q.name≠s->(if q.cnt.1=s then(q.cnt.1,(e.ar,LL'))else q.cnt)=q.cnt:=fun q hq=>if_neg hq;unfold aT at hn ⊢;rw [List.map_append,List.map_cons,List.map_append,List.map_cons]at hn;obtain⟨_,hn2,hn3⟩:=List.nodup_append.1 hn;obtain⟨hn4,_⟩:=List.nodup_cons.1 hn2;rw [List.map_append,List.map_append,List.map_cons,List.map_cons,List.map_append,List.map_cons]
 congr 1
 ·rw [List.map_map];apply List.map_congr_left;intro q hq;refine hid q fun e2=>?_;exact hn3 q.name (List.mem_map.2 ⟨q.cnt,List.mem_map.2 ⟨q,hq,rfl⟩,rfl⟩) e.name List.mem_cons_self (by rw [e2,hs])
 ·congr 1
  ·show(if e.name=s then(e.name,(e.ar,LL'))else e.cnt)=_;rw [if_pos hs];rfl
  ·rw [List.map_map];apply List.map_congr_left;intro q hq;refine hid q fun e2=>?_;exact hn4 (List.mem_map.2 ⟨q.cnt,List.mem_map.2 ⟨q,hq,rfl⟩,by show q.name=e.name;rw [e2,hs]⟩)
theorem aI8{E:List Ent}{s:ByteArray}(h:bS E s=none)(b:Nat)(iv:Value)(ar:Nat)(LL:List (List ByteArray)):iV (aT E) s (ar,LL)=aT (E++ [{name:=s,b:=b,iv:=iv,ar:=ar,LL:=LL}]):=by unfold iV;rw [(eT h).1,if_neg (by simp)];unfold aT;rw [List.map_append];rfl
theorem aDl{E:List Ent}{s:ByteArray}{e:Ent}(h:bS E s=some e)(hn:((iR E).map (·.1)).Nodup):oQ (iR E) s e.ptr=iR E:=by
 obtain⟨pre,post,rfl⟩:=iQ h;have hs:e.name=s:=(cJ h).2;unfold oQ;rw [lH,h,if_pos (by rfl)];unfold iR at hn ⊢;rw [List.map_append,List.map_cons,List.map_append,List.map_cons]at hn;obtain⟨_,hn2,hn3⟩:=List.nodup_append.1 hn;obtain⟨hn4,_⟩:=List.nodup_cons.1 hn2;rw [List.map_append,List.map_append,List.map_cons,List.map_cons];have hid:∀q:Ent,q.name≠s->(if(q.name,q.ptr).1=s then((q.name,q.ptr).1,e.ptr)else(q.name,q.ptr))=(q.name,q.ptr):=fun q hq=>if_neg hq
 congr 1
 ·rw [List.map_map];apply List.map_congr_left;intro q hq;refine hid q fun e2=>?_;exact hn3 q.name (List.mem_map.2 ⟨(q.name,q.ptr),List.mem_map.2 ⟨q,hq,rfl⟩,rfl⟩) e.name List.mem_cons_self (by rw [e2,hs])
 ·congr 1
  ·exact if_pos hs
  ·rw [List.map_map];apply List.map_congr_left;intro q hq;refine hid q fun e2=>?_;exact hn4 (List.mem_map.2 ⟨(q.name,q.ptr),List.mem_map.2 ⟨q,hq,rfl⟩,by show q.name=e.name;rw [e2,hs]⟩)
theorem zP{E:List Ent}{s:ByteArray}(h:bS E s=none)(b:Nat)(iv:Value)(ar:Nat)(LL:List (List ByteArray)):oQ (iR E) s (.pointer (some ⟨b,0,none⟩))=iR (E++ [{name:=s,b:=b,iv:=iv,ar:=ar,LL:=LL}]):=by unfold oQ;rw [lH,h,if_neg (by simp)];unfold iR;rw [List.map_append];rfl
end
end
section
open Go.RowKit Go.Shelf
def lK(lo:Nat)(w:World)(v:Value)(LL:List (List ByteArray)):Prop:=
 ∃Bs iv,v= .func (.func 171) #[] #[.pointer (some ⟨Bs,0,none⟩)]/\lo≤Bs/\Blk w Bs [iv] 69/\OwnRows lo w iv LL/\LL.length≤1048576*1048576
section
variable {z z1 z2:Prop}{S:Nat->Prop}{w w':World}{b b1 b2:Nat}{iv iv1 iv2:Value}{arity arity2:Nat}{LL L1 L2:List (List ByteArray)}
theorem RowsAt.len(h:RowsAt S w b iv arity LL):LL.length≤1048576*1048576:=by obtain⟨con,zs,hc,hs,hl⟩:=h;rw [<-hl,List.length_map];exact hs.len
theorem aAm(w:World):Calls Tryz.prog 175 #[.pointer none] w (RetN w fun w' v=>lK w.heap.size w' v []):=by
 go_enter Tryz.func175,Tryz.ntmps175;go_wp2_with fail
 refine(aB3 w).mono ?_;rintro e w1 ⟨v,rfl,hk,h1⟩;obtain⟨ao,cap,ev,_⟩:=h1.shape;subst ev;have HK:=qH (nIX hk h1);clear hk h1;go_wp2_with fail
 refine(kN _ _ _ w1).mono ?_;rintro e w2 ⟨v,rfl,hk2,rfl,ew⟩;subst ew;go_wp2;go_ret;exact RetN.mk (HK.out.1.alloc _) ⟨_,_,rfl,HK.out.1.size,Blk.new w1 [_] _,HK.out.2.ext ((Kp.refl w1).alloc _),by simp⟩
theorem uW(h:RowsQ z S w b iv arity LL):
 Calls Tryz.prog 175 #[.pointer (some ⟨b,0,none⟩)] w (RetF (FQ z b) w fun w' v=>RowsAt S w' b iv arity LL/\lK w.heap.size w' v LL):=by
 have H:=qH (aHv h);clear h;go_enter Tryz.func175,Tryz.ntmps175;go_wp2_with fail
 refine H.out.mono ?_;rintro e w1 ⟨v,rfl,hk,h1,h2⟩;obtain⟨ao,cap,ev,_⟩:=h2.shape;subst ev;have HK:=qH (nIX hk (nIX h1 h2));clear hk h1 h2;go_wp2_with fail
 refine(kN _ _ _ w1).mono ?_;rintro e w2 ⟨v,rfl,hk2,rfl,ew⟩;subst ew;go_wp2;go_ret;obtain⟨hk,h1,h2⟩:=HK.out;exact RetF.mk (hk.alloc _) ⟨h1.ext ((Kp.refl w1).alloc _),_,_,rfl,hk.size,Blk.new w1 [_] _,h2.ext ((Kp.refl w1).alloc _),h1.len⟩
end
end
section
open Go.RowKit
inductive BaseV (S:Nat->Prop) (w:World):Value->List Ent->Prop
 |nil:BaseV S w (.pointer none) []
 |zero (bb:Nat):Blk w bb [.map none,.int .i64 0] 129->(∀k,S k->k<w.heap.size)->¬S bb->BaseV S w (.pointer (some ⟨bb,0,none⟩)) []
 |full (bb r:Nat) (E:List Ent):BaseAt S w bb r E->BaseV S w (.pointer (some ⟨bb,0,none⟩)) E
def aE4:Option Ent->Value
 |some e=>e.ptr
 |none=> .pointer none
def gR:Option Ent->List (List ByteArray)
 |some e=>e.LL
 |none=> []
def aMq(S:Nat->Prop)(w:World)(o:Option Ent):Prop:=∀e,o=some e->RowsAt S w e.b e.iv e.ar e.LL/\Strict aB e.LL
section
variable {S:Nat->Prop}{w w':World}{o:Option Ent}{v:Value}{E:List Ent}
theorem BaseV.opt(h:BaseV S w v E)(s:ByteArray):aMq S w (bS E s):=fun e he=>by
 cases h with
 |nil=>cases he
 |zero=>cases he
 |full bb r E h=>
  have hm:=(cJ he).1;exact⟨h.rows e hm,h.strict hm⟩
theorem BaseV.ok(h:BaseV S w v E):BaseOk (aT E):=by
 cases h with
 |nil=>exact vL
 |zero=>exact vL
 |full bb r E h=>exact h.ok
theorem BaseV.ext(h:BaseV S w v E)(hk:Ext w w'):BaseV S w' v E:=by
 cases h with
 |nil=>exact .nil
 |zero bb hb hi hs=>exact .zero bb (hb.ext hk) (fun k hk'=>Nat.lt_of_lt_of_le (hi k hk') hk.size) hs
 |full bb r E h=>exact .full bb r E (h.ext hk)
theorem tT{P:Program}{t k e:TypeId}(ht:P.underlying t=some (.map k e))(hk:P.underlying k=some .string){z:Value}(hz:(zeroValue e).run P w= .ok z w)(s:ByteArray):
 (Instr.lookup t (.map none) (.string s) false).run P w= .ok z w:=by
 have hc:=kQ (P:=P) (w:=w) hk s true 9999;have hf:=lT (P:=P) (w:=w) hk s (es:= []) (r:=none) rfl;simp [Instr.lookup,run_underlying ht,hc,hz,hf,Result.andThen]
theorem aMw(h:BaseV S w v E)(s:ByteArray):Calls Tryz.prog 108 #[v,.string s] w (Ret (aE4 (bS E s)) w):=by
 cases h with
 |nil=>
  go_enter Tryz.func108,Tryz.ntmps108;go_wp2;go_ret;exact Ret.mk rfl
 |zero bb hb hi hs=>
  have c0:=hb.cell 0 (by simp);have hlk:=tT (P:=Tryz.prog) (w:=w) Tryz.underlying127 Tryz.underlying9 (z:= .pointer none) (by kernel_rfl) s;simp only [List.getElem_cons_zero]at c0;clear hb hi hs;go_enter Tryz.func108,Tryz.ntmps108;go_wp2;go_ret;exact Ret.mk rfl
 |full bb r E h=>
  have c0:=h.blk.cell 0 (by simp);have hlk:=gO (P:=Tryz.prog) Tryz.underlying127 Tryz.underlying9 (z:= .pointer none) (by kernel_rfl) h.map s;rw [lH]at hlk;have he:((bS E s).map Ent.ptr).getD (.pointer none)=aE4 (bS E s):=by cases bS E s<;>rfl
  rw [he]at hlk;simp only [List.getElem_cons_zero]at c0;clear h he;go_enter Tryz.func108,Tryz.ntmps108;go_wp2;go_ret;exact Ret.mk rfl
theorem aCp(h:aMq S w o):Calls Tryz.prog 175 #[aE4 o] w (RetN w fun w' v=>lK w.heap.size w' v (gR o)):=by
 cases o with
 |none=>exact aAm w
 |some e=>
  refine(uW (z:=False) (h e rfl).1.q).mono ?_;rintro e w' ⟨v,rfl,hk,_,h2⟩;exact RetN.mk (Kp.fq hk) h2
theorem aA8(h:BaseV S w v E)(s:ByteArray):
 Calls Tryz.prog 149 #[v,.string s] w (RetN w fun w' v=>lK w.heap.size w' v (gR (bS E s))):=by
 have HO:=qH (aMw h s);have HH:=qH (aCp (h.opt s));clear h;go_enter Tryz.func149,Tryz.ntmps149;go_wp2_with fail
 refine HO.out.mono ?_;rintro e w1 ⟨rfl,rfl⟩;go_wp2_with fail
 refine HH.out.mono ?_;rintro e w1 ⟨v,rfl,hk,hc⟩;go_wp2;go_ret;exact RetN.mk hk hc
end
def fJ(N:List ByteArray)(ts:List aE)(i:Nat):List Nat:=(List.range i).filter fun j=>ts.any (isV (N.getD j ByteArray.empty))
theorem aBj{N:List ByteArray}{ts:List aE}{i:Nat}{s:ByteArray}(h:N[i]?=some s):fJ N ts (i+1)=if ts.any (isV s)=true then fJ N ts i++ [i]else fJ N ts i:=by
 unfold fJ;rw [List.range_succ,List.filter_append,List.filter_cons,List.filter_nil,bH h];split
 ·rfl
 ·rw [List.append_nil]
theorem aEa(N:List ByteArray)(ts:List aE)(i:Nat):(fJ N ts i).length≤i:=by unfold fJ;exact Nat.le_trans (List.length_filter_le _ _) (by rw [List.length_range];exact Nat.le_refl _)
theorem aLz{α β:Type} [DecidableEq β]{l:List α}{m:List β}(f:α->β)(hn:l.Nodup)(hi:∀a∈l,∀b∈l,f a=f b->a=b)(hm:∀a∈l,f a∈m):l.length≤m.length:=by
 induction l generalizing m with
 |nil=>exact Nat.zero_le _
 |cons a l ih=>
  obtain⟨h1,h2⟩:=List.nodup_cons.1 hn;have h3:=ih (m:=m.erase (f a)) h2 (fun x hx y hy=>hi x (List.mem_cons_of_mem _ hx) y (List.mem_cons_of_mem _ hy)) fun b hb=>by have hne:f b≠f a:=fun e=>h1 (by rw [<-hi b (List.mem_cons_of_mem _ hb) a (List.mem_cons_self ..) e];exact hb);exact(List.mem_erase_of_ne hne).2 (hm b (List.mem_cons_of_mem _ hb))
  have h4:=List.length_erase_of_mem (hm a (List.mem_cons_self ..));have h5:=List.length_pos_of_mem (hm a (List.mem_cons_self ..));rw [List.length_cons];omega
theorem nY{N:List ByteArray}{ts:List aE}(hN:N.Nodup):(aU N ts).length≤ts.length:=by
 have hl:∀v∈aU N ts,N[v]?=some (bF N v):=fun v hv=>by have:=(dQ.1 hv).1;unfold bF;rw [List.getD_eq_getElem?_getD,qG this];rfl
 have h:=aLz (l:=aU N ts) (m:=ts.map fun t=>t.2.1) (bF N) ((List.nodup_range).filter _) (fun a ha b hb e=>by
  have h1:=hl a ha;have h2:=hl b hb;rw [<-e]at h2;exact(List.getElem?_inj (dQ.1 ha).1 hN).1 (h1.trans h2.symm)) fun a ha=>by
  obtain⟨_,i,t,hi,_,h2⟩:=dQ.1 ha;exact List.mem_map.2 ⟨t,List.mem_of_getElem? hi,h2⟩
 rw [List.length_map]at h;exact h
open Classical in
theorem aBp(N:List ByteArray)(ts:List aE)(R:aD)(x:List ByteArray):dL N ts (R++ [x])=if x.length=ts.length/\oV ts x then bN aB (dL N ts R) (iM N ts x)else dL N ts R:=by
 unfold dL;rw [List.filter_append,List.filter_cons,List.filter_nil];by_cases h:x.length=ts.length/\oV ts x
 ·rw [if_pos (by simpa using h),if_pos h,List.map_append,List.map_singleton];unfold tV;rw [List.foldl_append];rfl
 ·rw [if_neg (by simpa using h),if_neg h,List.append_nil]
theorem aLq(N:List ByteArray)(ts:List aE):dL N ts []= []:=by unfold dL;rfl
open Classical in
theorem aBq{N:List ByteArray}{ts:List aE}{R:aD}(h:∀x∈R,x.length≠ts.length):dL N ts R= []:=by
 unfold dL;have e:(R.filter fun x=>decide (x.length=ts.length/\oV ts x))= []:=by rw [List.filter_eq_nil_iff];intro x hx;simp only [decide_eq_true_eq,not_and];exact fun e=>absurd e (h x hx)
 rw [e];rfl
theorem aJn(l:aD)(x:List ByteArray):(bN aB l x).length≤l.length+1:=by
 unfold bN;split
 ·omega
 ·rw [List.length_append,List.length_cons,List.length_take,List.length_drop];omega
theorem zG:∀(xs acc:aD),(xs.foldl (bN aB) acc).length≤acc.length+xs.length
 | [],acc=>Nat.le_refl _
 |x::xs,acc=>by have h1:=zG xs (bN aB acc x);have h2:=aJn acc x;rw [List.foldl_cons,List.length_cons];omega
open Classical in
theorem uB(N:List ByteArray)(ts:List aE)(R:aD):(dL N ts R).length≤R.length:=by unfold dL tV;have h1:=zG ((R.filter fun x=>decide (x.length=ts.length/\oV ts x)).map (iM N ts)) [];have h2:=List.length_filter_le (fun x:List ByteArray=>decide (x.length=ts.length/\oV ts x)) R;rw [List.length_map]at h1;simp only [List.length_nil]at h1;omega
theorem aL0{x:List ByteArray}(h:bI x=true)(i:Nat):(bF x i).size≤4096:=by
 unfold bF;rw [List.getD_eq_getElem?_getD];cases hx:x[i]? with
 |none=>exact Nat.zero_le _
 |some s=>
  have:=List.all_eq_true.1 h s (List.mem_of_getElem? hx);simpa using this
theorem aKa{N:List ByteArray}{ts:List aE}{x:List ByteArray}(h:bI x=true):bI (iM N ts x)=true:=by refine List.all_eq_true.2 fun s hs=>?_;unfold iM at hs;obtain⟨v,_,rfl⟩:=List.mem_map.1 hs;exact decide_eq_true (aL0 h _)
theorem aLb{N:List ByteArray}{ts:List aE}{R:aD}{x:List ByteArray}{n:Nat}(hn:n=(aU N ts).length)(hx:bI x=true)(hR:R.length<65536):aS n (dL N ts R) (iM N ts x)=bN aB (dL N ts R) (iM N ts x):=by
 have h1:(iM N ts x).length=n:=by unfold iM;rw [List.length_map,hn]
 have h2:=uB N ts R;have e:(aM n (dL N ts R) (iM N ts x)).2=0:=by unfold aM;rw [if_neg (by rw [h1];simp),if_neg (by rw [aKa hx];simp),if_neg (by omega)]
 unfold aS;rw [if_pos e]
def wO(ts:List aE)(x:List ByteArray)(i:Nat):Prop:=∀(j:Nat) (t:aE),j<i->ts[j]?=some t->(t.1=3->bF x j=t.2.1)/\(t.1=1->bF x (fK ts t.2.1)=bF x j)
theorem aFo{ts:List aE}{x:List ByteArray}:wO ts x ts.length↔oV ts x:=⟨fun h i t hi=>h i t (List.getElem?_eq_some_iff.1 hi).1 hi,fun h j t _ hi=>h j t hi⟩
theorem aDf(ts:List aE)(x:List ByteArray):wO ts x 0:=fun j t h=>by omega
theorem nM{ts:List aE}{x:List ByteArray}{i:Nat}{t:aE}(h:wO ts x i)(hi:ts[i]?=some t)(h3:t.1=3->bF x i=t.2.1)(h1:t.1=1->bF x (fK ts t.2.1)=bF x i):wO ts x (i+1):=fun j u hj hu=>by
 rcases Nat.lt_or_eq_of_le (Nat.le_of_lt_succ hj)with h2|h2
 ·exact h j u h2 hu
 ·subst h2;rw [hi]at hu;cases hu;exact⟨h3,h1⟩
theorem wS{ts:List aE}{s:ByteArray}(h:ts.any (isV s)=true):dH (isT 1 s) ts=(fK ts s:Nat)/\fK ts s<ts.length:=by
 refine⟨?_,?_⟩
 ·unfold dH fK;rw [show isT 1 s=isV s from rfl,if_pos h]
 ·unfold fK;obtain⟨t,ht,hq⟩:=List.any_eq_true.1 h;exact List.findIdx_lt_length_of_exists ⟨t,ht,hq⟩
def gH(w:World):Nat->Prop:=fun k=>∃o:Obj,w.heap[k]?=some o/\o.isCells=true
theorem RowsAt.tight{S:Nat->Prop}{w:World}{b:Nat}{iv:Value}{arity:Nat}{LL:aD}(h:RowsAt S w b iv arity LL):RowsAt (fun k=>S k/\gH w k) w b iv arity LL:=by
 obtain⟨con,zs,hc,hs,hl⟩:=h;refine⟨con,zs,hc,⟨hs.blk,hs.row,hs.apart,fun k hk=>hs.inS k hk.1,fun k h1 h2=>hs.notS k h1 h2.1,jP hc,fun z hz=>?_,hs.len⟩,hl⟩;obtain⟨ss,h1,h2,h3⟩:=hs.all z hz;refine⟨ss,h1,h2,fun a e hne=>⟨h3 a e hne,?_⟩⟩;have hpos:0<ss.length:=by rw [<-h1.1];omega
 obtain⟨b',o',e',c'⟩:=h1.2 0 (.string ss[0]) (by simp [strs,qG hpos]);rw [e]at e';cases e';unfold World.cell? at c';unfold gH;cases ho:w.heap[b']? with
 |none=>rw [ho]at c';simp at c'
 |some o=>
  refine⟨o,rfl,?_⟩;rw [ho]at c';cases o<;>first|rfl|(simp at c')
theorem RowsAt.cellOwn{S:Nat->Prop}{w:World}{b:Nat}{iv:Value}{arity:Nat}{LL:aD}(h:RowsAt S w b iv arity LL):∀k,eY b iv k->gH w k:=by
 obtain⟨con,zs,hc,hs,hl⟩:=h;intro k hk;rcases hk with rfl|hk
 ·exact⟨_,hs.blk,rfl⟩
 ·obtain⟨cs,hb,_⟩:=hs.row.has hk;exact⟨_,hb,rfl⟩
end
section
open Go.RowKit Go.Shelf
attribute [local go_sem] pU
def zA(vs:List Nat):Int:=match vs.getLast? with|some u=>(u:Int)|none=> -1
structure TableAt(S:Nat->Prop)(w:World)(va:Option Addr)(rb:Nat)(iv:Value)(vs:List Nat)(LL:aD):Prop where
 vars:CellsAt w va (ints (vs.map fun(v:Nat)=>(v:Int)))
 rows:RowsAt S w rb iv vs.length LL
 rise:Strict aB LL
theorem TableAt.ext{S:Nat->Prop}{w w':World}{va:Option Addr}{rb:Nat}{iv:Value}{vs:List Nat}{LL:aD}(h:TableAt S w va rb iv vs LL)(hk:Ext w w'):TableAt S w' va rb iv vs LL:=⟨h.vars.ext hk,h.rows.ext hk,h.rise⟩
def aM8(w0:World)(V:List ByteArray)(vs:List Nat)(n:Nat)(xv iv:Value)(w:World):Prop:=∃i:Nat,i≤n/\iv= .int .i64 i/\Hid (Row w 9 1 xv i (strs ((vs.take i).map (bF V))) (New w0))/\Hid (Ext w0 w)
theorem CellsAt.of_eq{w:World}{ao:Option Addr}{xs ys:List Value}(h:CellsAt w ao xs)(e:xs=ys):CellsAt w ao ys:=e▸h
set_option maxHeartbeats 4000000 in
theorem aFb{S:Nat->Prop}{w:World}{ra va:Option Addr}{cp nv tb n vc rb:Nat}{iv:Value}{V:List ByteArray}{vs:List Nat}{LL:aD}(hT:TableAt S w va rb iv vs LL)(hn:n=vs.length)(hsm:n≤1048576)(hin:∀v∈vs,v<nv)(hV:V.length=nv)(hc:CellsAt w ra (strs V))(hnv:nv≤1048576)
 (t0:w.cell? ⟨tb,0,none⟩=some (.slice va n vc))(t1:w.cell? ⟨tb,1,none⟩=some (.pointer (some ⟨rb,0,none⟩))):
 Calls Tryz.prog 152 (#[.slice ra nv cp]++#[.pointer (some ⟨tb,0,none⟩)]) w (RetN w fun w' v=>v= .bool (!aX aB LL (vs.map (bF V)))):=by
 have HT:=qH hT;have HN:=qH (nIX hn hin);have HV:=qH (nIX hV hc);have HT1:=qH t1;clear hT hn hin hV hc t1;go_enter Tryz.func152,Tryz.ntmps152;go_wp2;go_loopw [4,10] (fun xv iv wr=>aM8 w V vs n xv iv wr) (fun _ iv _=>n- (intOf iv).toNat)
 case atStart=>exact⟨0,Nat.zero_le _,rfl,Row.nil _ _ _ _,Kp.refl w⟩
 case round=>
  obtain⟨i,hi,rfl,hrow,hex⟩:=hrel;obtain⟨xa,xc,exv,hxc,_⟩:=hrow.out.shape;subst exv;by_cases hlt:i<n
  ·obtain⟨v,hv⟩:∃v,vs[i]?=some v:=⟨_,qG (by rw [<-HN.out.1];exact hlt)⟩;have hvn:v<nv:=HN.out.2 v (List.mem_of_getElem? hv);obtain⟨x,hx⟩:∃x,V[v]?=some x:=⟨_,qG (by rw [HV.out.1];exact hvn)⟩;obtain⟨b1,o1,e1,c1⟩:=(HT.out.vars.ext hex.out) i (.int .i64 v) (by unfold ints;rw [List.map_map,List.getElem?_map,hv];rfl);obtain⟨b2,o2,e2,c2⟩:=(HV.out.2.ext hex.out) v (.string x) (by simp [strs,hx]);have HX:=qH (nIX hv (show bF V v=x from bH hx));rw [e1,e2];clear hv hx hxc e1 e2;go_wp2_with (first|(at_builtin;refine Halted.out ?_))
   refine Halted.mk (bQ fF rfl _ _ rfl (hex.out.alloc _) rfl (hrow.out.alloc _) rfl (CellsAt.one wr _ _) rfl (by simp;rfl) (by omega) (by unfold maxLen;omega) ?_);intro v2 w2 hr2 hk2 _ _;obtain⟨la,lcap,elv,_,_⟩:=hr2.shape;subst elv;have HR2:=qH (nIX hr2 hk2);clear hr2 hk2 c1 c2;go_wp2;go_roundw
   case rel=>
    refine⟨i+1,by omega,nMX,qH ?_,qH HR2.out.2⟩;have e:vs.take (i+1)=vs.take i++ [v]:=by rw [List.take_add_one,HX.out.1];rfl
    have h:=HR2.out.1;rw [rG,<-HX.out.2,<-List.map_singleton (f:=bF V),<-List.map_append,<-e]at h;exact h
   case measure=>simp [intOf];omega
  ·obtain rfl:i=n:=by omega
   have hall:vs.take i=vs:=List.take_of_length_le (by rw [<-HN.out.1];exact Nat.le_refl _);have hrow2:=hrow.out;rw [hall]at hrow2;have t1:=hex.out.cell HT1.out id;have hT:=HT.out.ext hex.out;have hlo:∀a,xa=some a->i≠0->w.heap.size≤a.block/\a.block<wr.heap.size:=fun a ha hne=>by obtain⟨g,c,e1,hM⟩:=oG hrow2 (by omega);simp only [Value.slice.injEq]at e1;rw [ha]at e1;cases e1.1;obtain⟨cs,hb⟩:=aQ hrow2 (g:=g) (by rw [ha];rfl);exact⟨hM,hb.lt⟩
   have hlen:((vs.map (bF V)).length:Nat)=i:=by rw [List.length_map];exact HN.out.1.symm
   have hown:∀k,eY rb iv k->k<w.heap.size:=RowsQ.ownLt (z:=False) HT.out.rows.q;have HH:=qH (aHu (z:=False) (x:=(xa,i,xc)) hT.rows.q hT.rise (ss:=vs.map (bF V)) ⟨⟨hlen.symm,hxc.of_eq (by rw [hall])⟩,by rw [hlen];omega,fun a ha hne=>(hlo a ha hne).2⟩ (fun a ha hne ho=>by have h1:=hown _ ho;have h2:=(hlo a ha hne).1;omega));clear hall hrow2 hT hlo hlen hown hxc;go_wp2_with fail
   refine HH.out.mono ?_;rintro e w3 ⟨v,rfl,hk3,rfl,-⟩;have HK:=qH (hex.out.trans (Kp.fq hk3));clear hk3 t1;go_wp2;go_ret;exact RetN.mk HK.out rfl
theorem qJ{S:Nat->Prop}{w w2:World}{va:Option Addr}{nv n vc rb lo g0:Nat}{iv:Value}{vs:List Nat}{LL:aD}{M:Int}{tm:Array Value}(H2:Ext w w2/\Blk w2 g0 [.slice va n vc,.pointer (some ⟨rb,0,none⟩)] 175/\Blk w2 (g0+1) [.int .i64 0,.nilFunc] 180)(hg:w.heap.size=g0)
 (hT:Fast lo w.heap.size w fun W=>TableAt S W va rb iv vs LL)(hn:n=vs.length)(hsm:n≤1048576)(hin:∀v∈vs,v<nv)(hnv:nv≤1048576)(hlo:lo≤w.heap.size)(hM:zA vs=M)(ht:tm[2]?.getD undef= .pointer (some ⟨g0+1,0,none⟩)):
 bodyPost Tryz.prog Tryz.f120 (RetN w fun w' v=>∃t:TestZ,v= .agg #[.int .i64 t.last,t.val]/\t.last=zA vs/\(∀V,t.ask V=!aX aB LL (vs.map (bF V)))/\Fast lo w'.heap.size w' fun W=>TestOk W nv t) .ret
  {tmps:=tm,defers:= []} ((w2.setCell ⟨g0+1,0,none⟩ (.int .i64 M)).setCell ⟨g0+1,1,none⟩ (.func (Fn.func 152) #[] #[.pointer (some ⟨g0,0,none⟩)])):=by
 obtain⟨fv,efv⟩:=nm (Value.func (Fn.func 152) #[] #[.pointer (some ⟨g0,0,none⟩)]);rw [efv];obtain⟨X,eX⟩:=nm ((w2.setCell ⟨g0+1,0,none⟩ (.int .i64 M)).setCell ⟨g0+1,1,none⟩ fv);have hres:Blk X (g0+1) [.int .i64 M,fv] 180:=by rw [<-eX];exact(H2.2.2.set 0 _).set 1 _
 have hkp:Kp (fun k=>k=g0+1) w2 X:=by rw [<-eX];exact kSb
 rw [eX];have u0:=hres.c0;have u1:=hres.c1;have hx:Ext w X:=H2.1.trans' hkp fun i hi e=>by have e':i=g0+1:=e;omega
 have hbox:Blk X g0 [.slice va n vc,.pointer (some ⟨rb,0,none⟩)] 175:=H2.2.1.kp hkp (by omega);refine bodyPost_ret (v:= .agg #[.int .i64 M,fv]) (by simp [results,Tryz.results120,go_sem,ht,u0,u1]) rfl ?_;refine RetN.mk hx ⟨⟨152,#[.pointer (some ⟨g0,0,none⟩)],M,fun V=>!aX aB LL (vs.map (bF V))⟩,by rw [<-efv];rfl,hM.symm,fun V=>rfl,fun W hW=>?_⟩;refine⟨enters_of Tryz.func152 (by kernel_rfl) rfl,fun W2 hW2 ra cp V hV hc=>?_⟩;have hszX:=hx.size;have hlt:=hbox.lt;have hTX:Fast lo w.heap.size X fun W=>TableAt S W va rb iv vs LL:=hT.ext hx;have hTW:=(hTX.mono (Nat.le_refl _) hszX) W hW;have hbW:Blk W g0 [.slice va n vc,.pointer (some ⟨rb,0,none⟩)] 175:=hbox.kp hW fun h=>h ⟨by omega,hlt⟩;exact aFb (hTW.ext hW2) hn hsm hin hV hc hnv (by rw [(hbW.ext hW2).cell'];rfl) (by rw [(hbW.ext hW2).cell'];rfl)
set_option maxHeartbeats 4000000 in
theorem aCu{S:Nat->Prop}{w:World}{va:Option Addr}{nv n vc rb lo:Nat}{iv:Value}{vs:List Nat}{LL:aD}(hT:Fast lo w.heap.size w fun W=>TableAt S W va rb iv vs LL)(hn:n=vs.length)(hsm:n≤1048576)(hin:∀v∈vs,v<nv)(hnv:nv≤1048576)(hlo:lo≤w.heap.size):
 Calls Tryz.prog 120 #[.agg #[.slice va n vc,.pointer (some ⟨rb,0,none⟩)]] w (RetN w fun w' v=>∃t:TestZ,v= .agg #[.int .i64 t.last,t.val]/\t.last=zA vs/\(∀V,t.ask V=!aX aB LL (vs.map (bF V)))/\Fast lo w'.heap.size w' fun W=>TestOk W nv t):=by
 have HT:=qH hT;have HN:=qH (nIX hn (nIX hin hlo));obtain⟨w1,e1⟩:=nm (w.alloc (.cells #[.slice va n vc,.pointer (some ⟨rb,0,none⟩)] 175));obtain⟨g0,eg0⟩:=nm w.heap.size;have B1:=bNX eg0 e1;have x1:Ext w w1:=xAX e1;have s1:w1.heap.size=g0+1:=by rw [<-e1,aI,eg0]
 obtain⟨w2,e2⟩:=nm (w1.alloc (.cells #[.int .i64 0,.nilFunc] 180));have B2:Blk w2 (g0+1) [.int .i64 0,.nilFunc] 180:=by have h:=Blk.new w1 [.int .i64 0,.nilFunc] 180;rw [s1]at h;rw [<-e2];exact h
 have x2:Ext w1 w2:=xAX e2;have H2:=qH (nIX (x1.trans x2) (nIX (B1.ext x2) B2));have c0:=(B1.ext x2).c0;have r0:=B2.c0;have r1:=B2.c1;have rf0:=B2.free 0;have rf1:=B2.free 1;clear hT hn hin hlo B1 x1 B2 x2;by_cases h0:n=0
 ·have hvs:vs= []:=List.eq_nil_of_length_eq_zero (by rw [<-HN.out.1];exact h0);have HV:=qH (show zA vs= -1 from by rw [hvs];rfl);subst h0;clear hvs;go_enter Tryz.func120,Tryz.ntmps120;go_wp2;first
   |(rw [eg0];exact qJ H2.out eg0 HT.out HN.out.1 hsm HN.out.2.1 hnv HN.out.2.2 HV.out rfl)
   |exact qJ H2.out eg0 HT.out HN.out.1 hsm HN.out.2.1 hnv HN.out.2.2 HV.out rfl
 ·obtain⟨m,rfl⟩:∃m,n=m+1:=⟨n-1,by omega⟩;obtain⟨u,hu⟩:∃u,vs[m]?=some u:=⟨_,qG (by have:=HN.out.1;omega)⟩;have HV:=qH (show zA vs=(u:Int)from by
   have e:vs.getLast?=some u:=by rw [List.getLast?_eq_getElem?,<-HN.out.1,Nat.add_sub_cancel];exact hu
   unfold zA;rw [e])
  obtain⟨b1,o1,ev,c1⟩:=(HT.out.here.vars.ext H2.out.1) m (.int .i64 u) (by unfold ints;rw [List.map_map,List.getElem?_map,hu];rfl);subst ev;have hw:=mH (m:=m) (by unfold maxLen;omega);have hz:¬((m:Int)+1)=0:=by omega
  have hp:(0:Int)< (m:Int)+1:=by omega
  clear hu h0;go_enter Tryz.func120,Tryz.ntmps120;go_wp2;first
   |(rw [eg0];exact qJ H2.out eg0 HT.out HN.out.1 hsm HN.out.2.1 hnv HN.out.2.2 HV.out rfl)
   |exact qJ H2.out eg0 HT.out HN.out.1 hsm HN.out.2.1 hnv HN.out.2.2 HV.out rfl
end
section
open Go.RowKit Go.Shelf
attribute [local go_sem] Oper.semAt_some
structure LaidAt(w X:World)(g0:Nat)(pr:ByteArray)(ta:Option Addr)(m cap:Nat)(na:Option Addr)(nn nc:Nat)(vv rp:Value):Prop where
 atom:Blk X g0 [.string pr,.slice ta m cap] 24
 names:Blk X (g0+1) [.slice na nn nc] 34
 res:Blk X (g0+1+1) [.slice none 0 0,.pointer none] 175
 tab:Blk X (g0+1+1+1) [vv,rp] 175
 kp:Ext w X
section
variable {w X Y:World}{g0:Nat}{pr:ByteArray}{ta:Option Addr}{m cap:Nat}{na:Option Addr}{nn nc:Nat}{vv rp:Value}
theorem LaidAt.kpF{F:Nat->Prop}(h:LaidAt w X g0 pr ta m cap na nn nc vv rp)(hk:Kp F X Y)(hF:∀k,F k->g0+1+1+1<k)(hlo:w.heap.size≤g0):LaidAt w Y g0 pr ta m cap na nn nc vv rp:=
 ⟨h.atom.kp hk fun hf=>by have:=hF _ hf;omega,h.names.kp hk fun hf=>by have:=hF _ hf;omega,h.res.kp hk fun hf=>by have:=hF _ hf;omega,h.tab.kp hk fun hf=>by have:=hF _ hf;omega,h.kp.trans' hk fun i hi hf=>by have:=hF _ hf;omega⟩
theorem LaidAt.ext(h:LaidAt w X g0 pr ta m cap na nn nc vv rp)(hk:Ext X Y):LaidAt w Y g0 pr ta m cap na nn nc vv rp:=
 ⟨h.atom.ext hk,h.names.ext hk,h.res.ext hk,h.tab.ext hk,h.kp.trans hk⟩
theorem LaidAt.putV(h:LaidAt w X g0 pr ta m cap na nn nc vv rp)(hlo:w.heap.size≤g0)(v2:Value):LaidAt w (X.setCell ⟨g0+1+1+1,0,none⟩ v2) g0 pr ta m cap na nn nc v2 rp:=
 ⟨h.atom.other (by show g0≠g0+1+1+1;omega) _,h.names.other (by show g0+1≠g0+1+1+1;omega) _,h.res.other (by show g0+1+1≠g0+1+1+1;omega) _,h.tab.set 0 _,h.kp.setCell (p:=⟨g0+1+1+1,0,none⟩) (fun h2=>by have h3:g0+1+1+1<w.heap.size:=h2;omega) _⟩
theorem LaidAt.putR(h:LaidAt w X g0 pr ta m cap na nn nc vv rp)(hlo:w.heap.size≤g0)(r2:Value):LaidAt w (X.setCell ⟨g0+1+1+1,1,none⟩ r2) g0 pr ta m cap na nn nc vv r2:=
 ⟨h.atom.other (by show g0≠g0+1+1+1;omega) _,h.names.other (by show g0+1≠g0+1+1+1;omega) _,h.res.other (by show g0+1+1≠g0+1+1+1;omega) _,h.tab.set 1 _,h.kp.setCell (p:=⟨g0+1+1+1,1,none⟩) (fun h2=>by have h3:g0+1+1+1<w.heap.size:=h2;omega) _⟩
end
theorem jG:cL Tryz.prog 173 3 1 8 (.int .i64 0):=⟨by kernel_rfl,by kernel_rfl,rfl,by decide⟩
def aAx(vs:List Nat):List Value:=ints (vs.map fun(v:Nat)=>(v:Int))
theorem aIa(vs:List Nat)(i:Nat):aAx vs++ [.int .i64 i]=aAx (vs++ [i]):=by unfold aAx ints;simp
def cG:Code->Option Code
 | .rangeFunc _ _ _ c=>some c
 | .seq a b=>match cG a with
  |some c=>some c
  |none=>cG b
 | .block _ c=>cG c
 | .loop c=>cG c
 | .scope c=>cG c
 | .cond _ a b=>match cG a with
  |some c=>some c
  |none=>cG b
 |_=>none
noncomputable def aC3:Code:=((Tryz.f117.body.bind cG).getD .skip)
theorem kY(l:List Value):∀n,l.length=n->l=(List.range n).map fun i=>l.getD i undef:=fun n h=>by subst h;refine List.ext_getElem (by simp) fun i h1 h2=>?_;simp [List.getElem_map,List.getD_eq_getElem?_getD,h1]
theorem aMz(t:Array Value)(h:t.size=122):∃u:Nat->Value,(∀i,t.getD i undef=u i)/\t=#[u 0,u 1,u 2,u 3,u 4,u 5,u 6,u 7,u 8,u 9,u 10,u 11,u 12,u 13,u 14,u 15,u 16,u 17,u 18,u 19,u 20,u 21,u 22,u 23,u 24,u 25,u 26,u 27,u 28,u 29,u 30,u 31,u 32,u 33,u 34,u 35,u 36,u 37,u 38,u 39,u 40,u 41,u 42,u 43,u 44,u 45,u 46,u 47,u 48,u 49,u 50,u 51,u 52,u 53,u 54,u 55,u 56,u 57,u 58,u 59,u 60,u 61,u 62,u 63,u 64,u 65,u 66,u 67,u 68,u 69,u 70,u 71,u 72,u 73,u 74,u 75,u 76,u 77,u 78,u 79,u 80,u 81,u 82,u 83,u 84,u 85,u 86,u 87,u 88,u 89,u 90,u 91,u 92,u 93,u 94,u 95,u 96,u 97,u 98,u 99,u 100,u 101,u 102,u 103,u 104,u 105,u 106,u 107,u 108,u 109,u 110,u 111,u 112,u 113,u 114,u 115,u 116,u 117,u 118,u 119,u 120,u 121]:=by refine⟨fun i=>t.toList.getD i undef,fun i=>by simp [Array.getD_eq_getD_getElem?,List.getD_eq_getElem?_getD],?_⟩;apply Array.ext';have:=kY t.toList 122 (by simpa using h);exact this
def gT(Qn Qr:World->Prop):Exit->Act->World->Prop
 | .normal,_,W=>Qn W
 | .ret,_,W=>Qr W
 |_,_,_=>False
def FitI(X:World)(ts:List aE)(sp:List ByteArray)(m:Nat)(iv:Value)(W:World):Prop:=∃i:Nat,i≤m/\iv= .int .i64 i/\Hid (Ext X W)/\Hid (wO ts sp i)
def OutI(X:World)(P:List ByteArray)(n:Nat)(ov jv:Value)(W:World):Prop:=∃j:Nat,j≤n/\jv= .int .i64 j/\Hid (Ext X W)/\Hid (Row W 9 1 ov j (strs (P.take j)) (New X))
set_option maxHeartbeats 8000000 in
theorem aFf{S:Nat->Prop}{w X:World}{g0 rb l:Nat}{pr:ByteArray}{ta na va ax:Option Addr}{m cap nn nc vc cn mx cx:Nat}{iv:Value}{G:Nat->Prop}{ts:List aE}{N sp:List ByteArray}{R:aD}{t:Array Value}{Qn Qr:World->Prop}
 (hA:LaidAt w X g0 pr ta m cap na nn nc (.slice va cn vc) (.pointer (some ⟨rb,0,none⟩)))(hlo:w.heap.size≤g0)(hm:m=ts.length)(hts:aR w G ta ts)(h64:m≤64)(hn:nn=N.length)(hN:CellsAt w na (strs N))(hnd:N.Nodup)(hn2:nn≤1048576)
 (hcn:cn=(aU N ts).length)(hV:CellsAt X va (aAx (aU N ts)))(hmx:mx=sp.length)(hsp:CellsAt X ax (strs sp))(hsl:bI sp=true)(hRl:R.length<65536)
 (hR:RowsAt S X rb iv cn (dL N ts R))(hz:t.size=122)(t3:t.getD 3 undef= .pointer (some ⟨g0,0,none⟩))(t5:t.getD 5 undef= .pointer (some ⟨g0+1,0,none⟩))(t6:t.getD 6 undef= .pointer (some ⟨g0+1+1,0,none⟩))(t7:t.getD 7 undef= .pointer (some ⟨g0+1+1+1,0,none⟩))(t10:t.getD 10 undef= .slice ax mx cx)
 (hQr:sp.length≠m->∀X',Kp (fun k=>k=g0+1+1) X X'->Blk X' (g0+1+1) [.slice va cn vc,.pointer (some ⟨rb,0,none⟩)] 175->Qr X')
 (hQn:sp.length=m->∀X',Kp (eY rb iv) X X'->(∃S' iv',RowsAt S' X' rb iv' cn (dL N ts (R++ [sp]))/\(∀k,S' k->S k\/X.heap.size≤k)/\∀k,iv'.ownBlock=some k->iv.ownBlock=some k\/X.heap.size≤k)->Qn X'):
 aC3.wpIn (Fence.wide.inRound l) 2 Tryz.prog (gT Qn Qr) {tmps:=t,defers:= []} X:=by
 obtain⟨u,hu,rfl⟩:=aMz t hz;have e3:=(hu 3).symm.trans t3;have e5:=(hu 5).symm.trans t5;have e6:=(hu 6).symm.trans t6;have e7:=(hu 7).symm.trans t7;have e10:=(hu 10).symm.trans t10;rw [e3,e5,e6,e7,e10];clear hz t3 t5 t6 t7 t10 e3 e5 e6 e7 e10 hu;have HQ:=qH (nIX hQr hQn);have HA:=qH (nIX hA hlo);have HT:=qH (nIX hm hts);have HN:=qH (nIX hn (nIX hN hnd));have HV:=qH (nIX hcn hV);have HX:=qH (nIX hsp (nIX hsl hRl));have HR:=qH hR;have HIdx:=qH (fun W (hW:Ext X W) (s:ByteArray)=>nK ts 1 s ta m cap W G hm (hts.ext (hA.kp.trans hW)) (by omega));have a1:=hA.atom.c1;subst hmx;clear hQr hQn hA hlo hm hts hn hN hnd hcn hV hsp hsl hRl hR;conv=>arg 4;whnf
 by_cases hne:sp.length=m
 ·have HE:=qH hne;have HNF:=qH (show ∀Y,Ext X Y->¬oV ts sp->Qn Y from fun Y hY hf=>HQ.out.2 hne Y (hY.mono fun k _ h=>h.elim) ⟨S,iv,by
   rw [aBp,if_neg (fun h=>hf h.2)];exact HR.out.ext hY,fun k h=> .inl h,fun k h=> .inl h⟩)
  subst hne;gi_wp2;gi_loopw [58] (fun iv wr=>FitI X ts sp sp.length iv wr) (fun iv _=>sp.length- (intOf iv).toNat)
  case atStart=>exact⟨0,Nat.zero_le _,rfl,qH (Kp.refl _),qH (aDf _ _)⟩
  case round=>
   obtain⟨i,hi,rfl,hex,hfi⟩:=hrel;generalize hwr:wr=W at*;clear hwr;have a2:=hex.out.cell a1 id;by_cases hlt:i<sp.length
   ·obtain⟨t,ht⟩:∃t,ts[i]?=some t:=⟨_,qG (by rw [<-HT.out.1];exact hlt)⟩;obtain⟨b,off,eao,f0,f1,-,-⟩:=dT (HT.out.2.ext (HA.out.1.kp.trans hex.out)) ht;subst eao;obtain⟨x,hx⟩:∃x,sp[i]?=some x:=⟨_,qG hlt⟩;obtain⟨xb,xo,exa,xc⟩:=(HX.out.1.ext hex.out) i (.string x) (by simp [strs,hx]);subst exa;obtain⟨kt,st,⟨⟩⟩:=t;simp only at f0 f1;have HTt:=qH ht;have HXx:=qH hx;clear ht hx;gi_wp2;obtain⟨bx,ebx⟩:=nm W.heap.size;obtain⟨W1,eW1⟩:=nm (W.alloc (.cells #[.int .i64 kt,.string st] 38));have hBx:=bNX ebx eW1;have hx1:Ext W W1:=xAX eW1;rw [ebx,eW1];have HEx:=qH (hex.out.trans hx1);have HGx:bF sp i=x:=by unfold bF;rw [List.getD_eq_getElem?_getD,HXx.out];rfl
    have HGX:=qH HGx;have hb0:=hBx.c0;have hb1:=hBx.c1;have a3:=hx1.cell a2 id;have xc1:=hx1.cell xc id;clear eW1 ebx hBx hx1 f0 f1 a2 xc hex HGx;by_cases k3:kt=3
    ·subst k3;have HJ:=qH (show ∀w',Ext W1 w'->(fun w':World=>w'.cell? ⟨g0,1,none⟩=some (.slice (some ⟨b,off,none⟩) sp.length cap)/\w'.cell? ⟨bx,0,none⟩=some (.int .i64 3)/\w'.cell? ⟨bx,1,none⟩=some (.string st)/\w'.cell? ⟨xb,xo+i,none⟩=some (.string x)) w' from fun w' hw'=>⟨hw'.cell a3 id,hw'.cell hb0 id,hw'.cell hb1 id,hw'.cell xc1 id⟩);clear hb0 hb1 a3 xc1;by_cases hq:x=st
     ·subst hq;have hb:=str_eq x;refine dZ (fun w':World=>w'.cell? ⟨g0,1,none⟩=some (.slice (some ⟨b,off,none⟩) sp.length cap)/\w'.cell? ⟨bx,0,none⟩=some (.int .i64 3)/\w'.cell? ⟨bx,1,none⟩=some (.string x)/\w'.cell? ⟨xb,xo+i,none⟩=some (.string x)) [] (by kernel_rfl) (HJ.out _ (Kp.refl W1).drew) (fun hHeld=>?_);refine eFX 0 ?_;refine eIX 1 ?_;refine eFX 2 ?_;refine eFX 3 ?_;refine eGX 4 ?_;refine eGX 5 ?_;refine eHX 6 ?_;refine eHX 7 ?_;refine eGX 8 ?_;refine eHX 9 ?_;refine eGX 10 ?_;refine eFX 11 ?_;refine eFX 12 ?_;refine eGX 13 ?_;refine eHX 14 ?_;refine eGX 15 ?_;refine eGX 16 ?_;refine eGX 17 ?_;refine eGX 18 ?_;refine eHX 19 ?_;refine eHX 20 ?_;refine eGX 21 ?_;refine eHX 22 ?_;refine eHX 23 ?_;refine eGX 24 ?_;refine eGX 25 ?_;refine eHX 26 ?_;refine eHX 27 ?_;refine eGX 28 ?_;refine eGX 29 ?_;refine eFX 30 ?_;refine aL (by kernel_rfl) ?_ _;clear hHeld;gi_wp2;go_roundw
      case rel=>exact⟨i+1,by omega,nMX,qH (HEx.out.trans (Kp.refl W1).drew),qH (nM hfi.out HTt.out (fun _=>HGX.out) (fun h=>by cases h))⟩
      case measure=>simp [intOf];omega
     ·have hb:=kO hq;have HQn:=qH hq;clear hq;refine dZ (fun w':World=>w'.cell? ⟨g0,1,none⟩=some (.slice (some ⟨b,off,none⟩) sp.length cap)/\w'.cell? ⟨bx,0,none⟩=some (.int .i64 3)/\w'.cell? ⟨bx,1,none⟩=some (.string st)/\w'.cell? ⟨xb,xo+i,none⟩=some (.string x)) [] (by kernel_rfl) (HJ.out _ (Kp.refl W1).drew) (fun hHeld=>?_);refine eFX 0 ?_;refine eIX 1 ?_;refine eFX 2 ?_;refine eFX 3 ?_;refine eGX 4 ?_;refine eGX 5 ?_;refine eHX 6 ?_;refine eHX 7 ?_;refine eGX 8 ?_;refine eHX 9 ?_;refine eGX 10 ?_;refine eFX 11 ?_;refine eFX 12 ?_;refine eGX 13 ?_;refine eHX 14 ?_;refine eGX 15 ?_;refine eGX 16 ?_;refine eGX 17 ?_;refine eGX 18 ?_;refine eHX 19 ?_;refine eHX 20 ?_;refine eGX 21 ?_;refine eHX 22 ?_;refine eHX 23 ?_;refine eGX 24 ?_;refine eGX 25 ?_;refine eHX 26 ?_;refine eHX 27 ?_;refine eGX 28 ?_;refine eGX 29 ?_;refine eFX 30 ?_;refine aL (by kernel_rfl) ?_ _;clear hHeld;gi_wp2;exact HNF.out _ (HEx.out.trans (Kp.refl W1).drew) fun hf=>HQn.out (HGX.out.symm.trans ((hf i _ HTt.out).1 rfl))
    ·have g3:(kt==3)=false:=by simp [k3]
     have HK3:=qH k3;clear k3;by_cases k1:kt=1
     ·subst k1;have hany:ts.any (isV st)=true:=lI HTt.out (by simp [isV]);obtain⟨hfst,hfl⟩:=wS hany;obtain⟨q,eq⟩:=nm (fK ts st);rw [eq]at hfst hfl;have hql:q<sp.length:=by rw [HT.out.1];exact hfl
      obtain⟨y,hy⟩:∃y,sp[q]?=some y:=⟨_,qG hql⟩;obtain⟨yb,yo,eya,yc⟩:=(HX.out.1.ext HEx.out) q (.string y) (by simp [strs,hy]);cases eya;have HGy:=qH (show bF sp q=y by unfold bF;rw [List.getD_eq_getElem?_getD,hy];rfl);have HI2:=qH (show ∀W2,Ext X W2->Calls Tryz.prog 150 #[.slice (some ⟨b,off,none⟩) sp.length cap,.agg #[.int .i64 1,.string st]] W2 (RetN W2 fun w' v=>v= .int .i64 (q:Nat))from fun W2 hW2=>by have h:=HIdx.out W2 hW2 st;rw [hfst]at h;exact h);have HFq:=qH eq;have hql':(q:Int)< (sp.length:Int):=by omega
      have HJ:=qH (show ∀w',Ext W1 w'->(fun w':World=>w'.cell? ⟨g0,1,none⟩=some (.slice (some ⟨b,off,none⟩) sp.length cap)/\w'.cell? ⟨bx,0,none⟩=some (.int .i64 1)/\w'.cell? ⟨bx,1,none⟩=some (.string st)/\w'.cell? ⟨xb,xo+i,none⟩=some (.string x)/\w'.cell? ⟨xb,xo+q,none⟩=some (.string y)) w' from fun w' hw'=>⟨hw'.cell a3 id,hw'.cell hb0 id,hw'.cell hb1 id,hw'.cell xc1 id,hw'.cell yc id⟩);clear hb0 hb1 a3 xc1 yc hany hfst hfl hy eq;by_cases hq:y=x
      ·have HYq:=qH hq;subst hq;have hb:=str_eq y;refine dZ (fun w':World=>w'.cell? ⟨g0,1,none⟩=some (.slice (some ⟨b,off,none⟩) sp.length cap)/\w'.cell? ⟨bx,0,none⟩=some (.int .i64 1)/\w'.cell? ⟨bx,1,none⟩=some (.string st)/\w'.cell? ⟨xb,xo+i,none⟩=some (.string y)/\w'.cell? ⟨xb,xo+q,none⟩=some (.string y)) [] (by kernel_rfl) (HJ.out _ (Kp.refl W1).drew) (fun hHeld=>?_);refine eFX 0 ?_;refine eIX 1 ?_;refine eFX 2 ?_;refine eFX 3 ?_;refine eGX 4 ?_;refine eGX 5 ?_;refine eHX 6 ?_;refine eHX 7 ?_;refine eGX 8 ?_;refine eHX 9 ?_;refine eGX 10 ?_;refine eFX 11 ?_;refine eFX 12 ?_;refine eGX 13 ?_;refine eHX 14 ?_;refine eGX 15 ?_;refine eGX 16 ?_;refine eGX 17 ?_;refine eGX 18 ?_;refine eHX 19 ?_;refine eHX 20 ?_;refine eGX 24 ?_;refine eGX 25 ?_;refine eHX 26 ?_;refine eHX 27 ?_;refine eTX 21 fun K hK=>?_;go_simp
       (refine(HI2.out _ (HEx.out.trans (Kp.refl W1).drew)).mono ?_;rintro e w2 ⟨v2,rfl,hk2,rfl⟩;have X1:=qH (show Ext W1 w2 from((Kp.refl W1).drew).trans hk2);clear hk2)
       go_wp2_with fail
       refine hK.out _ _ (HJ.out _ X1.out) fun hHeld=>?_;clear hK K;refine eHX 22 ?_;refine eHX 23 ?_;refine eGX 28 ?_;refine eGX 29 ?_;refine eFX 30 ?_;refine aL (by kernel_rfl) ?_ _;clear hHeld;gi_wp2;go_roundw
       case rel=>exact⟨i+1,by omega,nMX,qH (HEx.out.trans X1.out),qH (nM hfi.out HTt.out (fun h=>by cases h) (fun _=>by show bF sp (fK ts st)=_;rw [HFq.out,HGy.out,HGX.out]))⟩
       case measure=>simp [intOf];omega
      ·have hb:=kO hq;have HYq:=qH hq;clear hq;refine dZ (fun w':World=>w'.cell? ⟨g0,1,none⟩=some (.slice (some ⟨b,off,none⟩) sp.length cap)/\w'.cell? ⟨bx,0,none⟩=some (.int .i64 1)/\w'.cell? ⟨bx,1,none⟩=some (.string st)/\w'.cell? ⟨xb,xo+i,none⟩=some (.string x)/\w'.cell? ⟨xb,xo+q,none⟩=some (.string y)) [] (by kernel_rfl) (HJ.out _ (Kp.refl W1).drew) (fun hHeld=>?_);refine eFX 0 ?_;refine eIX 1 ?_;refine eFX 2 ?_;refine eFX 3 ?_;refine eGX 4 ?_;refine eGX 5 ?_;refine eHX 6 ?_;refine eHX 7 ?_;refine eGX 8 ?_;refine eHX 9 ?_;refine eGX 10 ?_;refine eFX 11 ?_;refine eFX 12 ?_;refine eGX 13 ?_;refine eHX 14 ?_;refine eGX 15 ?_;refine eGX 16 ?_;refine eGX 17 ?_;refine eGX 18 ?_;refine eHX 19 ?_;refine eHX 20 ?_;refine eGX 24 ?_;refine eGX 25 ?_;refine eHX 26 ?_;refine eHX 27 ?_;refine eTX 21 fun K hK=>?_;go_simp
       (refine(HI2.out _ (HEx.out.trans (Kp.refl W1).drew)).mono ?_;rintro e w2 ⟨v2,rfl,hk2,rfl⟩;have X1:=qH (show Ext W1 w2 from((Kp.refl W1).drew).trans hk2);clear hk2)
       go_wp2_with fail
       refine hK.out _ _ (HJ.out _ X1.out) fun hHeld=>?_;clear hK K;refine eHX 22 ?_;refine eHX 23 ?_;refine eGX 28 ?_;refine eGX 29 ?_;refine eFX 30 ?_;refine aL (by kernel_rfl) ?_ _;clear hHeld;gi_wp2;exact HNF.out _ (HEx.out.trans X1.out) fun hf=>HYq.out (by have h:=(hf i _ HTt.out).2 rfl;have h2:bF sp (fK ts st)=bF sp i:=h;rw [HFq.out,HGy.out,HGX.out]at h2;exact h2)
     ·have g1:(kt==1)=false:=by simp [k1]
      have HK1:=qH k1;clear k1;have HJ:=qH (show ∀w',Ext W1 w'->(fun w':World=>w'.cell? ⟨g0,1,none⟩=some (.slice (some ⟨b,off,none⟩) sp.length cap)/\w'.cell? ⟨bx,0,none⟩=some (.int .i64 kt)/\w'.cell? ⟨bx,1,none⟩=some (.string st)/\w'.cell? ⟨xb,xo+i,none⟩=some (.string x)) w' from fun w' hw'=>⟨hw'.cell a3 id,hw'.cell hb0 id,hw'.cell hb1 id,hw'.cell xc1 id⟩);clear hb0 hb1 a3 xc1;refine dZ (fun w':World=>w'.cell? ⟨g0,1,none⟩=some (.slice (some ⟨b,off,none⟩) sp.length cap)/\w'.cell? ⟨bx,0,none⟩=some (.int .i64 kt)/\w'.cell? ⟨bx,1,none⟩=some (.string st)/\w'.cell? ⟨xb,xo+i,none⟩=some (.string x)) [] (by kernel_rfl) (HJ.out _ (Kp.refl W1).drew) (fun hHeld=>?_);refine eFX 0 ?_;refine eIX 1 ?_;refine eFX 2 ?_;refine eFX 3 ?_;refine eGX 4 ?_;refine eGX 5 ?_;refine eHX 6 ?_;refine eHX 7 ?_;refine eGX 8 ?_;refine eHX 9 ?_;refine eGX 10 ?_;refine eFX 11 ?_;refine eFX 12 ?_;refine eGX 13 ?_;refine eHX 14 ?_;refine eGX 15 ?_;refine eGX 16 ?_;refine eGX 17 ?_;refine eGX 18 ?_;refine eHX 19 ?_;refine eHX 20 ?_;refine eGX 21 ?_;refine eHX 22 ?_;refine eHX 23 ?_;refine eGX 24 ?_;refine eGX 25 ?_;refine eHX 26 ?_;refine eHX 27 ?_;refine eGX 28 ?_;refine eGX 29 ?_;refine eFX 30 ?_;refine aL (by kernel_rfl) ?_ _;clear hHeld;gi_wp2;go_roundw
      case rel=>exact⟨i+1,by omega,nMX,qH (HEx.out.trans (Kp.refl W1).drew),qH (nM hfi.out HTt.out (fun h=>absurd h HK3.out) (fun h=>absurd h HK1.out))⟩
      case measure=>simp [intOf];omega
   ·obtain rfl:sp.length=i:=by omega
    have HFit:=qH (show oV ts sp from aFo.1 (by rw [<-HT.out.1];exact hfi.out));have HEW:=qH hex.out;have b0:=(HA.out.1.tab.ext hex.out).c0;obtain⟨P,eP⟩:=nm (iM N ts sp);have hPl:P.length=cn:=by rw [<-eP,HV.out.1];unfold iM;rw [List.length_map]
    have HP:=qH (nIX eP hPl);have hcn64:cn≤64:=by have:=nY (ts:=ts) HN.out.2.2;rw [HV.out.1];have:=HT.out.1;omega
    clear eP hPl hex hfi hi hlt a1 a2;gi_wp2;clear b0;gi_loopw [13,98] (fun ov jv wr=>OutI W P cn ov jv wr) (fun _ jv _=>cn- (intOf jv).toNat)
    case atStart=>exact⟨0,Nat.zero_le _,rfl,qH (Kp.refl _),qH (Row.nil _ _ _ _)⟩
    case round=>
     obtain⟨j,hj,rfl,hex,hro⟩:=hrel;obtain⟨oa,oc,eov,hoc,_⟩:=hro.out.shape;subst eov;have HW:=qH (nIX (HEW.out.trans hex.out) hro.out);by_cases hlt:j<cn
     ·obtain⟨v,hv⟩:∃v,(aU N ts)[j]?=some v:=⟨_,qG (by rw [<-HV.out.1];exact hlt)⟩;obtain⟨hvn,hvi⟩:=dQ.1 (List.mem_of_getElem? hv);obtain⟨s,hs⟩:∃s,N[v]?=some s:=⟨_,qG hvn⟩;have hgs:bF N v=s:=by unfold bF;rw [List.getD_eq_getElem?_getD,hs];rfl
      have hany:ts.any (isV s)=true:=by obtain⟨i,t,hi,h1,h2⟩:=hvi;exact lI hi (by unfold isV;exact decide_eq_true ⟨h1,h2.trans hgs⟩)
      obtain⟨hfst,hfl⟩:=wS hany;obtain⟨q,eq⟩:=nm (fK ts s);rw [eq]at hfst hfl;have hql:q<sp.length:=by rw [HT.out.1];exact hfl
      obtain⟨y,hy⟩:∃y,sp[q]?=some y:=⟨_,qG hql⟩;obtain⟨xb,xo,exa,yc⟩:=(HX.out.1.ext HW.out.1) q (.string y) (by simp [strs,hy]);obtain⟨nb,no,ena,sc⟩:=(HN.out.2.1.ext (HA.out.1.kp.trans HW.out.1)) v (.string s) (by simp [strs,hs]);obtain⟨vb,vo,eva,vc1⟩:=(HV.out.2.ext HW.out.1) j (.int .i64 v) (by unfold aAx ints;rw [List.map_map,List.getElem?_map,hv];rfl);subst exa ena eva;have hPj:P[j]?=some y:=by rw [<-HP.out.1];unfold iM;rw [List.getElem?_map,hv];show some (bF sp (fK ts (bF N v)))=some y;rw [hgs,eq];unfold bF;rw [List.getD_eq_getElem?_getD,hy];rfl
      have HPj:=qH (show strs (P.take (j+1))=strs (P.take j)++ [.string y]from by rw [List.take_add_one,hPj];simp [strs]);have HI2:=qH (show ∀W2,Ext X W2->Calls Tryz.prog 150 #[.slice ta sp.length cap,.agg #[.int .i64 1,.string s]] W2 (RetN W2 fun w' v=>v= .int .i64 (q:Nat))from fun W2 hW2=>by have h:=HIdx.out W2 hW2 s;rw [hfst]at h;exact h);have hql':(q:Int)< (sp.length:Int):=by omega
      have hvn':v<nn:=by rw [HN.out.1];exact hvn
      have hvn2:(v:Int)< (nn:Int):=by omega
      have hlt2:(j:Int)< (cn:Int):=by omega
      have a4:=(HA.out.1.atom.ext HW.out.1).c1;have n4:=(HA.out.1.names.ext HW.out.1).c0;have HJ:=qH (show ∀w',Ext wr w'->(fun w':World=>w'.cell? ⟨g0,1,none⟩=some (.slice ta sp.length cap)/\w'.cell? ⟨g0+1,0,none⟩=some (.slice (some ⟨nb,no,none⟩) nn nc)/\w'.cell? ⟨nb,no+v,none⟩=some (.string s)/\w'.cell? ⟨xb,xo+q,none⟩=some (.string y)) w' from fun w' hw'=>⟨hw'.cell a4 id,hw'.cell n4 id,hw'.cell sc id,hw'.cell yc id⟩);clear hvi hgs hany hfst hfl eq hy hv hs hvn hPj a4 n4 sc yc hoc hj;gi_wp2;refine dZ (fun w':World=>w'.cell? ⟨g0,1,none⟩=some (.slice ta sp.length cap)/\w'.cell? ⟨g0+1,0,none⟩=some (.slice (some ⟨nb,no,none⟩) nn nc)/\w'.cell? ⟨nb,no+v,none⟩=some (.string s)/\w'.cell? ⟨xb,xo+q,none⟩=some (.string y)) [13,14] (by kernel_rfl) (HJ.out _ (Kp.refl wr).drew) (fun hHeld=>?_);refine eFX 0 ?_;refine eFX 1 ?_;refine eFX 2 ?_;refine eIX 3 ?_;refine eIX 4 ?_;refine eFX 5 ?_;refine eIX 6 ?_;refine eIX 7 ?_;refine eFX 8 ?_;refine eTX 9 fun K hK=>?_;go_simp
      (refine(HI2.out _ (HW.out.1.trans (Kp.refl wr).drew)).mono ?_;rintro e w2 ⟨v2,rfl,hk2,rfl⟩;have X1:=qH (show Ext wr w2 from((Kp.refl wr).drew).trans hk2);clear hk2)
      go_wp2_with fail
      refine hK.out _ _ (HJ.out _ X1.out) fun hHeld=>?_;clear hK K;refine eIX 10 ?_;refine eIX 11 ?_;refine eTX 12 fun K hK=>?_;go_simp;refine hK.out _ _ (HJ.out _ (X1.out.alloc _)) fun hHeld=>?_;clear hK K;refine eLX 13 fun K hK=>?_;refine jB (m:=1) (n:=j) fF rfl _ _ rfl rfl ((HW.out.2.ext X1.out).alloc _) rfl (CellsAt.one w2 _ _) (by rfl) (by simp;rfl) (by omega) (by unfold maxLen;omega) ?_;intro v4 w4 hr4 hk4;obtain⟨la4,lcap4,elv,_,_⟩:=hr4.shape;subst elv;have X2:=qH (nIX (show Row w4 9 1 (.slice la4 (j+1) lcap4) (j+1) (strs (P.take j)++ [.string y]) (fun g=>(Value.slice oa j oc).ownBlock=some g\/ (w2.alloc (.cells #[.string y] 9)).heap.size≤g)from hr4) (show Kp (fun g=>(Value.slice oa j oc).ownBlock=some g) (w2.alloc (.cells #[.string y] 9)) w4 from hk4));clear hr4 hk4;refine hK.out _ _ ?_;clear hK K;refine eLX 14 fun K hK=>?_;go_simp;refine hK.out _ _ ?_;clear hK K;refine aL (by kernel_rfl) ?_ _;clear hHeld;gi_wp2;go_roundw
      case rel=>exact⟨j+1,by omega,nMX,qH (hex.out.trans' ((Ext.kp (X1.out.alloc _)).trans X2.out.2) fun k hk hf=>by have h2:W.heap.size≤k:=HW.out.2.block k hf;omega),qH (by
       rw [HPj.out];refine X2.out.1.mono fun g hg=>?_;rcases hg with hg|hg
       ·exact HW.out.2.block g hg
       ·exact Nat.le_trans (hex.out.size) (Nat.le_trans ((X1.out.alloc _).size) hg))⟩
      case measure=>simp [intOf];omega
     ·obtain rfl:cn=j:=by omega
      have hPt:P.take cn=P:=List.take_of_length_le (by rw [HP.out.2];exact Nat.le_refl _);have hro2:=hro.out;rw [hPt]at hro2;have hrd:ReadsAs wr (oa,cn,oc) P:=⟨HP.out.2.symm,(Row.readsAs (x:=(oa,cn,oc)) (ss:=P) (by rw [HP.out.2];exact hro2)).1.2⟩;have hAdd:=aHw (z:=False) ((HR.out.ext HW.out.1).q) (uN N ts R) (ao:=oa) (n:=cn) (cap:=oc) (ss:=P) ⟨hrd,by rw [HP.out.2];omega,fun a e _=>by
       subst e;exact hro2.lt a.block rfl⟩ (fun a e _ ho=>by
       have e':oa=some a:=e;subst e';have h1:W.heap.size≤a.block:=hro2.block a.block rfl;have h2:a.block<X.heap.size:=RowsQ.ownLt (z:=False) HR.out.q _ ho;have h3:=HEW.out.size;omega) (by have:=uB N ts R;have:=HX.out.2.2;omega)
      have HAdd:=qH hAdd;have b5:=(HA.out.1.tab.ext HW.out.1).c1;have HRd:=qH hrd;clear hPt hro2 hrd hAdd hoc;gi_wp2;refine nIX trivial ?_;refine(CallsIn.inRound l (callsIn_wide.2 HAdd.out)).mono ?_;rintro e w5 ⟨v5,rfl,hk5,-,S',iv',-,h2,h3,h4⟩;have h3':RowsAt S' w5 rb iv' cn (dL N ts (R++ [sp])):=by
       rw [aBp,if_pos ⟨HT.out.1,HFit.out⟩,<-aLb (n:=cn) HV.out.1 HX.out.2.1 HX.out.2.2,HP.out.1];rcases h3 with h3|h3
       ·exact h3
       ·exact h3.1.elim
      have hszW:=HW.out.1.size;have HFin:=qH (HQ.out.2 trivial w5 ((Ext.kp HW.out.1).trans hk5) ⟨S',iv',h3',fun k hk=>(h2 k hk).imp id (fun h=>Nat.le_trans hszW h),fun k hk=>(h4 k hk).imp id (fun h=>Nat.le_trans hszW h)⟩);clear h3 h3' h2 h4 hk5;gi_wp2;exact HFin.out
 ·have hne':((sp.length:Int)==(m:Int))=false:=by simp;omega
  have b0:=HA.out.1.tab.c0;have b1:=HA.out.1.tab.c1;have r0:=HA.out.1.res.c0;have r1:=HA.out.1.res.c1;have c0:=HA.out.1.res.free 0;have c1:=HA.out.1.res.free 1;gi_wp2;exact HQ.out.1 hne _ (kSb) ((HA.out.1.res.set 0 _).set 1 _)
def LikeI(xs ys:List ByteArray)(w:World)(n:Nat)(iv:Value)(W:World):Prop:=∃k:Nat,k≤n/\iv= .int .i64 k/\Hid (xs.take k=ys.take k)/\Hid (Ext w W)
set_option maxHeartbeats 1000000 in
theorem aFr(xs ys:List ByteArray)(a b:Option Addr)(n c d:Nat)(w:World)(hx:n=xs.length)(hy:n=ys.length)(ha:CellsAt w a (strs xs))(hb:CellsAt w b (strs ys))(hm:n≤1048576):
 Calls Tryz.prog 202 #[.slice a n c,.slice b n d] w (RetN w fun w' v=>v= .bool (decide (xs=ys))):=by
 have HX:=qH hx;have HY:=qH hy;have HA:=qH (nIX ha hb);clear hx hy ha hb;go_enter Tryz.func202,Tryz.ntmps202;go_wp2;go_loopw [13] (fun iv wr=>LikeI xs ys w n iv wr) (fun iv _=>n- (intOf iv).toNat)
 case atStart=>exact⟨0,Nat.zero_le _,rfl,qH (by simp),qH (Kp.refl _)⟩
 case round=>
  obtain⟨k,hk,rfl,H,hex⟩:=hrel;by_cases h1:k<n
  ·obtain⟨x,hx⟩:∃x,xs[k]?=some x:=⟨_,qG (by rw [<-HX.out];exact h1)⟩;obtain⟨y,hy⟩:∃y,ys[k]?=some y:=⟨_,qG (by rw [<-HY.out];exact h1)⟩;obtain⟨b1,o1,e1,c1⟩:=(HA.out.1.ext hex.out) k (.string x) (by simp [strs,hx]);obtain⟨b2,o2,e2,c2⟩:=(HA.out.2.ext hex.out) k (.string y) (by simp [strs,hy]);subst e1 e2;have HK:=qH (nIX hx hy);clear hx hy;by_cases hq:x=y
   ·subst hq;have hs:=str_eq x;go_wp2;go_quiet (fail)
    go_wp2;go_roundw
    case rel=>exact⟨k+1,by omega,nMX,qH (by rw [List.take_add_one,List.take_add_one,HK.out.1,HK.out.2,H.out]),qH (hex.out.drewN _)⟩
    case measure=>simp [intOf];omega
   ·have hs:=kO hq;have HN:=qH (show decide (xs=ys)=false from decide_eq_false fun e=>hq (by have h1:=HK.out.1;rw [e,HK.out.2]at h1;cases h1;rfl));clear hq;go_wp2;go_quiet (fail)
    go_wp2;go_ret;exact RetN.mk (hex.out.drewN _) (by rw [HN.out];rfl)
  ·obtain rfl:n=k:=by omega
   have HN:=qH (show decide (xs=ys)=true from decide_eq_true (by
    have h:=H.out
    rwa [List.take_of_length_le (by rw [<-HX.out];exact Nat.le_refl _),List.take_of_length_le (by rw [<-HY.out];exact Nat.le_refl _)]at h))
   go_wp2;go_ret;exact RetN.mk hex.out (by rw [HN.out];rfl)
theorem aCg(xs ys:List ByteArray)(a b:Option Addr)(c d:Nat)(w:World)(ha:CellsAt w a (strs xs))(hb:CellsAt w b (strs ys))(hx:xs.length≤maxLen)(hy:ys.length≤maxLen):
 Calls Tryz.prog 200 #[.slice a xs.length c,.slice b ys.length d] w (Ret (.int .i64 (aB xs ys)) w):=by
 go_enter Tryz.func200,Tryz.ntmps200;go_wp2_with (go_at_call 160;(with_reducible refine(kE _ _ _ _ _ _ _ ha hb hx hy).mono ?_);rintro e w' ⟨rfl,rfl⟩)
 go_ret;exact Ret.mk rfl
theorem aEw(xs ys:List ByteArray)(a b:Option Addr)(n c d:Nat)(w:World)(hx:n=xs.length)(hy:n=ys.length)(ha:CellsAt w a (strs xs))(hb:CellsAt w b (strs ys))(hm:n≤1048576):
 Calls Tryz.prog 201 #[.slice a n c,.slice b n d] w (RetN w fun w' v=>v= .bool (decide (xs=ys))):=by
 have H:=qH (aFr xs ys a b n c d w hx hy ha hb hm);clear hx hy ha hb;go_enter Tryz.func201,Tryz.ntmps201;go_wp2_with fail
 refine H.out.mono ?_;rintro e w1 ⟨v,rfl,hk,rfl⟩;go_wp2;go_ret;exact RetN.mk hk rfl
theorem aAf{F:Fence}{n:Nat}{P:Program}{ops:Array Oper}{rest:List Oper}{o:Oper}{a:Act}{Q:Exit->Act->World->Prop}{w w':World}(hg:o.guard=none)(s x:Operand){t:TypeId}{v vx v':Value}
 (ho:o.op= .call {callee:= .builtin .append,args:=#[s,x],argTypes:=#[t,t]})(hs:a.eval s=v)(hx:a.eval x=vx)(hrun:(Builtin.append_ #[t,t] o.type #[v,vx]).run P w= .ok v' w')(hK:wpListIn F n P ops Q rest (a.put o.dst v') w'):wpListIn F n P ops Q (o::rest) a w:=by
 refine wpListIn_plain hg fun K hK'=>?_;unfold Oper.wpIn;refine⟨?_,?_⟩
 ·simp [Oper.about,ho,resolve,Target.leads,Sem.run_pure]
 ·rw [Oper.semAt_plain F _ _ (by rw [ho];intro c hc';cases hc')];simp only [execOp,ho,resolve,invoke,builtin,Sem.run_bind,Sem.run_pure,Result.andThen_ok,List.map_toArray,List.map_cons,List.map_nil,hs,hx,hrun];exact hK' _ _ hK
noncomputable def aCh:Code:=((Tryz.f177.body.bind cG).getD .skip)
theorem lit39(t:Array Value)(h:t.size=39):∃u:Nat->Value,(∀i,t.getD i undef=u i)/\t=#[u 0,u 1,u 2,u 3,u 4,u 5,u 6,u 7,u 8,u 9,u 10,u 11,u 12,u 13,u 14,u 15,u 16,u 17,u 18,u 19,u 20,u 21,u 22,u 23,u 24,u 25,u 26,u 27,u 28,u 29,u 30,u 31,u 32,u 33,u 34,u 35,u 36,u 37,u 38]:=by refine⟨fun i=>t.toList.getD i undef,fun i=>by simp [Array.getD_eq_getD_getElem?,List.getD_eq_getElem?_getD],?_⟩;apply Array.ext';have:=kY t.toList 39 (by simpa using h);exact this
def aMm(X:World)(gw:Nat)(sp:List ByteArray)(m:Nat)(iv:Value)(W:World):Prop:=∃i:Nat,i≤m/\iv= .int .i64 i/\Hid (Ext X W)/\Hid (Blk W gw (strs (sp.take i)++List.replicate (m-i) (.string ⟨#[]⟩)) 9)
set_option maxHeartbeats 8000000 in
theorem aEv{α:Type}{f:α->List ByteArray}{pre:List α}{y:α}{w w0 X:World}{ob bb l M:Nat}{oa ax:Option Addr}{m oc mx cx:Nat}{sp:List ByteArray}{t:Array Value}{Qn:World->Prop}
 (hO:Blk X ob [.slice oa m oc] 173)(hord:CellsAt X oa (ints ((List.range m).map fun(v:Nat)=>(v:Int))))(hm64:m≤64)(hmx:mx=sp.length)(hl:sp.length=m)(hsp:CellsAt X ax (strs sp))(hy:f y=sp)(hpl:pre.length≤M/\M≤1048576*1048576)(hG:GotRows f M w0 bb pre X)(hbb:bb<w0.heap.size)
 (hz:t.size=39)(t3:t.getD 3 undef= .pointer (some ⟨ob,0,none⟩))(t5:t.getD 5 undef= .pointer (some ⟨bb,0,none⟩))(t6:t.getD 6 undef= .slice ax mx cx)
 (hQn:∀X',KeepsOthers X X'->Kp (fun g=>g=bb\/w0.heap.size≤g) X X'->Kp (fun g=>g=bb) w0 X'->(∃v,Blk X' bb [v] 69/\OwnRows w0.heap.size X' v ((pre++ [y]).map f))->Qn X'):
 aCh.wpIn (Fence.wide.inRound l) 2 Tryz.prog (gT Qn fun _=>False) {tmps:=t,defers:= []} X:=by
 obtain⟨u,hu,rfl⟩:=lit39 t hz;have e3:=(hu 3).symm.trans t3;have e5:=(hu 5).symm.trans t5;have e6:=(hu 6).symm.trans t6;rw [e3,e5,e6];clear hz t3 t5 t6 e3 e5 e6 hu;obtain⟨-,hk0,v,hBv,hOw⟩:=hG;obtain⟨ao,cap,ev,-⟩:=hOw.shape;subst ev;rw [List.length_map]at hBv hOw;have HQ:=qH hQn;have HO:=qH (nIX hO hord);have HX:=qH (nIX hsp hy);have HG:=qH (nIX hk0 (nIX hBv (nIX hOw (nIX hpl hbb))));have a1:=hO.c0;have a2:∀o,(X.alloc o).cell? ⟨ob,0,none⟩=some (.slice oa m oc):=fun o=>by rw [(hO.alloc o).cell'];rfl
 have b1:=hBv.c0;subst hmx;subst hl;clear hQn hO hord hsp hk0 hBv hOw hpl hbb hy;have hmk:=jT (P:=Tryz.prog) fF (c:= .string ⟨#[]⟩) rfl sp.length (by omega) (by unfold maxLen;omega) X;rw [Nat.mul_one]at hmk;conv=>arg 4;whnf
 gi_wp2;clear hmk;obtain⟨gw,egw⟩:=nm X.heap.size;obtain⟨X1,eX1⟩:=nm (X.alloc (.cells (Array.replicate sp.length (.string ⟨#[]⟩)) 9));have hB1:Blk X1 gw (List.replicate sp.length (.string ⟨#[]⟩)) 9:=by have h:=Blk.new X (List.replicate sp.length (.string ⟨#[]⟩)) 9;rw [List.toArray_replicate,eX1,egw]at h;exact h
 have hx1:Ext X X1:=xAX eX1;rw [egw,eX1];have H1:=qH (nIX hB1 (nIX hx1 egw));clear egw eX1 hB1 hx1 a1 a2;gi_loopw [18] (fun iv wr=>aMm X gw sp sp.length iv wr) (fun iv _=>sp.length- (intOf iv).toNat)
 case atStart=>exact⟨0,Nat.zero_le _,rfl,qH H1.out.2.1,qH (by simpa [strs]using H1.out.1)⟩
 case round=>
  obtain⟨i,hi,rfl,hex,hw⟩:=hrel;by_cases hlt:i<sp.length
  ·obtain⟨x,hx⟩:∃x,sp[i]?=some x:=⟨_,qG hlt⟩;obtain⟨xb,xo,exa,xc⟩:=(HX.out.1.ext hex.out) i (.string x) (by simp [strs,hx]);obtain⟨vb,vo,eva,vc1⟩:=(HO.out.2.ext hex.out) i (.int .i64 i) (by unfold ints;rw [List.map_map,List.getElem?_map,List.getElem?_range hlt];rfl);subst exa eva;have y0:wr.cell? ⟨gw,i,none⟩=some (.string ⟨#[]⟩):=by
    rw [hw.out.cell',List.getElem?_append_right (by rw [dR,List.length_take];omega),dR,List.length_take,Nat.min_eq_left (by omega),Nat.sub_self,List.getElem?_replicate,if_pos (by omega)]
   have yf:=hw.out.free i;have i1:(i:Int)< (sp.length:Int):=by omega
   have HNX:=qH (show aMm X gw sp sp.length (.int .i64 ((i:Int)+1)) (wr.setCell ⟨gw,i,none⟩ (.string x))from by
    refine⟨i+1,by omega,nMX,qH (hex.out.setCell (p:=⟨gw,i,none⟩) (fun h2=>by have h3:gw<X.heap.size:=h2;have:=H1.out.2.2;omega) _),qH ?_⟩;have h5:=hw.out.set i (.string x);have e5:(strs (sp.take i)++List.replicate (sp.length-i) (Value.string ⟨#[]⟩)).set i (.string x)=strs (sp.take (i+1))++List.replicate (sp.length- (i+1)) (.string ⟨#[]⟩):=by rw [List.set_append_right _ _ (by rw [dR,List.length_take];omega),dR,List.length_take,Nat.min_eq_left (by omega),Nat.sub_self,show sp.length-i=(sp.length- (i+1))+1 from by omega,List.replicate_succ,List.set_cons_zero,List.take_add_one,hx];simp [strs]
    rw [e5]at h5;exact h5)
   clear hx hw hex;gi_wp2;go_roundw
   case rel=>exact HNX.out
   case measure=>simp [intOf];omega
  ·obtain rfl:i=sp.length:=by omega
   have hwb:=hw.out;rw [List.take_of_length_le (Nat.le_refl _),Nat.sub_self,List.replicate_zero,List.append_nil]at hwb;have hrow:Row wr 9 1 (.slice (some ⟨gw,0,none⟩) sp.length sp.length) sp.length (strs sp) (New X):=by refine⟨by rw [dR];omega,.inr ⟨gw,sp.length,[],rfl,Nat.le_of_eq H1.out.2.2,by rw [List.append_nil];exact hwb,by rw [List.append_nil,dR];omega,Nat.le_refl _,by unfold maxLen;omega⟩⟩
   obtain⟨g1,g2,g3,g4,g5⟩:=HG.out;obtain⟨ao3,n3,cap3,w3,hrunA,d1,d2,HFIN⟩:=kF (f:=f) (x:=(some ⟨gw,0,none⟩,sp.length,sp.length)) g4 g1 g5 g2 g3 hex.out hrow (by omega);have HFI:=qH (HFIN y HX.out.2);have b2:wr.cell? ⟨bb,0,none⟩=some (.slice ao pre.length cap):=hex.out.cell b1 id;clear HFIN hrow hwb hw hex g1 g2 g3 g4 g5 b1;gi_wp2_with (first|(gi_at_builtin;refine Halted.out ?_))
   refine Halted.mk (aAf rfl _ _ rfl rfl rfl hrunA ?_);clear hrunA;obtain⟨q1,q2,q3,q4⟩:=HFI.out;have HFin:=qH (HQ.out _ q1 q2 q3 q4);clear q1 q2 q3 q4 HFI;gi_wp2;exact HFin.out
end
section
open Go.RowKit Go.Shelf Go.Lib Go.Sort
theorem mP{α:Type} [Inhabited α]{enc:α->Value}{w:World}{blk:Nat}{xs ys:List α}{rest:List Value}{e:TypeId}(hB:Blk w blk (xs.map enc++rest) e)(hl:ys.length=xs.length)(n:Nat)(os:Array Obj):
 Blk (sortWorld enc w blk 0 n ys.toArray os) blk (ys.map enc++rest) e/\Kp (fun k=>k=blk) w (sortWorld enc w blk 0 n ys.toArray os):=by
 have hlt:=hB.lt;have hsz:(putRow enc (Sort.ahead w n) blk 0 ys.toArray).heap.size=w.heap.size:=by simp [putRow,mapBlock,Sort.ahead]
 have hcells:putCells enc 0 ys.toArray (xs.map enc++rest).toArray=(ys.map enc++rest).toArray:=by
  apply Array.ext_getElem?;intro j;unfold putCells;rw [Array.getElem?_mapIdx];simp only [List.getElem?_toArray,Nat.zero_le,true_and,Nat.zero_add,Nat.sub_zero,List.size_toArray];by_cases hj:j<ys.length
  ·have h1:(ys.map enc++rest)[j]?=some (enc ys[j]):=by
    rw [List.getElem?_append_left (by rw [List.length_map];exact hj),List.getElem?_map,qG hj];rfl
   have h2:j< (xs.map enc++rest).length:=by rw [List.length_append,List.length_map];omega
   rw [h1,qG h2,Option.map_some,if_pos hj]
   congr 1
   show enc _=_;rw [getElem!_pos _ j (by simpa using hj)];simp
  ·have h1:(ys.map enc++rest)[j]?=(xs.map enc++rest)[j]?:=by
    rw [List.getElem?_append_right (by rw [List.length_map];omega),List.getElem?_append_right (by rw [List.length_map];omega),List.length_map,List.length_map,hl]
   rw [h1];cases (xs.map enc++rest)[j]? with
   |none=>rfl
   |some u=>simp [hj]
 have hblk:(putRow enc (Sort.ahead w n) blk 0 ys.toArray).heap[blk]?=some (.cells (ys.map enc++rest).toArray e (0,0)):=by unfold Blk at hB;simp only [putRow,mapBlock,Sort.ahead,Array.getElem?_modify,if_pos,hB,Option.map_some,onCells,hcells]
 constructor
 ·unfold Blk sortWorld;rw [heap_grow_old _ _ (by rw [hsz];exact hlt)];exact hblk
 ·refine⟨rfl,rfl,rfl,?_,fun k hk hne=>?_⟩
  ·simp [sortWorld,grow,putRow,mapBlock,Sort.ahead]
  ·unfold sortWorld;rw [heap_grow_old _ _ (by rw [hsz];exact hk)];simp only [putRow,mapBlock,Sort.ahead,Array.getElem?_modify];rw [if_neg (fun e=>hne e.symm)]
theorem aMt{α:Type}{c:α->α->Int}(O:OrdLaw c):SWO (ltOf c) where
 irrefl x:=by unfold ltOf;rw [decide_eq_false_iff_not,O.refl];omega
 trans x y z h1 h2:=by unfold ltOf at*;rw [decide_eq_true_eq]at*;exact O.lt_trans h1 (by omega)
 ntrans x y z h1 h2:=by
  unfold ltOf at*;rw [decide_eq_false_iff_not]at*;have h3:=O.le_of h1;have h4:=O.le_of h2;have h5:=O.trans z y x h4 h3;intro h6;exact O.asymm h6 (by
   rcases Int.lt_or_eq_of_le h5 with h7|h7
   ·exact h7
   ·have:=O.zero h7;omega)
abbrev aGr(p:eI):Value:= .slice p.1.1 p.1.2.1 p.1.2.2
theorem aJ3{lo:Nat}{w:World}{v:Value}{LL:aD}(h:OwnRows lo w v LL)(hst:Strict aB LL)(hlen:∀x∈LL,x.length≤64)(hn:LL.length≤65536):
 Calls Tryz.prog 199 #[v,.func (.func 200) #[] #[]] w fun e w'=>e= .returned (.tuple #[])/\OwnRows lo w' v LL/\Kp (fun k=>v.ownBlock=some k) w w':=by
 obtain⟨ps,rfl,h2,h3,h4⟩:=h;have h2':=h2;obtain⟨q1,⟨ev,en⟩|⟨g,cap,rest,rfl,hg,hb,hbl,hnc,hcm⟩⟩:=h2'
 ·subst ev;refine(AnyF.slices_SortFunc_none Tryz.laysSlF06_f199 none 0 _ w).mono ?_;rintro e w2 ⟨rfl,rfl⟩;exact⟨rfl,⟨ps,rfl,h2,h3,h4⟩,Kp.refl _⟩
 ·by_cases h0:ps.length=0
  ·rw [h0];refine(AnyF.slices_SortFunc_none Tryz.laysSlF06_f199 (some ⟨g,0,none⟩) cap _ w).mono ?_;rintro e w2 ⟨rfl,rfl⟩;rw [h0]at h2;exact⟨rfl,⟨ps,rfl,by rw [h0];exact h2,h3,h4⟩,Kp.refl _⟩
  ·have hpos:0<ps.length:=Nat.pos_of_ne_zero h0
   letI:Inhabited (Fin ps.length):=⟨⟨0,hpos⟩⟩
   obtain⟨enc,eenc⟩:∃enc:Fin ps.length->Value,enc=fun i=>aGr ps[i]:=⟨_,rfl⟩;have hvs:cB ps=(List.finRange ps.length).map enc:=by subst eenc;unfold cB;refine List.ext_getElem (by simp) fun i h1 h2=>?_;simp [aGr]
   have hH:Holds enc w g 0 (List.finRange ps.length).toArray:=fun j hj=>by
    have hj':j<ps.length:=by simpa using hj
    refine⟨?_,hb.free _⟩;rw [hb.cell',Nat.zero_add,List.getElem?_append_left (by unfold cB;rw [List.length_map];exact hj'),hvs,List.getElem?_map,getElem!_pos _ j hj];simp [hj']
   have hcmp:CmpLays1 Tryz.prog 200 #[] enc (fun i j:Fin ps.length=>aB ps[i].2 ps[j].2) g 0 (List.finRange ps.length).toArray.size w:=fun m os dk hs x y=>by
    have hk:Kp (fun k=>k=g) w (sortWorld enc w g 0 m dk os):=by
     have hb':=hb;rw [hvs]at hb';have h:=(mP (ys:=dk.toList) hb' (by rw [Array.length_toList,hs];simp) m os).2
     rwa [Array.toArray_toList]at h
    have hc:∀i:Fin ps.length,ps[i].1.2.1=ps[i].2.length/\CellsAt (sortWorld enc w g 0 m dk os) ps[i].1.1 (strs ps[i].2)/\ps[i].2.length≤maxLen:=fun i=>by
     have hr:=(h3 ps[i] (List.getElem_mem _)).1;have hr':=Row.kp' hr hk fun g' hg' _ e=>by obtain⟨cs,hb2⟩:=aQ hr hg';have e':g'=g:=e;rw [e']at hb2;exact absurd (aP hb2 hb) (by decide)
     have hl:=hlen ps[i].2 (List.mem_map.2 ⟨ps[i],List.getElem_mem _,rfl⟩);exact⟨(Row.readsAs hr).1.1,(Row.readsAs hr').1.2,by unfold maxLen;omega⟩
    have h:=aCg ps[x].2 ps[y].2 ps[x].1.1 ps[y].1.1 ps[x].1.2.2 ps[y].1.2.2 (sortWorld enc w g 0 m dk os) (hc x).2.1 (hc y).2.1 (hc x).2.2 (hc y).2.2;have ex:∀i:Fin ps.length,enc i= .slice ps[i].1.1 ps[i].2.length ps[i].1.2.2:=fun i=>by rw [eenc,<- (hc i).1]
    show Calls _ _ #[enc x,enc y] _ _;rw [ex x,ex y];refine h.mono ?_;rintro e w' ⟨rfl,rfl⟩;exact⟨rfl,0,#[],by rw [grow_empty];rfl⟩
   have hO:OrdLaw (fun i j:Fin ps.length=>aB ps[i].2 ps[j].2):=OrdLaw.idx dU fun i:Fin ps.length=>ps[i].2;have hlt:∀i j:Fin ps.length,i<j->aB ps[i].2 ps[j].2<0:=fun i j hij=>by have h:=List.pairwise_iff_getElem.1 hst i.1 j.1 (by rw [List.length_map];exact i.2) (by rw [List.length_map];exact j.2) hij;simpa using h
   have hT:∀x y:Fin ps.length,(ltOf fun i j:Fin ps.length=>aB ps[i].2 ps[j].2) x y=false->(ltOf fun i j:Fin ps.length=>aB ps[i].2 ps[j].2) y x=false->x=y:=fun x y h1 h2=>by
    unfold ltOf at h1 h2;rw [decide_eq_false_iff_not]at h1 h2;rcases Nat.lt_trichotomy x.1 y.1 with h|h|h
    ·exact absurd (hlt x y h) h1
    ·exact Fin.ext h
    ·exact absurd (hlt y x h) h2
   have hsorted:((List.finRange ps.length).toArray.toList.mergeSort fun x y=>!(ltOf fun i j:Fin ps.length=>aB ps[i].2 ps[j].2) y x)=List.finRange ps.length:=by show(List.finRange ps.length).mergeSort _=_;refine List.mergeSort_of_pairwise ?_;rw [List.pairwise_iff_getElem];intro i j hi hj hij;simp only [List.getElem_finRange];unfold ltOf;have hh:=hlt (Fin.cast (by simp) ⟨i,hi⟩) (Fin.cast (by simp) ⟨j,hj⟩) hij;have:=hO.asymm hh;simpa using this
   have hcall:=Any.slices_SortFunc_total Tryz.laysSlF6_f199 enc (fun i=>by rw [eenc];rfl) (fun i j:Fin ps.length=>aB ps[i].2 ps[j].2) (aMt hO) 200 #[] g 0 cap (List.finRange ps.length).toArray w (enters_of Tryz.func200 (by kernel_rfl) rfl) hcmp hH hb.lt (by rw [List.size_toArray,List.length_finRange];rw [List.length_map]at hn;omega) hT;rw [List.size_toArray,List.length_finRange]at hcall;refine hcall.mono ?_;rintro e w2 ⟨rfl,n2,os,rfl⟩;rw [hsorted];have hb':=hb;rw [hvs]at hb';obtain⟨r1,r2⟩:=mP (ys:=List.finRange ps.length) hb' rfl n2 os;rw [<-hvs]at r1;refine⟨rfl,⟨ps,rfl,⟨q1,.inr ⟨g,cap,rest,rfl,hg,r1,hbl,hnc,hcm⟩⟩,fun p hp=>⟨?_,(h3 p hp).2⟩,h4⟩,r2.mono fun k _ e=>by have e':k=g:=e;rw [e'];rfl⟩;refine Row.kp' (h3 p hp).1 r2 fun g' hg' _ e=>?_;obtain⟨cs,hb2⟩:=aQ (h3 p hp).1 hg';have e':g'=g:=e;rw [e']at hb2;exact absurd (aP hb2 hb) (by decide)
end
section
open Go.RowKit Go.Shelf
attribute [local go_sem] Oper.semAt_some
def RowsZ(lo rb cn:Nat)(L:aD)(W:World):Prop:=∃(S:Nat->Prop) (iv:Value),RowsAt S W rb iv cn L/\(∀k,S k->lo≤k/\gH W k)/\∀k,iv.ownBlock=some k->lo≤k
theorem RowsZ.kp{F:Nat->Prop}{lo rb cn:Nat}{L:aD}{W W':World}(h:RowsZ lo rb cn L W)(hk:Kp F W W')(hF:∀k,F k->¬gH W k\/ (k<lo/\k≠rb)):RowsZ lo rb cn L W':=by
 obtain⟨S,iv,h1,h2,h3⟩:=h;have noS:∀k,F k->¬S k:=fun k hf hs=>by
  rcases hF k hf with h|h
  ·exact h (h2 k hs).2
  ·have:=(h2 k hs).1;omega
 refine⟨S,iv,h1.move hk (fun k hf ho=>?_) noS (fun k h=>h) (fun k h=>Nat.lt_of_lt_of_le (h1.inS k h) hk.size) h1.notS,fun k hs=>⟨(h2 k hs).1,?_⟩,h3⟩
 ·rcases hF k hf with h|h
  ·exact h (h1.cellOwn k ho)
  ·rcases ho with ho|ho
   ·exact h.2 ho
   ·have:=h3 k ho;omega
 ·obtain⟨o,ho,hc⟩:=(h2 k hs).2;exact⟨o,(hk.block k (lt_of_block ho) fun hf=>noS k hf hs).trans ho,hc⟩
theorem RowsZ.fast{lo lo' rb cn vc:Nat}{va:Option Addr}{vs:List Nat}{L:aD}{w':World}(h:RowsZ lo' rb cn L w')(hcn:cn=vs.length)(hV:Row w' 3 1 (.slice va cn vc) cn (aAx vs) (fun k=>lo≤k))(hlo:lo≤lo')(hrb:lo≤rb)(hL:Strict aB L):
 ∃iv S,Fast lo w'.heap.size w' fun W=>TableAt S W va rb iv vs L:=by
 obtain⟨S,iv,h1,h2,h3⟩:=h;refine⟨iv,S,fun W hW=>⟨?_,?_,hL⟩⟩
 ·have h4:=hV.kp' hW fun g hg hM hF=>hF ⟨hM,hV.lt g hg⟩;obtain⟨ao,cap,e,hc,_⟩:=h4.shape;cases e;exact hc
 ·subst hcn;refine h1.move hW (fun k hf ho=>hf ⟨?_,?_⟩) (fun k hf hs=>hf ⟨by have:=(h2 k hs).1;omega,h1.inS k hs⟩) (fun k h=>h) (fun k h=>Nat.lt_of_lt_of_le (h1.inS k h) hW.size) h1.notS
  ·rcases ho with ho|ho
   ·omega
   ·have:=h3 k ho;omega
  ·exact RowsQ.ownLt (z:=False) h1.q _ ho
abbrev rowOf(p:eI):Value:= .slice p.1.1 p.1.2.1 p.1.2.2
def gP{ps:List eI}(pre:List {p:eI//p∈ps}):aD:=pre.map fun x=>x.1.2
def LaidI(w9:World)(rb cn:Nat)(N:List ByteArray)(ts:List aE)(ps:List eI)(pre:List {p:eI//p∈ps})(W:World):Prop:=
 Kp (fun k=>k=rb) w9 W/\RowsZ w9.heap.size rb cn (dL N ts (gP pre)) W
def LaidX(w9:World)(rb cn rs:Nat)(a b:Value)(c:Code)(W:World):Prop:=
 c= .ret/\Kp (fun k=>k=rb\/k=rs) w9 W/\Blk W rs [a,b] 175/\RowsZ w9.heap.size rb cn [] W
theorem wL{W W':World}{row:Option Nat}(hg:W.grownBy W' row):Kp (fun k=>row=some k) W W':=(Kp.refl W).grown hg (fun k e _=>e)
theorem LaidI.own{w9:World}{rb cn:Nat}{N:List ByteArray}{ts:List aE}{ps:List eI}(hrb:rb<w9.heap.size):OwnFrom w9.heap.size (LaidI w9 rb cn N ts ps):=fun pre W W' row hs hg hr=>by obtain⟨h1,h2⟩:=hs;refine⟨h1.grown hg fun k e hk=>by have:=(hr k e).1;omega,h2.kp (wL hg) fun k e=> .inl ?_⟩;rintro⟨o,ho,hc⟩;obtain⟨o',ho',hc'⟩:=(hr k e).2;rw [ho']at ho;cases ho;rw [hc']at hc;cases hc
theorem LaidX.own{α:Type}{w9:World}{rb cn rs:Nat}{a b:Value}{c:Code}(hrb:rb<w9.heap.size)(hrs:rs<w9.heap.size):OwnFrom w9.heap.size (fun(_:List α) W=>LaidX w9 rb cn rs a b c W):=fun pre W W' row hs hg hr=>by obtain⟨h0,h1,h3,h2⟩:=hs;refine⟨h0,h1.grown hg fun k e hk=>by have:=(hr k e).1;omega,h3.kp (wL hg) fun e=>by have:=(hr _ e).1;omega,h2.kp (wL hg) fun k e=> .inl ?_⟩;rintro⟨o,ho,hc⟩;obtain⟨o',ho',hc'⟩:=(hr k e).2;rw [ho']at ho;cases ho;rw [hc']at hc;cases hc
theorem aKo{w W:World}{P:World->Value->Prop}{tmps:Array Value}{ds:List Deferred}{lo g:Nat}{a b:Value}(hm:Marks lo W ds)(hk:Ext w W)(hlo:w.heap.size≤lo)(ht:tmps.getD 6 undef= .pointer (some ⟨g,0,none⟩))(hB:Blk W g [a,b] 175)
 (hP:∀w',Ext w w'->Kp (fun k=>lo≤k/\¬gH W k) W w'->P w' (.agg #[a,b])):
 bodyPostM Fence.wide 4 Tryz.prog Tryz.f117 (RetN w P) .ret {tmps:=tmps,defers:=ds} W:=by
 refine fD hm fun w' e1 e2 e3 e4 e5 e6=>?_;have kx:Kp (fun k=>lo≤k/\¬gH W k) W w':=⟨e1,e2,e3,by omega,fun k hk hf=>by
  by_cases h:lo≤k
  ·by_cases h2:∃o:Obj,W.heap[k]?=some o/\o.isCells=true
   ·obtain⟨o,h2,h3⟩:=h2;rw [h2];exact e6 k o h2 h3
   ·exact absurd ⟨h,h2⟩ hf
  ·exact e5 k (by omega)⟩
 have hx:Ext w w':=hk.trans' kx fun i hi h=>absurd h.1 (by omega);refine⟨.agg #[a,b],?_,RetN.mk hx (hP w' hx kx)⟩;have hB2:Blk w' g [a,b] 175:=hB.kp kx fun h=>h.2 ⟨_,hB,rfl⟩;have c0:=hB2.c0;have c1:=hB2.c1;have ht':tmps[6]?.getD undef= .pointer (some ⟨g,0,none⟩):=by simpa using ht
 simp [results,Tryz.f117,go_sem,ht',c0,c1]
def VarsR(w:World)(g0:Nat)(pr:ByteArray)(ta:Option Addr)(m cap:Nat)(na:Option Addr)(nn nc:Nat)(N:List ByteArray)(ts:List aE)(iv:Value)(X:World):Prop:=
 ∃(i:Nat) (vv:Value),i≤nn/\iv= .int .i64 i/\Hid (LaidAt w X g0 pr ta m cap na nn nc vv (.pointer none))/\Hid (Row X 3 1 vv (fJ N ts i).length (aAx (fJ N ts i)) (New w))
set_option maxHeartbeats 8000000 in
theorem aC2{S:Nat->Prop}{w:World}{bv:Value}{E:List Ent}{pr:ByteArray}{ta na:Option Addr}{m cap nn nc:Nat}{G:Nat->Prop}{ts:List aE}{N:List ByteArray}(hB:BaseV S w bv E)(hm:m=ts.length)(hts:aR w G ta ts)(h64:m≤64)(hn:nn=N.length)(hN:CellsAt w na (strs N))(hnd:N.Nodup)(hn2:nn≤1048576):
 Calls Tryz.prog 117 #[.agg #[.string pr,.slice ta m cap],bv,.slice na nn nc] w (RetN w fun w' v=>∃va vc rb iv S',v= .agg #[.slice va (aU N ts).length vc,.pointer (some ⟨rb,0,none⟩)]/\Fast w.heap.size w'.heap.size w' fun W=>TableAt S' W va rb iv (aU N ts) (dL N ts (gR (bS E pr)))):=by
 obtain⟨o,eo⟩:=nm (bS E pr);have hok:=hB.ok;have hopt:=hB.opt pr;have HEach:=qH (fun W (hW:Ext w W)=>aA8 (hB.ext hW) pr);rw [eo]at hopt HEach ⊢;have hrows:∃ar,(∀r∈gR o,r.length=ar/\bI r=true)/\(gR o).length≤65536/\Strict aB (gR o):=by
  cases o with
  |none=>exact⟨0,fun r hr=>(by simp [gR]at hr),Nat.zero_le _,List.Pairwise.nil⟩
  |some e=>
   have hc:=hok.all _ (List.mem_map.2 ⟨e,(cJ eo).1,rfl⟩);exact⟨e.ar,fun r hr=>⟨hc.len r hr,hc.txt r hr⟩,hc.few,hc.strict⟩
 have HRows:=qH hrows;have HCon:=qH (fun W (hW:Ext w W) (s:ByteArray)=>xD ts 1 s ta m cap W G hm (hts.ext hW) (by omega));have HIdx:=qH (fun W (hW:Ext w W) (s:ByteArray)=>nK ts 1 s ta m cap W G hm (hts.ext hW) (by omega));have HT:=qH (nIX hm hts);have HN:=qH (nIX hn (nIX hN hnd));have HF:=qH (nY (ts:=ts) hnd);obtain⟨g0,eg0⟩:=nm w.heap.size;obtain⟨w1,e1⟩:=nm (w.alloc (.cells #[.string pr,.slice ta m cap] 24));obtain⟨w2,e2⟩:=nm (w1.alloc (.cells #[.slice na nn nc] 34));obtain⟨w3,e3⟩:=nm (w2.alloc (.cells #[.slice none 0 0,.pointer none] 175));obtain⟨w4,e4⟩:=nm (w3.alloc (.cells #[.slice none 0 0,.pointer none] 175));have s1:w1.heap.size=g0+1:=by rw [<-e1,aI,eg0]
 have s2:w2.heap.size=g0+1+1:=by rw [<-e2,aI,s1]
 have s3:w3.heap.size=g0+1+1+1:=by rw [<-e3,aI,s2]
 have x1:Ext w w1:=xAX e1;have x2:Ext w1 w2:=xAX e2;have x3:Ext w2 w3:=xAX e3;have x4:Ext w3 w4:=xAX e4;have hA:=qH (show LaidAt w w4 g0 pr ta m cap na nn nc (.slice none 0 0) (.pointer none)from
  ⟨Blk.ext (by have h:=Blk.new w [.string pr,.slice ta m cap] 24;rw [eg0]at h;rw [<-e1];exact h) (x2.trans (x3.trans x4)),
   Blk.ext (by have h:=Blk.new w1 [.slice na nn nc] 34;rw [s1]at h;rw [<-e2];exact h) (x3.trans x4),
   Blk.ext (by have h:=Blk.new w2 [.slice none 0 0,.pointer none] 175;rw [s2]at h;rw [<-e3];exact h) x4,
   by have h:=Blk.new w3 [.slice none 0 0,.pointer none] 175;rw [s3]at h;rw [<-e4];exact h,x1.trans (x2.trans (x3.trans x4))⟩)
 have HG:=qH eg0;have n0:=hA.out.names.c0;clear x1 x2 x3 x4 hB hts hm hN hn hnd hrows hok hopt eo;refine callsIn_wide.1 (callsIn_of_wp_marks (n:=4) Tryz.func117 rfl trivial ?_ rfl);refine wpIn_wide.2 ?_;obtain⟨Q,eQ⟩:∃Q,Q=bodyPostM Fence.wide 4 Tryz.prog Tryz.f117 (RetN w fun w' v=>∃va vc rb iv S',v= .agg #[.slice va (aU N ts).length vc,.pointer (some ⟨rb,0,none⟩)]/\Fast w.heap.size w'.heap.size w' fun W=>TableAt S' W va rb iv (aU N ts) (dL N ts (gR o))):=⟨_,rfl⟩;rw [<-eQ];have EQ:=qH eQ;clear eQ;simp only [Tryz.ntmps117,List.size_toArray,List.length_cons,List.length_nil,Nat.reduceAdd,Nat.reduceSub,Array.replicate_succ,Array.replicate_zero,List.push_toArray,List.append_toArray,List.nil_append,List.cons_append];go_wp2
 go_step3
 go_wp2;clear e1 e2 e3 e4 s1 s2 s3;go_loopw [18] (fun iv wr=>VarsR w g0 pr ta m cap na nn nc N ts iv wr) (fun iv _=>nn- (intOf iv).toNat)
 case atStart=>exact⟨0,.slice none 0 0,Nat.zero_le _,rfl,hA,qH (Row.nil _ _ _ _)⟩
 case round=>
  obtain⟨i,vv,hi,rfl,hLa,hRo⟩:=hrel;obtain⟨va,vc,evv,hvc,_⟩:=hRo.out.shape;subst evv;by_cases hlt:i<nn
  ·obtain⟨s,hs⟩:∃s,N[i]?=some s:=⟨_,qG (by rw [<-HN.out.1];exact hlt)⟩;obtain⟨b,off,ena,c0⟩:=(HN.out.2.1.ext hLa.out.kp) i (.string s) (by simp [strs,hs]);have a1:=hLa.out.atom.c1;have HS:=qH hs;have hsz:=aEa N ts i;subst ena;clear hs hvc;go_wp2_with fail
   refine(HCon.out wr hLa.out.kp s).mono ?_;rintro e w5 ⟨v,rfl,hk5,rfl⟩;have hL5:=qH (nIX (hLa.out.ext hk5) (hRo.out.ext hk5));clear hk5 c0 a1;obtain⟨q,eq⟩:=nm (ts.any (isV s));have hq:ts.any (isT 1 s)=q:=eq;have HQ:=qH (show fJ N ts (i+1)=if q=true then fJ N ts i++ [i]else fJ N ts i from by rw [aBj HS.out,eq]);rw [hq];clear hq eq;cases q
   ·go_wp2;go_roundw
    case rel=>exact⟨i+1,_,by omega,nMX,qH hL5.out.1,qH (by rw [HQ.out,if_neg (by simp)];exact hL5.out.2)⟩
    case measure=>simp [intOf];omega
   ·obtain⟨cn,ecn⟩:=nm ((fJ N ts i).length);rw [ecn]at hL5 hsz;have t0:=hL5.out.1.tab.c0;go_wp2_with (first|(at_builtin;refine Halted.out ?_))
    refine Halted.mk (bQ jG rfl _ _ rfl (hL5.out.1.kp.alloc _) rfl (hL5.out.2.alloc _) rfl (CellsAt.one w5 _ _) rfl (by simp;rfl) (by omega) (by unfold maxLen;omega) ?_);intro v6 w6 hr6 hk6 hk6b _;obtain⟨la,lcap,elv,_,_⟩:=hr6.shape;subst elv;have hnb:∀(g:Nat) cs e,e≠3->Blk w5 g cs e->Blk w6 g cs e:=fun g cs e he hb=>(hb.alloc _).kp hk6b fun hg=>by obtain⟨cs',hb'⟩:=aQ hL5.out.2 hg;exact he (aP hb hb')
    have hL6:=qH (show LaidAt w w6 g0 pr ta m cap _ nn nc (.slice va cn vc) (.pointer none)from
     ⟨hnb _ _ _ (by decide) hL5.out.1.atom,hnb _ _ _ (by decide) hL5.out.1.names,hnb _ _ _ (by decide) hL5.out.1.res,hnb _ _ _ (by decide) hL5.out.1.tab,hk6⟩)
    have t1:=hL6.out.tab.c0;have tf:=hL6.out.tab.free 0;obtain⟨w7,ew7⟩:=nm (w6.setCell ⟨g0+1+1+1,0,none⟩ (.slice la (cn+1) lcap));have hL7:=qH (show LaidAt w w7 g0 pr ta m cap _ nn nc (.slice la (cn+1) lcap) (.pointer none)from by rw [<-ew7];exact hL6.out.putV (by rw [HG.out];exact Nat.le_refl _) _);have hR7:=qH (show Row w7 3 1 (.slice la (cn+1) lcap) (fJ N ts (i+1)).length (aAx (fJ N ts (i+1))) (New w)from by rw [HQ.out,if_pos (by first|rfl|trivial),List.length_append,List.length_singleton,ecn,<-aIa,<-ew7];refine hr6.kp' (kSa) fun g hg _ e=>?_;obtain⟨cs,hb⟩:=aQ hr6 hg;rw [e]at hb;exact absurd (aP hb hL6.out.tab) (by decide));clear hr6 hk6 hk6b t0 hnb;go_wp2;go_roundw
    case rel=>exact⟨i+1,_,by omega,nMX,hL7,hR7⟩
    case measure=>simp [intOf];omega
  ·obtain rfl:nn=i:=by omega
   have hvl:(fJ N ts nn).length=(aU N ts).length:=by rw [HN.out.1];rfl
   have hR0:=hRo.out;rw [show fJ N ts nn=aU N ts from by rw [HN.out.1];rfl]at hR0;obtain⟨cn,ecn⟩:=nm ((aU N ts).length);rw [hvl,ecn]at hLa;rw [ecn]at hR0;have HV:=qH hR0;have HL:=hLa;have HCn:=qH ecn;have hcn64:cn≤64:=by rw [<-ecn];exact Nat.le_trans HF.out (by rw [<-HT.out.1];exact h64)
   have HNR:=qH (nB (fun _=>False) wr cn hcn64 (fun k h=>h.elim));have v0:=HL.out.tab.c0;clear hRo hLa hR0 hvl hvc ecn hi hlt;go_wp2_with fail
   refine HNR.out.mono ?_;rintro e w5 ⟨v5,rfl,hk5,rfl,hr5⟩;obtain⟨rb,erb⟩:=nm wr.heap.size;rw [erb]at hr5 ⊢;have HL5:=qH (HL.out.ext hk5);have v1:=HL5.out.tab.c1;have vf:=HL5.out.tab.free 1;have hgr:g0+1+1+1<rb:=by rw [<-erb];exact HL.out.tab.lt
   obtain⟨w6,e6⟩:=nm (w5.setCell ⟨g0+1+1+1,1,none⟩ (.pointer (some ⟨rb,0,none⟩)));have k56:Kp (fun k=>k=g0+1+1+1) w5 w6:=by rw [<-e6];exact kSa
   have HL6:=qH (show LaidAt w w6 g0 pr ta m cap na nn nc (.slice va cn vc) (.pointer (some ⟨rb,0,none⟩))from by rw [<-e6];exact HL5.out.putR (by rw [HG.out];exact Nat.le_refl _) _);have HV6:=qH (show Row w6 3 1 (.slice va cn vc) cn (aAx (aU N ts)) (New w)from(HV.out.ext hk5).kp' k56 fun g hg _ e=>by obtain⟨cs,hb⟩:=aQ (HV.out.ext hk5) hg;rw [e]at hb;exact absurd (aP hb HL5.out.tab) (by decide));have HR6:=qH (show RowsAt (fun _=>False) w6 rb (.slice none 0 0) cn []from hr5.move k56 (fun k hf ho=>by
    rcases ho with ho|ho
    ·rw [hf]at ho;omega
    ·cases ho) (fun k _ h=>h) (fun k h=>h) (fun k h=>h.elim) (fun k _ h=>h))
   have HRB:=qH (show w.heap.size≤rb/\rb<w6.heap.size from⟨by rw [<-erb];exact HL.out.kp.size,HR6.out.cellOwn rb (.inl rfl)|>.elim fun o h=>lt_of_block h.1⟩);have HRG:=qH hgr;clear hr5 hk5 erb v0 HNR k56;go_wp2_with fail
   clear e6 v1 vf;have p0:=HL6.out.atom.c0
   go_step3
   go_wp2_with fail
   refine(HEach.out w6 HL6.out.kp).mono ?_;rintro e w9 ⟨ve,rfl,hk9,Bs,ivx,rfl,hBs,hBB,hownx,hln⟩;obtain⟨LL,eLL⟩:=nm (gR o);rw [eLL]at hownx hln HRows EQ;obtain⟨ln,eln⟩:=nm LL.length;obtain⟨aox,capx,ev,_⟩:=hownx.shape;rw [eln]at ev;subst ev;obtain⟨ps2,hL2,x2,x3,x4⟩:=hownx;have hp2:ps2.length=ln:=by rw [<-eln,hL2];simp
   rw [hp2]at x2;have hBsw:=hBB.lt;obtain⟨SB,eSB⟩:∃SB:Nat->Prop,SB=fun g=>g=Bs\/ (Value.slice aox ln capx).ownBlock=some g:=⟨_,rfl⟩;have hSlt:∀g,SB g->w6.heap.size≤g/\g<w9.heap.size:=fun g hg=>by
    rw [eSB]at hg;rcases hg with rfl|hg
    ·exact⟨hBs,hBsw⟩
    ·exact⟨x2.block g hg,x2.lt g hg⟩
   have hseq:SeqStopsK Fence.wide 3 Tryz.prog 171 #[.pointer (some ⟨Bs,0,none⟩)] (fun x:{p:eI//p∈ps2}=>#[.slice x.1.1.1 x.1.1.2.1 x.1.1.2.2]) (SameOn SB) (fun ys=>ys=ps2.attach) (fun pre=>pre<+:ps2.attach) ps2.attach.length w9:=by
    have hSBs:SB Bs:=by rw [eSB];exact .inl rfl
    have hSBa:∀a,aox=some a->SB a.block:=fun a e=>by rw [eSB];subst e;exact .inr rfl
    have hc0:=hBB.c0;have hcs:CellsAt w9 aox (ps2.attach.map fun x=>rowOf x.1):=by
     obtain⟨ao,cap,e,hc,_⟩:=x2.shape;simp only [Value.slice.injEq]at e;obtain⟨rfl,_,_⟩:=e;have e:(ps2.attach.map fun x:{p:eI//p∈ps2}=>rowOf x.1)=cB ps2:=by
      have h:(ps2.attach.map fun x:{p:eI//p∈ps2}=>rowOf x.1)=(ps2.attach.map Subtype.val).map rowOf:=by rw [List.map_map];rfl
      rw [h,List.attach_map_subtype_val];rfl
     rw [e];exact hc
    have hln':ln≤1048576*1048576:=by rw [<-eln];exact hln
    exact fun l J Jx W hW _ _ hY h0=>jI (fun x:{p:eI//p∈ps2}=> .slice x.1.1.1 x.1.1.2.1 x.1.1.2.2) Fence.wide 3 trivial rfl (by omega) SB l Bs aox ln capx ps2.attach (by rw [List.length_attach];exact hp2.symm) hln' J Jx hY W hSBs hSBa ((Kp.of_below hW).cell hc0 id) (hcs.ext (Kp.of_below hW)) h0
   have HQ:=qH hseq;have HX:=qH (nIX x3 (nIX hSlt (nIX hL2 (nIX hp2 eln))));have hgr6:g0+1+1+1<w6.heap.size:=HL6.out.tab.lt;have hsz9:=hk9.size;have HL9:=qH (HL6.out.ext hk9);have HV9:=qH (HV6.out.ext hk9);have HR9:=qH (HR6.out.ext hk9);have HI0:=qH (show LaidI w9 rb cn N ts ps2 [] w9 from⟨Kp.refl _,fun _=>False,_,(show dL N ts (gP ([]:List {p:eI//p∈ps2}))= []from aLq N ts)▸HR6.out.ext hk9,fun k h=>h.elim,fun k h=>by cases h⟩);have hrb9:rb<w9.heap.size:=Nat.lt_of_lt_of_le HRB.out.2 hsz9;have HEND:=qH (show ∀(tmps:Array Value) (ds:List Deferred) (W:World),Marks w9.heap.size W ds->Kp (fun k=>k=rb\/k=g0+1+1) w9 W->Blk W (g0+1+1) [.slice va cn vc,.pointer (some ⟨rb,0,none⟩)] 175->RowsZ w9.heap.size rb cn (dL N ts LL) W->tmps.getD 6 undef= .pointer (some ⟨g0+1+1,0,none⟩)->Q .ret {tmps:=tmps,defers:=ds} W from fun tmps ds W hm hk hb hz ht=>by
    have hlo:w.heap.size≤g0:=by rw [HG.out];exact Nat.le_refl _
    have hws:w.heap.size≤w9.heap.size:=HL9.out.kp.size;have hx:Ext w W:=HL9.out.kp.trans' hk fun i hi h=>by
     rcases h with h|h
     ·have:=HRB.out.1;omega
     ·omega
    have hv:=HV9.out.kp' hk fun g hg _ e=>by
     obtain⟨cs,hb2⟩:=aQ HV9.out hg;rcases e with e|e
     ·rw [e]at hb2;obtain⟨con,zs,hcon,hs,hl⟩:=HR9.out;exact absurd (aP hb2 hs.blk) (by decide)
     ·rw [e]at hb2;exact absurd (aP hb2 HL9.out.res) (by decide)
    rw [EQ.out];refine aKo hm hx hws ht hb fun w' hx' kx=>?_;obtain⟨iv,S',hf⟩:=RowsZ.fast (lo:=w.heap.size) (w':=w') (vs:=aU N ts) (hz.kp kx fun k hf=> .inl hf.2) HCn.out.symm (hv.kp' kx fun g hg _ hf=>by obtain⟨cs,hb2⟩:=aQ hv hg;exact hf.2 ⟨_,hb2,rfl⟩) hws HRB.out.1 (uN N ts LL);exact⟨va,vc,rb,iv,S',by rw [HCn.out],hf⟩)
   clear hseq x3 x4 hSlt hL2 hp2 eSB hBB hk9 hln hBsw hBs eln x2 p0;go_wp2_with fail
   refine' wpIn_wide.1 (wpIn_rangeFunc_ownG (F:=Fence.wide) (n:=4) (w0:=w9) rfl (by omega) (gf:=171) (lb:=#[.pointer (some ⟨Bs,0,none⟩)]) rfl trivial (enters_of Tryz.func171 (by kernel_rfl) rfl)
    HQ.out SameOn.trans (SameOn.put fun k h=>(HX.out.2.1 k h).2) (Below.refl _ _) (fun _=>rfl) (LaidI w9 rb cn N ts ps2) (fun c _ W=>(∀r∈LL,r.length≠m)/\LaidX w9 rb cn (g0+1+1) (.slice va cn vc) (.pointer (some ⟨rb,0,none⟩)) c W) (LaidI.own hrb9)
    (fun c pre W W' row h hg hr=>⟨h.1,LaidX.own (α:={p:eI//p∈ps2}) hrb9 (by omega) pre W W' row h.2 hg hr⟩)
    HI0.out _ ?assign ?body ?done ?stop)
   case assign=>
    intro l x W K hK;gi_wp2;exact hK
   case body=>
    rintro l pre ⟨⟨⟨ax,mx,cx⟩,sp⟩,hp⟩ X hI hlen;rw [List.length_attach]at hlen;obtain⟨hkX,Sx,iv,r1,r2,r3⟩:=hI;have hrow:=(HX.out.1 _ hp).1;have hmem:sp∈LL:=by rw [HX.out.2.2.1];exact List.mem_map.2 ⟨_,hp,rfl⟩
    have hrX:=Row.kp' hrow hkX fun g hg hM e=>by have h:g=rb:=e;have hM':w6.heap.size≤g:=hM;have:=HRB.out.2;omega
    obtain⟨ar,hall,hfew,hst⟩:=HRows.out;obtain⟨hlr,htx⟩:=hall sp hmem;have hsX:=hkX.size;have hVX:=HV9.out.kp' hkX fun g hg _ e=>by obtain⟨cs,hb⟩:=aQ HV9.out hg;have e':g=rb:=e;rw [e']at hb;obtain⟨con,zs,hcon,hs,hl⟩:=HR9.out;exact absurd (aP hb hs.blk) (by decide)
    have hlo:w.heap.size≤g0:=by rw [HG.out];exact Nat.le_refl _
    have hrbw:=HRG.out;have hLX:=HL9.out.kpF hkX (fun k e=>by rw [show k=rb from e];exact hrbw) hlo;have hsn:gP (pre++ [⟨((ax,mx,cx),sp),hp⟩])=gP pre++ [sp]:=by unfold gP;rw [List.map_append];rfl
    have hlx:(gP pre).length<65536:=by unfold gP;rw [List.length_map];have h1:=HX.out.2.2.1;rw [h1,List.length_map]at hfew;omega
    refine wpIn_mono (Q:=gT (fun X'=>KeepsFrom w9.heap.size X X'/\SameOn SB X X'/\LaidI w9 rb cn N ts ps2 (pre++ [⟨((ax,mx,cx),sp),hp⟩]) X') (fun X'=>KeepsFrom w9.heap.size X X'/\(∀r∈LL,r.length≠m)/\LaidX w9 rb cn (g0+1+1) (.slice va cn vc) (.pointer (some ⟨rb,0,none⟩)) .ret X')) ?_ ?_
    ·show Code.wpIn _ _ _ aC3 _ _ _;refine aFf (S:=Sx) (iv:=iv) (R:=gP pre) (sp:=sp) (ax:=ax) (mx:=mx) (cx:=cx) hLX hlo HT.out.1 HT.out.2 h64 HN.out.1 HN.out.2.1 HN.out.2.2 hn2 HCn.out.symm (by obtain⟨ao,cap,e,hc,_⟩:=hVX.shape;cases e;exact hc) (Row.readsAs hrow).1.1 (Row.readsAs hrX).1.2 htx hlx r1 rfl rfl rfl rfl rfl rfl ?_ ?_
     ·intro hne X' hk' hb';have hno:∀r∈LL,r.length≠m:=fun r hr=>by rw [(hall r hr).1,<-hlr];exact hne
      refine⟨⟨hk'.size,fun k o hB hk _=>(hk'.block k (lt_of_block hk) fun f=>by have f':k=g0+1+1:=f;omega).trans hk⟩,hno,rfl,?_,hb',?_⟩
      ·exact(hkX.mono fun k _ h=>Or.inl h).trans (hk'.mono fun k _ h=>Or.inr h)
      ·have h0:dL N ts (gP pre)= []:=aBq fun x hx=>by
        obtain⟨y,_,rfl⟩:=List.mem_map.1 hx;rw [<-HT.out.1];exact hno _ (by rw [HX.out.2.2.1];exact List.mem_map.2 ⟨y.1,y.2,rfl⟩)
       rw [h0]at r1;exact RowsZ.kp ⟨Sx,iv,r1,r2,r3⟩ hk' fun k e=> .inr ⟨by have e':k=g0+1+1:=e;omega,by have e':k=g0+1+1:=e;omega⟩
     ·rintro hne X' hk' ⟨S',iv',q1,q2,q3⟩;refine⟨⟨hk'.size,fun k o hB hk ho=>(hk'.block k (lt_of_block hk) fun f=>?_).trans hk⟩,SameOn.of_kp hk' (fun k hk=>by have:=(HX.out.2.1 k hk).2;omega) (fun k hk hf=>?_),hkX.trans' hk' fun k hk hf=>?_,fun k=>S' k/\gH X' k,iv',?_,fun k hk=>⟨?_,hk.2⟩,fun k hk=>?_⟩
      ·obtain⟨o',h1,h2⟩:=r1.cellOwn k f;rw [hk]at h1;cases h1;rw [ho]at h2;cases h2
      ·have h1:=HX.out.2.1 k hk;rcases hf with hf|hf
       ·have:=HRB.out.2;omega
       ·have:=r3 k hf;omega
      ·rcases hf with hf|hf
       ·exact hf
       ·have:=r3 k hf;omega
      ·rw [hsn];exact q1.tight
      ·rcases q2 k hk.1 with h|h
       ·exact(r2 k h).1
       ·omega
      ·rcases q3 k hk with h|h
       ·exact r3 k h
       ·omega
    ·intro e a W h;cases e<;>first|exact h|exact h.elim
   case done=>
    rintro D1 ys X2 hD hys hI hd;have hys':=hys.symm;subst hys';clear hys;have hro:gP ps2.attach=LL:=by
     rw [HX.out.2.2.1];unfold gP;have h1:ps2.attach.map (fun x=>x.1.2)=(ps2.attach.map Subtype.val).map Prod.snd:=by rw [List.map_map];rfl
     rw [h1,List.attach_map_subtype_val]
    obtain⟨hkX,hRZ⟩:=hI;rw [hro]at hRZ;have hm1:Marks w9.heap.size X2 [{target:= .collected D1,args:=#[]}]:=Marks.push (Marks.nil w9.heap.size w9) (fun k o h ho=>(hkX.block k (lt_of_block h) (fun e=>by have e':k=rb:=e;obtain⟨o',h1,h2⟩:=HR9.out.cellOwn rb (.inl rfl);rw [e',h1]at h;cases h;rw [h2]at ho;cases ho)).trans h) hD hD hd;have hlo:w.heap.size≤g0:=by rw [HG.out];exact Nat.le_refl _
    have hLX:=HL9.out.kpF hkX (fun k e=>by rw [show k=rb from e];exact HRG.out) hlo;have v0:=hLX.tab.c0;have v1:=hLX.tab.c1;have r0:=hLX.res.c0;have r1:=hLX.res.c1;have f0:=hLX.res.free 0;have f1:=hLX.res.free 1;have HZ:=qH (nIX hkX (nIX hRZ (nIX hm1 hLX)));clear hkX hRZ hm1 hLX hd hD hro;go_wp2_with fail
    obtain⟨hkX,hRZ,hm1,hLX⟩:=HZ.out;have k23:Kp (fun k=>k=g0+1+1) X2 ((X2.setCell ⟨g0+1+1,0,none⟩ (.slice va cn vc)).setCell ⟨g0+1+1,1,none⟩ (.pointer (some ⟨rb,0,none⟩))):=
     kSb
    have hg6:=hgr6;refine HEND.out _ _ _ (hm1.kp k23 fun k hf=>by have e:k=g0+1+1:=hf;omega) ((hkX.mono fun k _ h=>Or.inl h).trans (k23.mono fun k _ h=>Or.inr h)) ((hLX.res.set 0 _).set 1 _) (hRZ.kp k23 fun k hf=> .inr ?_) rfl;have e:k=g0+1+1:=hf;have:=HRG.out;omega
   case stop=>
    rintro D c pre W hD _ ⟨hall,rfl,hX⟩ hd;have hm1:Marks w9.heap.size W [{target:= .collected D,args:=#[]}]:=Marks.push (Marks.nil w9.heap.size w9) (fun k o h ho=>(hX.1.block k (lt_of_block h) (fun e=>by
     rcases e with e|e
     ·obtain⟨o',h1,h2⟩:=HR9.out.cellOwn rb (.inl rfl);rw [e,h1]at h;cases h;rw [h2]at ho;cases ho
     ·have hb:=HL9.out.res;unfold Blk at hb;rw [e,hb]at h;cases h;cases ho)).trans h) hD hD hd
    have hz:=hX.2.2;rw [<-aBq (N:=N) (ts:=ts) (R:=LL) fun r hr=>by rw [<-HT.out.1];exact hall r hr]at hz;have HZ:=qH (nIX hm1 (nIX hX.1 (nIX hX.2.1 hz)));clear hm1 hX hz hd hD;refine wpIn_wide.2 ?_;go_wp2_with fail
    exact HEND.out _ _ _ HZ.out.1 HZ.out.2.1 HZ.out.2.2.1 HZ.out.2.2.2 rfl
end
end Go.Proofs.YtinnmeiphbdogaaGreat
