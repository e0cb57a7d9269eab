/- Texts joined for a claim (CopyK, JoinV, JoinC, Ref14, Ref14b, Ref14c, DrawIn, Make, Shelf, JLawA, NoPanic, RuleFit, SwapRow, InsRow, SymLRow, SymRow, SymGRow, SortRow, BinRow, CompactRow, GenRow, SetRow, NewRow, InsertRow, DeleteRow, SetOpsRow, SetCopyRow, SetPickRow, SetMeetRow, SetAtRow, IterRow, IterVRow, BinStr, IndexStr, GenStr). -/
import Derived.Test.YtinnmeiphbdogaaGreatJv1
import Derived.Laws.CopyRow
import Derived.Laws.MakeOwn
import Derived.Ground.NamesProg
import Derived.Shelf.Bits.Mul64
import Derived.Shelf.SlGeneric
import Derived.Ground.SlsfProg
import Derived.Shelf.SlSortCmp.NoneTotal
import Derived.Test.YtinnmeiphbdogaaGreatProg
import Derived.BigRegion
import Derived.StillTailTactics
import Derived.Deep.QuietTactic
import Derived.BigQuiet
import Derived.Deep.DeepCutAuto
import Derived.Deep.RegionWith
import Derived.Deep.RegionHeld3
set_option linter.unusedVariables false
set_option linter.unusedSimpArgs false
set_option maxRecDepth 100000
namespace Go.Proofs.YtinnmeiphbdogaaGreat
section
open Go.RowKit
section
variable {P:Program}{w:World}{t e:TypeId}{k bytes:Nat}{z:Value}
theorem aHt(E:cL P t e k bytes z){g off dLen dCap:Nat}{cur:List Value}{e':TypeId}(hB:Blk w g cur e'){dp sp:Option Addr}{sLen sCap:Nat}
 {cs:List Value}(hl:cs.length=Nat.min sLen dLen*k)(hdp:0<cs.length->dp=some ⟨g,off,none⟩)(hsrc:CellsAt w sp cs)(hfit:off+cs.length≤cur.length)(h1:∀u∈cs,u.oneCell'=true):
 ∃w',(∀ty,(Builtin.copy_ #[t,t] ty #[.slice dp dLen dCap,.slice sp sLen sCap]).run P w= .ok (goInt (Nat.min sLen dLen)) w')/\Kp (fun q=>q=g) w w'/\Blk w' g (splice cur off cs) e':=by
 obtain⟨ht,hi,hz,hk⟩:=E;obtain⟨i,hi,hz1,hz2,hz3⟩:=info_parts hi;by_cases h0:Nat.min sLen dLen=0
 ·have hc:cs.length=0:=by rw [hl,h0,Nat.zero_mul]
  obtain rfl:cs= []:=List.eq_nil_of_length_eq_zero hc;refine⟨w,fun ty=>?_,Kp.refl w,hB.congrL (by simp [splice])⟩;cases dp<;>cases sp<;>simp [Builtin.copy_,run_underlying ht,sizeOf,typeInfo,hi,Builtin.lenOf,Builtin.firstCells,loadCells,loadCellsFrom,storeCells,h0]
 ·have hp:0<cs.length:=by rw [hl];exact Nat.mul_pos (by omega) hk
  have hdp:=hdp hp;subst hdp;obtain⟨b,off',rfl,hlt⟩:=hsrc.off (by rintro rfl;simp at hp);have hb:=jZ (cs:=cur.take off++(cs++cur.drop (off+cs.length))) hB;have hlc:=run_loadCells_list (P:=P) w ⟨b,off',none⟩ cs (fun j v hj=>by obtain⟨b',o',he,hc⟩:=hsrc j v hj;cases he;rw [Addr.add_lit];exact hc);have hst:=run_storeCells_at P g off e' cs 0 cur.toArray w hB (by simpa using hfit) h1;rw [hl]at hlc;refine⟨_,fun ty=>?_,lC g _,by simpa [splice]using hb⟩;simp [Builtin.copy_,run_underlying ht,Builtin.lenOf,Builtin.firstCells,sizeOf,typeInfo,hi,hz2,hlc,hst]
theorem aJt(E:cL P t e k bytes z){ops:Array Oper}{rest:List Oper}{o:Oper}{a:Act}{Q:Exit->Act->World->Prop}(hgd:o.guard=none)(d s:Operand)
 (ho:o.op= .call {callee:= .builtin .copy,args:=#[d,s],argTypes:=#[t,t]})
 {g off dLen dCap:Nat}{cur:List Value}{e':TypeId}(hB:Blk w g cur e'){dp:Option Addr}(hd:a.eval d= .slice dp dLen dCap){sp:Option Addr}{sLen sCap:Nat}(hs:a.eval s= .slice sp sLen sCap)
 {cs:List Value}(hl:cs.length=Nat.min sLen dLen*k)(hdp:0<cs.length->dp=some ⟨g,off,none⟩)(hsrc:CellsAt w sp cs)(hfit:off+cs.length≤cur.length)(h1:∀u∈cs,u.oneCell'=true)
 (h:∀w',Kp (fun q=>q=g) w w'->Blk w' g (splice cur off cs) e'->wpList P ops Q rest (a.put o.dst (goInt (Nat.min sLen dLen))) w'):wpList P ops Q (o::rest) a w:=by
 obtain⟨w',hr,hk,hb⟩:=aHt E hB hl hdp hsrc hfit h1 (dCap:=dCap) (sCap:=sCap);refine wpList_plain hgd fun K hK=>?_;unfold Oper.wp execOp;simp only [ho,resolve,invoke,builtin,Sem.run_bind,Sem.run_pure,Result.andThen_ok,List.map_toArray,List.map_cons,List.map_nil,hd,hs,hr];exact hK _ _ (h w' hk hb)
theorem aEh{A B rest:List Value}{c0 c1:Value}:((splice (A++B++([c0,c1]++rest)) (A.length+2) B).set A.length c0).set (A.length+1) c1=A++ [c0,c1]++B++rest:=by
 obtain⟨x0,x1,r,e⟩:∃x0 x1 r,B++([c0,c1]++rest)=x0::x1::r:=by
  cases B with
  |nil=>exact⟨_,_,_,rfl⟩
  |cons b B=>cases B with
   |nil=>exact⟨_,_,_,rfl⟩
   |cons b' B=>exact⟨_,_,_,rfl⟩
 have hd:(A++B++([c0,c1]++rest)).drop (A.length+2+B.length)=rest:=by rw [show A.length+2+B.length=(A++B++ [c0,c1]).length by simp;omega,<-List.append_assoc,List.drop_left]
 have ht:(A++B++([c0,c1]++rest)).take (A.length+2)=A++ [x0,x1]:=by rw [List.append_assoc,e,List.take_length_add_append];rfl
 unfold splice;rw [hd,ht];simp [List.set_append,List.append_assoc]
end
theorem zR:cL Tryz.prog 34 9 1 16 (.string ⟨#[]⟩):=⟨by kernel_rfl,by kernel_rfl,rfl,by decide⟩
theorem aD2(a:List ByteArray)(t:aE):(bE a t).length≤a.length+1/\a.length≤(bE a t).length:=by unfold bE;split<;>simp
theorem pI:∀(ts:List aE) (a:List ByteArray),(bZ a ts).length≤a.length+ts.length
 | [],a=>by simp [bZ]
 |t::ts,a=>by have:=pI ts (bE a t);have:=(aD2 a t).1;unfold bZ at*;rw [List.foldl_cons];simp only [List.length_cons];omega
theorem aE9(a:List ByteArray)(l:aJ):(bK a l).length≤a.length+(aA l).length:=by
 unfold bK;split
 ·exact pI _ _
 ·omega
theorem vT(M:Nat):∀(ls:List aJ) (a:List ByteArray),(∀l∈ls,(aA l).length≤M)->(ls.foldl bK a).length≤a.length+ls.length*M
 | [],a,_=>by simp
 |l::ls,a,h=>by have h1:=vT M ls (bK a l) fun x hx=>h x (List.mem_cons_of_mem _ hx);have h2:=aE9 a l;have h3:=h l List.mem_cons_self;rw [List.foldl_cons,List.length_cons,Nat.succ_mul];omega
theorem lW{M:Nat}{ls:List aJ}(h:∀l∈ls,(aA l).length≤M):(aC ls).length≤ls.length*M:=by have:=vT M ls [] h;unfold aC;simpa using this
def cM(a:List ByteArray)(l:aJ)(c:Nat):List ByteArray:=if l.1=1 then bZ a ((aA l).take c)else a
theorem qD(a:List ByteArray)(l:aJ):cM a l 0=a:=by unfold cM;split<;>rfl
theorem sQ(a:List ByteArray)(l:aJ){c:Nat}(h:(aA l).length≤c):cM a l c=bK a l:=by unfold cM bK;rw [List.take_of_length_le h]
theorem qE(a:List ByteArray){l:aJ}{c:Nat}{t:aE}(h:(aA l)[c]?=some t):cM a l (c+1)=if l.1=1/\t.1=1/\gJ (cM a l c) t.2.1=false then cM a l c++ [t.2.1]else cM a l c:=by
 unfold cM;by_cases h1:l.1=1
 ·simp only [h1,true_and];unfold bZ;rw [oI _ _ h];rfl
 ·simp only [h1,false_and,if_false]
theorem sP(a:List ByteArray)(l:aJ)(c:Nat):(cM a l c).length≤a.length+c:=by
 unfold cM;split
 ·have:=pI ((aA l).take c) a;rw [List.length_take]at this;omega
 ·omega
theorem Row.old{w:World}{e:TypeId}{k:Nat}{v:Value}{n:Nat}{xs:List Value}{M:Nat->Prop}(h:Row w e k v n xs M):Row w e k v n xs (fun g=>M g/\g<w.heap.size):=by
 obtain⟨h1,h2|⟨g,cap,rest,a,b,c,d⟩⟩:=h
 ·exact⟨h1,.inl h2⟩
 ·exact⟨h1,.inr ⟨g,cap,rest,a,⟨b,c.lt⟩,c,d⟩⟩
theorem Row.beside{w w':World}{e:TypeId}{k:Nat}{v:Value}{n:Nat}{xs:List Value}{M:Nat->Prop}(h:Row w e k v n xs M)(hx:Ext w w'):Row w' e k v n xs (fun g=>M g/\g≠w.heap.size):=
 (h.old.ext hx).mono fun g hg=>⟨hg.1,by omega⟩
theorem rG(ss:List ByteArray)(s:ByteArray):strs ss++ [.string s]=strs (ss++ [s]):=by simp [strs]
structure Fit(ls:List aJ):Prop where
 len:ls.length≤1048576
 terms:∀l∈ls,(aA l).length≤1048576
def aHc(w0:World)(ls:List aJ)(n:Nat)(iv ov:Value)(w:World):Prop:=∃i:Nat,i≤n/\iv= .int .i64 i/\Hid (Row w 9 1 ov (aC (ls.take i)).length (strs (aC (ls.take i))) (New w0))/\Hid (Ext w0 w)
def aM5(w0:World)(a:List ByteArray)(l:aJ)(g:Nat)(cs:List Value)(m:Nat)(iv ov:Value)(w:World):Prop:=∃i:Nat,i≤m/\iv= .int .i64 i/\Hid (Row w 9 1 ov (cM a l i).length (strs (cM a l i)) (fun k=>New w0 k/\k≠g))/\Hid (Ext w0 w)/\Hid (Blk w g cs 40)
def OwnSl(w0 w:World)(v:Value)(ss:List ByteArray):Prop:=∃a cap,v= .slice a ss.length cap/\(a=none/\ss= []/\cap=0\/∃g rest,a=some ⟨g,0,none⟩/\Blk w g (strs ss++rest) 9/\ss.length≤cap/\cap≤(strs ss++rest).length/\cap≤maxLen/\w0.heap.size≤g)
theorem OwnSl.ext{w0 w w':World}{v:Value}{ss:List ByteArray}(h:OwnSl w0 w v ss)(hk:Ext w w'):OwnSl w0 w' v ss:=by
 obtain⟨a,cap,e,h|⟨g,rest,h1,h2,h3⟩⟩:=h
 ·exact⟨a,cap,e,.inl h⟩
 ·exact⟨a,cap,e,.inr ⟨g,rest,h1,h2.ext hk,h3⟩⟩
theorem Row.own'{w0 w:World}{v:Value}{ss:List ByteArray}(h:Row w 9 1 v ss.length (strs ss) (New w0)):OwnSl w0 w v ss:=by
 obtain⟨h1,⟨e,h0⟩|⟨g,cap,rest,e,hM,hB,hl,hc,hm⟩⟩:=h
 ·exact⟨none,0,by rw [e,h0],.inl ⟨rfl,List.eq_nil_of_length_eq_zero h0,rfl⟩⟩
 ·exact⟨_,cap,e,.inr ⟨g,rest,rfl,hB,hc,by omega,hm,hM⟩⟩
theorem OwnSl.clip{w0 w:World}{a:Option Addr}{n cap:Nat}{ss:List ByteArray}(h:OwnSl w0 w (.slice a n cap) ss):OwnSl w0 w (.slice a n n) ss:=by
 obtain⟨a',cap',e,h|⟨g,rest,h1,h2,h3,h4,h5,h6⟩⟩:=h
 ·cases e;obtain⟨rfl,rfl,rfl⟩:=h;exact⟨none,0,rfl,.inl ⟨rfl,rfl,rfl⟩⟩
 ·cases e;exact⟨a,_,rfl,.inr ⟨g,rest,h1,h2,Nat.le_refl _,by omega,by omega,h6⟩⟩
set_option maxHeartbeats 4000000 in
theorem aJw(p:ByteArray)(ha:Option Addr)(hn hcap:Nat)(ls:List aJ)(ba:Option Addr)(n bcap:Nat)(w:World)(G:Nat->Prop)(hbn:n=ls.length)(h:cD w G ba ls)(hf:Fit ls):
 Calls Tryz.prog 62 #[dS p ha hn hcap ba n bcap] w (RetN w fun w' v=>∃ao cap,v= .slice ao (aC ls).length cap/\(aC ls).length≤cap/\CellsAt w' ao (strs (aC ls))/\cap=(aC ls).length/\OwnSl w w' v (aC ls)):=by
 have HN:=qH hbn;have HE:=qH h;have HF:=qH hf;have hl:n≤1048576:=by have:=hf.len;omega
 clear hbn h hf;go_enter Tryz.func62,Tryz.ntmps62;go_wp2;go_loopw [11,3] (fun iv ov wr=>aHc w ls n iv ov wr) (fun iv _ _=>n- (intOf iv).toNat)
 case atStart=>exact⟨0,Nat.zero_le _,rfl,Row.nil _ _ _ _,(Kp.refl w).alloc _⟩
 case round=>
  obtain⟨i,hi,rfl,hrow,hex⟩:=hrel;by_cases hlt:i<n
  ·have hlt':i<ls.length:=by rw [<-HN.out];exact hlt
   obtain⟨l,hli⟩:∃l,ls[i]?=some l:=⟨_,qG hlt'⟩;obtain⟨b,off,a,cap,eao,hG,hb,hL,c0,c1,c2,c3,c4,c5,c6,c7⟩:=iC HE.out hli;subst eao;replace c0:=hex.out.cell c0 id;replace c1:=hex.out.cell c1 id;replace c2:=hex.out.cell c2 id;replace c3:=hex.out.cell c3 id;replace c4:=hex.out.cell c4 id;replace c5:=hex.out.cell c5 id;replace c6:=hex.out.cell c6 id;replace c7:=hex.out.cell c7 id;obtain⟨m,em⟩:∃m,m=(aA l).length:=⟨_,rfl⟩;rw [<-em]at c2;have hm:m≤1048576:=by rw [em];exact HF.out.terms l (List.mem_of_getElem? hli)
   have HL:=qH (nIX hli (nIX hL em));clear hli hlt' hL em hG hb;obtain⟨k,ek⟩:=nm l.1;rw [ek]at c0;generalize bC l=s1 at c1;generalize gS l=s3 at c3;generalize (leftOf l).1=s4 at c4;generalize (leftOf l).2.1=s5 at c5;generalize (aN l).1=s6 at c6;generalize (aN l).2.1=s7 at c7;have HK:=qH ek;clear ek;go_wp2;obtain⟨wb,eb⟩:=nm (wr.alloc (.cells #[.int .i64 k,.string s1,.slice a m cap,.int .i64 s3,.int .i64 s4,.string s5,.int .i64 s6,.string s7] 40));rw [eb];have hB:Blk wb wr.heap.size [.int .i64 k,.string s1,.slice a m cap,.int .i64 s3,.int .i64 s4,.string s5,.int .i64 s6,.string s7] 40:=by rw [<-eb];exact Blk.new wr [_,_,_,_,_,_,_,_] _
   have hx:Ext wr wb:=xAX eb;have hrow2:Row wb 9 1 u3 (cM (aC (ls.take i)) l 0).length (strs (cM (aC (ls.take i)) l 0)) (fun k=>New w k/\k≠wr.heap.size):=by rw [qD];exact hrow.out.beside hx
   have HX:=qH (hex.out.trans hx);have HB:=qH hB;have HR:=qH hrow2;have hnew:New w wr.heap.size:=hex.out.size;have HW:=qH (nIX hnew (Nat.lt_of_lt_of_le (Nat.lt_succ_self _) (by rw [<-eb,aI];exact Nat.le_refl _):wr.heap.size<wb.heap.size));have d0:=hB.c2;obtain⟨g,eg⟩:∃g,g=wr.heap.size:=⟨_,rfl⟩;rw [<-eg]at HB HR HW d0;have hlt2:(i:Int)< (n:Int):=by omega
   clear hB hrow2 hx eb hnew c0 c1 c2 c3 c4 c5 c6 c7;rw [<-eg];clear eg;go_wp2;clear d0;go_loopw [19,3] (fun iv ov wr=>aM5 w (aC (ls.take i)) l g [.int .i64 k,.string s1,.slice a m cap,.int .i64 s3,.int .i64 s4,.string s5,.int .i64 s6,.string s7] m iv ov wr) (fun iv _ _=>m- (intOf iv).toNat)
   case atStart=>exact⟨0,Nat.zero_le _,rfl,HR.out,HX.out,HB.out⟩
   case round=>
    obtain⟨j,hj,rfl,hrow3,hex3,hblk3⟩:=hrel;by_cases hlt3:j<m
    ·have hlt4:j< (aA l).length:=by rw [<-HL.out.2.2];exact hlt3
     obtain⟨t,ht⟩:∃t,(aA l)[j]?=some t:=⟨_,qG hlt4⟩;obtain⟨b2,off2,eao2,f0,f1,_⟩:=dT (HL.out.2.1.terms.ext hex3.out) ht;subst eao2;obtain⟨kt,st,⟨⟩⟩:=t;simp only at f0 f1;have hs:=qE (aC (ls.take i)) ht;have HT:=qH hs;clear ht hlt4 hs;have e0:(wr.alloc (.cells #[.int .i64 kt,.string st] 38)).cell? ⟨g,0,none⟩=some (.int .i64 k):=by rw [(hblk3.out.alloc _).cell'];rfl
     have hlen:(cM (aC (ls.take i)) l j).length≤1099513724928:=by have h1:=sP (aC (ls.take i)) l j;have h2:(aC (ls.take i)).length≤(ls.take i).length*1048576:=lW fun x hx=>HF.out.terms x (List.mem_of_mem_take hx);rw [List.length_take]at h2;omega
     generalize eN:cM (aC (ls.take i)) l j=N at*;by_cases h1:k=1
     ·subst h1;by_cases h2:kt=1
      ·subst h2;have hrow4:=hrow3.out;obtain⟨ao,cap4,eov,hcells,hle⟩:=hrow4.shape;subst eov;have HS:=qH (fun(W:World) (hW:Ext wr W)=>oW N st ao N.length cap4 W rfl (hcells.ext hW) (by omega));have HR4:=qH hrow4;clear hcells hrow4 hrow3;go_wp2_with fail
       refine(HS.out _ ((Kp.refl _).alloc _)).mono ?_;rintro e w1 ⟨v,rfl,hk1,rfl⟩;have bb:=Blk.new wr [.int .i64 1,.string st] 38;have f2:=(bb.ext hk1).c1;have HE1:=qH (((Kp.refl _).alloc _).trans hk1);clear hk1 bb;cases hh:gJ N st
       ·have HT2:=qH (HT.out.trans (if_pos ⟨HK.out,by first|rfl|trivial,hh⟩));go_wp2_with (first|(at_builtin;refine Halted.out ?_))
        refine Halted.mk (rA zR rfl _ _ rfl ((hex3.out.trans HE1.out).alloc _) (fun q h1 h2=>absurd h2 (Nat.not_lt.2 h1.1)) (fun q h1=>?_) rfl ((HR4.out.ext HE1.out).alloc _) rfl (by rfl) (CellsAt.one _ _ _) (by simp [Value.oneCell']) (by omega) (by unfold maxLen;omega) ?_)
        ·have a1:=hex3.out.size;have a2:=HE1.out.size;have a3:=hblk3.out.lt;rw [aI]at h1;exact⟨by unfold New;omega,by omega⟩
        ·intro v1 w2 hr1 hk1 hk2 _;have hk3:=hk2;have hb2:Blk w2 g _ _:=((hblk3.out.ext HE1.out).alloc _).kp hk2 (fun e=>absurd rfl (HR4.out.block g e).2);have HR5:=qH (nIX hr1 (nIX hk1 hb2));clear hr1 hk1 hk2 hk3 hb2;go_wp2;go_roundw
         case rel=>
          refine⟨j+1,by omega,nMX,?_,HR5.out.2.1,HR5.out.2.2⟩;have h:=HR5.out.1;rw [HT2.out,<-rG,List.length_append];exact h
         case measure=>simp [intOf];omega
       ·have HT2:=qH (HT.out.trans (if_neg fun x=>by rw [hh]at x;cases x.2.2));go_wp2;go_roundw
        case rel=>
         exact⟨j+1,by omega,nMX,by rw [HT2.out];exact HR4.out.ext HE1.out,hex3.out.trans HE1.out,hblk3.out.ext HE1.out⟩
        case measure=>simp [intOf];omega
      ·have HT2:=qH (HT.out.trans (if_neg fun x=>h2 x.2.1));have b2:(kt==1)=false:=by simp [h2]
       go_wp2;go_roundw
       case rel=>
        exact⟨j+1,by omega,nMX,by rw [HT2.out];exact hrow3.out.alloc _,hex3.out.alloc _,hblk3.out.alloc _⟩
       case measure=>simp [intOf];omega
     ·have HT2:=qH (HT.out.trans (if_neg fun x=>h1 (HK.out.symm.trans x.1)));have b2:(k==1)=false:=by simp [h1]
      go_wp2;go_roundw
      case rel=>
       exact⟨j+1,by omega,nMX,by rw [HT2.out];exact hrow3.out.alloc _,hex3.out.alloc _,hblk3.out.alloc _⟩
      case measure=>simp [intOf];omega
    ·have HA:=qH (sQ (aC (ls.take i)) l (c:=j) (by have:=HL.out.2.2;omega));go_wp2;go_roundw
     case rel=>
      refine⟨i+1,by omega,nMX,?_,hex3⟩;have h:=hrow3.out;have e:aC (ls.take (i+1))=bK (aC (ls.take i)) l:=oI _ _ HL.out.1;rw [HA.out,<-e]at h;exact h.mono fun _ x=>x.1
     case measure=>simp [intOf];omega
  ·have e:ls.take i=ls:=List.take_of_length_le (by have:=HN.out;omega);have hrow4:=hrow.out;rw [e]at hrow4;obtain⟨ao,cap4,eov,hcells,hle⟩:=hrow4.shape;subst eov;have HS:=qH (fun(W:World)=>zY ao (aC ls).length cap4 W hle);have HC:=qH (nIX hcells hrow4.own');clear hcells hrow4 hrow hle e;go_wp2_with fail
   refine(HS.out _).mono ?_;rintro e w1 ⟨v,rfl,hk1,rfl⟩;go_wp2;go_ret;exact RetN.mk (hex.out.trans hk1) ⟨ao,_,rfl,Nat.le_refl _,HC.out.1.ext hk1,rfl,(HC.out.2.ext hk1).clip⟩
theorem aBi(p:ByteArray)(ha:Option Addr)(hn hcap:Nat)(ls:List aJ)(ba:Option Addr)(n bcap:Nat)(w:World)(G:Nat->Prop)(hbn:n=ls.length)(h:cD w G ba ls)(hf:Fit ls):
 Calls Tryz.prog 62 #[dS p ha hn hcap ba n bcap] w (RetN w fun w' v=>∃ao cap,v= .slice ao (aC ls).length cap/\(aC ls).length≤cap/\CellsAt w' ao (strs (aC ls))):=by
 refine(aJw p ha hn hcap ls ba n bcap w G hbn h hf).mono ?_;rintro e w' ⟨v,rfl,hk,ao,cap,h1,h2,h3,-⟩;exact RetN.mk hk ⟨ao,cap,h1,h2,h3⟩
theorem aJ2(N:List ByteArray)(ao:Option Addr)(m cap gb:Nat)(k:Int)(s:ByteArray)(blank:Bool)(w:World)(hm:m=N.length)(hc:w.cell? ⟨gb,0,none⟩=some (.slice ao m cap))(h:CellsAt w ao (strs N))(hl:m≤4611686018427387904):
 Calls Tryz.prog 65 #[uM k s,.bool blank,.pointer (some ⟨gb,0,none⟩)] w (RetN w fun w' v=>v= .bool (bY N blank (k,s,()))):=by
 by_cases h2:k=2
 ·subst h2;go_enter Tryz.func65,Tryz.ntmps65;go_wp2;go_ret;exact RetN.mk ((Kp.refl w).alloc _) (by unfold bY;simp)
 ·have b2:(k==2)=false:=by simp [h2]
  by_cases h34:k=3\/k=4
  ·rcases h34 with rfl|rfl
   all_goals
    clear h2 b2;go_enter Tryz.func65,Tryz.ntmps65;go_wp2;go_ret;exact RetN.mk ((Kp.refl w).alloc _) (by unfold bY;simp)
  ·have b3:(k==3)=false:=by simp;exact fun e=>h34 (.inl e)
   have b4:(k==4)=false:=by simp;exact fun e=>h34 (.inr e)
   have HS:=qH (fun(W:World) (hW:Ext w W)=>oW N s ao m cap W hm (h.ext hW) hl);have e0:(w.alloc (.cells #[.int .i64 k,.string s] 38)).cell? ⟨gb,0,none⟩=some (.slice ao m cap):=((Kp.refl (F:=fun _=>False) w).alloc _).cell hc id;have HH:=qH (nIX h2 h34);clear h2 h34 h hm hc;go_enter Tryz.func65,Tryz.ntmps65;go_wp2_with fail
   refine(HS.out _ ((Kp.refl _).alloc _)).mono ?_;rintro e w1 ⟨v,rfl,hk1,rfl⟩;go_wp2;go_ret;refine RetN.mk (((Kp.refl w).alloc _).trans hk1) ?_;obtain⟨h2,h34⟩:=HH.out;show Value.bool (gJ N s)=_;refine congrArg Value.bool ?_;unfold bY;rw [if_neg h2];cases hh:gJ N s
   ·symm;apply decide_eq_false;rintro(x|x|x)
    ·exact h34 (.inl x)
    ·exact h34 (.inr x)
    ·cases x
   ·symm;exact decide_eq_true (.inr (.inr rfl))
def nX(w0:World){α:Type}(xs:List α)(q:α->Bool)(n:Nat)(iv:Value)(w:World):Prop:=∃i:Nat,i≤n/\iv= .int .i64 i/\Hid ((xs.take i).all q=true)/\Hid (Ext w0 w)
theorem cC{α:Type}{q:α->Bool}{xs:List α}{i:Nat}{x:α}(h:xs[i]?=some x):(xs.take (i+1)).all q=((xs.take i).all q && q x):=by rw [List.take_add_one,h,List.all_append];simp
theorem eH{α:Type}{q:α->Bool}{xs:List α}{i:Nat}{x:α}(h:xs[i]?=some x)(hq:q x=false):xs.all q=false:=by rw [List.all_eq_false];exact⟨x,List.mem_of_getElem? h,by rw [hq];decide⟩
set_option maxHeartbeats 8000000 in
theorem aJa(p:ByteArray)(hs:List aE)(ls:List aJ)(ha:Option Addr)(hn hcap:Nat)(ba:Option Addr)(n bcap:Nat)(w:World)(G:Nat->Prop)(hhn:hn=hs.length)(hh:aR w G ha hs)(hhl:hn≤1048576)(hbn:n=ls.length)(h:cD w G ba ls)(hf:Fit ls):
 Calls Tryz.prog 15 #[dS p ha hn hcap ba n bcap] w (RetN w fun w' v=>v= .int .i64 (bG ((p,hs,()),ls,()))):=by
 have HN:=qH hbn;have HE:=qH h;have HF:=qH hf;have hl:n≤1048576:=by have:=hf.len;omega
 have HHN:=qH hhn;have HHE:=qH hh;have HHead:=qH (fun(W:World) (hW:Ext w W)=>aKt hs ha hn hcap W G hhn (hh.ext hW) hhl);obtain⟨m,em⟩:∃m,m=(aC ls).length:=⟨_,rfl⟩;have HVars0:=fun(W:World) (hW:Ext w W)=>aBi p ha hn hcap ls ba n bcap W G hbn (h.ext hW) hf;rw [<-em]at HVars0;have HVars:=qH HVars0;have EM:=qH em;clear HVars0 em;have HLit:=qH (fun(W:World) (hW:Ext w W) (l:aJ) (hl:l∈ls) (a:Option Addr) (cap:Nat) (hin:LitIn w G l a cap)=>aCx l.1 (bC l) (aA l) a (aA l).length cap (gS l) (leftOf l).1 (leftOf l).2.1 (aN l).1 (aN l).2.1 W G rfl (hin.terms.ext hW) (hf.terms l hl) hin.left.1 hin.left.2 hin.right.1 hin.right.2);clear hbn h hf hhn hh;go_enter Tryz.func15,Tryz.ntmps15;go_wp2_with fail
 refine(HHead.out _ ((Kp.refl _).alloc _)).mono ?_;rintro e w1 ⟨v,rfl,hk1,rfl⟩;have bb:=Blk.new w [.string p,.slice ha hn hcap,.slice ba n bcap] 27;have B1:=qH (bb.ext hk1);have b1:=B1.out.c2;have X1:=qH (((Kp.refl _).alloc _).trans hk1);clear hk1 bb;cases hhd:fW hs
 ·go_wp2;go_ret;exact RetN.mk X1.out (by unfold bG cU;rw [if_neg (by rw [hhd];simp)];rfl)
 ·go_wp2;clear b1;go_loopw [21] (fun iv wr=>nX w1 ls eO n iv wr) (fun iv _=>n- (intOf iv).toNat)
  case atStart=>exact⟨0,Nat.zero_le _,rfl,rfl,Kp.refl _⟩
  case round=>
   obtain⟨i,hi,rfl,hall,hex⟩:=hrel;have XR:=qH (X1.out.trans hex.out);by_cases hlt:i<n
   ·have hlt':i<ls.length:=by rw [<-HN.out];exact hlt
    obtain⟨l,hli⟩:∃l,ls[i]?=some l:=⟨_,qG hlt'⟩;obtain⟨b,off,a,cap,eao,hG,hb,hL,c0,c1,c2,c3,c4,c5,c6,c7⟩:=iC HE.out hli;subst eao;replace c0:=XR.out.cell c0 id;replace c1:=XR.out.cell c1 id;replace c2:=XR.out.cell c2 id;replace c3:=XR.out.cell c3 id;replace c4:=XR.out.cell c4 id;replace c5:=XR.out.cell c5 id;replace c6:=XR.out.cell c6 id;replace c7:=XR.out.cell c7 id;have HL:=qH hli;have HC:=qH (fun(W:World) (hW:Ext w W)=>HLit.out W hW l (List.mem_of_getElem? hli) a cap hL);clear hli hlt' hL hG hb;go_wp2_with fail
    refine(HC.out _ (XR.out.alloc _)).mono ?_;rintro e w2 ⟨v,rfl,hk2,rfl⟩;have X2:=qH ((hex.out.alloc _).trans hk2);clear hk2 c0 c1 c2 c3 c4 c5 c6 c7;cases hq:eO l
    ·go_wp2;go_ret;refine RetN.mk (X1.out.trans X2.out) ?_;unfold bG cU;rw [if_neg (by rw [eH HL.out hq];simp)];rfl
    ·go_wp2;go_roundw
     case rel=>exact⟨i+1,by omega,nMX,by rw [cC HL.out,hall.out,hq];rfl,X2⟩
     case measure=>simp [intOf];omega
   ·have e:ls.take i=ls:=List.take_of_length_le (by have:=HN.out;omega);have HA:=qH hall.out;rw [e]at HA;have c0:=(B1.out.ext hex.out).c0;have c1:=(B1.out.ext hex.out).c1;have c2:=(B1.out.ext hex.out).c2;clear e hall;go_wp2_with fail
    refine(HVars.out _ XR.out).mono ?_;rintro e w2 ⟨v,rfl,hk2,ao,cap,rfl,hle,hcells⟩;have hm:m≤4611686018427387904:=by have h1:=lW HF.out.terms;have h2:=HF.out.len;have h3:=Nat.mul_le_mul_right 1048576 h2;have h4:=EM.out;omega
    clear c0 c1 c2;have B2:=qH (B1.out.ext (hex.out.trans hk2));have hx2:Ext w (w2.alloc (.cells #[.slice ao m cap] 34)):=(XR.out.trans hk2).alloc _;obtain⟨wb,eb⟩:=nm (w2.alloc (.cells #[.slice ao m cap] 34));have bn:=Blk.new w2 [.slice ao m cap] 34;have HSafe:=qH (fun(W:World) (hW:Ext wb W) (k:Int) (s:ByteArray) (blank:Bool)=>aJ2 (aC ls) ao m cap w2.heap.size k s blank W EM.out (by have:=bn.cell 0 (by simp);rw [<-eb]at hW;exact hW.cell this id) ((hcells.alloc _).ext (eb▸hW)) hm);have HX2:=qH hx2;rw [eb]at HX2;have C1:=qH (B2.out.alloc (.cells #[.slice ao m cap] 34));rw [eb]at C1;have c1:(w2.alloc (.cells #[.slice ao m cap] 34)).cell? ⟨w.heap.size,1,none⟩=some (.slice ha hn hcap):=by rw [eb,C1.out.cell'];rfl
    clear hk2 hle hcells hx2 bn;have EB:=qH eb;clear eb;go_wp2;rw [EB.out];clear c1;go_loopw [36] (fun iv wr=>nX wb hs (bY (aC ls) false) hn iv wr) (fun iv _=>hn- (intOf iv).toNat)
    case atStart=>exact⟨0,Nat.zero_le _,rfl,rfl,Kp.refl _⟩
    case round=>
     obtain⟨j,hj,rfl,hall3,hex3⟩:=hrel;have X3:=qH (HX2.out.trans hex3.out);by_cases hlt3:j<hn
     ·have hlt4:j<hs.length:=by rw [<-HHN.out];exact hlt3
      obtain⟨t,ht⟩:∃t,hs[j]?=some t:=⟨_,qG hlt4⟩;obtain⟨b2,off2,eao2,f0,f1,_⟩:=dT (HHE.out.ext X3.out) ht;subst eao2;obtain⟨kt,st,⟨⟩⟩:=t;simp only at f0 f1;have HT:=qH ht;clear ht hlt4;go_wp2_with fail
      refine(HSafe.out _ (hex3.out.alloc _) kt st false).mono ?_;rintro e w3 ⟨v,rfl,hk3,rfl⟩;have X4:=qH ((hex3.out.alloc _).trans hk3);clear hk3 f0 f1;cases hq:bY (aC ls) false (kt,st,())
      ·go_wp2;go_ret;refine RetN.mk (HX2.out.trans X4.out) ?_;unfold bG jO cU;rw [if_pos (by simp only [Bool.and_eq_true];exact⟨hhd,HA.out⟩),if_neg (by rw [eH HT.out hq];simp)];rfl
      ·go_wp2;go_roundw
       case rel=>exact⟨j+1,by omega,nMX,by rw [cC HT.out,hall3.out,hq];rfl,X4⟩
       case measure=>simp [intOf];omega
     ·have e:hs.take j=hs:=List.take_of_length_le (by have:=HHN.out;omega);have HB:=qH hall3.out;rw [e]at HB;have c2:=(C1.out.ext hex3.out).c2;clear e hall3;have hltn:¬(j:Int)< (hn:Int):=by omega
      go_wp2;clear c2;go_loopw [48] (fun iv wr=>nX wb ls (dX (aC ls)) n iv wr) (fun iv _=>n- (intOf iv).toNat)
      case atStart=>exact⟨0,Nat.zero_le _,rfl,rfl,hex3⟩
      case round=>
       obtain⟨q,hq,rfl,hall4,hex4⟩:=hrel;have X5:=qH (HX2.out.trans hex4.out);by_cases hlt5:q<n
       ·have hlt6:q<ls.length:=by rw [<-HN.out];exact hlt5
        obtain⟨l,hli⟩:∃l,ls[q]?=some l:=⟨_,qG hlt6⟩;obtain⟨b,off,a,cap2,eao,hG,hb,hL,c0,c1,c2,c3,c4,c5,c6,c7⟩:=iC HE.out hli;subst eao;replace c0:=X5.out.cell c0 id;replace c1:=X5.out.cell c1 id;replace c2:=X5.out.cell c2 id;replace c3:=X5.out.cell c3 id;replace c4:=X5.out.cell c4 id;replace c5:=X5.out.cell c5 id;replace c6:=X5.out.cell c6 id;replace c7:=X5.out.cell c7 id;have HL:=qH (nIX hli hL);have hq2:(q:Int)< (n:Int):=by omega
        obtain⟨mm,emm⟩:∃mm,mm=(aA l).length:=⟨_,rfl⟩;rw [<-emm]at c2;have HM:=qH emm;have hmm:mm≤1048576:=by rw [emm];exact HF.out.terms l (List.mem_of_getElem? hli)
        clear hli hlt6 hL hG hb emm;have HSafe2:=HSafe;obtain⟨k,ek⟩:=nm l.1;obtain⟨lk,elk⟩:=nm ((leftOf l).1);obtain⟨lt,elt⟩:=nm ((leftOf l).2.1);obtain⟨rk,erk⟩:=nm ((aN l).1);obtain⟨rt,ert⟩:=nm ((aN l).2.1);rw [ek]at c0;rw [elk]at c4;rw [elt]at c5;rw [erk]at c6;rw [ert]at c7;have eleft:leftOf l=(lk,lt,()):=by rw [<-elk,<-elt]
        have eright:aN l=(rk,rt,()):=by rw [<-erk,<-ert]
        generalize bC l=s1 at c1;generalize gS l=s3 at c3;have HK:=qH (nIX ek (nIX eleft eright));clear ek elk elt erk ert eleft eright;obtain⟨wx,ewx⟩:=nm (wr.alloc (.cells #[.int .i64 k,.string s1,.slice a mm cap2,.int .i64 s3,.int .i64 lk,.string lt,.int .i64 rk,.string rt] 40));have hB:=Blk.new wr [.int .i64 k,.string s1,.slice a mm cap2,.int .i64 s3,.int .i64 lk,.string lt,.int .i64 rk,.string rt] 40;have hWX:Ext wb wx:=by rw [<-ewx];exact hex4.out.alloc _
        have hXX:Ext w wx:=HX2.out.trans hWX;obtain⟨g,eg⟩:∃g,g=wr.heap.size:=⟨_,rfl⟩;have HGB:=qH hB;rw [<-eg]at HGB;have ewx2:wr.alloc (.cells [Value.int .i64 k,.string s1,.slice a mm cap2,.int .i64 s3,.int .i64 lk,.string lt,.int .i64 rk,.string rt].toArray 40)=wx:=ewx;rw [ewx2]at HGB;have HWX:=qH hWX;have HXX:=qH hXX;have EG:=qH (nIX eg ewx);clear hB hWX hXX eg ewx ewx2;by_cases h3:k=3
        ·have b3:(k==3)=true:=by simp [h3]
         have n2:¬k=2:=by omega
         have HH3:=qH (nIX h3 n2);clear h3 n2;go_wp2_with fail
         rw [EG.out.2,<-EG.out.1];refine(HSafe.out _ HWX.out lk lt false).mono ?_;rintro e w5 ⟨v,rfl,hk5,rfl⟩;have X6:=qH hk5;have d6:=(HGB.out.ext hk5).c6;have d7:=(HGB.out.ext hk5).c7;clear hk5 c0 c1 c2 c3 c4 c5 c6 c7;cases hsl:bY (aC ls) false (lk,lt,())
         ·go_wp2;go_ret;refine RetN.mk (HXX.out.trans X6.out) ?_;have hno:dX (aC ls) l=false:=by unfold dX;rw [if_pos (HK.out.1.trans HH3.out.1),HK.out.2.1,hsl];rfl
          unfold bG jO cU;rw [if_pos (by simp only [Bool.and_eq_true];exact⟨hhd,HA.out⟩),if_neg (by rw [eH HL.out.1 hno];simp)];rfl
         ·go_wp2_with fail
          refine(HSafe.out _ (HWX.out.trans X6.out) rk rt false).mono ?_;rintro e w7 ⟨v,rfl,hk7,rfl⟩;have X7:=qH (X6.out.trans hk7);clear hk7 d6 d7;cases hsr:bY (aC ls) false (rk,rt,())
          ·go_wp2;go_ret;refine RetN.mk (HXX.out.trans X7.out) ?_;have hno:dX (aC ls) l=false:=by unfold dX;rw [if_pos (HK.out.1.trans HH3.out.1),HK.out.2.1,HK.out.2.2,hsr,Bool.and_false]
           unfold bG jO cU;rw [if_pos (by simp only [Bool.and_eq_true];exact⟨hhd,HA.out⟩),if_neg (by rw [eH HL.out.1 hno];simp)];rfl
          ·have HSL:=qH (show dX (aC ls) l=(aA l).all (fun t=>if k=2 then bY (aC ls) true t else true) by
            unfold dX;rw [if_pos (HK.out.1.trans HH3.out.1),HK.out.2.1,HK.out.2.2,hsl,hsr];exact(List.all_eq_true.2 (fun t _=>if_neg HH3.out.2)).symm)
           have d0:=(HGB.out.ext X7.out).c2;have HX7:=X7;clear X7;go_wp2;clear d0;go_loopw [73] (fun iv wr=>nX wx (aA l) (fun t=>if k=2 then bY (aC ls) true t else true) mm iv wr) (fun iv _=>mm- (intOf iv).toNat)
           case atStart=>exact⟨0,Nat.zero_le _,rfl,rfl,HX7.out⟩
           case round=>
            obtain⟨z,hz,rfl,hall8,hex8⟩:=hrel;have X8:=qH (HXX.out.trans hex8.out);by_cases hlt7:z<mm
            ·have hlt8:z< (aA l).length:=by rw [<-HM.out];exact hlt7
             obtain⟨t,ht⟩:∃t,(aA l)[z]?=some t:=⟨_,qG hlt8⟩;obtain⟨b9,off9,eao9,f0,f1,_⟩:=dT (HL.out.2.terms.ext X8.out) ht;subst eao9;obtain⟨kt,st,⟨⟩⟩:=t;simp only at f0 f1;have HT:=qH ht;have e0:(wr.alloc (.cells #[.int .i64 kt,.string st] 38)).cell? ⟨g,0,none⟩=some (.int .i64 k):=by rw [((HGB.out.ext hex8.out).alloc _).cell'];rfl
             clear ht hlt8;by_cases h2:k=2
             ·have b2:(k==2)=true:=by simp [h2]
              have HH2:=qH h2;clear h2;go_wp2_with fail
              refine(HSafe.out _ ((HWX.out.trans hex8.out).alloc _) kt st true).mono ?_;rintro e w9 ⟨v,rfl,hk9,rfl⟩;have X9:=qH ((hex8.out.alloc _).trans hk9);clear hk9 f0 f1 e0;cases hqq:bY (aC ls) true (kt,st,())
              ·go_wp2;go_ret;refine RetN.mk (HXX.out.trans X9.out) ?_;have hno:dX (aC ls) l=false:=by rw [HSL.out];exact eH HT.out (by show(if k=2 then _ else _)=false;rw [if_pos HH2.out];exact hqq)
               unfold bG jO cU;rw [if_pos (by simp only [Bool.and_eq_true];exact⟨hhd,HA.out⟩),if_neg (by rw [eH HL.out.1 hno];simp)];rfl
              ·go_wp2;go_roundw
               case rel=>exact⟨z+1,by omega,nMX,by rw [cC HT.out,hall8.out];show(if k=2 then _ else _)=true;rw [if_pos HH2.out];exact hqq,X9⟩
               case measure=>simp [intOf];omega
             ·have b2:(k==2)=false:=by simp [h2]
              have HH2:=qH h2;clear h2;go_wp2;go_roundw
              case rel=>exact⟨z+1,by omega,nMX,by rw [cC HT.out,hall8.out];show(if k=2 then _ else _)=true;rw [if_neg HH2.out],hex8.out.alloc _⟩
              case measure=>simp [intOf];omega
            ·have e:(aA l).take z=aA l:=List.take_of_length_le (by have:=HM.out;omega);have H9:=qH hall8.out;rw [e]at H9;clear e hall8;have hzm:¬(z:Int)< (mm:Int):=by omega
             go_wp2;go_roundw
             case rel=>exact⟨q+1,by omega,nMX,by rw [cC HL.out.1,hall4.out,HSL.out,H9.out];rfl,HWX.out.trans hex8.out⟩
             case measure=>simp [intOf];omega
        ·have b3:(k==3)=false:=by simp [h3]
         have HSL:=qH (show dX (aC ls) l=(aA l).all (fun t=>if k=2 then bY (aC ls) true t else true) by
          unfold dX;rw [if_neg (fun x=>h3 (HK.out.1.symm.trans x)),HK.out.1];by_cases h2:k=2
          ·rw [if_pos h2];congr 1;funext t;rw [if_pos h2]
          ·rw [if_neg h2];symm;rw [List.all_eq_true];intro t _;rw [if_neg h2])
         have HH3:=qH h3;clear h3;have d0:(wr.alloc (.cells #[.int .i64 k,.string s1,.slice a mm cap2,.int .i64 s3,.int .i64 lk,.string lt,.int .i64 rk,.string rt] 40)).cell? ⟨wr.heap.size,2,none⟩=some (.slice a mm cap2):=by rw [EG.out.2,<-EG.out.1,HGB.out.cell'];rfl
         go_wp2;rw [EG.out.2,<-EG.out.1];have HX7:=qH (Kp.refl (F:=fun _=>False) wx);clear c0 c1 c2 c3 c4 c5 c6 c7;clear d0;go_loopw [73] (fun iv wr=>nX wx (aA l) (fun t=>if k=2 then bY (aC ls) true t else true) mm iv wr) (fun iv _=>mm- (intOf iv).toNat)
         case atStart=>exact⟨0,Nat.zero_le _,rfl,rfl,HX7.out⟩
         case round=>
          obtain⟨z,hz,rfl,hall8,hex8⟩:=hrel;have X8:=qH (HXX.out.trans hex8.out);by_cases hlt7:z<mm
          ·have hlt8:z< (aA l).length:=by rw [<-HM.out];exact hlt7
           obtain⟨t,ht⟩:∃t,(aA l)[z]?=some t:=⟨_,qG hlt8⟩;obtain⟨b9,off9,eao9,f0,f1,_⟩:=dT (HL.out.2.terms.ext X8.out) ht;subst eao9;obtain⟨kt,st,⟨⟩⟩:=t;simp only at f0 f1;have HT:=qH ht;have e0:(wr.alloc (.cells #[.int .i64 kt,.string st] 38)).cell? ⟨g,0,none⟩=some (.int .i64 k):=by rw [((HGB.out.ext hex8.out).alloc _).cell'];rfl
           clear ht hlt8;by_cases h2:k=2
           ·have b2:(k==2)=true:=by simp [h2]
            have HH2:=qH h2;clear h2;go_wp2_with fail
            refine(HSafe.out _ ((HWX.out.trans hex8.out).alloc _) kt st true).mono ?_;rintro e w9 ⟨v,rfl,hk9,rfl⟩;have X9:=qH ((hex8.out.alloc _).trans hk9);clear hk9 f0 f1 e0;cases hqq:bY (aC ls) true (kt,st,())
            ·go_wp2;go_ret;refine RetN.mk (HXX.out.trans X9.out) ?_;have hno:dX (aC ls) l=false:=by rw [HSL.out];exact eH HT.out (by show(if k=2 then _ else _)=false;rw [if_pos HH2.out];exact hqq)
             unfold bG jO cU;rw [if_pos (by simp only [Bool.and_eq_true];exact⟨hhd,HA.out⟩),if_neg (by rw [eH HL.out.1 hno];simp)];rfl
            ·go_wp2;go_roundw
             case rel=>exact⟨z+1,by omega,nMX,by rw [cC HT.out,hall8.out];show(if k=2 then _ else _)=true;rw [if_pos HH2.out];exact hqq,X9⟩
             case measure=>simp [intOf];omega
           ·have b2:(k==2)=false:=by simp [h2]
            have HH2:=qH h2;clear h2;go_wp2;go_roundw
            case rel=>exact⟨z+1,by omega,nMX,by rw [cC HT.out,hall8.out];show(if k=2 then _ else _)=true;rw [if_neg HH2.out],hex8.out.alloc _⟩
            case measure=>simp [intOf];omega
          ·have e:(aA l).take z=aA l:=List.take_of_length_le (by have:=HM.out;omega);have H9:=qH hall8.out;rw [e]at H9;clear e hall8;have hzm:¬(z:Int)< (mm:Int):=by omega
           go_wp2;go_roundw
           case rel=>exact⟨q+1,by omega,nMX,by rw [cC HL.out.1,hall4.out,HSL.out,H9.out];rfl,HWX.out.trans hex8.out⟩
           case measure=>simp [intOf];omega
       ·have e:ls.take q=ls:=List.take_of_length_le (by have:=HN.out;omega);have HC:=qH hall4.out;rw [e]at HC;clear e hall4;have hqn:¬(q:Int)< (n:Int):=by omega
        go_wp2;go_ret;refine RetN.mk X5.out ?_;unfold bG jO cU;rw [if_pos (by simp only [Bool.and_eq_true];exact⟨hhd,HA.out⟩),if_pos (by simp only [Bool.and_eq_true];exact⟨HB.out,HC.out⟩)];rfl
set_option maxHeartbeats 1000000 in
theorem aA1(ss:List ByteArray)(s:ByteArray)(ao:Option Addr)(n cap:Nat)(w:World)(hn:n=ss.length)(h:CellsAt w ao (strs ss))(hl:n≤4611686018427387904):
 Calls Tryz.prog 72 #[.slice ao n cap,.string s] w (RetN w fun w' v=>v= .bool (gJ ss s)):=by
 have HN:=qH hn;have HE:=qH h;clear hn h;go_enter Tryz.func72,Tryz.ntmps72;go_wp2;go_loopw [5] (fun iv wr=>aLh w ss s n iv wr) (fun iv _=>n- (intOf iv).toNat)
 case atStart=>exact⟨0,Nat.zero_le _,rfl,fun j u h=>by omega,Kp.refl w⟩
 case round=>
  obtain⟨i,hi,rfl,hno,hex⟩:=hrel;by_cases hlt:i<n
  ·have hlt':i<ss.length:=by rw [<-HN.out];exact hlt
   obtain⟨b,off,eao,hc0⟩:=(HE.out.ext hex.out).str hlt';subst eao;have ht:ss[i]?=some ss[i]:=qG hlt';generalize ss[i]=u at*;by_cases hu:u=s
   ·have HT:=qH (nIX ht hu);clear ht hlt';subst hu;have hb:=str_eq u;go_wp2;go_ret;exact RetN.mk hex.out (congrArg Value.bool (by unfold gJ;rw [lI HT.out.1 (by simp)]))
   ·have HT:=qH (nIX ht hu);have hb:=kO hu;clear ht hlt' hu;go_wp2;go_roundw
    case rel=>
     refine⟨i+1,by omega,nMX,fun j u hj hu=>?_,hex⟩;by_cases e:j=i
     ·subst e;rw [HT.out.1]at hu;cases hu;exact decide_eq_false HT.out.2
     ·exact hno.out j u (by omega) hu
    case measure=>simp [intOf];omega
  ·go_wp2;go_ret;exact RetN.mk hex.out (congrArg Value.bool (by unfold gJ;rw [oN HN.out fun j u hj=>hno.out j u (by omega)]))
set_option maxHeartbeats 1000000 in
theorem lU(ts:List aE)(up:Int)(ao:Option Addr)(n cap:Nat)(w:World)(G:Nat->Prop)(hn:n=ts.length)(h:aR w G ao ts)(hl:n≤4611686018427387904):
 Calls Tryz.prog 110 #[.slice ao n cap,.int .i64 up] w (RetN w fun w' v=>v= .bool (kinds ts up)):=by
 have HN:=qH hn;have HE:=qH h;clear hn h;go_enter Tryz.func110,Tryz.ntmps110;go_wp2;go_loopw [5] (fun iv wr=>nX w ts (fun t=>decide (1≤t.1/\t.1≤up)) n iv wr) (fun iv _=>n- (intOf iv).toNat)
 case atStart=>exact⟨0,Nat.zero_le _,rfl,rfl,Kp.refl w⟩
 case round=>
  obtain⟨i,hi,rfl,hall,hex⟩:=hrel;by_cases hlt:i<n
  ·have hlt':i<ts.length:=by rw [<-HN.out];exact hlt
   obtain⟨t,ht⟩:∃t,ts[i]?=some t:=⟨_,qG hlt'⟩;obtain⟨b,off,eao,hc0,hc1,_⟩:=dT (HE.out.ext hex.out) ht;subst eao;obtain⟨k,s,⟨⟩⟩:=t;simp only at hc0 hc1;have HT:=qH ht;clear ht hlt';by_cases h1:k<1
   ·go_wp2;go_ret;exact RetN.mk hex.out (congrArg Value.bool (by unfold kinds;rw [eH HT.out (decide_eq_false (by simp only;omega))]))
   ·by_cases h2:up<k
    ·go_wp2;go_ret;exact RetN.mk hex.out (congrArg Value.bool (by unfold kinds;rw [eH HT.out (decide_eq_false (by simp only;omega))]))
    ·go_wp2;go_roundw
     case rel=>exact⟨i+1,by omega,nMX,by rw [cC HT.out,hall.out,decide_eq_true (by simp only;omega)];rfl,hex⟩
     case measure=>simp [intOf];omega
  ·have e:ts.take i=ts:=List.take_of_length_le (by have:=HN.out;omega);have HA:=qH hall.out;rw [e]at HA;go_wp2;go_ret;exact RetN.mk hex.out (congrArg Value.bool (by unfold kinds;rw [HA.out]))
def aMe(w0:World)(a:List ByteArray)(l:aJ)(m:Nat)(iv ov:Value)(w:World):Prop:=∃i:Nat,i≤m/\iv= .int .i64 i/\Hid (Row w 9 1 ov (cM a l i).length (strs (cM a l i)) (New w0))/\Hid (Ext w0 w)
set_option maxHeartbeats 4000000 in
theorem aCt(p:ByteArray)(ha:Option Addr)(hn hcap:Nat)(ls:List aJ)(ba:Option Addr)(n bcap:Nat)(w:World)(G:Nat->Prop)(hbn:n=ls.length)(h:cD w G ba ls)(hf:Fit ls):
 Calls Tryz.prog 70 #[dS p ha hn hcap ba n bcap] w (RetN w fun w' v=>∃ao cap,v= .slice ao (aC ls).length cap/\(aC ls).length≤cap/\CellsAt w' ao (strs (aC ls))):=by
 have HN:=qH hbn;have HE:=qH h;have HF:=qH hf;have hl:n≤1048576:=by have:=hf.len;omega
 clear hbn h hf;go_enter Tryz.func70,Tryz.ntmps70;go_wp2;obtain⟨wb,eb⟩:=nm (w.alloc (.cells #[.string p,.slice ha hn hcap,.slice ba n bcap] 27));rw [eb];have HB:=qH (Blk.new w [.string p,.slice ha hn hcap,.slice ba n bcap] 27);have HX:=qH ((Kp.refl (F:=fun _=>False) w).alloc (.cells #[.string p,.slice ha hn hcap,.slice ba n bcap] 27));have eb2:w.alloc (.cells [Value.string p,.slice ha hn hcap,.slice ba n bcap].toArray 27)=wb:=eb;rw [eb2]at HB;rw [eb]at HX;clear eb eb2;go_loopw [4,3] (fun iv ov wr=>aHc wb ls n iv ov wr) (fun iv _ _=>n- (intOf iv).toNat)
 case atStart=>exact⟨0,Nat.zero_le _,rfl,Row.nil _ _ _ _,Kp.refl _⟩
 case round=>
  obtain⟨i,hi,rfl,hrow,hex⟩:=hrel;have b2:=(HB.out.ext hex.out).c2;have XR:=qH (HX.out.trans hex.out);by_cases hlt:i<n
  ·have hlt':i<ls.length:=by rw [<-HN.out];exact hlt
   obtain⟨l,hli⟩:∃l,ls[i]?=some l:=⟨_,qG hlt'⟩;obtain⟨b,off,a,cap,eao,hG,hb,hL,c0,c1,c2,c3,c4,c5,c6,c7⟩:=iC HE.out hli;subst eao;clear c1 c3 c4 c5 c6 c7;have C2:=qH c2;replace c0:=XR.out.cell c0 id;obtain⟨m,em⟩:∃m,m=(aA l).length:=⟨_,rfl⟩;rw [<-em]at c2 C2;have hm:m≤1048576:=by rw [em];exact HF.out.terms l (List.mem_of_getElem? hli)
   have HL:=qH (nIX hli (nIX hL em));obtain⟨k,ek⟩:=nm l.1;rw [ek]at c0;have HK:=qH ek;clear hli hlt' hL em hG hb ek c2;by_cases h1:k=1
   ·subst h1;go_wp2;clear c0 b2;go_loopw [5,3] (fun iv ov wr=>aMe wb (aC (ls.take i)) l m iv ov wr) (fun iv _ _=>m- (intOf iv).toNat)
    case atStart=>exact⟨0,Nat.zero_le _,rfl,by rw [qD];exact hrow.out,hex⟩
    case round=>
     obtain⟨j,hj,rfl,hrow3,hex3⟩:=hrel;have X3:=qH (HX.out.trans hex3.out);have b2:=(HB.out.ext hex3.out).c2;have c2:=X3.out.cell C2.out id;by_cases hlt3:j<m
     ·have hlt4:j< (aA l).length:=by rw [<-HL.out.2.2];exact hlt3
      obtain⟨t,ht⟩:∃t,(aA l)[j]?=some t:=⟨_,qG hlt4⟩;obtain⟨b5,off5,eao5,f0,f1,_⟩:=dT (HL.out.2.1.terms.ext X3.out) ht;subst eao5;obtain⟨kt,st,⟨⟩⟩:=t;simp only at f0 f1;have HT:=qH (qE (aC (ls.take i)) ht);clear ht hlt4;have hlen:(cM (aC (ls.take i)) l j).length≤1099513724928:=by have h1:=sP (aC (ls.take i)) l j;have h2:(aC (ls.take i)).length≤(ls.take i).length*1048576:=lW fun x hx=>HF.out.terms x (List.mem_of_mem_take hx);rw [List.length_take]at h2;omega
      generalize eN:cM (aC (ls.take i)) l j=N at*;by_cases h2:kt=1
      ·subst h2;have hrow4:=hrow3.out;obtain⟨ao,cap4,eov,hcells,hle⟩:=hrow4.shape;subst eov;have HS:=qH (fun(W:World) (hW:Ext wr W)=>aA1 N st ao N.length cap4 W rfl (hcells.ext hW) (by omega));have HR4:=qH hrow4;clear hcells hrow4 hrow3;go_wp2_with fail
       refine(HS.out _ ((Kp.refl _).alloc _)).mono ?_;rintro e w1 ⟨v,rfl,hk1,rfl⟩;have bb:=Blk.new wr [.int .i64 1,.string st] 38;have f2:=(bb.ext hk1).c1;have HE1:=qH (((Kp.refl _).alloc _).trans hk1);clear hk1 bb f0 f1;cases hh:gJ N st
       ·have HT2:=qH (HT.out.trans (if_pos ⟨HK.out,by first|rfl|trivial,hh⟩));go_wp2_with (first|(at_builtin;refine Halted.out ?_))
        refine Halted.mk (bQ zR rfl _ _ rfl ((hex3.out.trans HE1.out).alloc _) rfl ((HR4.out.ext HE1.out).alloc _) rfl (CellsAt.one _ _ _) (by rfl) (by simp [Value.oneCell']) (by omega) (by unfold maxLen;omega) ?_);intro v1 w2 hr1 hk1 hk2 _;have HR5:=qH (nIX hr1 hk1);clear hr1 hk1 hk2;go_wp2;go_roundw
        case rel=>
         refine⟨j+1,by omega,nMX,?_,HR5.out.2⟩;have h:=HR5.out.1;rw [HT2.out,<-rG,List.length_append];exact h
        case measure=>simp [intOf];omega
       ·have HT2:=qH (HT.out.trans (if_neg fun x=>by rw [hh]at x;cases x.2.2));go_wp2;go_roundw
        case rel=>exact⟨j+1,by omega,nMX,by rw [HT2.out];exact HR4.out.ext HE1.out,hex3.out.trans HE1.out⟩
        case measure=>simp [intOf];omega
      ·have HT2:=qH (HT.out.trans (if_neg fun x=>h2 x.2.1));have b3:(kt==1)=false:=by simp [h2]
       go_wp2;go_roundw
       case rel=>exact⟨j+1,by omega,nMX,by rw [HT2.out];exact hrow3.out.alloc _,hex3.out.alloc _⟩
       case measure=>simp [intOf];omega
     ·have HA:=qH (sQ (aC (ls.take i)) l (c:=j) (by have:=HL.out.2.2;omega));go_wp2;go_roundw
      case rel=>
       refine⟨i+1,by omega,nMX,?_,hex3⟩;have h:=hrow3.out;have e:aC (ls.take (i+1))=bK (aC (ls.take i)) l:=oI _ _ HL.out.1;rw [HA.out,<-e]at h;exact h
      case measure=>simp [intOf];omega
   ·have b3:(k==1)=false:=by simp [h1]
    have b4:(k !=1)=true:=by simp [h1]
    have HH:=qH h1;clear h1;go_wp2;go_roundw
    case rel=>
     refine⟨i+1,by omega,nMX,?_,hex⟩;have e:aC (ls.take (i+1))=bK (aC (ls.take i)) l:=oI _ _ HL.out.1;rw [e];unfold bK;rw [if_neg (fun x=>HH.out (HK.out.symm.trans x))];exact hrow.out
    case measure=>simp [intOf];omega
  ·have e:ls.take i=ls:=List.take_of_length_le (by have:=HN.out;omega);have hrow4:=hrow.out;rw [e]at hrow4;obtain⟨ao,cap4,eov,hcells,hle⟩:=hrow4.shape;subst eov;have HC:=qH (nIX hle hcells);clear hcells hrow4 hrow hle e;go_wp2;go_ret;exact RetN.mk XR.out ⟨ao,_,rfl,HC.out⟩
theorem aJc(N:List ByteArray)(ao:Option Addr)(m cap:Nat)(k:Int)(s:ByteArray)(w:World)(hm:m=N.length)(h:CellsAt w ao (strs N))(hl:m≤4611686018427387904):
 Calls Tryz.prog 71 #[uM k s,.slice ao m cap] w (RetN w fun w' v=>v= .bool (bY N false (k,s,()))):=by
 by_cases h2:k=2
 ·subst h2;go_enter Tryz.func71,Tryz.ntmps71;go_wp2;go_ret;exact RetN.mk ((Kp.refl w).alloc _) (by unfold bY;simp)
 ·have b2:(k==2)=false:=by simp [h2]
  by_cases h34:k=3\/k=4
  ·rcases h34 with rfl|rfl
   all_goals
    clear h2 b2;go_enter Tryz.func71,Tryz.ntmps71;go_wp2;go_ret;exact RetN.mk ((Kp.refl w).alloc _) (by unfold bY;simp)
  ·have b3:(k==3)=false:=by simp;exact fun e=>h34 (.inl e)
   have b4:(k==4)=false:=by simp;exact fun e=>h34 (.inr e)
   have HS:=qH (fun(W:World) (hW:Ext w W)=>aA1 N s ao m cap W hm (h.ext hW) hl);have HH:=qH (nIX h2 h34);clear h2 h34 h hm;go_enter Tryz.func71,Tryz.ntmps71;go_wp2_with fail
   refine(HS.out _ ((Kp.refl _).alloc _)).mono ?_;rintro e w1 ⟨v,rfl,hk1,rfl⟩;go_wp2;go_ret;refine RetN.mk (((Kp.refl w).alloc _).trans hk1) ?_;obtain⟨h2,h34⟩:=HH.out;show Value.bool (gJ N s)=_;refine congrArg Value.bool ?_;unfold bY;rw [if_neg h2];cases hh:gJ N s
   ·symm;apply decide_eq_false;rintro(x|x|x)
    ·exact h34 (.inl x)
    ·exact h34 (.inr x)
    ·cases x
   ·symm;exact decide_eq_true (.inr (.inr rfl))
def aNl(w0:World)(ts:List aE)(n:Nat)(iv av:Value)(w:World):Prop:=∃i a:Nat,i≤n/\a≤i/\iv= .int .i64 i/\av= .int .i64 a/\Hid (a=aD1 (ts.take i))/\Hid (Ext w0 w)
set_option maxHeartbeats 4000000 in
theorem aE2(p:ByteArray)(hs:List aE)(ls:List aJ)(ha:Option Addr)(hn hcap:Nat)(ba:Option Addr)(n bcap:Nat)(w:World)(G:Nat->Prop)(hhn:hn=hs.length)(hh:aR w G ha hs)(hhl:hn≤1048576)(hbn:n=ls.length)(h:cD w G ba ls)(hf:Fit ls):
 Calls Tryz.prog 69 #[dS p ha hn hcap ba n bcap] w (RetN w fun w' v=>v= .bool (cU ((p,hs,()),ls,()))):=by
 have HN:=qH hbn;have HE:=qH h;have HF:=qH hf;have hl:n≤1048576:=by have:=hf.len;omega
 have HHN:=qH hhn;have HHE:=qH hh;have HKinds:=qH (fun(W:World) (hW:Ext w W)=>lU hs 7 ha hn hcap W G hhn (hh.ext hW) (by omega));have HKL:=qH (fun(W:World) (hW:Ext w W) (l:aJ) (hl:l∈ls) (a:Option Addr) (cap:Nat) (hin:LitIn w G l a cap)=>lU (aA l) 3 a (aA l).length cap W G rfl (hin.terms.ext hW) (by have:=hf.terms l hl;omega));clear hbn h hf hhn hh;go_enter Tryz.func69,Tryz.ntmps69;go_wp2;obtain⟨wb,eb⟩:=nm (w.alloc (.cells #[.string p,.slice ha hn hcap,.slice ba n bcap] 27));rw [eb];have HB:=qH (Blk.new w [.string p,.slice ha hn hcap,.slice ba n bcap] 27);have HX:=qH ((Kp.refl (F:=fun _=>False) w).alloc (.cells #[.string p,.slice ha hn hcap,.slice ba n bcap] 27));have eb2:w.alloc (.cells [Value.string p,.slice ha hn hcap,.slice ba n bcap].toArray 27)=wb:=eb;rw [eb2]at HB;rw [eb]at HX;clear eb eb2;go_loopw [4,3] (fun iv av wr=>aNl wb hs hn iv av wr) (fun iv _ _=>hn- (intOf iv).toNat)
 case atStart=>exact⟨0,0,Nat.zero_le _,Nat.le_refl _,rfl,rfl,rfl,Kp.refl _⟩
 case round=>
  obtain⟨i,a,hi,hai,rfl,rfl,hagg,hex⟩:=hrel;have b1:=(HB.out.ext hex.out).c1;have XR:=qH (HX.out.trans hex.out);by_cases hlt:i<hn
  ·have hlt':i<hs.length:=by rw [<-HHN.out];exact hlt
   obtain⟨t,ht⟩:∃t,hs[i]?=some t:=⟨_,qG hlt'⟩;obtain⟨b,off,eao,hc0,hc1,_⟩:=dT (HHE.out.ext XR.out) ht;subst eao;obtain⟨k,s,⟨⟩⟩:=t;simp only at hc0 hc1;have HT:=qH (rZ ht);clear ht hlt';by_cases h4:4≤k
   ·go_wp2;go_roundw
    case rel=>exact⟨i+1,a+1,by omega,by omega,nMX,nMX,qH (by rw [HT.out,<-hagg.out];simp [h4]),hex⟩
    case measure=>simp [intOf];omega
   ·go_wp2;go_roundw
    case rel=>exact⟨i+1,a,by omega,by omega,nMX,by first|rfl|trivial,qH (by rw [HT.out,<-hagg.out];simp [h4]),hex⟩
    case measure=>simp [intOf];omega
  ·have e:hs.take i=hs:=List.take_of_length_le (by have:=HHN.out;omega);have HA:=qH hagg.out;rw [e]at HA;clear e hagg;go_wp2_with fail
   refine(HKinds.out _ XR.out).mono ?_;rintro e w1 ⟨v,rfl,hk1,rfl⟩;have X1:=qH (hex.out.trans hk1);have d1:=(HB.out.ext X1.out).c1;clear hk1 b1;have hno:∀{q:Prop},fW hs=false->q=(cU ((p,hs,()),ls,())=false)->q:=fun x y=>by rw [y];unfold cU;rw [x];rfl
   have HNo:=qH (fun(x:fW hs=false)=>(show cU ((p,hs,()),ls,())=false by unfold cU;rw [x];rfl));clear hno;cases hkd:kinds hs 7
   ·go_wp2;go_ret;refine RetN.mk (HX.out.trans X1.out) (congrArg Value.bool ?_);rw [HNo.out (by unfold fW;rw [hkd];rfl)]
   ·by_cases ha1:1<a
    ·have ha1':(1:Int)< (a:Int):=by omega
     go_wp2;go_ret;refine RetN.mk (HX.out.trans X1.out) (congrArg Value.bool ?_);rw [HNo.out (by have:=HA.out;unfold fW;rw [decide_eq_false (show ¬aD1 hs<2 by omega)];simp)]
    ·have ha1':¬(1:Int)< (a:Int):=by omega
     by_cases h64:64<hn
     ·have h64':(64:Int)< (hn:Int):=by omega
      go_wp2;go_ret;refine RetN.mk (HX.out.trans X1.out) (congrArg Value.bool ?_);rw [HNo.out (by have:=HHN.out;unfold fW;rw [decide_eq_false (show ¬hs.length≤64 by omega)];simp)]
     ·have h64':¬(64:Int)< (hn:Int):=by omega
      have HOk:=qH (show fW hs=true by have g1:=HA.out;have g2:=HHN.out;unfold fW;rw [hkd,decide_eq_true (show aD1 hs<2 by omega),decide_eq_true (show hs.length≤64 by omega)];rfl);go_wp2;clear d1;go_loopw [5] (fun iv wr=>nX wb ls eO n iv wr) (fun iv _=>n- (intOf iv).toNat)
      case atStart=>exact⟨0,Nat.zero_le _,rfl,rfl,X1⟩
      case round=>
       obtain⟨q,hq,rfl,hall,hex3⟩:=hrel;have X3:=qH (HX.out.trans hex3.out);have b2:=(HB.out.ext hex3.out).c2;by_cases hlt3:q<n
       ·have hlt4:q<ls.length:=by rw [<-HN.out];exact hlt3
        obtain⟨l,hli⟩:∃l,ls[q]?=some l:=⟨_,qG hlt4⟩;obtain⟨b,off,a2,cap2,eao,hG,hb,hL,c0,c1,c2,c3,c4,c5,c6,c7⟩:=iC HE.out hli;subst eao;replace c0:=X3.out.cell c0 id;replace c1:=X3.out.cell c1 id;replace c2:=X3.out.cell c2 id;replace c3:=X3.out.cell c3 id;replace c4:=X3.out.cell c4 id;replace c5:=X3.out.cell c5 id;replace c6:=X3.out.cell c6 id;replace c7:=X3.out.cell c7 id;obtain⟨mm,emm⟩:∃mm,mm=(aA l).length:=⟨_,rfl⟩;have HKL2:=HKL.out;have hk0:=fun(W:World) (hW:Ext w W)=>HKL.out W hW l (List.mem_of_getElem? hli) a2 cap2 hL;rw [<-emm]at c2 hk0;have HKl:=qH hk0;have HF2:=qH (nIX hL.left hL.right);have HL:=qH (nIX hli emm);clear hli hlt4 hL hG hb emm hk0 HKL2;obtain⟨k,ek⟩:=nm l.1;obtain⟨op,eop⟩:=nm (gS l);obtain⟨lk,elk⟩:=nm ((leftOf l).1);obtain⟨lt,elt⟩:=nm ((leftOf l).2.1);obtain⟨rk,erk⟩:=nm ((aN l).1);obtain⟨rt,ert⟩:=nm ((aN l).2.1);rw [ek]at c0;rw [eop]at c3;rw [elk]at c4;rw [elt]at c5;rw [erk]at c6;rw [ert]at c7;have eleft:leftOf l=(lk,lt,()):=by rw [<-elk,<-elt]
        have eright:aN l=(rk,rt,()):=by rw [<-erk,<-ert]
        generalize bC l=s1 at c1;rw [eleft,eright]at HF2;have HK:=qH (nIX ek (nIX eop (nIX eleft eright)));clear ek eop elk elt erk ert eleft eright;have HQN:=qH (fun(x:eO l=false)=>(show cU ((p,hs,()),ls,())=false by unfold cU;rw [eH HL.out.1 x];simp));have HQY:=qH (fun(x:eO l=true)=>(show(ls.take (q+1)).all eO=true by rw [cC HL.out.1,hall.out,x];rfl));by_cases h12:k=1\/k=2
        ·have HL12:=qH (show eO l=(decide ((aA l).length≤64) && kinds (aA l) 3) by unfold eO;rw [HK.out.1,if_pos h12]);rcases h12 with rfl|rfl
         ·go_wp2_with fail
          refine(HKl.out _ (X3.out.alloc _)).mono ?_;rintro e w5 ⟨v,rfl,hk5,rfl⟩;have X5:=qH ((hex3.out.alloc _).trans hk5);have d2:=(Blk.new wr [.int .i64 1,.string s1,.slice a2 mm cap2,.int .i64 op,.int .i64 lk,.string lt,.int .i64 rk,.string rt] 40).ext hk5;have d3:=d2.c2;clear hk5 d2 c0 c1 c2 c3 c4 c5 c6 c7 b2;cases hkd2:kinds (aA l) 3
          ·go_wp2;go_ret;exact RetN.mk (HX.out.trans X5.out) (congrArg Value.bool (by rw [HQN.out (by rw [HL12.out,hkd2,Bool.and_false])]))
          ·by_cases g64:64<mm
           ·have g64':(64:Int)< (mm:Int):=by omega
            go_wp2;go_ret;exact RetN.mk (HX.out.trans X5.out) (congrArg Value.bool (by rw [HQN.out (by rw [HL12.out,decide_eq_false (by have:=HL.out.2;omega)];rfl)]))
           ·have g64':¬(64:Int)< (mm:Int):=by omega
            go_wp2;go_roundw
            case rel=>exact⟨q+1,by omega,nMX,HQY.out (by rw [HL12.out,hkd2,decide_eq_true (by have:=HL.out.2;omega)];rfl),X5⟩
            case measure=>simp [intOf];omega
         ·go_wp2_with fail
          refine(HKl.out _ (X3.out.alloc _)).mono ?_;rintro e w5 ⟨v,rfl,hk5,rfl⟩;have X5:=qH ((hex3.out.alloc _).trans hk5);have d2:=(Blk.new wr [.int .i64 2,.string s1,.slice a2 mm cap2,.int .i64 op,.int .i64 lk,.string lt,.int .i64 rk,.string rt] 40).ext hk5;have d3:=d2.c2;clear hk5 d2 c0 c1 c2 c3 c4 c5 c6 c7 b2;cases hkd2:kinds (aA l) 3
          ·go_wp2;go_ret;exact RetN.mk (HX.out.trans X5.out) (congrArg Value.bool (by rw [HQN.out (by rw [HL12.out,hkd2,Bool.and_false])]))
          ·by_cases g64:64<mm
           ·have g64':(64:Int)< (mm:Int):=by omega
            go_wp2;go_ret;exact RetN.mk (HX.out.trans X5.out) (congrArg Value.bool (by rw [HQN.out (by rw [HL12.out,decide_eq_false (by have:=HL.out.2;omega)];rfl)]))
           ·have g64':¬(64:Int)< (mm:Int):=by omega
            go_wp2;go_roundw
            case rel=>exact⟨q+1,by omega,nMX,HQY.out (by rw [HL12.out,hkd2,decide_eq_true (by have:=HL.out.2;omega)];rfl),X5⟩
            case measure=>simp [intOf];omega
        ·have n1:(k==1)=false:=by simp;exact fun e=>h12 (.inl e)
         have n2:(k==2)=false:=by simp;exact fun e=>h12 (.inr e)
         by_cases h3:k=3
         ·have n3:(k==3)=true:=by simp [h3]
          have HL3:=qH (show eO l=(decide (1≤op/\op≤4) && kinds [(lk,lt,()),(rk,rt,())] 3) by unfold eO;rw [HK.out.1,if_neg h12,if_pos h3,HK.out.2.1,HK.out.2.2.1,HK.out.2.2.2]);have HH:=qH (nIX h12 h3);clear h12 h3;by_cases o1:op<1
          ·go_wp2;go_ret;exact RetN.mk (X3.out.alloc _) (congrArg Value.bool (by rw [HQN.out (by rw [HL3.out,decide_eq_false (by omega)];rfl)]))
          ·by_cases o4:4<op
           ·go_wp2;go_ret;exact RetN.mk (X3.out.alloc _) (congrArg Value.bool (by rw [HQN.out (by rw [HL3.out,decide_eq_false (by omega)];rfl)]))
           ·have HT:=qH (fun(W:World) (g:Nat) (hg:g=W.heap.size)=>lU [(lk,lt,()),(rk,rt,())] 3 (some ⟨g,0,none⟩) 2 2 _ _ rfl (hg▸yI W lk lt rk rt HF2.out.1.1 HF2.out.2.1 HF2.out.1.2 HF2.out.2.2 38) (by decide));go_wp2_with fail
            refine(HT.out _ _ (aI _ _).symm).mono ?_;rintro e w5 ⟨v,rfl,hk5,rfl⟩;have X5:=qH (((hex3.out.alloc _).alloc _).trans hk5);clear hk5 c0 c1 c2 c3 c4 c5 c6 c7 b2;cases hkd2:kinds [(lk,lt,()),(rk,rt,())] 3
            ·go_wp2;go_ret;exact RetN.mk (HX.out.trans X5.out) (congrArg Value.bool (by rw [HQN.out (by rw [HL3.out,hkd2,Bool.and_false])]))
            ·go_wp2;go_roundw
             case rel=>exact⟨q+1,by omega,nMX,HQY.out (by rw [HL3.out,hkd2,decide_eq_true (by omega)];rfl),X5⟩
             case measure=>simp [intOf];omega
         ·have n3:(k==3)=false:=by simp [h3]
          have HH:=qH (nIX h12 h3);clear h12 h3;go_wp2;go_ret;exact RetN.mk (X3.out.alloc _) (congrArg Value.bool (by rw [HQN.out (by unfold eO;rw [HK.out.1,if_neg HH.out.1,if_neg HH.out.2])]))
       ·have e:ls.take q=ls:=List.take_of_length_le (by have:=HN.out;omega);have HC:=qH hall.out;rw [e]at HC;clear e hall;have hqn:¬(q:Int)< (n:Int):=by omega
        go_wp2;go_ret;exact RetN.mk X3.out (congrArg Value.bool (by unfold cU;rw [HOk.out,HC.out];rfl))
set_option maxHeartbeats 8000000 in
theorem aAp(p:ByteArray)(hs:List aE)(ls:List aJ)(ha:Option Addr)(hn hcap:Nat)(ba:Option Addr)(n bcap:Nat)(w:World)(G:Nat->Prop)(hhn:hn=hs.length)(hh:aR w G ha hs)(hhl:hn≤1048576)(hbn:n=ls.length)(h:cD w G ba ls)(hf:Fit ls):
 Calls Tryz.prog 21 #[dS p ha hn hcap ba n bcap] w (RetN w fun w' v=>v= .int .i64 (bG ((p,hs,()),ls,()))):=by
 have HN:=qH hbn;have HE:=qH h;have HF:=qH hf;have hl:n≤1048576:=by have:=hf.len;omega
 have HHN:=qH hhn;have HHE:=qH hh;have HParted:=qH (fun(W:World) (hW:Ext w W)=>aE2 p hs ls ha hn hcap ba n bcap W G hhn (hh.ext hW) hhl hbn (h.ext hW) hf);obtain⟨m,em⟩:∃m,m=(aC ls).length:=⟨_,rfl⟩;have HVars0:=fun(W:World) (hW:Ext w W)=>aCt p ha hn hcap ls ba n bcap W G hbn (h.ext hW) hf;rw [<-em]at HVars0;have HVars:=qH HVars0;have EM:=qH em;clear HVars0 em hbn h hf hhn hh;go_enter Tryz.func21,Tryz.ntmps21;have bb:=Blk.new w [.string p,.slice ha hn hcap,.slice ba n bcap] 27;go_wp2_with fail
 refine(HParted.out _ ((Kp.refl _).alloc _)).mono ?_;rintro e w1 ⟨v,rfl,hk1,rfl⟩;have B1:=qH (bb.ext hk1);have c0:=B1.out.c0;have c1:=B1.out.c1;have c2:=B1.out.c2;have X1:=qH (((Kp.refl _).alloc _).trans hk1);clear hk1 bb;cases hpt:cU ((p,hs,()),ls,())
 ·go_wp2;go_ret;exact RetN.mk X1.out (by unfold bG;rw [if_neg (by rw [hpt];simp)];rfl)
 ·have HP:=qH hpt;clear hpt;go_wp2_with fail
  refine(HVars.out _ X1.out).mono ?_;rintro e w2 ⟨v,rfl,hk2,ao,cap,rfl,hle,hcells⟩;have hm:m≤4611686018427387904:=by have h1:=lW HF.out.terms;have h2:=HF.out.len;have h3:=Nat.mul_le_mul_right 1048576 h2;have h4:=EM.out;omega
  have B2:=qH (B1.out.ext hk2);have HX2:=qH (X1.out.trans hk2);have HSafe:=qH (fun(W:World) (hW:Ext w2 W) (k:Int) (s:ByteArray)=>aJc (aC ls) ao m cap k s W EM.out (hcells.ext hW) hm);have HHas:=qH (fun(W:World) (hW:Ext w2 W) (s:ByteArray)=>aA1 (aC ls) s ao m cap W EM.out (hcells.ext hW) hm);clear hk2 hle hcells c0 c1 c2;go_wp2;go_loopw [4] (fun iv wr=>nX w2 hs (bY (aC ls) false) hn iv wr) (fun iv _=>hn- (intOf iv).toNat)
  case atStart=>exact⟨0,Nat.zero_le _,rfl,rfl,Kp.refl _⟩
  case round=>
   obtain⟨j,hj,rfl,hall3,hex3⟩:=hrel;have X3:=qH (HX2.out.trans hex3.out);have b1:=(B2.out.ext hex3.out).c1;by_cases hlt3:j<hn
   ·have hlt4:j<hs.length:=by rw [<-HHN.out];exact hlt3
    obtain⟨t,ht⟩:∃t,hs[j]?=some t:=⟨_,qG hlt4⟩;obtain⟨b2,off2,eao2,f0,f1,_⟩:=dT (HHE.out.ext X3.out) ht;subst eao2;obtain⟨kt,st,⟨⟩⟩:=t;simp only at f0 f1;have HT:=qH ht;clear ht hlt4;go_wp2_with fail
    refine(HSafe.out _ hex3.out kt st).mono ?_;rintro e w3 ⟨v,rfl,hk3,rfl⟩;have X4:=qH (hex3.out.trans hk3);clear hk3 f0 f1;cases hq:bY (aC ls) false (kt,st,())
    ·go_wp2;go_ret;refine RetN.mk (HX2.out.trans X4.out) ?_;unfold bG jO;rw [if_pos HP.out,if_neg (by rw [eH HT.out hq];simp)];rfl
    ·go_wp2;go_roundw
     case rel=>exact⟨j+1,by omega,nMX,by rw [cC HT.out,hall3.out,hq];rfl,X4⟩
     case measure=>simp [intOf];omega
   ·have e:hs.take j=hs:=List.take_of_length_le (by have:=HHN.out;omega);have HB:=qH hall3.out;rw [e]at HB;clear e hall3;have hltn:¬(j:Int)< (hn:Int):=by omega
    go_wp2;clear b1;go_loopw [5] (fun iv wr=>nX w2 ls (dX (aC ls)) n iv wr) (fun iv _=>n- (intOf iv).toNat)
    case atStart=>exact⟨0,Nat.zero_le _,rfl,rfl,hex3⟩
    case round=>
     obtain⟨q,hq,rfl,hall4,hex4⟩:=hrel;have X5:=qH (HX2.out.trans hex4.out);have b2:=(B2.out.ext hex4.out).c2;by_cases hlt5:q<n
     ·have hlt6:q<ls.length:=by rw [<-HN.out];exact hlt5
      obtain⟨l,hli⟩:∃l,ls[q]?=some l:=⟨_,qG hlt6⟩;obtain⟨b,off,a,cap2,eao,hG,hb,hL,c0,c1,c2,c3,c4,c5,c6,c7⟩:=iC HE.out hli;subst eao;replace c0:=X5.out.cell c0 id;replace c1:=X5.out.cell c1 id;replace c2:=X5.out.cell c2 id;replace c3:=X5.out.cell c3 id;replace c4:=X5.out.cell c4 id;replace c5:=X5.out.cell c5 id;replace c6:=X5.out.cell c6 id;replace c7:=X5.out.cell c7 id;have HL:=qH (nIX hli hL);have hq2:(q:Int)< (n:Int):=by omega
      obtain⟨mm,emm⟩:∃mm,mm=(aA l).length:=⟨_,rfl⟩;rw [<-emm]at c2;have HM:=qH emm;have hmm:mm≤1048576:=by rw [emm];exact HF.out.terms l (List.mem_of_getElem? hli)
      have HLok:=qH (show l.1=2->kinds (aA l) 3=true by intro h2;have h3:=HP.out;unfold cU at h3;rw [Bool.and_eq_true,List.all_eq_true]at h3;have h4:=h3.2 l (List.mem_of_getElem? hli);unfold eO at h4;rw [if_pos (.inr h2),Bool.and_eq_true]at h4;exact h4.2);clear hli hlt6 hL hG hb emm;obtain⟨k,ek⟩:=nm l.1;obtain⟨lk,elk⟩:=nm ((leftOf l).1);obtain⟨lt,elt⟩:=nm ((leftOf l).2.1);obtain⟨rk,erk⟩:=nm ((aN l).1);obtain⟨rt,ert⟩:=nm ((aN l).2.1);rw [ek]at c0 HLok;rw [elk]at c4;rw [elt]at c5;rw [erk]at c6;rw [ert]at c7;have eleft:leftOf l=(lk,lt,()):=by rw [<-elk,<-elt]
      have eright:aN l=(rk,rt,()):=by rw [<-erk,<-ert]
      generalize bC l=s1 at c1;generalize gS l=s3 at c3;have HK:=qH (nIX ek (nIX eleft eright));clear ek elk elt erk ert eleft eright;obtain⟨wx,ewx⟩:=nm (wr.alloc (.cells #[.int .i64 k,.string s1,.slice a mm cap2,.int .i64 s3,.int .i64 lk,.string lt,.int .i64 rk,.string rt] 40));have hB:=Blk.new wr [.int .i64 k,.string s1,.slice a mm cap2,.int .i64 s3,.int .i64 lk,.string lt,.int .i64 rk,.string rt] 40;have hWX:Ext w2 wx:=by rw [<-ewx];exact hex4.out.alloc _
      have hXX:Ext w wx:=HX2.out.trans hWX;obtain⟨g,eg⟩:∃g,g=wr.heap.size:=⟨_,rfl⟩;have HGB:=qH hB;rw [<-eg]at HGB;have ewx2:wr.alloc (.cells [Value.int .i64 k,.string s1,.slice a mm cap2,.int .i64 s3,.int .i64 lk,.string lt,.int .i64 rk,.string rt].toArray 40)=wx:=ewx;rw [ewx2]at HGB;have HWX:=qH hWX;have HXX:=qH hXX;have EG:=qH (nIX eg ewx);clear hB hWX hXX eg ewx ewx2;by_cases h3:k=3
      ·have b3:(k==3)=true:=by simp [h3]
       have n2:¬k=2:=by omega
       have HH3:=qH (nIX h3 n2);clear h3 n2;go_wp2_with fail
       rw [EG.out.2,<-EG.out.1];refine(HSafe.out _ HWX.out lk lt).mono ?_;rintro e w5 ⟨v,rfl,hk5,rfl⟩;have X6:=qH hk5;have d6:=(HGB.out.ext hk5).c6;have d7:=(HGB.out.ext hk5).c7;clear hk5 c0 c1 c2 c3 c4 c5 c6 c7;cases hsl:bY (aC ls) false (lk,lt,())
       ·go_wp2;go_ret;refine RetN.mk (HXX.out.trans X6.out) ?_;have hno:dX (aC ls) l=false:=by unfold dX;rw [if_pos (HK.out.1.trans HH3.out.1),HK.out.2.1,hsl];rfl
        unfold bG jO;rw [if_pos HP.out,if_neg (by rw [eH HL.out.1 hno];simp)];rfl
       ·go_wp2_with fail
        refine(HSafe.out _ (HWX.out.trans X6.out) rk rt).mono ?_;rintro e w7 ⟨v,rfl,hk7,rfl⟩;have X7:=qH (X6.out.trans hk7);clear hk7 d6 d7;cases hsr:bY (aC ls) false (rk,rt,())
        ·go_wp2;go_ret;refine RetN.mk (HXX.out.trans X7.out) ?_;have hno:dX (aC ls) l=false:=by unfold dX;rw [if_pos (HK.out.1.trans HH3.out.1),HK.out.2.1,HK.out.2.2,hsr,Bool.and_false]
         unfold bG jO;rw [if_pos HP.out,if_neg (by rw [eH HL.out.1 hno];simp)];rfl
        ·have HSL:=qH (show dX (aC ls) l=(aA l).all (fun t=>if k=2 then bY (aC ls) true t else true) by
          unfold dX;rw [if_pos (HK.out.1.trans HH3.out.1),HK.out.2.1,HK.out.2.2,hsl,hsr];exact(List.all_eq_true.2 (fun t _=>if_neg HH3.out.2)).symm)
         have HX7:=X7;clear X7;go_wp2;go_loopw [7] (fun iv wr=>nX wx (aA l) (fun t=>if k=2 then bY (aC ls) true t else true) mm iv wr) (fun iv _=>mm- (intOf iv).toNat)
         case atStart=>exact⟨0,Nat.zero_le _,rfl,rfl,HX7.out⟩
         case round=>
          obtain⟨z,hz,rfl,hall8,hex8⟩:=hrel;have X8:=qH (HXX.out.trans hex8.out);have d0:=(HGB.out.ext hex8.out).c0;have d2:=(HGB.out.ext hex8.out).c2;by_cases h2:k=2
          ·have b2:(k==2)=true:=by simp [h2]
           have HH2:=qH h2;clear h2;by_cases hlt7:z<mm
           ·have hlt8:z< (aA l).length:=by rw [<-HM.out];exact hlt7
            obtain⟨t,ht⟩:∃t,(aA l)[z]?=some t:=⟨_,qG hlt8⟩;obtain⟨b9,off9,eao9,f0,f1,_⟩:=dT (HL.out.2.terms.ext X8.out) ht;subst eao9;obtain⟨kt,st,⟨⟩⟩:=t;simp only at f0 f1;have HT:=qH ht;have hkt:1≤kt/\kt≤3:=by have h5:=HLok.out HH2.out;unfold kinds at h5;exact of_decide_eq_true (List.all_eq_true.1 h5 _ (List.mem_of_getElem? ht))
            have HKT:=qH hkt;clear ht hlt8 hkt;by_cases h1:kt=1
            ·have n1:(kt==1)=true:=by simp [h1]
             have hst:bY (aC ls) true (kt,st,())=gJ (aC ls) st:=by
              unfold bY;rw [if_neg (by simp only;omega)];cases gJ (aC ls) st
              ·exact decide_eq_false (by simp only;rintro(x|x|x)<;>first|omega|cases x)
              ·exact decide_eq_true (.inr (.inr rfl))
             have HST:=qH hst;clear h1 hst;go_wp2_with fail
             refine(HHas.out _ ((HWX.out.trans hex8.out).alloc _) st).mono ?_;rintro e w9 ⟨v,rfl,hk9,rfl⟩;have X9:=qH ((hex8.out.alloc _).trans hk9);clear hk9 f0 f1 d0 d2;cases hqq:gJ (aC ls) st
             ·go_wp2;go_ret;refine RetN.mk (HXX.out.trans X9.out) ?_;have hno:dX (aC ls) l=false:=by rw [HSL.out];exact eH HT.out (by show(if k=2 then _ else _)=false;rw [if_pos HH2.out,HST.out];exact hqq)
              unfold bG jO;rw [if_pos HP.out,if_neg (by rw [eH HL.out.1 hno];simp)];rfl
             ·go_wp2;go_roundw
              case rel=>exact⟨z+1,by omega,nMX,by rw [cC HT.out,hall8.out];show(if k=2 then _ else _)=true;rw [if_pos HH2.out,HST.out];exact hqq,X9⟩
              case measure=>simp [intOf];omega
            ·have n1:(kt==1)=false:=by simp [h1]
             have hst:bY (aC ls) true (kt,st,())=true:=by
              have h3:=HKT.out;unfold bY;by_cases h2:kt=2
              ·rw [if_pos h2]
              ·rw [if_neg h2];exact decide_eq_true (.inl (by simp only;omega))
             have HST:=qH hst;clear h1 hst;go_wp2;go_roundw
             case rel=>exact⟨z+1,by omega,nMX,by rw [cC HT.out,hall8.out];show(if k=2 then _ else _)=true;rw [if_pos HH2.out];exact HST.out,hex8.out.alloc _⟩
             case measure=>simp [intOf];omega
           ·have e:(aA l).take z=aA l:=List.take_of_length_le (by have:=HM.out;omega);have H9:=qH hall8.out;rw [e]at H9;clear e hall8;have hzm:¬(z:Int)< (mm:Int):=by omega
            go_wp2;go_roundw
            case rel=>exact⟨q+1,by omega,nMX,by rw [cC HL.out.1,hall4.out,HSL.out,H9.out];rfl,HWX.out.trans hex8.out⟩
            case measure=>simp [intOf];omega
          ·have b2:(k==2)=false:=by simp [h2]
           have HH2:=qH h2;clear h2;go_wp2;go_roundw
           case rel=>exact⟨q+1,by omega,nMX,by rw [cC HL.out.1,hall4.out,HSL.out,List.all_eq_true.2 (fun t _=>if_neg HH2.out)];rfl,HWX.out.trans hex8.out⟩
           case measure=>simp [intOf];omega
      ·have b3:(k==3)=false:=by simp [h3]
       have HSL:=qH (show dX (aC ls) l=(aA l).all (fun t=>if k=2 then bY (aC ls) true t else true) by
        unfold dX;rw [if_neg (fun x=>h3 (HK.out.1.symm.trans x)),HK.out.1];by_cases h2:k=2
        ·rw [if_pos h2];congr 1;funext t;rw [if_pos h2]
        ·rw [if_neg h2];symm;rw [List.all_eq_true];intro t _;rw [if_neg h2])
       have HH3:=qH h3;clear h3;go_wp2;rw [EG.out.2,<-EG.out.1];have HX7:=qH (Kp.refl (F:=fun _=>False) wx);clear c0 c1 c2 c3 c4 c5 c6 c7;go_loopw [7] (fun iv wr=>nX wx (aA l) (fun t=>if k=2 then bY (aC ls) true t else true) mm iv wr) (fun iv _=>mm- (intOf iv).toNat)
       case atStart=>exact⟨0,Nat.zero_le _,rfl,rfl,HX7.out⟩
       case round=>
        obtain⟨z,hz,rfl,hall8,hex8⟩:=hrel;have X8:=qH (HXX.out.trans hex8.out);have d0:=(HGB.out.ext hex8.out).c0;have d2:=(HGB.out.ext hex8.out).c2;by_cases h2:k=2
        ·have b2:(k==2)=true:=by simp [h2]
         have HH2:=qH h2;clear h2;by_cases hlt7:z<mm
         ·have hlt8:z< (aA l).length:=by rw [<-HM.out];exact hlt7
          obtain⟨t,ht⟩:∃t,(aA l)[z]?=some t:=⟨_,qG hlt8⟩;obtain⟨b9,off9,eao9,f0,f1,_⟩:=dT (HL.out.2.terms.ext X8.out) ht;subst eao9;obtain⟨kt,st,⟨⟩⟩:=t;simp only at f0 f1;have HT:=qH ht;have hkt:1≤kt/\kt≤3:=by have h5:=HLok.out HH2.out;unfold kinds at h5;exact of_decide_eq_true (List.all_eq_true.1 h5 _ (List.mem_of_getElem? ht))
          have HKT:=qH hkt;clear ht hlt8 hkt;by_cases h1:kt=1
          ·have n1:(kt==1)=true:=by simp [h1]
           have hst:bY (aC ls) true (kt,st,())=gJ (aC ls) st:=by
            unfold bY;rw [if_neg (by simp only;omega)];cases gJ (aC ls) st
            ·exact decide_eq_false (by simp only;rintro(x|x|x)<;>first|omega|cases x)
            ·exact decide_eq_true (.inr (.inr rfl))
           have HST:=qH hst;clear h1 hst;go_wp2_with fail
           refine(HHas.out _ ((HWX.out.trans hex8.out).alloc _) st).mono ?_;rintro e w9 ⟨v,rfl,hk9,rfl⟩;have X9:=qH ((hex8.out.alloc _).trans hk9);clear hk9 f0 f1 d0 d2;cases hqq:gJ (aC ls) st
           ·go_wp2;go_ret;refine RetN.mk (HXX.out.trans X9.out) ?_;have hno:dX (aC ls) l=false:=by rw [HSL.out];exact eH HT.out (by show(if k=2 then _ else _)=false;rw [if_pos HH2.out,HST.out];exact hqq)
            unfold bG jO;rw [if_pos HP.out,if_neg (by rw [eH HL.out.1 hno];simp)];rfl
           ·go_wp2;go_roundw
            case rel=>exact⟨z+1,by omega,nMX,by rw [cC HT.out,hall8.out];show(if k=2 then _ else _)=true;rw [if_pos HH2.out,HST.out];exact hqq,X9⟩
            case measure=>simp [intOf];omega
          ·have n1:(kt==1)=false:=by simp [h1]
           have hst:bY (aC ls) true (kt,st,())=true:=by
            have h3:=HKT.out;unfold bY;by_cases h2:kt=2
            ·rw [if_pos h2]
            ·rw [if_neg h2];exact decide_eq_true (.inl (by simp only;omega))
           have HST:=qH hst;clear h1 hst;go_wp2;go_roundw
           case rel=>exact⟨z+1,by omega,nMX,by rw [cC HT.out,hall8.out];show(if k=2 then _ else _)=true;rw [if_pos HH2.out];exact HST.out,hex8.out.alloc _⟩
           case measure=>simp [intOf];omega
         ·have e:(aA l).take z=aA l:=List.take_of_length_le (by have:=HM.out;omega);have H9:=qH hall8.out;rw [e]at H9;clear e hall8;have hzm:¬(z:Int)< (mm:Int):=by omega
          go_wp2;go_roundw
          case rel=>exact⟨q+1,by omega,nMX,by rw [cC HL.out.1,hall4.out,HSL.out,H9.out];rfl,HWX.out.trans hex8.out⟩
          case measure=>simp [intOf];omega
        ·have b2:(k==2)=false:=by simp [h2]
         have HH2:=qH h2;clear h2;go_wp2;go_roundw
         case rel=>exact⟨q+1,by omega,nMX,by rw [cC HL.out.1,hall4.out,HSL.out,List.all_eq_true.2 (fun t _=>if_neg HH2.out)];rfl,HWX.out.trans hex8.out⟩
         case measure=>simp [intOf];omega
     ·have e:ls.take q=ls:=List.take_of_length_le (by have:=HN.out;omega);have HC:=qH hall4.out;rw [e]at HC;clear e hall4;have hqn:¬(q:Int)< (n:Int):=by omega
      go_wp2;go_ret;refine RetN.mk X5.out ?_;unfold bG jO;rw [if_pos HP.out,if_pos (by simp only [Bool.and_eq_true];exact⟨HB.out,HC.out⟩)];rfl
end
section
theorem aB0{n:Nat}{P:Program}{row:String}{args:Array Value}{w:World}{R:Value->World->Prop}(h:Rows P row args w R):RowsIn Fence.wide n P row args w R:=
 fun c cs _=>let ⟨v,w',r,s⟩:=h c cs;⟨v,w',r,stepsIn_wide.2 s⟩
section
variable {P:Program}{l n:Nat}
theorem Oper.wpIn_of_wp{o:Oper}{a:Act}{w:World}{K:Act->World->Prop}{Q:Exit->Act->World->Prop}(hd:∀c,o.op≠ .defer c)(h:o.wp P a w K Q):o.wpIn (Fence.wide.inRound l) n P a w K Q:=by
 refine⟨fun f _=>trivial,?_⟩;rw [Oper.semAt_plain _ _ _ hd];unfold Oper.wp at h;generalize (execOp a.eval o).run P w=r at*;cases r with
 |ok x w'=>
  cases x with
  |value v=>exact h
  |skip=>exact h
  |defer d=>exact h
  |enter f args=>exact⟨fun e=>(by cases e),CallsIn.inRound l (callsIn_wide.2 h)⟩
  |row row args=>exact⟨fun e=>(by cases e),aB0 h⟩
  |_=>exact h.elim
 |halt x w'=>
  cases x with
  |panic v=>exact h
  |_=>exact h.elim
def aAw(ops:List Oper):Bool:=ops.all fun o=>match o.op with| .defer _=>false|_=>true
theorem aE5{ops:List Oper}(h:aAw ops=true){i:Nat}{o:Oper}(ho:ops.toArray[i]?=some o):∀c,o.op≠ .defer c:=fun c e=>by rw [List.getElem?_toArray]at ho;have:=List.all_eq_true.1 h o (List.mem_of_getElem? ho);rw [e]at this;cases this
theorem gM{md:Region.Mode}{ops:List Oper}{Q:Exit->Act->World->Prop}(hd:aAw ops=true)(hQ:∀a w,¬Q .outgrown a w):∀(fuel:Nat) (listed:Array Bool) (a:Act) (w:World),wpAny P md ops.toArray Q fuel listed a w->wpAnyIn (Fence.wide.inRound l) n P md ops.toArray Q fuel listed a w
 |0,_,_,_,h=>h
 |fuel+1,listed,a,w,h=>by
  refine⟨h.1,fun i hi=>?_⟩;have h1:=h.2 i hi;unfold wpOp at h1;unfold wpOpIn;cases ho:ops.toArray[i]? with
  |none=>
   rw [ho]at h1;exact gM hd hQ fuel _ _ _ h1
  |some o=>
   rw [ho]at h1;simp only at h1 ⊢;split
   ·rename_i hw;rw [if_pos hw]at h1;replace h1:=h1.resolve_right fun h=>by
     obtain⟨_,a',w',h⟩:=h;exact hQ a' w' h
    exact Oper.wpIn_mono (fun a w h=>gM hd hQ fuel _ a w h) (Oper.wpIn_of_wp (aE5 hd ho) h1)
   ·rename_i hw;rw [if_neg hw]at h1;exact⟨fun f _=>trivial,gM hd hQ fuel _ _ _ h1⟩
theorem dZ{id:Nat}{ops:List Oper}{Q:Exit->Act->World->Prop}{a:Act}{w:World}(S:World->Prop)(lates:List Nat)(hm:P.follows .mixedOrders=true)(hS:S w.drew)
 (h:S w.drew->cN P .any ops.toArray Q S lates ops.toArray.size (Array.replicate ops.toArray.size false) a w.drew)(hd:aAw ops=true:=by kernel_rfl)(hQ:∀a w,¬Q .outgrown a w:=by exact fun _ _ h=>h):(Code.region id ops.toArray true).wpIn (Fence.wide.inRound l) n P Q a w:=
 wpIn_region_any hm (gM hd hQ _ _ _ _ (pA _ _ _ _ (h hS)))
end
end
section
open Go.RowKit
theorem aId{cs:Array Value}{c:Value}{k:Nat}(hk:0<k)(h:cs=(List.replicate k c).toArray)(m:Nat):madeCells cs m=(List.replicate m c).toArray:=by
 subst h;apply Array.ext_getElem?;intro j;unfold madeCells;rw [Array.getElem?_map];by_cases hj:j<m
 ·have h1:(Array.range m)[j]?=some j:=by simp [hj]
  have h2:j % (List.replicate k c).toArray.size< (List.replicate k c).toArray.size:=Nat.mod_lt _ (by simp;exact hk);rw [h1,Option.map_some,getElem!_pos (List.replicate k c).toArray (j % (List.replicate k c).toArray.size) h2];simp [hj]
 ·simp [hj]
theorem jT{P:Program}{t e:TypeId}{k bytes:Nat}{z c:Value}(E:cL P t e k bytes z)(hc:z.cells=(List.replicate k c).toArray)(n:Nat)(hb:bytes*n≤281474976710656)(h63:n≤maxLen)(w:World):
 (Instr.makeSlice t (.int .i64 (n:Int)) (.int .i64 (n:Int))).run P w= .ok (.slice (some ⟨w.heap.size,0,none⟩) n n) (w.alloc (.cells (List.replicate (n*k) c).toArray e)):=by
 obtain⟨ht,hi,hz,hk⟩:=E;obtain⟨i,hi,h1,h2,h3⟩:=info_parts hi;have hb':(i.bytes:Int)*(n:Int)≤281474976710656:=by
  have h:((i.bytes*n:Nat):Int)≤281474976710656:=by rw [h3];omega
  rwa [Int.natCast_mul]at h
 have hr:=run_make (P:=P) w t e i z ht hi h1 .i64 .i64 n n (by omega) (Int.le_refl _) hb' (by unfold maxLen at h63;omega);simp only [Int.toNat_natCast,h2]at hr;rw [aId hk hc]at hr;exact hr
end
end Go.Proofs.YtinnmeiphbdogaaGreat
namespace Go.Proofs
open Go.Shelf
def Tryz.lays212_ren:Go.Shelf.Ren:=⟨fun|212=>131|263=>166|264=>167|n=>n,fun|46=>81|51=>226|146=>227|53=>229|148=>230|n=>n,fun|n=>n⟩
theorem Tryz.lays212:Go.Proofs.Lays.n212 Tryz.prog Tryz.lays212_ren:={
 mixed:=by kernel_rfl
 f212:=Tryz.func131.trans (congrArg some (by kernel_rfl))
 f263:=Tryz.func166.trans (congrArg some (by kernel_rfl))
 f264:=Tryz.func167.trans (congrArg some (by kernel_rfl))
 t46:=Tryz.underlying81
 a46:=Tryz.isAgg81
 z46:=Tryz.sizeOf81
 v46:=Tryz.zeroValue81
 t51:=Tryz.underlying226
 a51:=Tryz.isAgg226
 z51:=Tryz.sizeOf226
 v51:=Tryz.zeroValue226
 t53:=Tryz.underlying229
 a53:=Tryz.isAgg229
 z53:=Tryz.sizeOf229
 v53:=Tryz.zeroValue229
 t146:=Tryz.underlying227
 a146:=Tryz.isAgg227
 z146:=Tryz.sizeOf227
 v146:=Tryz.zeroValue227
 t148:=Tryz.underlying230
 a148:=Tryz.isAgg230
 z148:=Tryz.sizeOf230
 v148:=Tryz.zeroValue230}
open Go.RowKit Go.Lib in
theorem Tryz.bits_Mul(x y:Nat)(hx:x<18446744073709551616)(hy:y<18446744073709551616)(w:World):
 Calls Tryz.prog 131 #[.int .u64 x,.int .u64 y] w fun e w'=>e= .returned (.tuple #[.int .u64 ((x*y/18446744073709551616:Nat):Int),.int .u64 ((x*y % 18446744073709551616:Nat):Int)])/\w'=w:=Any.bits_Mul Tryz.lays212 x y hx hy w
def Tryz.laysSlF6_f199_ren:Go.Shelf.Ren:=⟨fun|6=>199|15=>209|14=>208|28=>221|29=>222|20=>212|21=>214|22=>215|23=>216|24=>217|25=>218|26=>219|27=>220|46=>226|47=>227|48=>228|49=>229|50=>230|57=>232|n=>n,fun|22=>69|24=>34|25=>131|3=>3|39=>81|0=>0|53=>226|55=>229|4=>4|46=>271|45=>270|50=>221|5=>5|9=>9|66=>279|70=>283|76=>285|77=>286|n=>n,fun|n=>n⟩
theorem Tryz.laysSlF6_f199:Go.Proofs.SlLaysF.n6 Tryz.prog Tryz.laysSlF6_f199_ren:={
 mixed:=by kernel_rfl
 f6:=⟨Tryz.f199.name,by decide,Tryz.func199.trans (congrArg some (by kernel_rfl))⟩
 f14:=⟨Tryz.f208.name,by decide,Tryz.func208.trans (congrArg some (by kernel_rfl))⟩
 f15:=Tryz.func209.trans (congrArg some (by kernel_rfl))
 f20:=⟨Tryz.f212.name,by decide,Tryz.func212.trans (congrArg some (by kernel_rfl))⟩
 f21:=⟨Tryz.f214.name,by decide,Tryz.func214.trans (congrArg some (by kernel_rfl))⟩
 f22:=⟨Tryz.f215.name,by decide,Tryz.func215.trans (congrArg some (by kernel_rfl))⟩
 f23:=⟨Tryz.f216.name,by decide,Tryz.func216.trans (congrArg some (by kernel_rfl))⟩
 f24:=⟨Tryz.f217.name,by decide,Tryz.func217.trans (congrArg some (by kernel_rfl))⟩
 f25:=⟨Tryz.f218.name,by decide,Tryz.func218.trans (congrArg some (by kernel_rfl))⟩
 f26:=⟨Tryz.f219.name,by decide,Tryz.func219.trans (congrArg some (by kernel_rfl))⟩
 f27:=⟨Tryz.f220.name,by decide,Tryz.func220.trans (congrArg some (by kernel_rfl))⟩
 f28:=Tryz.func221.trans (congrArg some (by kernel_rfl))
 f29:=Tryz.func222.trans (congrArg some (by kernel_rfl))
 f46:=⟨Tryz.f226.name,by decide,Tryz.func226.trans (congrArg some (by kernel_rfl))⟩
 f47:=Tryz.func227.trans (congrArg some (by kernel_rfl))
 f48:=Tryz.func228.trans (congrArg some (by kernel_rfl))
 f49:=⟨Tryz.f229.name,by decide,Tryz.func229.trans (congrArg some (by kernel_rfl))⟩
 f50:=⟨Tryz.f230.name,by decide,Tryz.func230.trans (congrArg some (by kernel_rfl))⟩
 f57:=⟨Tryz.f232.name,by decide,Tryz.func232.trans (congrArg some (by kernel_rfl))⟩
 t0:=Tryz.underlying0
 a0:=Tryz.isAgg0
 z0:=Tryz.sizeOf0
 v0:=Tryz.zeroValue0
 t3:=Tryz.underlying3
 a3:=Tryz.isAgg3
 z3:=Tryz.sizeOf3
 v3:=Tryz.zeroValue3
 t4:=Tryz.underlying4
 a4:=Tryz.isAgg4
 z4:=Tryz.sizeOf4
 v4:=Tryz.zeroValue4
 t5:=Tryz.underlying5
 a5:=Tryz.isAgg5
 z5:=Tryz.sizeOf5
 v5:=Tryz.zeroValue5
 t9:=Tryz.underlying9
 a9:=Tryz.isAgg9
 z9:=Tryz.sizeOf9
 v9:=Tryz.zeroValue9
 t22:=Tryz.underlying69
 a22:=Tryz.isAgg69
 z22:=Tryz.sizeOf69
 v22:=Tryz.zeroValue69
 a24:=Tryz.isAgg34
 z24:=Tryz.sizeOf34
 t25:=Tryz.underlying131
 a25:=Tryz.isAgg131
 z25:=Tryz.sizeOf131
 v25:=Tryz.zeroValue131
 t39:=Tryz.underlying81
 a39:=Tryz.isAgg81
 z39:=Tryz.sizeOf81
 v39:=Tryz.zeroValue81
 t45:=Tryz.underlying270
 a45:=Tryz.isAgg270
 z45:=Tryz.sizeOf270
 v45:=Tryz.zeroValue270
 t46:=Tryz.underlying271
 a46:=Tryz.isAgg271
 z46:=Tryz.sizeOf271
 v46:=Tryz.zeroValue271
 t50:=Tryz.underlying221
 a50:=Tryz.isAgg221
 z50:=Tryz.sizeOf221
 v50:=Tryz.zeroValue221
 t53:=Tryz.underlying226
 a53:=Tryz.isAgg226
 z53:=Tryz.sizeOf226
 v53:=Tryz.zeroValue226
 t55:=Tryz.underlying229
 a55:=Tryz.isAgg229
 z55:=Tryz.sizeOf229
 v55:=Tryz.zeroValue229
 t66:=Tryz.underlying279
 a66:=Tryz.isAgg279
 z66:=Tryz.sizeOf279
 v66:=Tryz.zeroValue279
 t70:=Tryz.underlying283
 a70:=Tryz.isAgg283
 z70:=Tryz.sizeOf283
 v70:=Tryz.zeroValue283
 t76:=Tryz.underlying285
 a76:=Tryz.isAgg285
 z76:=Tryz.sizeOf285
 v76:=Tryz.zeroValue285
 t77:=Tryz.underlying286
 a77:=Tryz.isAgg286
 z77:=Tryz.sizeOf286
 v77:=Tryz.zeroValue286}
def Tryz.laysSlF06_f199_ren:Go.Shelf.Ren:=⟨fun|6=>199|15=>209|14=>208|28=>221|29=>222|20=>212|21=>214|22=>215|23=>216|24=>217|25=>218|26=>219|27=>220|46=>226|47=>227|48=>228|49=>229|50=>230|57=>232|n=>n,fun|22=>69|24=>34|25=>131|3=>3|39=>81|0=>0|53=>226|55=>229|4=>4|46=>271|45=>270|50=>221|5=>5|9=>9|66=>279|70=>283|76=>285|77=>286|n=>n,fun|n=>n⟩
theorem Tryz.laysSlF06_f199:Go.Proofs.SlLaysF0.n6 Tryz.prog Tryz.laysSlF06_f199_ren:={
 mixed:=by kernel_rfl
 f6:=⟨Tryz.f199.name,by decide,Tryz.func199.trans (congrArg some (by kernel_rfl))⟩
 f14:=⟨Tryz.f208.name,by decide,Tryz.func208.trans (congrArg some (by kernel_rfl))⟩
 f15:=Tryz.func209.trans (congrArg some (by kernel_rfl))
 f20:=⟨Tryz.f212.name,by decide,Tryz.func212.trans (congrArg some (by kernel_rfl))⟩
 f21:=⟨Tryz.f214.name,by decide,Tryz.func214.trans (congrArg some (by kernel_rfl))⟩
 f22:=⟨Tryz.f215.name,by decide,Tryz.func215.trans (congrArg some (by kernel_rfl))⟩
 f23:=⟨Tryz.f216.name,by decide,Tryz.func216.trans (congrArg some (by kernel_rfl))⟩
 f24:=⟨Tryz.f217.name,by decide,Tryz.func217.trans (congrArg some (by kernel_rfl))⟩
 f25:=⟨Tryz.f218.name,by decide,Tryz.func218.trans (congrArg some (by kernel_rfl))⟩
 f26:=⟨Tryz.f219.name,by decide,Tryz.func219.trans (congrArg some (by kernel_rfl))⟩
 f27:=⟨Tryz.f220.name,by decide,Tryz.func220.trans (congrArg some (by kernel_rfl))⟩
 f28:=Tryz.func221.trans (congrArg some (by kernel_rfl))
 f29:=Tryz.func222.trans (congrArg some (by kernel_rfl))
 f46:=⟨Tryz.f226.name,by decide,Tryz.func226.trans (congrArg some (by kernel_rfl))⟩
 f47:=Tryz.func227.trans (congrArg some (by kernel_rfl))
 f48:=Tryz.func228.trans (congrArg some (by kernel_rfl))
 f49:=⟨Tryz.f229.name,by decide,Tryz.func229.trans (congrArg some (by kernel_rfl))⟩
 f50:=⟨Tryz.f230.name,by decide,Tryz.func230.trans (congrArg some (by kernel_rfl))⟩
 f57:=⟨Tryz.f232.name,by decide,Tryz.func232.trans (congrArg some (by kernel_rfl))⟩
 t0:=Tryz.underlying0
 a0:=Tryz.isAgg0
 z0:=Tryz.sizeOf0
 v0:=Tryz.zeroValue0
 t3:=Tryz.underlying3
 a3:=Tryz.isAgg3
 z3:=Tryz.sizeOf3
 v3:=Tryz.zeroValue3
 t4:=Tryz.underlying4
 a4:=Tryz.isAgg4
 z4:=Tryz.sizeOf4
 v4:=Tryz.zeroValue4
 t5:=Tryz.underlying5
 a5:=Tryz.isAgg5
 z5:=Tryz.sizeOf5
 v5:=Tryz.zeroValue5
 t9:=Tryz.underlying9
 a9:=Tryz.isAgg9
 z9:=Tryz.sizeOf9
 v9:=Tryz.zeroValue9
 t22:=Tryz.underlying69
 a22:=Tryz.isAgg69
 z22:=Tryz.sizeOf69
 v22:=Tryz.zeroValue69
 t25:=Tryz.underlying131
 a25:=Tryz.isAgg131
 z25:=Tryz.sizeOf131
 v25:=Tryz.zeroValue131
 t39:=Tryz.underlying81
 a39:=Tryz.isAgg81
 z39:=Tryz.sizeOf81
 v39:=Tryz.zeroValue81
 t45:=Tryz.underlying270
 a45:=Tryz.isAgg270
 z45:=Tryz.sizeOf270
 v45:=Tryz.zeroValue270
 t46:=Tryz.underlying271
 a46:=Tryz.isAgg271
 z46:=Tryz.sizeOf271
 v46:=Tryz.zeroValue271
 t50:=Tryz.underlying221
 a50:=Tryz.isAgg221
 z50:=Tryz.sizeOf221
 v50:=Tryz.zeroValue221
 t53:=Tryz.underlying226
 a53:=Tryz.isAgg226
 z53:=Tryz.sizeOf226
 v53:=Tryz.zeroValue226
 t55:=Tryz.underlying229
 a55:=Tryz.isAgg229
 z55:=Tryz.sizeOf229
 v55:=Tryz.zeroValue229
 t66:=Tryz.underlying279
 a66:=Tryz.isAgg279
 z66:=Tryz.sizeOf279
 v66:=Tryz.zeroValue279
 t70:=Tryz.underlying283
 a70:=Tryz.isAgg283
 z70:=Tryz.sizeOf283
 v70:=Tryz.zeroValue283
 t76:=Tryz.underlying285
 a76:=Tryz.isAgg285
 z76:=Tryz.sizeOf285
 v76:=Tryz.zeroValue285
 t77:=Tryz.underlying286
 a77:=Tryz.isAgg286
 z77:=Tryz.sizeOf286
 v77:=Tryz.zeroValue286}
end Go.Proofs
namespace Go.Proofs.YtinnmeiphbdogaaGreat
section
open Go.RowKit
theorem yT(k:Int)(w:World):Calls Tryz.prog 20 #[.int .i64 k] w (RetN w fun w' u=>u= .int .i64 k):=by go_enter Tryz.func20,Tryz.ntmps20;go_wp2;go_ret;exact RetN.mk (Kp.refl _) rfl
theorem lM(s:ByteArray)(w:World):Calls Tryz.prog 29 #[.string s] w (RetN w fun w' u=>u= .agg #[.int .i64 1,.string s]):=by
 obtain⟨g0,eg0⟩:=nm w.heap.size;obtain⟨wb,eb⟩:=nm ((w.alloc (.cells #[.int .i64 0,.string ⟨#[]⟩] 38)));have hB:Blk wb (g0) [.int .i64 0,.string ⟨#[]⟩] 38:=by rw [<-eb,<-eg0];exact Blk.new w _ _
 have HX:=qH (show Ext w wb by rw [<-eb];exact((Kp.refl w).alloc _));have HB:=qH (nIX hB eg0);have f0:=hB.free 0;have u0:=hB.c0;have f1:=hB.free 1;have u1:=hB.c1;clear hB;go_enter Tryz.func29,Tryz.ntmps29;go_wp2;obtain⟨W,eW⟩:=nm (((wb.setCell ⟨g0,0,none⟩ (.int .i64 1)).setCell ⟨g0,1,none⟩ (.string s)));have hBW:Blk W (g0) [.int .i64 1,.string s] 38:=by rw [<-eW];exact((HB.out.1.set 0 _).set 1 _)
 have kW:Kp (fun k=>k=g0) wb W:=by rw [<-eW];exact(kSb)
 have d0:=hBW.c0;have d1:=hBW.c1;rw [eW];refine bodyPost_ret (v:= .agg #[.int .i64 1,.string s]) (by simp [results,Tryz.results29,go_sem,d0,d1]) rfl ?_;exact RetN.mk (HX.out.trans' kW fun i hi e=>by have:=HB.out.2;omega) rfl
theorem yQ(p:ByteArray)(a:Option Addr)(n c:Nat)(w:World):Calls Tryz.prog 31 #[.string p,.slice a n c] w (RetN w fun w' u=>u= .agg #[.int .i64 1,.string p,.slice a n c,.int .i64 0,.int .i64 0,.string ⟨#[]⟩,.int .i64 0,.string ⟨#[]⟩]):=by
 obtain⟨g0,eg0⟩:=nm w.heap.size;obtain⟨wb,eb⟩:=nm ((w.alloc (.cells #[.int .i64 0,.string ⟨#[]⟩,.slice none 0 0,.int .i64 0,.int .i64 0,.string ⟨#[]⟩,.int .i64 0,.string ⟨#[]⟩] 40)));have hB:Blk wb (g0) [.int .i64 0,.string ⟨#[]⟩,.slice none 0 0,.int .i64 0,.int .i64 0,.string ⟨#[]⟩,.int .i64 0,.string ⟨#[]⟩] 40:=by rw [<-eb,<-eg0];exact Blk.new w _ _
 have HX:=qH (show Ext w wb by rw [<-eb];exact((Kp.refl w).alloc _));have HB:=qH (nIX hB eg0);have f0:=hB.free 0;have u0:=hB.c0;have f1:=hB.free 1;have u1:=hB.c1;have f2:=hB.free 2;have u2:=hB.c2;have f3:=hB.free 3;have u3:=hB.c3;have f4:=hB.free 4;have u4:=hB.c4;have f5:=hB.free 5;have u5:=hB.c5;have f6:=hB.free 6;have u6:=hB.c6;have f7:=hB.free 7;have u7:=hB.c7;clear hB;go_enter Tryz.func31,Tryz.ntmps31;go_wp2;obtain⟨W,eW⟩:=nm (((((((((wb.setCell ⟨g0,0,none⟩ (.int .i64 1)).setCell ⟨g0,1,none⟩ (.string p)).setCell ⟨g0,2,none⟩ (.slice a n c)).setCell ⟨g0,3,none⟩ (.int .i64 0)).setCell ⟨g0,4,none⟩ (.int .i64 0)).setCell ⟨g0,5,none⟩ (.string ⟨#[]⟩)).setCell ⟨g0,6,none⟩ (.int .i64 0)).setCell ⟨g0,7,none⟩ (.string ⟨#[]⟩)));have hBW:Blk W (g0) [.int .i64 1,.string p,.slice a n c,.int .i64 0,.int .i64 0,.string ⟨#[]⟩,.int .i64 0,.string ⟨#[]⟩] 40:=by rw [<-eW];exact((((((((HB.out.1.set 0 _).set 1 _).set 2 _).set 3 _).set 4 _).set 5 _).set 6 _).set 7 _)
 have kW:Kp (fun k=>k=g0) wb W:=by rw [<-eW];exact(Kp.setCell (F:=fun k=>k=g0) (p:=⟨g0,7,none⟩) (Kp.setCell (F:=fun k=>k=g0) (p:=⟨g0,6,none⟩) (Kp.setCell (F:=fun k=>k=g0) (p:=⟨g0,5,none⟩) (Kp.setCell (F:=fun k=>k=g0) (p:=⟨g0,4,none⟩) (Kp.setCell (F:=fun k=>k=g0) (p:=⟨g0,3,none⟩) (Kp.setCell (F:=fun k=>k=g0) (p:=⟨g0,2,none⟩) (kSb) (fun _=>rfl) _) (fun _=>rfl) _) (fun _=>rfl) _) (fun _=>rfl) _) (fun _=>rfl) _) (fun _=>rfl) _)
 have d0:=hBW.c0;have d1:=hBW.c1;have d2:=hBW.c2;have d3:=hBW.c3;have d4:=hBW.c4;have d5:=hBW.c5;have d6:=hBW.c6;have d7:=hBW.c7;rw [eW];refine bodyPost_ret (v:= .agg #[.int .i64 1,.string p,.slice a n c,.int .i64 0,.int .i64 0,.string ⟨#[]⟩,.int .i64 0,.string ⟨#[]⟩]) (by simp [results,Tryz.results31,go_sem,d0,d1,d2,d3,d4,d5,d6,d7]) rfl ?_;exact RetN.mk (HX.out.trans' kW fun i hi e=>by have:=HB.out.2;omega) rfl
theorem aH8(p:ByteArray)(a:Option Addr)(n c:Nat)(w:World):Calls Tryz.prog 32 #[.string p,.slice a n c] w (RetN w fun w' u=>u= .agg #[.int .i64 2,.string p,.slice a n c,.int .i64 0,.int .i64 0,.string ⟨#[]⟩,.int .i64 0,.string ⟨#[]⟩]):=by
 obtain⟨g0,eg0⟩:=nm w.heap.size;obtain⟨wb,eb⟩:=nm ((w.alloc (.cells #[.int .i64 0,.string ⟨#[]⟩,.slice none 0 0,.int .i64 0,.int .i64 0,.string ⟨#[]⟩,.int .i64 0,.string ⟨#[]⟩] 40)));have hB:Blk wb (g0) [.int .i64 0,.string ⟨#[]⟩,.slice none 0 0,.int .i64 0,.int .i64 0,.string ⟨#[]⟩,.int .i64 0,.string ⟨#[]⟩] 40:=by rw [<-eb,<-eg0];exact Blk.new w _ _
 have HX:=qH (show Ext w wb by rw [<-eb];exact((Kp.refl w).alloc _));have HB:=qH (nIX hB eg0);have f0:=hB.free 0;have u0:=hB.c0;have f1:=hB.free 1;have u1:=hB.c1;have f2:=hB.free 2;have u2:=hB.c2;have f3:=hB.free 3;have u3:=hB.c3;have f4:=hB.free 4;have u4:=hB.c4;have f5:=hB.free 5;have u5:=hB.c5;have f6:=hB.free 6;have u6:=hB.c6;have f7:=hB.free 7;have u7:=hB.c7;clear hB;go_enter Tryz.func32,Tryz.ntmps32;go_wp2;obtain⟨W,eW⟩:=nm (((((((((wb.setCell ⟨g0,0,none⟩ (.int .i64 2)).setCell ⟨g0,1,none⟩ (.string p)).setCell ⟨g0,2,none⟩ (.slice a n c)).setCell ⟨g0,3,none⟩ (.int .i64 0)).setCell ⟨g0,4,none⟩ (.int .i64 0)).setCell ⟨g0,5,none⟩ (.string ⟨#[]⟩)).setCell ⟨g0,6,none⟩ (.int .i64 0)).setCell ⟨g0,7,none⟩ (.string ⟨#[]⟩)));have hBW:Blk W (g0) [.int .i64 2,.string p,.slice a n c,.int .i64 0,.int .i64 0,.string ⟨#[]⟩,.int .i64 0,.string ⟨#[]⟩] 40:=by rw [<-eW];exact((((((((HB.out.1.set 0 _).set 1 _).set 2 _).set 3 _).set 4 _).set 5 _).set 6 _).set 7 _)
 have kW:Kp (fun k=>k=g0) wb W:=by rw [<-eW];exact(Kp.setCell (F:=fun k=>k=g0) (p:=⟨g0,7,none⟩) (Kp.setCell (F:=fun k=>k=g0) (p:=⟨g0,6,none⟩) (Kp.setCell (F:=fun k=>k=g0) (p:=⟨g0,5,none⟩) (Kp.setCell (F:=fun k=>k=g0) (p:=⟨g0,4,none⟩) (Kp.setCell (F:=fun k=>k=g0) (p:=⟨g0,3,none⟩) (Kp.setCell (F:=fun k=>k=g0) (p:=⟨g0,2,none⟩) (kSb) (fun _=>rfl) _) (fun _=>rfl) _) (fun _=>rfl) _) (fun _=>rfl) _) (fun _=>rfl) _) (fun _=>rfl) _)
 have d0:=hBW.c0;have d1:=hBW.c1;have d2:=hBW.c2;have d3:=hBW.c3;have d4:=hBW.c4;have d5:=hBW.c5;have d6:=hBW.c6;have d7:=hBW.c7;rw [eW];refine bodyPost_ret (v:= .agg #[.int .i64 2,.string p,.slice a n c,.int .i64 0,.int .i64 0,.string ⟨#[]⟩,.int .i64 0,.string ⟨#[]⟩]) (by simp [results,Tryz.results32,go_sem,d0,d1,d2,d3,d4,d5,d6,d7]) rfl ?_;exact RetN.mk (HX.out.trans' kW fun i hi e=>by have:=HB.out.2;omega) rfl
theorem aEo(ha ba:Option Addr)(hn hc n c:Nat)(w:World):Calls Tryz.prog 30 #[.slice ha hn hc,.slice ba n c] w (RetN w fun w' u=>u=dS ⟨#[116]⟩ ha hn hc ba n c):=by
 obtain⟨g0,eg0⟩:=nm w.heap.size;obtain⟨wb,eb⟩:=nm ((w.alloc (.cells #[.string ⟨#[]⟩,.slice none 0 0,.slice none 0 0] 27)));have hB:Blk wb (g0) [.string ⟨#[]⟩,.slice none 0 0,.slice none 0 0] 27:=by rw [<-eb,<-eg0];exact Blk.new w _ _
 have HX:=qH (show Ext w wb by rw [<-eb];exact((Kp.refl w).alloc _));have HB:=qH (nIX hB eg0);have f0:=hB.free 0;have u0:=hB.c0;have f1:=hB.free 1;have u1:=hB.c1;have f2:=hB.free 2;have u2:=hB.c2;clear hB;go_enter Tryz.func30,Tryz.ntmps30;go_wp2;obtain⟨W,eW⟩:=nm ((((wb.setCell ⟨g0,0,none⟩ (.string ⟨#[116]⟩)).setCell ⟨g0,1,none⟩ (.slice ha hn hc)).setCell ⟨g0,2,none⟩ (.slice ba n c)));have hBW:Blk W (g0) [.string ⟨#[116]⟩,.slice ha hn hc,.slice ba n c] 27:=by rw [<-eW];exact(((HB.out.1.set 0 _).set 1 _).set 2 _)
 have kW:Kp (fun k=>k=g0) wb W:=by rw [<-eW];exact(Kp.setCell (F:=fun k=>k=g0) (p:=⟨g0,2,none⟩) (kSb) (fun _=>rfl) _)
 have d0:=hBW.c0;have d1:=hBW.c1;have d2:=hBW.c2;rw [eW];refine bodyPost_ret (v:=dS ⟨#[116]⟩ ha hn hc ba n c) (by simp [results,Tryz.results30,go_sem,d0,d1,d2]) rfl ?_;exact RetN.mk (HX.out.trans' kW fun i hi e=>by have:=HB.out.2;omega) rfl
theorem aJ4{r:dC}(hb:iU.bulk r≤1048576):r.1.2.1.length≤1048576/\Fit r.2.1:=by have e:iU.bulk r=(jM.bulk r.1+((cK fL.bulk r.2.1+1)+0))+1:=rfl;have ea:∀a:aHg,jM.bulk a=((a.1.size+1)+((cK cA.bulk a.2.1+1)+0))+1:=fun _=>rfl;have el:∀l:aJ,fL.bulk l=(1+(jM.bulk l.2.1+(1+(cA.bulk l.2.2.2.1+(cA.bulk l.2.2.2.2.1+0)))))+1:=fun _=>rfl;have et:∀ts:List aE,ts.length≤cK cA.bulk ts:=fun ts=>gE cA.bulk (fun t=>by show 1≤_+1;omega) ts;have h1:=ea r.1;have h2:=et r.1.2.1;have h3:=gE fL.bulk (fun l=>by show 1≤_+1;omega) r.2.1;refine⟨by omega,by omega,fun l hl=>?_⟩;have h4:=jH fL.bulk hl;have h5:=el l;have h6:=ea l.2.1;have h7:=et (aA l);have h8:cK cA.bulk (aA l)=cK cA.bulk l.2.1.2.1:=rfl;omega
theorem aBc(a:List ByteArray)(t:aE):(bE a t).length≤a.length+1:=by
 unfold bE;split
 ·rw [List.length_append];exact Nat.le_refl _
 ·exact Nat.le_succ _
theorem nE:∀(ts:List aE) (a:List ByteArray),(bZ a ts).length≤a.length+ts.length
 | [],a=>Nat.le_refl _
 |t::ts,a=>by have h1:=nE ts (bE a t);have h2:=aBc a t;show(bZ (bE a t) ts).length≤_;rw [List.length_cons];omega
theorem sR:∀(ls:List aJ) (a:List ByteArray),(ls.foldl bK a).length≤a.length+cK fL.bulk ls
 | [],a=>Nat.le_refl _
 |l::ls,a=>by
  have h1:=sR ls (bK a l);have h2:(bK a l).length≤a.length+(aA l).length:=by
   unfold bK;split
   ·exact nE _ _
   ·exact Nat.le_add_right _ _
  have h3:(aA l).length≤fL.bulk l:=by have el:fL.bulk l=(1+(jM.bulk l.2.1+(1+(cA.bulk l.2.2.2.1+(cA.bulk l.2.2.2.2.1+0)))))+1:=rfl;have ea:jM.bulk l.2.1=((l.2.1.1.size+1)+((cK cA.bulk l.2.1.2.1+1)+0))+1:=rfl;have et:(aA l).length≤cK cA.bulk l.2.1.2.1:=gE cA.bulk (fun t=>by show 1≤_+1;omega) _;omega
  rw [iE];show(ls.foldl bK (bK a l)).length≤_;omega
theorem aIb{r:dC}(hb:iU.bulk r≤1048576):(aC r.2.1).length≤1048576:=by have e:iU.bulk r=(jM.bulk r.1+((cK fL.bulk r.2.1+1)+0))+1:=rfl;have h1:=sR r.2.1 [];have h2:(aC r.2.1).length≤0+cK fL.bulk r.2.1:=h1;omega
def cH(z:Nat->Option Addr×Nat×Nat)(i:Nat):Value:=(Value.slice (z (i)).1 (z (i)).2.1 (z (i)).2.2)
theorem cQ:cL Tryz.prog 69 34 1 24 (.slice none 0 0):=⟨by kernel_rfl,by kernel_rfl,rfl,by decide⟩
def aD5(P:Program)(f:FuncId)(first captured:Array Value)(w0:World)(vs:List Value)(t:Value)(c:Nat->Int):Prop:=
 (∀args w,(callFunc f args).run P w= .ok (Next.enter f args) w)/\∀w,Ext w0 w->∀i v,vs[i]?=some v->Calls P f (first++(#[v,t]++captured)) w fun e w'=>e= .returned (.int .i64 (c i))/\Ext w w'
def aLo(n:Nat)(c:Nat->Int)(w0:World)(iv jv:Value)(w:World):Prop:=
 ∃i j:Nat,i≤j/\j≤n/\iv= .int .i64 i/\jv= .int .i64 j/\(i=0\/c (i-1)<0)/\(j=n\/0≤c j)/\Ext w0 w
set_option maxHeartbeats 2000000 in
theorem rY(zs:List (Option Addr×Nat×Nat))(z:Nat->Option Addr×Nat×Nat)(ao:Option Addr)(cap:Nat)(t:Value)(f:FuncId)(first captured:Array Value)(c:Nat->Int)(w:World)(n:Nat)
 (hc:CellsAt w ao ((List.range n).map fun i=>(Value.slice (z (i)).1 (z (i)).2.1 (z (i)).2.2)))(hcmp:aD5 Tryz.prog f first captured w ((List.range n).map fun i=>(Value.slice (z (i)).1 (z (i)).2.1 (z (i)).2.2)) t c)(hm:n≤4611686018427387904):
 Calls Tryz.prog 191 #[.slice ao n cap,t,.func (Fn.func f) first captured] w
  (RetF (fun _=>False) w fun w' v=>∃i:Nat,i≤n/\(i=0\/c (i-1)<0)/\(i=n\/0≤c i)/\v= .tuple #[.int .i64 i,.bool (decide (i<n/\c i=0))]):=by
 have hent:=hcmp.1;have HC:=qH hcmp.2;clear hcmp;have cell:∀W:World,Ext w W->∀i,i<n->∃b off,ao=some ⟨b,off,none⟩/\W.cell? ⟨b,off+i,none⟩=some ((Value.slice (z (i)).1 (z (i)).2.1 (z (i)).2.2)):=fun W hW i hi=>by have:=hc.ext hW;exact this i _ (by simp [hi])
 have HCELL:=qH cell;clear cell;go_enter Tryz.func191,Tryz.ntmps191;go_wp2;go_loopw [9,10] (aLo n c w) (fun i j _=>(intOf j).toNat- (intOf i).toNat)
 case atStart=>exact⟨0,n,Nat.zero_le _,Nat.le_refl _,rfl,rfl,.inl rfl,.inl rfl,Kp.refl _⟩
 case round=>
  obtain⟨i,j,hij,hj,rfl,rfl,hlo,hhi,hkp⟩:=hrel;have HL:=qH (nIX hlo hhi);clear hlo hhi;by_cases hlt:i<j
  ·obtain⟨h,eh⟩:∃h,h=(i+j)/2:=⟨_,rfl⟩;have rh:((i:Int)+j)/2=(h:Int):=by omega
   have hhn:h<n:=by omega
   have h1:i≤h:=by omega
   have h2:h<j:=by omega
   clear eh;obtain⟨b,off,rfl,c1⟩:=HCELL.out _ hkp h hhn;have hcall:=fun W hW=>HC.out W hW h ((Value.slice (z (h)).1 (z (h)).2.1 (z (h)).2.2)) (by simp [hhn]);have HCall:=qH hcall;clear hcall;generalize hcc:c h=cc at HCall;have HCC:=qH hcc;clear hcc;by_cases hneg:cc<0
   ·go_wp2_with fail
    refine(HCall.out _ hkp).mono ?_;rintro e w1 ⟨rfl,hk2⟩;have hkp2:=hkp.ext hk2;clear hk2 c1;go_wp2;go_roundw
    case rel=>exact⟨h+1,j,by omega,hj,nMX,rfl,.inr (by rw [Nat.add_sub_cancel,HCC.out];omega),HL.out.2,hkp2⟩
    case measure=>simp [intOf];omega
   ·go_wp2_with fail
    refine(HCall.out _ hkp).mono ?_;rintro e w1 ⟨rfl,hk2⟩;have hkp2:=hkp.ext hk2;clear hk2 c1;go_wp2;go_roundw
    case rel=>exact⟨i,h,by omega,by omega,rfl,nMX,HL.out.1,.inr (by rw [HCC.out];omega),hkp2⟩
    case measure=>simp [intOf];omega
  ·obtain rfl:i=j:=by omega
   by_cases hin:i<n
   ·obtain⟨b,off,rfl,c1⟩:=HCELL.out _ hkp i hin;have hcall:=fun W hW=>HC.out W hW i ((Value.slice (z (i)).1 (z (i)).2.1 (z (i)).2.2)) (by simp [hin]);have HCall:=qH hcall;clear hcall;generalize hcc:c i=cc at HCall;have HCC:=qH hcc;clear hcc;have key:decide (i<n/\c i=0)=(cc==0):=by rw [HCC.out];simp [hin];rfl
    have HK:=qH key;clear key;generalize hbb:(cc==0)=bb at HK;go_wp2_with fail
    refine(HCall.out _ hkp).mono ?_;rintro e w1 ⟨rfl,hk2⟩;have hkp2:=hkp.ext hk2;clear hk2 c1;go_wp2;go_ret2;exact RetF.mk hkp2 ⟨i,by omega,HL.out.1,HL.out.2,aEe HK.out⟩
   ·have key:decide (i<n/\c i=0)=false:=by simp;omega
    have HK:=qH key;clear key;go_wp2;go_ret2;exact RetF.mk hkp ⟨i,by omega,HL.out.1,HL.out.2,aEe HK.out⟩
set_option maxHeartbeats 4000000 in
theorem xF(z:Nat->Option Addr×Nat×Nat)(C:List Nat)(g n cap N:Nat)(rest:List Value)(f:FuncId)(first captured:Array Value)(q:Nat->Nat->Bool)(w:World)
 (hcmp:aLi Tryz.prog f first captured g N w (cH z) q)(hn:n=C.length)(hC:∀i∈C,i<N)(hm:n≤4611686018427387904)(hB:Blk w g (C.map (cH z)++rest) 34)(hlen:(C.map (cH z)++rest).length=cap)(hcm:cap≤maxLen):
 Calls Tryz.prog 196 #[.slice (some ⟨g,0,none⟩) n cap,.func (Fn.func f) first captured] w
  (RetF (fun k=>k=g) w fun w' v=>∃rest',v= .slice (some ⟨g,0,none⟩) (cI q C n).length cap/\Blk w' g ((cI q C n).map (cH z)++rest') 34/\((cI q C n).map (cH z)++rest').length=cap):=by
 have hent:=hcmp.1;have HC:=qH hcmp.2;clear hcmp;have HN:=qH (nIX hn (nIX hC hlen));clear hn hC;have hcap:n≤cap:=by have:=HN.out.1;simp at hlen;omega
 clear hlen;have cell:∀W:World,Blk W g (C.map (cH z)++rest) 34->∀i,i<n->W.cell? ⟨g,i,none⟩=some (cH z (C.getD i 0)):=fun W h i hi=>h.at i (by have:=HN.out.1;omega);have HB:=qH hB;clear hB;by_cases hlt2:n<2
 ·go_enter Tryz.func196,Tryz.ntmps196;go_wp2;go_ret;have e:cI q C n=C:=by
   rw [lX (by have:=HN.out.1;omega) (fun j h1 h2=>by omega),List.take_of_length_le (by have:=HN.out.1;omega)]
  refine RetF.mk (Kp.refl _) ⟨rest,?_,by rw [e];exact HB.out,by rw [e];exact HN.out.2.2⟩;rw [e,<-HN.out.1];rfl
 ·go_enter Tryz.func196,Tryz.ntmps196;go_wp2;go_loopw [5] (aLn n q C (fun k=>False) w) (fun k _=>n- (intOf k).toNat)
  case atStart=>exact⟨1,Nat.le_refl _,by omega,rfl,fun j h1 h2=>by omega,Kp.refl _⟩
  case round=>
   obtain⟨k,hk1,hkn,rfl,hq,hkp⟩:=hrel;have HQ:=qH hq;clear hq;have hext:Kp (fun i=>i=g) w wr:=Ext.kp hkp;by_cases hkl:k<n
   ·have HBw:Blk wr g (C.map (cH z)++rest) 34:=HB.out.ext hkp;obtain⟨p,rfl⟩:∃p,k=p+1:=⟨k-1,by omega⟩;have c1:=cell wr HBw (p+1) hkl;have c2:=cell wr HBw p (by omega);have HBW:=qH HBw;clear HBw;have hx:C.getD (p+1) 0<N:=HN.out.2.1 _ (qO (by have:=HN.out.1;omega));have hy:C.getD p 0<N:=HN.out.2.1 _ (qO (by have:=HN.out.1;omega));have hcall:=fun W hW=>HC.out W hW _ _ hx hy;have HCall:=qH hcall;clear hcall;obtain⟨x,ex⟩:∃x,x=C.getD (p+1) 0:=⟨_,rfl⟩;obtain⟨y,ey⟩:∃y,y=C.getD p 0:=⟨_,rfl⟩;rw [<-ex,<-ey]at HCall;rw [<-ex]at c1;rw [<-ey]at c2;have HE:=qH (nIX ex ey);clear ex ey hx hy;unfold cH at c1 c2;obtain⟨i1,i2,i3,i4,i5,i6,i7⟩:=wI (k:=p) (n:=n) (by omega) hm;cases hqk:q x y
    ·rw [hqk]at HCall;have HK:=qH hqk;clear hqk;go_wp2;go_still_tail 10,(by kernel_rfl)
     go_wp2_with fail
     refine(HCall.out _ hext.drew).mono ?_;rintro e w1 ⟨rfl,hk2⟩;have hkp2:Ext w w1:=hkp.drew.ext hk2;clear hk2 c1 c2;go_wp2;go_roundw
     case rel=>
      refine⟨p+2,by omega,by omega,nMX,fun j h1 h2=>?_,hkp2⟩;by_cases e:j=p+1
      ·subst e;rw [<-HE.out.1,Nat.add_sub_cancel,<-HE.out.2];exact HK.out
      ·exact HQ.out j h1 (by omega)
     case measure=>simp [intOf];omega
    ·rw [hqk]at HCall;have HK:=qH hqk;clear hqk;have start:Blk wr g ((cI q C (p+1+1)).map (cH z)++(C.map (cH z)++rest).drop (p+1)) 34/\(cI q C (p+1+1)).length=p+1:=by
      have hn:=HN.out.1;have e:cI q C (p+1+1)=C.take (p+1):=by rw [wF (by omega) (by rw [<-HE.out.1,Nat.add_sub_cancel,<-HE.out.2];exact HK.out),lX (by omega) HQ.out]
      rw [e];refine⟨HBW.out.congrL ?_,by simp;omega⟩;rw [List.drop_append_of_le_length (by simp;omega),<-List.append_assoc,<-List.map_drop,<-List.map_append,List.take_append_drop]
     have HS:=qH start;clear start;have hpc:(p:Int)+1≤(cap:Int):=by omega
     have hpn:(p:Int)+1≤(n:Int):=by omega
     go_wp2;go_still_tail 10,(by kernel_rfl)
     go_wp2_with fail
     refine(HCall.out _ hext.drew).mono ?_;rintro e w1 ⟨rfl,hk2⟩;have hkp2:Ext w w1:=hkp.drew.ext hk2;have HS1:Blk w1 g ((cI q C (p+1+1)).map (cH z)++(C.map (cH z)++rest).drop (p+1)) 34:=HS.out.1.drew.ext hk2;have HS2:=qH (nIX HS1 HS.out.2);clear HS1;clear hk2 c1 c2;obtain⟨m,em⟩:=nm (n- (p+1));have hcapk:¬cap=p+1:=by omega
     go_wp2;go_loopw [5,7] (aLm n (p+1) q C w g (cH z) rest 34) (fun k j _=>n- (intOf j).toNat)
     case atStart=>exact⟨p+1,1,Nat.le_refl _,hkl,by go_num,rfl,Nat.le_refl _,by omega,HS2.out.2,Ext.kp hkp2,HS2.out.1⟩
     case round=>
      obtain⟨k,j,hj1,hjn,rfl,rfl,hk0,hkj,hkl2,hkp3,hb3⟩:=hrel;have f1:=hb3.free k;have HB3:=qH (nIX hkl2 hb3);clear hkl2;by_cases hjm:j<m
      ·obtain⟨t,rfl⟩:∃t,j=t+1:=⟨j-1,by omega⟩;have hCl:=HN.out.1;have c1:wr.cell? ⟨g,p+1+(t+1),none⟩=some (cH z (C.getD (p+1+(t+1)) 0)):=by
        rw [hb3.cell'];exact qS HB3.out.1 (by omega) (by omega)
       have c2:wr.cell? ⟨g,p+1+t,none⟩=some (cH z (C.getD (p+1+t) 0)):=by rw [hb3.cell'];exact qS HB3.out.1 (by omega) (by omega)
       have hx:C.getD (p+1+(t+1)) 0<N:=HN.out.2.1 _ (qO (by omega));have hy:C.getD (p+1+t) 0<N:=HN.out.2.1 _ (qO (by omega));clear hCl hb3;have hcall:=fun W hW=>HC.out W hW _ _ hx hy;have HCall:=qH hcall;clear hcall;obtain⟨x,ex⟩:∃x,x=C.getD (p+1+(t+1)) 0:=⟨_,rfl⟩;obtain⟨y,ey⟩:∃y,y=C.getD (p+1+t) 0:=⟨_,rfl⟩;rw [<-ex,<-ey]at HCall;rw [<-ex]at c1;rw [<-ey]at c2;have HE:=qH (nIX ex ey);clear ex ey hx hy;unfold cH at c1 c2;obtain⟨i1,i2,i3,i4,i5,i6,i7⟩:=wI (k:=t) (n:=m) (by omega) (by omega);have hkn2:k<n:=by omega
       cases hqk:q x y
       ·rw [hqk]at HCall;have HK:=qH hqk;clear hqk;go_wp2;go_still_tail 10,(by kernel_rfl)
        go_wp2_with fail
        refine(HCall.out _ hkp3.drew).mono ?_;rintro e w2 ⟨rfl,hk2⟩;have hkp4:Kp (fun i=>i=g) w w2:=hkp3.drew.ext hk2;have d1:=hk2.cell c1 id;have HB4:Blk w2 g ((cI q C (p+1+(t+1))).map (cH z)++(C.map (cH z)++rest).drop k) 34:=HB3.out.2.drew.ext hk2;have f2:=HB4.free k;have d2:∃u,w2.cell? ⟨g,k,none⟩=some u:=⟨_,HB4.cell k (by have h2:=HN.out.2.2;have h1:=HN.out.1;have h3:=HB3.out.1;simp at h2 ⊢;omega)⟩;obtain⟨u,d2⟩:=d2;have HB5:=qH HB4;clear HB4;clear hk2 c1 c2 f1;go_wp2;go_roundw
        case rel=>
         have e:cI q C (p+1+(t+2))=cI q C (p+1+(t+1))++ [x]:=by have:=zC (q:=q) (C:=C) (k:=p+1+(t+1)) (by rw [<-HE.out.1,show p+1+(t+1)-1=p+1+t by omega,<-HE.out.2];exact HK.out);rw [HE.out.1,<-this];rfl
         refine⟨k+1,t+2,by omega,by omega,nMX,nMX,by omega,by omega,by rw [e,List.length_append,HB3.out.1];rfl,?_,?_⟩
         ·exact hkp4.setCell (fun _=>rfl) _
         ·rw [e];exact(HB5.out.set k _).congrL (aDs HB3.out.1 (by have:=HN.out.1;omega))
        case measure=>simp [intOf];omega
       ·rw [hqk]at HCall;have HK:=qH hqk;clear hqk;go_wp2;go_still_tail 10,(by kernel_rfl)
        go_wp2_with fail
        refine(HCall.out _ hkp3.drew).mono ?_;rintro e w2 ⟨rfl,hk2⟩;have hkp4:Kp (fun i=>i=g) w w2:=hkp3.drew.ext hk2;have HB4:Blk w2 g ((cI q C (p+1+(t+1))).map (cH z)++(C.map (cH z)++rest).drop k) 34:=HB3.out.2.drew.ext hk2;have HB5:=qH HB4;clear HB4;clear hk2 c1 c2 f1;go_wp2;go_roundw
        case rel=>
         have e:cI q C (p+1+(t+2))=cI q C (p+1+(t+1)):=by have:=wF (q:=q) (C:=C) (k:=p+1+(t+1)) (by omega) (by rw [<-HE.out.1,show p+1+(t+1)-1=p+1+t by omega,<-HE.out.2];exact HK.out);rw [<-this];rfl
         exact⟨k,t+2,by omega,by omega,rfl,nMX,hk0,by omega,by rw [e];exact HB3.out.1,hkp4,by rw [e];exact HB5.out⟩
        case measure=>simp [intOf];omega
      ·have hjn':p+1+j=n:=by omega
       rw [hjn']at HB3;obtain⟨w3,hrun,hk3,hb4⟩:=uV cQ rfl (fun w=>by kernel_rfl) HB3.out.2 (off:=k) (n:=n-k) (c:=cap-k) (sp:=some ⟨g,k,none⟩) (fun _=>rfl) (by have:=HB3.out.1;have h2:=HN.out.2.2;have h1:=HN.out.1;simp at h2 ⊢;omega);have HB4:=qH hb4;clear hb4 hb3;have HK3:=qH hk3;clear hk3;have hkc:¬cap=k:=by omega
       have hkc2:(k:Int)≤(cap:Int):=by omega
       have hkn2:(k:Int)≤(n:Int):=by omega
       have hjj:j=m:=by omega
       clear hjn';go_wp2;go_ret;have h2:=HN.out.2.2;have h1:=HN.out.1;have hk:=HB3.out.1;refine RetF.mk (hkp3.trans HK3.out) ⟨List.replicate (n-k) (.slice none 0 0)++((C.map (cH z)++rest).drop k).drop (n-k),?_,?_,?_⟩
       ·rw [hk];rfl
       ·refine HB4.out.congrL ?_;unfold splice;rw [List.take_append_of_le_length (by simp;omega),List.take_of_length_le (by simp;omega),List.drop_append,List.drop_of_length_le (by simp;omega),List.length_map,hk,List.length_replicate,List.nil_append,Nat.add_sub_cancel_left]
       ·simp at h2 ⊢;omega
   ·go_wp2;go_ret;have e:cI q C n=C:=by
     rw [lX (by have:=HN.out.1;omega) (fun j h1 h2=>HQ.out j h1 (by omega)),List.take_of_length_le (by have:=HN.out.1;omega)]
    refine RetF.mk hext ⟨rest,?_,by rw [e];exact HB.out.ext hkp,by rw [e];exact HN.out.2.2⟩;rw [e,<-HN.out.1];rfl
theorem aA6(vs:List Value)(ao:Option Addr)(cap:Nat)(w:World)(n:Nat)(hn:n=vs.length)(hc:CellsAt w ao vs)(h1:∀u∈vs,u.oneCell'=true)(hm:n*24≤140737488355328):
 Calls Tryz.prog 165 #[.slice ao n cap] w (RetN w fun w' v=>Row w' 34 1 v n vs (New w)):=by
 have hq:∀w:World,(binOp .eql 69 (.slice ao n cap) (.slice none 0 0)).run Tryz.prog w= .ok (.bool ao.isNone) w:=fun w=>Lib.run_eql_slice_nil w _ _ _ _ _ _ _ Tryz.underlying69;have HNN:=qH hn;clear hn;have hl:n≤maxLen:=by unfold maxLen;omega
 cases ao with
 |none=>
  have hv:vs= []:=by
   cases vs with
   |nil=>rfl
   |cons x vs=>obtain⟨b,o,h,_⟩:=hc.off (by simp);cases h
  subst hv;have h0:n=0:=HNN.out;subst h0;go_enter Tryz.func165,Tryz.ntmps165;go_wp2;go_ret;exact RetN.mk (Kp.refl _) (Row.nil _ _ _ _)
 |some a=>
  go_enter Tryz.func165,Tryz.ntmps165;go_wp2_with (first|(at_builtin;refine Halted.out ?_))
  refine Halted.mk (bQ cQ rfl _ _ rfl ((Kp.refl (F:=fun _=>False) w).alloc _) rfl (Row.empty w 34 1 (New w) (Nat.le_refl _)) rfl (hc.alloc _) (by rw [HNN.out,Nat.mul_one]) h1 (by omega) (by omega) ?_);intro v1 w1 hr1 hk1 _ _;have HR:=qH hr1;clear hr1;go_wp2;go_ret;exact RetN.mk hk1 (by simpa using HR.out)
def OrdVRow(P:Program)(S:Nat->Prop)(w0:World)(ov:Value)(D:Option Addr×Nat×Nat->Prop)(c:Option Addr×Nat×Nat->Option Addr×Nat×Nat->Int):Prop:=
 (ov= .nilFunc/\∀x y,D x->D y->c x y=0)\/∃f first cap,ov= .func (Fn.func f) first cap/\(∀args w,(callFunc f args).run P w= .ok (Next.enter f args) w)/\
  ∀w,Same S w0 w->∀x y,D x->D y->Calls P f (first++(#[(Value.slice (x).1 (x).2.1 (x).2.2),(Value.slice (y).1 (y).2.1 (y).2.2)]++cap)) w fun e w'=>e= .returned (.int .i64 (c x y))/\Ext w w'
theorem OrdVRow.same{P:Program}{S:Nat->Prop}{w0 w1:World}{ov:Value}{D:Option Addr×Nat×Nat->Prop}{c:Option Addr×Nat×Nat->Option Addr×Nat×Nat->Int}(h:OrdVRow P S w0 ov D c)(hs:Same S w0 w1):OrdVRow P S w1 ov D c:=by
 rcases h with h|⟨f,first,cap,e,he,h⟩
 ·exact .inl h
 ·exact .inr ⟨f,first,cap,e,he,fun w hw=>h w (hs.trans hw)⟩
structure SetAtRow(P:Program)(S:Nat->Prop)(w:World)(b:Nat)(ov iv:Value)(tail:List Value)(te:TypeId)(D:Option Addr×Nat×Nat->Prop)(c:Option Addr×Nat×Nat->Option Addr×Nat×Nat->Int)(zs:List (Option Addr×Nat×Nat)):Prop where
 blk:Blk w b (ov::iv::tail) te
 row:Row w 34 1 iv zs.length (zs.map fun x=>(Value.slice (x).1 (x).2.1 (x).2.2)) (fun k=>iv.ownBlock=some k)
 apart:iv.ownBlock≠some b
 inS:∀k,S k->k<w.heap.size
 notS:∀k,eY b iv k->¬S k
 ord:OrdVRow P S w ov D c
 all:∀x∈zs,D x
 len:zs.length≤1048576*1048576
section
variable {P:Program}{S:Nat->Prop}{w w':World}{b:Nat}{ov iv:Value}{tail:List Value}{te:TypeId}{D:Option Addr×Nat×Nat->Prop}{c:Option Addr×Nat×Nat->Option Addr×Nat×Nat->Int}{zs:List (Option Addr×Nat×Nat)}
theorem SetAtRow.kp{F:Nat->Prop}(h:SetAtRow P S w b ov iv tail te D c zs)(hk:Kp F w w')(hF:∀k,F k->¬eY b iv k)(hS:∀k,F k->¬S k):SetAtRow P S w' b ov iv tail te D c zs:=
 ⟨h.blk.kp hk fun hf=>hF _ hf (.inl rfl),h.row.kp hk fun g hg hf=>hF _ hf (.inr hg),h.apart,fun k hk'=>Nat.lt_of_lt_of_le (h.inS k hk') hk.size,h.notS,h.ord.same (hk.same h.inS fun k hk' hf=>hS k hf hk'),h.all,h.len⟩
theorem SetAtRow.ext(h:SetAtRow P S w b ov iv tail te D c zs)(hk:Ext w w'):SetAtRow P S w' b ov iv tail te D c zs:=h.kp hk (fun _ x=>x.elim) (fun _ x=>x.elim)
theorem SetAtRow.cells(h:SetAtRow P S w b ov iv tail te D c zs):w.cell? ⟨b,0,none⟩=some ov/\w.cell? ⟨b,1,none⟩=some iv:=⟨by rw [h.blk.cell'];rfl,by rw [h.blk.cell'];rfl⟩
end
theorem xS(S:Nat->Prop)(w:World)(b:Nat)(ov:Value)(cs:List Value)(te:TypeId)(D:Option Addr×Nat×Nat->Prop)(c:Option Addr×Nat×Nat->Option Addr×Nat×Nat->Int)(x y:Option Addr×Nat×Nat)(hx:D x)(hy:D y)(hB:Blk w b (ov::cs) te)
 (hS:∀k,S k->k<w.heap.size)(ho:OrdVRow Tryz.prog S w ov D c):
 Calls Tryz.prog 192 #[.pointer (some ⟨b,0,none⟩),(Value.slice (x).1 (x).2.1 (x).2.2),(Value.slice (y).1 (y).2.1 (y).2.2)] w (fun e w'=>e= .returned (.int .i64 (c x y))/\Ext w w'):=by
 have c1:=hB.c0;clear hB;rcases ho with⟨rfl,h0⟩|⟨f,first,cap,rfl,hent,hc⟩
 ·have h00:=qH (h0 x y hx hy);clear h0;have hq:∀w:World,(binOp .eql 131 .nilFunc .nilFunc).run Tryz.prog w= .ok (.bool true) w:=fun _=>by kernel_rfl
  go_enter Tryz.func192,Tryz.ntmps192;go_wp2;go_ret;exact⟨by rw [h00.out];rfl,Kp.refl _⟩
 ·have HC:=qH hc;clear hc;have hq:∀w:World,(binOp .eql 131 (.func (Fn.func f) first cap) .nilFunc).run Tryz.prog w= .ok (.bool false) w:=fun _=>by kernel_rfl
  go_enter Tryz.func192,Tryz.ntmps192;go_wp2_with fail
  refine(HC.out w (Same.refl hS) x y hx hy).mono ?_;rintro e w1 ⟨rfl,hk⟩;have HK:=qH hk;clear hk;go_wp2;go_ret;exact⟨rfl,HK.out⟩
theorem oT{S:Nat->Prop}{w:World}{b:Nat}{ov iv:Value}{tail:List Value}{te:TypeId}{D:Option Addr×Nat×Nat->Prop}{c:Option Addr×Nat×Nat->Option Addr×Nat×Nat->Int}{zs:List (Option Addr×Nat×Nat)}(h:SetAtRow Tryz.prog S w b ov iv tail te D c zs):
 Calls Tryz.prog 141 #[.pointer (some ⟨b,0,none⟩)] w (Ret (.int .i64 (zs.length:Nat)) w):=by
 obtain⟨c1,c2⟩:=h.cells;obtain⟨ao,cap,rfl,_,_⟩:=h.row.shape;clear h;go_enter Tryz.func141,Tryz.ntmps141;go_wp2;go_ret;exact Ret.mk rfl
theorem tS{S:Nat->Prop}{w:World}{b:Nat}{ov iv:Value}{tail:List Value}{te:TypeId}{D:Option Addr×Nat×Nat->Prop}{c:Option Addr×Nat×Nat->Option Addr×Nat×Nat->Int}{zs:List (Option Addr×Nat×Nat)}(h:SetAtRow Tryz.prog S w b ov iv tail te D c zs):
 Calls Tryz.prog 138 #[.pointer (some ⟨b,0,none⟩)] w (RetN w fun w' v=>Row w' 34 1 v zs.length (zs.map fun x=>(Value.slice (x).1 (x).2.1 (x).2.2)) (New w)):=by
 obtain⟨c1,c2⟩:=h.cells;obtain⟨ao,cap,rfl,hc,_⟩:=h.row.shape;have hl:=h.len;have HC:=qH hc;clear h hc;go_enter Tryz.func138,Tryz.ntmps138;go_wp2_with fail
 refine(aA6 (zs.map fun x=>(Value.slice (x).1 (x).2.1 (x).2.2)) ao cap w zs.length (by simp) HC.out (by intro u hu;obtain⟨x,_,rfl⟩:=List.mem_map.1 hu;rfl) (by omega)).mono ?_;rintro e w1 ⟨v,rfl,hk,hr⟩;have HR:=qH (nIX hk hr);clear hk hr;go_wp2;go_ret;exact RetN.mk HR.out.1 HR.out.2
theorem tR(w:World):Calls Tryz.prog 138 #[.pointer none] w (Ret (.slice none 0 0) w):=by go_enter Tryz.func138,Tryz.ntmps138;go_wp2;go_ret;exact Ret.mk rfl
set_option maxHeartbeats 1000000 in
theorem jN{S:Nat->Prop}{w:World}{b:Nat}{ov iv:Value}{tail:List Value}{te:TypeId}{D:Option Addr×Nat×Nat->Prop}{c:Option Addr×Nat×Nat->Option Addr×Nat×Nat->Int}{zs:List (Option Addr×Nat×Nat)}(O:OrdLaw c)(x:Option Addr×Nat×Nat)(hx:D x)(hs:Strict c zs)(h:SetAtRow Tryz.prog S w b ov iv tail te D c zs):
 Calls Tryz.prog 162 #[.pointer (some ⟨b,0,none⟩),(Value.slice (x).1 (x).2.1 (x).2.2)] w
  (RetF (fun _=>False) w fun w' v=>v= .tuple #[.int .i64 (below c zs x:Nat),.bool (aX c zs x)]):=by
 obtain⟨c1,c2⟩:=h.cells;obtain⟨ao,cap,eiv,hc,_⟩:=h.row.shape;subst eiv;have hl:=h.len;obtain⟨n,en⟩:∃n,n=zs.length:=⟨_,rfl⟩;have get:∀i (hi:i<n),zs.getD i x=zs[i]'(by omega):=fun i hi=>by simp [List.getD,show i<zs.length by omega]
 have evals:(List.range n).map (fun i=>(Value.slice (zs.getD i x).1 (zs.getD i x).2.1 (zs.getD i x).2.2))=zs.map fun x=>(Value.slice (x).1 (x).2.1 (x).2.2):=by refine List.ext_getElem (by simp [en]) fun i h1 h2=>?_;simp only [List.getElem_map,List.getElem_range];rw [get i (by simpa using h1)]
 have hent:∀args w,(callFunc 192 args).run Tryz.prog w= .ok (.enter 192 args) w:=enters_of Tryz.func192 (by kernel_rfl) rfl;have hcmp:aD5 Tryz.prog 192 #[.pointer (some ⟨b,0,none⟩)] #[] w ((List.range n).map fun i=>(Value.slice (zs.getD i x).1 (zs.getD i x).2.1 (zs.getD i x).2.2)) ((Value.slice (x).1 (x).2.1 (x).2.2)) (fun i=>c (zs.getD i x) x):=by
  refine⟨hent,fun w' hw i v hv=>?_⟩;have hi:i<n:=by simpa using(List.getElem?_eq_some_iff.1 hv).1
  have ev:v=(Value.slice (zs.getD i x).1 (zs.getD i x).2.1 (zs.getD i x).2.2):=by simp [hi]at hv;rw [<-hv,List.getD_eq_getElem?_getD]
  subst ev;have h':=h.ext hw;exact xS S w' b ov _ te D c (zs.getD i x) x (by rw [get i hi];exact h.all _ (List.getElem_mem _)) hx h'.blk h'.inS h'.ord
 have hbin:=rY zs (fun i=>zs.getD i x) ao cap ((Value.slice (x).1 (x).2.1 (x).2.2)) 192 #[.pointer (some ⟨b,0,none⟩)] #[] (fun i=>c (zs.getD i x) x) w n (by rw [evals];exact hc) hcmp (by omega);rw [en]at hbin;have HB:=qH hbin;have HH:=qH (nIX en get);clear hbin hcmp hc evals hent h get;go_enter Tryz.func162,Tryz.ntmps162;go_wp2_with fail
 refine HB.out.mono ?_;rintro e w1 ⟨v,rfl,hk,i,hi,h1,h2,rfl⟩;have ei:i=below c zs x:=by
  refine hs.place O hi (fun y hp hy=>?_) (fun y hy=>?_)
  ·have e:=(List.getElem?_eq_some_iff.1 hy).2;rcases h1 with h1|h1
   ·omega
   ·rw [HH.out.2 _ (by rw [HH.out.1];omega),e]at h1;exact h1
  ·obtain⟨hl',e⟩:=List.getElem?_eq_some_iff.1 hy;rcases h2 with h2|h2
   ·omega
   ·rw [HH.out.2 _ (by rw [HH.out.1];omega),e]at h2;exact h2
 have eb:decide (i<zs.length/\c (zs.getD i x) x=0)=aX c zs x:=by
  rw [Bool.eq_iff_iff,decide_eq_true_iff,hs.there O x,<-ei];constructor
  ·rintro⟨a1,a2⟩;exact⟨zs[i],qG a1,by rw [HH.out.2 _ (by rw [HH.out.1];omega)]at a2;exact a2⟩
  ·rintro⟨y,hy,hz⟩;obtain⟨hl',e⟩:=List.getElem?_eq_some_iff.1 hy;exact⟨hl',by rw [HH.out.2 _ (by rw [HH.out.1];omega),e];exact hz⟩
 rw [eb,ei];have HK:=qH hk;clear hk h1 h2 eb ei hi;go_wp2;go_ret2;exact RetF.mk HK.out (aEe rfl)
theorem mR{P:Program}{S:Nat->Prop}{w:World}{b:Nat}{ov iv0 iv:Value}{tail:List Value}{te:TypeId}{D:Option Addr×Nat×Nat->Prop}{c:Option Addr×Nat×Nat->Option Addr×Nat×Nat->Int}{zs:List (Option Addr×Nat×Nat)}{M:Nat->Prop}
 (hB:Blk w b (ov::iv0::tail) te)(hr:Row w 34 1 iv zs.length (zs.map fun x=>(Value.slice (x).1 (x).2.1 (x).2.2)) M)(hap:iv.ownBlock≠some b)(hS:∀k,S k->k<w.heap.size)(hn:∀k,eY b iv k->¬S k)
 (ho:OrdVRow P S w ov D c)(hD:∀x∈zs,D x)(hl:zs.length≤1048576*1048576):SetAtRow P S (w.setCell ⟨b,1,none⟩ iv) b ov iv tail te D c zs:=by
 have hk:Kp (fun k=>k=b) w (w.setCell ⟨b,1,none⟩ iv):=Kp.setCell (F:=fun k=>k=b) (Kp.refl w) (fun _=>rfl) iv;exact⟨hB.set 1 iv,hr.own.kp hk fun g hg e=>hap (by rw [hg,e]),hap,fun k h=>Nat.lt_of_lt_of_le (hS k h) hk.size,hn,ho.same (hk.same hS fun k h e=>hn k (.inl e) h),hD,hl⟩
set_option maxHeartbeats 4000000 in
theorem xZ(xs:List Value)(iv:Value)(M:Nat->Prop)(n i:Nat)(x:Value)(vb:Nat)(ve:TypeId)(w:World)(hn:n=xs.length)(hr:Row w 34 1 iv n xs M)(hi:i≤n)(hx:x.oneCell'=true)(hxs:∀u∈xs,u.oneCell'=true)
 (hv:Blk w vb [x] ve)(hne:iv.ownBlock≠some vb)(hb:(n+1)*24≤140737488355328):
 Calls Tryz.prog 163 #[iv,.int .i64 i,.slice (some ⟨vb,0,none⟩) 1 1] w
  (RetF (fun g=>iv.ownBlock=some g) w fun w' v=>Row w' 34 1 v (n+1) (xs.take i++x::xs.drop i) (fun g=>iv.ownBlock=some g\/w.heap.size≤g)):=by
 have hsrc:CellsAt w (some ⟨vb,0,none⟩) [x]:=CellsAt.pre (rest:= []) hv;have hl:n+1≤9223372036854775807:=by omega
 obtain⟨ao,cap,rfl,hcells,hcap⟩:=hr.shape;by_cases hin:i=n
 ·subst hin;have HNN:=qH hn;clear hn;have hrM:Row w 34 1 (.slice ao i cap) i xs (fun g=>(Value.slice ao i cap).ownBlock=some g\/w.heap.size≤g):=hr.own.mono fun g h=> .inl h;clear hr;by_cases hci:cap=i
  all_goals
   first|(subst hci)|skip
   go_enter Tryz.func163,Tryz.ntmps163;go_wp2_with (first|(at_builtin;refine Halted.out ?_))
   refine Halted.mk (rA cQ rfl _ _ rfl (Kp.refl (F:=fun g=>(Value.slice ao _ _).ownBlock=some g) w) (M:=fun g=>(Value.slice ao _ _).ownBlock=some g\/w.heap.size≤g) (fun g h h'=>by rcases h with h|h;exact h;omega) (fun g h=> .inr h) rfl hrM rfl rfl hsrc (by simpa using hx) hb (by unfold maxLen;omega) ?_);intro v1 w1 hr1 hk1 _ _;have HR:=qH hr1;clear hr1 hcells hrM;go_wp2;go_ret;refine RetF.mk hk1 ?_;have:=HNN.out;rw [List.take_of_length_le (by omega),List.drop_of_length_le (by omega)];exact HR.out
 ·have hlt:i<n:=by omega
  obtain⟨h1,⟨h2,h3⟩|⟨g,cap',rest,h2,hM,hB,hlen,hnc,hcm⟩⟩:=hr
  ·omega
  cases h2;have hgv:g≠vb:=fun e=>hne (by simp [Value.ownBlock,e]);have hfree:=hv.free;have hov:∀(W:World),Blk W vb [x] ve->(∀cs,Blk w g cs 34->True)->∀off lb cb (kB:Nat) (eB:TypeId),W.shape? g=some (eB,kB)->kB≠0->
   (callFunc 193 #[.slice (some ⟨vb,0,none⟩) 1 1,.slice (some ⟨g,off,none⟩) lb cb]).run Tryz.prog W= .ok (.value (.bool false)) W:=fun W hW _ off lb cb kB eB hs hk=>by
   rw [run_callFunc_extern Tryz.func193 (by kernel_rfl) (by kernel_rfl) (by kernel_rfl) (e:=Extern.SlicesOverlaps.overlaps #[69,69] #[4]) (by kernel_rfl),
    Lib.run_overlaps_apart W 69 4 34 Tryz.underlying69 1 (fun w=>by kernel_rfl) ⟨vb,0,none⟩ ⟨g,off,none⟩ 1 1 lb cb (fun e=>hgv e.symm) ve eB 1 kB hW.shape hs hk (hW.free 0) (hW.free 1)]
   rfl
  by_cases hroom:n+1≤cap
  ·have hrest:∃y rest',rest=y::rest':=by
    cases rest with
    |nil=>simp at hlen h1;omega
    |cons y r=>exact⟨y,r,rfl⟩
   obtain⟨y,rest',rfl⟩:=hrest;have hov1:=fun off lb cb=>hov w hv (fun _ _=>trivial) off lb cb _ _ hB.shape (by simp);have ncap:¬cap=i+1:=by omega
   have ncap2:¬cap=i:=by omega
   have hi1:((i:Int)+1).toNat=i+1:=by omega
   have hw1:IntKind.i64.wrap ((i:Int)+1)=(i:Int)+1:=IntWalk.i64_in _ (by omega);have hp1:(0:Int)≤(i:Int)+1:=by omega
   have hp2:(i:Int)≤(n:Int)+1:=by omega
   have HNN:=qH hn;clear hn;have HB:=qH hB;clear hB;have HS:=qH hsrc;clear hsrc;have HV:=qH hv;clear hv hov hfree;have HXS:=qH hxs;clear hxs;have HC:=qH hcells;clear hcells;have HLN:=qH (nIX h1 hlen);clear h1 hlen;have hcm':=hcm;clear hM hcm hne;unfold maxLen at hcm';go_enter Tryz.func163,Tryz.ntmps163;go_wp2_with (simp only [hov1])
   go_still_tail 8,(by kernel_rfl)
   refine aBh cQ rfl _ _ rfl (w:=w.drew) (HB.out.drew) (g:=g) (off:=i+1) rfl rfl (cs:=xs.drop i) (by have:=HNN.out;simp [Nat.min_def];first|omega|(split<;>omega)) (fun _=>rfl) (fun j u hu=>⟨g,i,rfl,by have hb:=HB.out;rw [hb.drew.cell'];rw [List.getElem?_drop]at hu;rw [List.getElem?_append_left (List.getElem?_eq_some_iff.1 hu).1];exact hu⟩) (by have:=HNN.out;simp;omega) (fun u hu=>HXS.out u (List.mem_of_mem_drop hu)) ?_;intro w2 hk2 hB2;have hsv:=(HS.out.drewN 1).kp hk2 (fun a ha e=>by cases ha;exact hgv e.symm);obtain⟨w3,hrun3,hk3,hB3⟩:=oD cQ (w:=w2) hB2 (g:=g) (off:=i) (dp:=some ⟨g,i,none⟩) (dLen:=n+1-i) (dCap:=cap-i) (sp:=some ⟨vb,0,none⟩) (sLen:=1) (sCap:=1) (cs:= [x]) (by simp [Nat.min_def];omega) (fun _=>rfl) hsv (by have:=HNN.out;simp [splice];omega) (by simpa using hx);have HK2:=qH hk2;have HK3:=qH hk3;have HB3:=qH hB3;clear hk2 hk3 hB3 hB2 hsv hw1 hi1 hp1;go_wp2;go_ret;have hk23:Kp (fun k=>k=g) w w3:=(((Kp.refl w).drew).trans (HK2.out)).trans HK3.out;refine RetF.mk (hk23.mono fun k _ e=>by rw [e];rfl) ⟨?_,.inr ⟨g,cap,rest',rfl,.inl rfl,?_,?_,hroom,by unfold maxLen;omega⟩⟩
   ·have:=HNN.out;simp;omega
   ·have:=aEi xs rest' x y i (by have:=HNN.out;omega);rw [<-this];exact HB3.out
   ·have:=HLN.out.2;have:=HNN.out;simp at*;omega
  ·have hcap':n=cap:=by omega
   subst hcap';have hk0:0<n+1-i:=by omega
   obtain⟨w1,G,hrun1,hG,hGm,hext1,hsz1,hB1⟩:=xV (w:=w) cQ rfl Tryz.underlying3 (ao:=some ⟨g,0,none⟩) (n:=i) (cap:=n) (olds:=xs.take i) (fun j u hu=>by
    rw [List.getElem?_take]at hu;split at hu
    ·exact hcells j u hu
    ·cases hu) (by simp;omega) (k:=n+1-i) hk0 (by omega) (by rw [show i+(n+1-i)=n+1 by omega];exact hb) (by unfold maxLen;omega)
   rw [show i+(n+1-i)=n+1 by omega]at hrun1 hG;have rk:(n:Int)+1-i=((n+1-i:Nat):Int):=by omega
   rw [<-rk]at hrun1;clear rk;have hv1:=hsrc.ext hext1;have hgh:g<w.heap.size:=hB.lt;obtain⟨w2,hrun2,hk2,hB2⟩:=oD cQ (w:=w1) hB1 (off:=i) (dp:=some ⟨w.heap.size,i,none⟩) (dLen:=n+1-i) (dCap:=G-i) (sp:=some ⟨vb,0,none⟩) (sLen:=1) (sCap:=1) (cs:= [x]) (by simp [Nat.min_def];omega) (fun _=>rfl) hv1 (by simp;omega) (by simpa using hx);have hB':Blk w2 g (xs++rest) 34:=(hB.ext hext1).kp hk2 (by omega);have HB':=qH hB';have HB2:=qH hB2;have HK2:=qH hk2;have HE1:=qH hext1;have HNN:=qH hn;have HXS:=qH hxs;have HLN:=qH (nIX h1 hlen);have ncG:¬G=i:=by omega
   have ncG1:¬G=i+1:=by omega
   have nci:¬n=i:=by omega
   have hi1:((i:Int)+1).toNat=i+1:=by omega
   have hw1:IntKind.i64.wrap ((i:Int)+1)=(i:Int)+1:=IntWalk.i64_in _ (by omega);have hp1:(0:Int)≤(i:Int)+1:=by omega
   have hp2:(i:Int)≤(n:Int)+1:=by omega
   have hp3:(i:Int)≤(n:Int):=by omega
   clear hB hB' hB2 hk2 hext1 hn hxs h1 hlen hv1 hB1 hM hcm hne hv hov hfree hsrc hcells;unfold maxLen at hGm;go_enter Tryz.func163,Tryz.ntmps163;go_wp2_with (first|(at_builtin;refine Halted.out ?_))
   refine Halted.mk (qZ rfl _ _ rfl rfl rfl hrun1 ?_);clear hrun1;go_wp2;go_still_tail 8,(by kernel_rfl)
   refine aBh cQ rfl _ _ rfl (w:=w2.drew) (HB2.out.drew) (g:=w.heap.size) (off:=i+1) rfl rfl (cs:=xs.drop i) (by have:=HNN.out;first|(simp;omega)|(simp [Nat.min_def];first|omega|(split<;>omega))) (fun _=>rfl) (fun j u hu=>⟨g,i,rfl,by have hb:=HB'.out;rw [hb.drew.cell'];rw [List.getElem?_drop]at hu;rw [List.getElem?_append_left (List.getElem?_eq_some_iff.1 hu).1];exact hu⟩) (by have:=HNN.out;simp [splice];omega) (fun u hu=>HXS.out u (List.mem_of_mem_drop hu)) ?_;intro w3 hk3 hB3;have HK3:=qH hk3;have HB3:=qH hB3;clear hk3 hB3 hw1 hi1 hp1 hp2 hp3;go_wp2;go_ret;have hext2:Ext w w2:=HE1.out.trans' HK2.out (fun k hk e=>by omega);have hext3:Ext w w3:=(hext2.drew).trans' HK3.out (fun k hk e=>by omega);refine RetF.mk hext3.kp ⟨?_,.inr ⟨w.heap.size,G,List.replicate (G- (n+1)) (.slice none 0 0),rfl,.inr (Nat.le_refl _),?_,?_,hG,by unfold maxLen;omega⟩⟩
   ·have:=HNN.out;simp;omega
   ·have h:=aBs xs x (.slice none 0 0) i G (by have:=HNN.out;omega) (by have:=HNN.out;omega);have:=HB3.out;rw [h]at this;exact this.congrL (by rw [HNN.out])
   ·have:=HNN.out;simp;omega
set_option maxHeartbeats 4000000 in
theorem yA(xs:List Value)(iv:Value)(M:Nat->Prop)(n i:Nat)(w:World)(hn:n=xs.length)(hr:Row w 34 1 iv n xs M)(hi:i<n)(hxs:∀u∈xs,u.oneCell'=true)(hb:n≤4611686018427387904):
 Calls Tryz.prog 164 #[iv,.int .i64 i,.int .i64 ((i:Int)+1)] w
  (RetF (fun g=>iv.ownBlock=some g) w fun w' v=>v.ownBlock=iv.ownBlock/\Row w' 34 1 v (n-1) (xs.take i++xs.drop (i+1)) (fun g=>iv.ownBlock=some g)):=by
 obtain⟨h1,⟨h2,h3⟩|⟨g,cap,rest,rfl,hM,hB,hlen,hnc,hcm⟩⟩:=hr
 ·omega
 obtain⟨n,rfl⟩:∃n',n=n'+1:=⟨n-1,by omega⟩;have hl1:(xs.drop (i+1)).length=n-i:=by simp;omega
 have hsrc:CellsAt w.drew (if cap=i+1 then some ⟨g,0,none⟩else some ⟨g,i+1,none⟩) (xs.drop (i+1)):=by
  intro j u hu;have hlt:=(List.getElem?_eq_some_iff.1 hu).1;by_cases hc:cap=i+1
  ·rw [hl1]at hlt;omega
  ·rw [if_neg hc];refine⟨g,i+1,rfl,?_⟩;rw [hB.drew.cell',List.getElem?_append_left (by rw [hl1]at hlt;omega),<-List.getElem?_drop];exact hu
 obtain⟨w1,hrun1,hk1,hB1⟩:=aAk (w:=w.drew) cQ hB.drew (k:=i) (cap:=cap) (c:=cap- (i+1)) hl1 hsrc (fun u hu=>hxs u (List.mem_of_mem_drop hu)) (by omega) (by simp;omega);rw [show i+(n-i)=n by omega]at hrun1;have hlen1:(splice (xs++rest) i (xs.drop (i+1))).length=cap:=by have:=hlen;simp [splice]at this ⊢;omega
 obtain⟨w2,hrun2,hk2,hB2⟩:=uV (w:=w1) cQ rfl (fun w=>by kernel_rfl) hB1 (off:=n) (n:=1) (c:=cap-n) (sp:=some ⟨g,n,none⟩) (fun _=>rfl) (by rw [hlen1];omega);have HB2:=qH hB2;have HK:=qH (nIX hk1 hk2);have HN:=qH (nIX hn (nIX h1 hlen));clear hB1 hB2 hk1 hk2 hn h1 hlen hlen1 hsrc hl1 hB hxs hM;have hne:((i:Int)==(i:Int)+1)=false:=by simp;omega
 have nc1:¬cap=i:=by omega
 have nc2:¬cap=n:=by omega
 have hcm':=hcm;unfold maxLen at hcm';have hi1:((i:Int)+1).toNat=i+1:=by omega
 have hp1:(0:Int)≤(i:Int)+1:=by omega
 have hp2:(i:Int)≤(cap:Int):=by omega
 have hp3:(i:Int)≤(n:Int):=by omega
 have hs1:n+1- (i+1)=n-i:=by omega
 have hs2:n+1-n=1:=by omega
 by_cases hci:cap=i+1
 ·have hni:n=i:=by omega
  subst hni;subst hci;simp only [if_pos,Nat.sub_self]at hrun1;simp only [hs2]at hrun2;have hp4:(n:Int)≤(n:Int)+1:=by omega
  have hp5:n≤n+1:=by omega
  go_enter Tryz.func164,Tryz.ntmps164;go_wp2;go_still_tail 6,(by kernel_rfl)
  refine qZ rfl _ _ rfl rfl rfl hrun1 ?_;clear hrun1;go_wp2;go_ret;have hk12:Kp (fun k=>k=g) w w2:=((Kp.refl w).drew.trans HK.out.1).trans HK.out.2;obtain⟨q1,q2,q3⟩:=HN.out;refine RetF.mk (hk12.mono fun k _ e=>by rw [e];rfl) ⟨rfl,?_,.inr ⟨g,_,(.slice none 0 0)::rest,rfl,rfl,HB2.out.congrL ?_,?_,by omega,hcm⟩⟩
  ·simp;omega
  ·have e1:xs=xs.take n++ [xs[n]'(by omega)]++xs.drop (n+1):=by
    rw [List.append_assoc,List.singleton_append,<-List.drop_eq_getElem_cons (by omega),List.take_append_drop]
   have l1:(xs.take n).length=n:=by simp;omega
   have l2:(xs.drop (n+1)).length=n-n:=by simp;omega
   have e2:splice (xs++rest) n (xs.drop (n+1))=xs.take n++xs.drop (n+1)++(xs++rest).drop n:=by unfold splice;rw [List.take_append_of_le_length (by omega),l2,show n+(n-n)=n by omega,List.append_assoc]
   have e3:(xs++rest).drop n= [xs[n]'(by omega)]++rest:=by rw [List.drop_append_of_le_length (by omega),List.drop_eq_getElem_cons (by omega),List.drop_of_length_le (by omega)]<;>rfl
   rw [e2,e3,<-List.append_assoc,jD _ _ _ _ _ (by simp;omega) (by simp)];simp
  ·simp at q3 ⊢;omega
 ·simp only [if_neg hci]at hrun1;go_enter Tryz.func164,Tryz.ntmps164;go_wp2;go_still_tail 6,(by kernel_rfl)
  refine qZ rfl _ _ rfl rfl rfl hrun1 ?_;clear hrun1;go_wp2;go_ret;have hk12:Kp (fun k=>k=g) w w2:=((Kp.refl w).drew.trans HK.out.1).trans HK.out.2;obtain⟨q1,q2,q3⟩:=HN.out;refine RetF.mk (hk12.mono fun k _ e=>by rw [e];rfl) ⟨rfl,?_,.inr ⟨g,_,(.slice none 0 0)::rest,rfl,rfl,HB2.out.congrL ?_,?_,by omega,hcm⟩⟩
  ·simp;omega
  ·have e1:xs=xs.take i++ [xs[i]'(by omega)]++xs.drop (i+1):=by
    rw [List.append_assoc,List.singleton_append,<-List.drop_eq_getElem_cons (by omega),List.take_append_drop]
   have l1:(xs.take i).length=i:=by simp;omega
   have l2:(xs.drop (i+1)).length=n-i:=by simp;omega
   have e2:splice (xs++rest) i (xs.drop (i+1))=xs.take i++xs.drop (i+1)++(xs++rest).drop n:=by unfold splice;rw [List.take_append_of_le_length (by omega),l2,show i+(n-i)=n by omega,List.append_assoc]
   have e3:(xs++rest).drop n= [xs[n]'(by omega)]++rest:=by rw [List.drop_append_of_le_length (by omega),List.drop_eq_getElem_cons (by omega),List.drop_of_length_le (by omega)]<;>rfl
   rw [e2,e3,<-List.append_assoc,jD _ _ _ _ _ (by first|(simp;done)|(simp;omega)) (by simp)];simp
  ·simp at q3 ⊢;omega
section
variable {S:Nat->Prop}{w:World}{b:Nat}{ov iv:Value}{tail:List Value}{te:TypeId}{D:Option Addr×Nat×Nat->Prop}{c:Option Addr×Nat×Nat->Option Addr×Nat×Nat->Int}{zs:List (Option Addr×Nat×Nat)}
theorem oU(O:OrdLaw c)(x:Option Addr×Nat×Nat)(hx:D x)(hs:Strict c zs)(h:SetAtRow Tryz.prog S w b ov iv tail te D c zs):
 Calls Tryz.prog 127 #[.pointer (some ⟨b,0,none⟩),(Value.slice (x).1 (x).2.1 (x).2.2)] w (RetF (fun _=>False) w fun w' v=>v= .bool (aX c zs x)):=by
 have HF:=qH (jN O x hx hs h);clear h;go_enter Tryz.func127,Tryz.ntmps127;go_wp2_with fail
 refine HF.out.mono ?_;rintro e w1 ⟨v,rfl,hk,rfl⟩;have HK:=qH hk;clear hk;go_wp2;go_ret;exact RetF.mk HK.out rfl
set_option maxHeartbeats 1000000 in
theorem xT(O:OrdLaw c)(x:Option Addr×Nat×Nat)(hx:D x)(hs:Strict c zs)(h:SetAtRow Tryz.prog S w b ov iv tail te D c zs)(hl:zs.length+1≤1048576*1048576):
 Calls Tryz.prog 128 #[.pointer (some ⟨b,0,none⟩),(Value.slice (x).1 (x).2.1 (x).2.2)] w
  (RetF (eY b iv) w fun w' v=>v= .bool (!aX c zs x)/\∃iv',SetAtRow Tryz.prog S w' b ov iv' tail te D c (bN c zs x)/\∀k,iv'.ownBlock=some k->iv.ownBlock=some k\/w.heap.size≤k):=by
 have HF:=qH (jN O x hx hs h);have HH:=qH h;clear h;go_enter Tryz.func128,Tryz.ntmps128;go_wp2_with fail
 refine HF.out.mono ?_;rintro e w1 ⟨v,rfl,hk,rfl⟩;have h1:=HH.out.ext hk;have HK:=qH hk;clear hk;cases hin:aX c zs x
 ·obtain⟨c1,c2⟩:=h1.cells;have H1:=qH h1;clear h1;go_wp2_with fail
  have hb:=below_le (c:=c) zs x;have hbw:b<w1.heap.size:=H1.out.blk.lt;refine(xZ (zs.map fun x=>(Value.slice (x).1 (x).2.1 (x).2.2)) iv _ zs.length (below c zs x) ((Value.slice (x).1 (x).2.1 (x).2.2)) w1.heap.size 34 _ (by simp) (H1.out.row.alloc _) hb rfl (by intro u hu;obtain⟨y,_,rfl⟩:=List.mem_map.1 hu;rfl) (Blk.new w1 [(Value.slice (x).1 (x).2.1 (x).2.2)] 34) (fun e=>by
   have:=H1.out.row;obtain⟨q1,⟨q2,_⟩|⟨g,cap,rest,q2,_,q3,_⟩⟩:=this
   ·rw [q2]at e;cases e
   ·rw [q2]at e;have e':g=w1.heap.size:=Option.some.inj e;have:=q3.lt;omega) (by omega)).mono ?_
  rintro e w2 ⟨iv',rfl,hk2,hr⟩;obtain⟨ao',cap',eiv,_,_⟩:=hr.shape;subst eiv;have hk02:=((Kp.refl (F:=fun k=>iv.ownBlock=some k) w1).alloc (.cells #[(Value.slice (x).1 (x).2.1 (x).2.2)] 34)).trans hk2;have hB2:=H1.out.blk.kp hk02 H1.out.apart;have f1:=hB2.free 1;have d1:=hB2.c1;have HR:=qH (nIX hk02 (nIX hB2 hr));clear hk02 hB2 hr hk2 c1 c2;go_wp2;go_ret;obtain⟨hk02,hB2,hr⟩:=HR.out;have h1:=H1.out;have hz:bN c zs x=zs.take (below c zs x)++x::zs.drop (below c zs x):=by unfold bN;rw [hin];rfl
  have hlz:(bN c zs x).length=zs.length+1:=by rw [qX,hin];rfl
  have hown:∀k,(Value.slice ao' (zs.length+1) cap').ownBlock=some k->iv.ownBlock=some k\/w.heap.size≤k:=fun k hk=>by
   rcases hr.block k hk with hh|hh
   ·exact .inl hh
   ·have:=HK.out.size;simp only [aI]at hh;exact .inr (by omega)
  have hownb:(Value.slice ao' (zs.length+1) cap').ownBlock≠some b:=fun hk=>by
   rcases hr.block b hk with hh|hh
   ·exact h1.apart hh
   ·simp only [aI]at hh;omega
  have hK:Kp (eY b iv) w w2:=((Ext.kp HK.out).trans (hk02.mono fun k _ hk=> .inr hk));refine RetF.mk (hK.setCell (fun _=> .inl rfl) _) ⟨by rw [hin];rfl,.slice ao' (zs.length+1) cap',?_,hown⟩;refine mR hB2 (M:=fun _=>True) ?_ hownb (fun k hk=>Nat.lt_of_lt_of_le (h1.inS k hk) hk02.size) (fun k hk hS=>?_) (h1.ord.same (hk02.same h1.inS fun k hk hk'=>h1.notS k (.inr hk') hk)) (fun y hy=>?_) (by rw [hlz];exact hl)
  ·rw [hlz,hz];have:=hr.mono (M':=fun _=>True) fun _ _=>trivial;simpa using this
  ·rcases hk with hk|hk
   ·exact h1.notS k (.inl hk) hS
   ·rcases hr.block k hk with hh|hh
    ·exact h1.notS k (.inr hh) hS
    ·have:=h1.inS k hS;simp only [aI]at hh;omega
  ·rcases nI.1 hy with hy|⟨rfl,_⟩
   ·exact h1.all y hy
   ·exact hx
 ·have H1:=qH h1;clear h1;go_wp2;go_ret;have hz:bN c zs x=zs:=by unfold bN;rw [hin];rfl
  refine RetF.mk (Ext.kp HK.out) ⟨by rw [hin];rfl,iv,?_,fun k hk=> .inl hk⟩;rw [hz];exact H1.out
set_option maxHeartbeats 1000000 in
theorem uQ(O:OrdLaw c)(x:Option Addr×Nat×Nat)(hx:D x)(hs:Strict c zs)(h:SetAtRow Tryz.prog S w b ov iv tail te D c zs):
 Calls Tryz.prog 129 #[.pointer (some ⟨b,0,none⟩),(Value.slice (x).1 (x).2.1 (x).2.2)] w
  (RetF (eY b iv) w fun w' v=>v= .bool (aX c zs x)/\∃iv',SetAtRow Tryz.prog S w' b ov iv' tail te D c (iZ c zs x)/\iv'.ownBlock=iv.ownBlock):=by
 have HF:=qH (jN O x hx hs h);have HH:=qH h;clear h;go_enter Tryz.func129,Tryz.ntmps129;go_wp2_with fail
 refine HF.out.mono ?_;rintro e w1 ⟨v,rfl,hk,rfl⟩;have h1:=HH.out.ext hk;have HK:=qH hk;clear hk;cases hin:aX c zs x
 ·have H1:=qH h1;clear h1;go_wp2;go_ret;have hz:iZ c zs x=zs:=by unfold iZ;rw [hin];rfl
  refine RetF.mk (Ext.kp HK.out) ⟨by rw [hin];rfl,iv,?_,rfl⟩;rw [hz];exact H1.out
 ·obtain⟨c1,c2⟩:=h1.cells;have H1:=qH h1;clear h1;have hb:below c zs x<zs.length:=by
   obtain⟨y,hy,_⟩:=(hs.there O x).1 hin;exact(List.getElem?_eq_some_iff.1 hy).1
  have hlen:=H1.out.len;have hw1:IntKind.i64.wrap (((below c zs x:Nat):Int)+1)=((below c zs x:Nat):Int)+1:=IntWalk.i64_in _ (by omega);go_wp2_with fail
  refine(yA (zs.map fun x=>(Value.slice (x).1 (x).2.1 (x).2.2)) iv _ zs.length (below c zs x) w1 (by simp) H1.out.row hb (by intro u hu;obtain⟨y,_,rfl⟩:=List.mem_map.1 hu;rfl) (by omega)).mono ?_;rintro e w2 ⟨iv',rfl,hk2,hov,hr⟩;obtain⟨ao',cap',eiv,_,_⟩:=hr.shape;subst eiv;have hB2:=H1.out.blk.kp hk2 H1.out.apart;have f1:=hB2.free 1;have d1:=hB2.c1;have HR:=qH (nIX hk2 (nIX hB2 (nIX hov hr)));clear hB2 hr hk2 hov c1 c2;go_wp2;go_ret;obtain⟨hk2,hB2,hov,hr⟩:=HR.out;have h1:=H1.out;have hz:iZ c zs x=zs.take (below c zs x)++zs.drop (below c zs x+1):=by unfold iZ;rw [hin];rfl
  have hlz:(iZ c zs x).length=zs.length-1:=by rw [hz];simp;omega
  have hK:Kp (eY b iv) w w2:=(Ext.kp HK.out).trans (hk2.mono fun k _ hk=> .inr hk);refine RetF.mk (hK.setCell (fun _=> .inl rfl) _) ⟨by rw [hin];rfl,.slice ao' (zs.length-1) cap',?_,hov⟩;refine mR hB2 (M:=fun _=>True) ?_ (by rw [hov];exact h1.apart) (fun k hk=>Nat.lt_of_lt_of_le (h1.inS k hk) hk2.size) (fun k hk hS=>?_) (h1.ord.same (hk2.same h1.inS fun k hk hk'=>h1.notS k (.inr hk') hk)) (fun y hy=>?_) (by rw [hlz];omega)
  ·rw [hlz,hz];have:=hr.mono (M':=fun _=>True) fun _ _=>trivial;simpa using this
  ·rcases hk with hk|hk
   ·exact h1.notS k (.inl hk) hS
   ·rw [hov]at hk;exact h1.notS k (.inr hk) hS
  ·rw [hz]at hy;rcases List.mem_append.1 hy with hy|hy
   ·exact h1.all y (List.mem_of_mem_take hy)
   ·exact h1.all y (List.mem_of_mem_drop hy)
end
def PtrSetRow(P:Program)(S:Nat->Prop)(w:World)(v:Value)(zs:List (Option Addr×Nat×Nat)):Prop:=
 (v= .pointer none/\zs= [])\/∃b ov iv tail te D c,v= .pointer (some ⟨b,0,none⟩)/\SetAtRow P S w b ov iv tail te D c zs
theorem PtrSetRow.len{P:Program}{S:Nat->Prop}{w:World}{v:Value}{zs:List (Option Addr×Nat×Nat)}(h:PtrSetRow P S w v zs):zs.length≤1048576*1048576:=by
 rcases h with⟨_,rfl⟩|⟨b,ov,iv,tail,te,D,c,h1,h2⟩
 ·simp
 ·exact h2.len
theorem tQ{S:Nat->Prop}{w:World}{v:Value}{zs:List (Option Addr×Nat×Nat)}(h:PtrSetRow Tryz.prog S w v zs):
 Calls Tryz.prog 138 #[v] w (RetN w fun w' r=>Row w' 34 1 r zs.length (zs.map fun x=>(Value.slice (x).1 (x).2.1 (x).2.2)) (New w)):=by
 rcases h with⟨rfl,rfl⟩|⟨b,ov,iv,tail,te,D,c,rfl,h2⟩
 ·refine(tR w).mono ?_;rintro e w' ⟨rfl,rfl⟩;exact RetN.mk (Kp.refl _) (Row.nil _ _ _ _)
 ·exact tS h2
section
variable {S:Nat->Prop}{w:World}{b:Nat}{ov iv:Value}{tail:List Value}{te:TypeId}{D:Option Addr×Nat×Nat->Prop}{c:Option Addr×Nat×Nat->Option Addr×Nat×Nat->Int}{zs:List (Option Addr×Nat×Nat)}
end
section
variable {S:Nat->Prop}{w:World}{b:Nat}{ov iv:Value}{tail:List Value}{te:TypeId}{D:Option Addr×Nat×Nat->Prop}{c:Option Addr×Nat×Nat->Option Addr×Nat×Nat->Int}{zs:List (Option Addr×Nat×Nat)}
end
section
variable {S:Nat->Prop}{w:World}{b:Nat}{ov iv:Value}{tail:List Value}{te:TypeId}{D:Option Addr×Nat×Nat->Prop}{c:Option Addr×Nat×Nat->Option Addr×Nat×Nat->Int}{zs:List (Option Addr×Nat×Nat)}
end
section
variable {S:Nat->Prop}{w:World}{b:Nat}{ov iv:Value}{tail:List Value}{te:TypeId}{D:Option Addr×Nat×Nat->Prop}{c:Option Addr×Nat×Nat->Option Addr×Nat×Nat->Int}{zs:List (Option Addr×Nat×Nat)}
end
end
section
open Go.RowKit Go.Shelf
attribute [local go_sem] Oper.semAt_some
set_option maxHeartbeats 1000000 in
theorem kN(ao:Option Addr)(len cap:Nat)(w:World):
 Calls Tryz.prog 137 #[.slice ao len cap] w (RetN w fun w' v=>v= .func (.func 171) #[] #[.pointer (some ⟨w.heap.size,0,none⟩)]/\w'=w.alloc (.cells #[.slice ao len cap] 69)):=by
 go_enter Tryz.func137,Tryz.ntmps137;go_wp2;go_ret;exact RetN.mk ((Kp.refl w).alloc _) ⟨rfl,rfl⟩
def IterRow(w:World)(v:Value)(zs:List (Option Addr×Nat×Nat))(lo:Nat):Prop:=
 ∃Bs ao cap,v= .func (.func 171) #[] #[.pointer (some ⟨Bs,0,none⟩)]/\lo≤Bs/\(∀a,ao=some a->lo≤a.block/\a.block<w.heap.size)/\w.cell? ⟨Bs,0,none⟩=some (.slice ao zs.length cap)/\CellsAt w ao (zs.map fun x=>(Value.slice (x).1 (x).2.1 (x).2.2))/\zs.length≤1048576*1048576
set_option maxHeartbeats 1000000 in
theorem uP{S:Nat->Prop}{w:World}{v:Value}{zs:List (Option Addr×Nat×Nat)}(h:PtrSetRow Tryz.prog S w v zs):
 Calls Tryz.prog 100 #[v] w (RetN w fun w' r=>IterRow w' r zs w.heap.size):=by
 have hl:=h.len;have HI:=qH (tQ h);clear h;go_enter Tryz.func100,Tryz.ntmps100;go_wp2_with fail
 refine HI.out.mono ?_;rintro e w1 ⟨v1,rfl,hk,hr⟩;have hb1:=hr.block;have hlt:=hr.lt;obtain⟨ao,cap,ev,hc,_⟩:=hr.shape;subst ev;have HK:=qH (nIX hk hc);clear hk hr hc;go_wp2_with fail
 refine(kN ao zs.length cap w1).mono ?_;rintro e w2 ⟨v2,rfl,hk2,rfl,ew⟩;have HK2:=qH (nIX hk2 ew);clear hk2 ew;go_wp2;go_ret;have hsz:=HK.out.1.size;refine RetN.mk (HK.out.1.trans HK2.out.1) ⟨w1.heap.size,ao,cap,rfl,hsz,fun a e=>?_,?_,HK.out.2.ext HK2.out.1,hl⟩
 ·subst e;have h1:=hb1 a.block rfl;have h2:=hlt a.block rfl;exact⟨h1,Nat.lt_of_lt_of_le h2 HK2.out.1.size⟩
 ·rw [HK2.out.2];exact(Blk.new w1 [Value.slice ao zs.length cap] 69).cell' 0
set_option maxHeartbeats 2000000 in
theorem jI{α:Type}(f:α->Value)(F:Fence)(n:Nat)(h7:F.fn 171)(hro:F.round=none)(hn:1≤n)(S:Nat->Prop)(l Bs:Nat)(ao:Option Addr)(m cap:Nat)(zs:List α)(hm:m=zs.length)(hreach:m≤1048576*1048576)(J Jx:List α->World->Prop)
 (hY:∀pre x W,J pre W->pre.length<zs.length->YieldAt F (n-1) Tryz.prog l #[f x] W fun e W'=>
  (e= .returned (.bool true)/\J (pre++ [x]) W'/\SameOn S W W')\/ (e= .returned (.bool false)/\Jx (pre++ [x]) W'))
 (W:World)(hSB:S Bs)(hSa:∀a,ao=some a->S a.block)(hBs:W.cell? ⟨Bs,0,none⟩=some (.slice ao m cap))(hc:CellsAt W ao (zs.map fun x=>f x))(h0:J [] W):
 CallsIn F n Tryz.prog 171 #[.func (.yield l) #[] #[],.pointer (some ⟨Bs,0,none⟩)] W fun e W'=>(∃v,e= .returned v)/\
  ((∃ys,ys=zs/\J ys W')\/ (∃pre,pre<+:zs/\Jx pre W')):=by
 have HC:=qH hc;have HM:=qH hm;clear hc hm;refine callsIn_of_wp Tryz.func171 rfl h7 ?_ hro;simp only [Tryz.ntmps171,List.size_toArray,List.length_cons,List.length_nil,Nat.reduceAdd,Nat.reduceSub,Array.replicate_succ,Array.replicate_zero,List.push_toArray,List.append_toArray,List.nil_append,List.cons_append];gi_wp2;gi_loopw [7] (fun i wr=>∃k:Nat,k≤m/\i= .int .i64 k/\J (zs.take k) wr/\SameOn S W wr)
  (fun i _=>m- (intOf i).toNat)
 case atStart=>exact⟨0,Nat.zero_le _,rfl,h0,SameOn.refl _ _⟩
 case round=>
  obtain⟨k,hk,rfl,hJs,hnx⟩:=hrel;by_cases hlt:k<m
  ·have hkl:k<zs.length:=by rw [<-HM.out];exact hlt
   obtain⟨x,hx⟩:∃x,zs[k]?=some x:=⟨_,qG hkl⟩;obtain⟨g,o,eao,c3⟩:=HC.out k (f x) (by rw [List.getElem?_map,hx];rfl);have c3':=(hnx.cell (o:=o+k) (hSa _ eao)).trans c3;have et:zs.take (k+1)=zs.take k++ [x]:=by rw [List.take_add_one,hx];rfl
   have ET:=qH et;have hy0:=hY _ x wr hJs (by rw [List.length_take];omega);have HX:=qH (nIX hx hkl);clear hx hkl et c3;subst eao;obtain⟨fn,tmps,assign,body,hy,hR⟩:=hy0;gi_wp2;refine hR.mono ?_;rintro e W3 (⟨rfl,hJ3,hk3⟩|⟨rfl,hJx3⟩)
   ·gi_wp2;go_roundw
    case rel=>exact⟨k+1,by omega,by simp,by rw [ET.out];exact hJ3,hnx.trans hk3⟩
    case measure=>first|(simp [intOf];done)|(simp [intOf];omega)
   ·gi_wp2;refine bodyPost_ret (results_none rfl _ _ _) rfl ?_;exact⟨⟨_,rfl⟩,.inr ⟨_,by rw [<-ET.out];exact List.take_prefix _ _,hJx3⟩⟩
  ·obtain rfl:k=m:=by omega
   gi_wp2
   go_end0
   exact⟨⟨_,rfl⟩,.inl ⟨_,by rw [HM.out,List.take_length],hJs⟩⟩
def IterVRow(w:World)(v:Value){α:Type}(f:α->Value)(zs:List α)(lo:Nat):Prop:=
 ∃Bs ao cap,v= .func (.func 171) #[] #[.pointer (some ⟨Bs,0,none⟩)]/\lo≤Bs/\(∀a,ao=some a->lo≤a.block/\a.block<w.heap.size)/\w.cell? ⟨Bs,0,none⟩=some (.slice ao zs.length cap)/\CellsAt w ao (zs.map fun x=>f x)/\zs.length≤1048576*1048576
theorem IterVRow.stops{w:World}{v:Value}{α:Type}{f:α->Value}{zs:List α}{lo:Nat}(h:IterVRow w v f zs lo)(F:Fence)(n:Nat)(h7:F.fn 171)(hro:F.round=none)(hn:1≤n):
 ∃Bs,v= .func (.func 171) #[] #[.pointer (some ⟨Bs,0,none⟩)]/\SeqStopsK F n Tryz.prog 171 #[.pointer (some ⟨Bs,0,none⟩)] (fun x=>#[f x]) (SameOn fun k=>lo≤k/\k<w.heap.size) (fun ys=>ys=zs) (fun pre=>pre<+:zs) zs.length w:=by
 obtain⟨Bs,ao,cap,h1,h2,h3,h4,h5,h6⟩:=h;refine⟨Bs,h1,fun l J Jx W hW _ _ hY h0=>?_⟩;have hb:=World.block_lt_of_cell? _ _ h4;exact jI f F n h7 hro hn _ l Bs ao zs.length cap zs rfl h6 J Jx hY W ⟨h2,hb⟩ (fun a e=>h3 a e) ((Kp.of_below hW).cell h4 id) (h5.ext (Kp.of_below hW)) h0
theorem IterRow.sub{w:World}{v:Value}{zs:List (Option Addr×Nat×Nat)}{lo:Nat}(h:IterRow w v zs lo):IterVRow w v (fun x:{x//x∈zs}=>(Value.slice (x.1).1 (x.1).2.1 (x.1).2.2)) zs.attach lo:=by
 obtain⟨Bs,ao,cap,h1,h2,h3,h4,h5,h6⟩:=h;refine⟨Bs,ao,cap,h1,h2,h3,by rw [List.length_attach];exact h4,?_,by rw [List.length_attach];exact h6⟩;have e:(zs.attach.map fun x:{x//x∈zs}=>(Value.slice (x.1).1 (x.1).2.1 (x.1).2.2))=zs.map fun x=>(Value.slice (x).1 (x).2.1 (x).2.2):=by
  have h:(zs.attach.map fun x:{x//x∈zs}=>(Value.slice (x.1).1 (x.1).2.1 (x.1).2.2))=(zs.attach.map Subtype.val).map fun x=>(Value.slice (x).1 (x).2.1 (x).2.2):=by rw [List.map_map];rfl
  rw [h,List.attach_map_subtype_val]
 rw [e];exact h5
end
section
open Go.RowKit
theorem fF:cL Tryz.prog 34 9 1 16 (.string ⟨#[]⟩):=⟨by kernel_rfl,by kernel_rfl,rfl,by decide⟩
def tO(P:Program)(f:FuncId)(first captured:Array Value)(w0:World)(vs:List Value)(q:Nat->Bool):Prop:=
 (∀args w,(callFunc f args).run P w= .ok (Next.enter f args) w)/\∀w,Ext w0 w->∀i u,vs[i]?=some u->Calls P f (first.push u++captured) w fun e w'=>e= .returned (.bool (q i))/\Ext w w'
def aJr(n:Nat)(q:Nat->Bool)(w0:World)(iv:Value)(w:World):Prop:=
 ∃i:Nat,i≤n/\iv= .int .i64 i/\(∀j,j<i->q j=false)/\Ext w0 w
def aGg(n:Nat)(q:Nat->Bool)(v:Value):Prop:=(∃i:Nat,i<n/\v= .int .i64 i/\q i=true/\∀j,j<i->q j=false)\/ (v= .int .i64 (-1)/\∀j,j<n->q j=false)
set_option maxHeartbeats 2000000 in
theorem rT(vs:List Value)(ao:Option Addr)(c:Nat)(f:FuncId)(first captured:Array Value)(q:Nat->Bool)(w:World)(n:Nat)(hn:n=vs.length)
 (ha:CellsAt w ao vs)(hcmp:tO Tryz.prog f first captured w vs q)(hbig:n≤4611686018427387904):
 Calls Tryz.prog 161 #[.slice ao n c,.func (Fn.func f) first captured] w (RetN w fun w' v=>aGg n q v):=by
 have hent:=hcmp.1;have HC:=qH hcmp.2;clear hcmp;have HA:=qH ha;clear ha;have HN:=qH hn;clear hn;go_enter Tryz.func161,Tryz.ntmps161;go_wp2;go_loopw [8] (aJr n q w) (fun i _=>n- (intOf i).toNat)
 case atStart=>exact⟨0,Nat.zero_le _,rfl,by simp,Kp.refl _⟩
 case round=>
  obtain⟨i,hi,rfl,hq,hkp⟩:=hrel;have HQ:=qH hq;clear hq;by_cases hlt:i<n
  ·have g1:vs[i]?=some (vs[i]'(by have:=HN.out;omega)):=qG _;obtain⟨b1,o1,eao,c1⟩:=(HA.out.ext hkp) i _ g1;have hcall:=fun W hW=>HC.out W hW i _ g1;have HCall:=qH hcall;clear hcall;clear g1;generalize vs[i]'(by have:=HN.out;omega)=u at*;subst eao;cases hqi:q i
   ·rw [hqi]at HCall;have HI:=qH hqi;clear hqi;go_wp2_with fail
    refine(HCall.out _ hkp).mono ?_;rintro e w1 ⟨rfl,hk2⟩;have hkp2:=hkp.ext hk2;clear hk2 c1;go_wp2;go_roundw
    case rel=>
     refine⟨i+1,by omega,nMX,fun j hj=>?_,hkp2⟩;by_cases e:j=i
     ·subst e;exact HI.out
     ·exact HQ.out j (by omega)
    case measure=>first|(simp [intOf];done)|(simp [intOf];omega)
   ·rw [hqi]at HCall;have HI:=qH hqi;clear hqi;go_wp2_with fail
    refine(HCall.out _ hkp).mono ?_;rintro e w1 ⟨rfl,hk2⟩;have hkp2:=hkp.ext hk2;clear hk2 c1;go_wp2;go_ret;exact RetN.mk hkp2 (.inl ⟨i,hlt,rfl,HI.out,HQ.out⟩)
  ·have e:n=i:=by omega
   subst e;clear hlt hi;go_wp2;go_ret;exact RetN.mk hkp (.inr ⟨rfl,HQ.out⟩)
theorem oR(vs:List Value)(ao:Option Addr)(c:Nat)(f:FuncId)(first captured:Array Value)(q:Nat->Bool)(w:World)(n:Nat)(hn:n=vs.length)
 (ha:CellsAt w ao vs)(hcmp:tO Tryz.prog f first captured w vs q)(hbig:n≤4611686018427387904):
 Calls Tryz.prog 125 #[.slice ao n c,.func (Fn.func f) first captured] w (RetN w fun w' v=>v= .bool ((List.range n).any q)):=by
 have HI:=qH (rT vs ao c f first captured q w n hn ha hcmp hbig);clear ha hcmp hn;go_enter Tryz.func125,Tryz.ntmps125;go_wp2_with fail
 refine HI.out.mono ?_;rintro e w1 ⟨v,rfl,hk,⟨i,hi,rfl,hq,_⟩|⟨rfl,hq⟩⟩
 ·have t:(List.range n).any q=true:=List.any_eq_true.2 ⟨i,List.mem_range.2 hi,hq⟩;have HK:=qH (nIX hk t);clear hk hq t;go_wp2;go_ret;exact RetN.mk HK.out.1 (by rw [HK.out.2];first|rfl|simp)
 ·have t:(List.range n).any q=false:=by
   rw [List.any_eq_false];intro i hi;simp [hq i (List.mem_range.1 hi)]
  have HK:=qH (nIX hk t);clear hk hq t;go_wp2;go_ret;exact RetN.mk HK.out.1 (by rw [HK.out.2];first|rfl|simp)
theorem jC(vs:List Value)(ao:Option Addr)(cap:Nat)(w:World)(n:Nat)(hn:n=vs.length)(hc:CellsAt w ao vs)(h1:∀u∈vs,u.oneCell'=true)(hm:n*16≤140737488355328):
 Calls Tryz.prog 101 #[.slice ao n cap] w (RetN w fun w' v=>Row w' 9 1 v n vs (New w)):=by
 have hq:∀w:World,(binOp .eql 34 (.slice ao n cap) (.slice none 0 0)).run Tryz.prog w= .ok (.bool ao.isNone) w:=fun w=>Lib.run_eql_slice_nil w _ _ _ _ _ _ _ Tryz.underlying34;have HNN:=qH hn;clear hn;have hl:n≤maxLen:=by unfold maxLen;omega
 cases ao with
 |none=>
  have hv:vs= []:=by
   cases vs with
   |nil=>rfl
   |cons x vs=>obtain⟨b,o,h,_⟩:=hc.off (by simp);cases h
  subst hv;have h0:n=0:=HNN.out;subst h0;go_enter Tryz.func101,Tryz.ntmps101;go_wp2;go_ret;exact RetN.mk (Kp.refl _) (Row.nil _ _ _ _)
 |some a=>
  go_enter Tryz.func101,Tryz.ntmps101;go_wp2_with (first|(at_builtin;refine Halted.out ?_))
  refine Halted.mk (bQ fF rfl _ _ rfl ((Kp.refl (F:=fun _=>False) w).alloc _) rfl (Row.empty w 9 1 (New w) (Nat.le_refl _)) rfl (hc.alloc _) (by rw [HNN.out,Nat.mul_one]) h1 (by omega) (by omega) ?_);intro v1 w1 hr1 hk1 _ _;have HR:=qH hr1;clear hr1;go_wp2;go_ret;exact RetN.mk hk1 (by simpa using HR.out)
end
end Go.Proofs.YtinnmeiphbdogaaGreat
