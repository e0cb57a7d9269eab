/- Texts joined for a claim (RowSet, RowQ, RowQ2, RowQ3, RowOwn, BaseC, BaseC2, TriePlain, JoinTree, JoinPlain, JoinEnv, JoinEnv2, JoinRef, LeapPlain, TrieSpan, TriePath, JoinSol, JoinRef2, JoinList, TrieAt, CurAt, CurDo, CurSeek). -/
import Derived.Test.YtinnmeiphbdogaaGreatJv2
import Derived.Laws.EntriesVeiled
import Derived.StillTailTactics
set_option linter.unusedVariables false
set_option linter.unusedSimpArgs false
set_option maxRecDepth 100000
namespace Go.Proofs.YtinnmeiphbdogaaGreat
open Go.RowKit
abbrev gK:=Option Addr×Nat×Nat
def ReadsAs(w:World)(x:gK)(ss:List ByteArray):Prop:=x.2.1=ss.length/\CellsAt w x.1 (strs ss)
theorem ReadsAs.unique{w:World}{x:gK}{a b:List ByteArray}(h:ReadsAs w x a)(h':ReadsAs w x b):a=b:=by obtain⟨h1,h2⟩:=h;obtain⟨h3,h4⟩:=h';refine List.ext_getElem (by omega) fun i hi hj=>?_;obtain⟨b1,o1,e1,c1⟩:=h2.str hi;obtain⟨b2,o2,e2,c2⟩:=h4.str hj;rw [e1]at e2;cases e2;rw [c1]at c2;simpa using c2
theorem xE(w:World):∃con:gK->List ByteArray,∀x ss,ReadsAs w x ss->con x=ss:=by
 have h:∀x:gK,∃l:List ByteArray,∀ss,ReadsAs w x ss->l=ss:=fun x=>by
  by_cases hx:∃ss,ReadsAs w x ss
  ·obtain⟨ss,hs⟩:=hx;exact⟨ss,fun ss' hs'=>hs.unique hs'⟩
  ·exact⟨[],fun ss hs=>absurd ⟨ss,hs⟩ hx⟩
 exact⟨fun x=>Classical.choose (h x),fun x=>Classical.choose_spec (h x)⟩
def tZ(S:Nat->Prop)(w:World)(x:gK):Prop:=∃ss,ReadsAs w x ss/\ss.length≤8796093021952/\∀a,x.1=some a->x.2.1≠0->S a.block
theorem ReadsAs.same{S:Nat->Prop}{w w':World}{x:gK}{ss:List ByteArray}(h:ReadsAs w x ss)(hs:Same S w w')(ha:∀a,x.1=some a->x.2.1≠0->S a.block):ReadsAs w' x ss:=by
 refine⟨h.1,fun i u hu=>?_⟩;have hne:x.2.1≠0:=by have h1:=(List.getElem?_eq_some_iff.1 hu).1;simp only [strs,List.length_map]at h1;rw [h.1];omega
 obtain⟨b,o,e,c⟩:=h.2 i u hu;refine⟨b,o,e,?_⟩;rw [World.cell?_of_block (w:=w) (hs b (ha _ e hne)).2];exact c
theorem dV{α:Type}(f:α->List ByteArray):OrdLaw (fun x y=>aB (f x) (f y)):=
 ⟨fun x y=>by have:=nS (f x) (f y);omega,fun x y z h h'=>mA h h'⟩
theorem jP{S:Nat->Prop}{w:World}{con:gK->List ByteArray}(hc:∀x ss,ReadsAs w x ss->con x=ss):
 OrdVRow Tryz.prog S w (.func (Fn.func 124) #[] #[]) (tZ S w) (fun x y=>aB (con x) (con y)):=by
 refine .inr ⟨_,_,_,rfl,enters_of Tryz.func124 (by kernel_rfl) rfl,fun w' hw x y hx hy=>?_⟩;obtain⟨xs,hx1,hx2,hx3⟩:=hx;obtain⟨ys,hy1,hy2,hy3⟩:=hy;have ex:=hc x xs hx1;have ey:=hc y ys hy1;have hx':=hx1.same hw hx3;have hy':=hy1.same hw hy3;obtain⟨ax,nx,cx⟩:=x;obtain⟨ay,ny,cy⟩:=y;obtain⟨h1,h2⟩:=hx';obtain⟨h3,h4⟩:=hy';simp only at h1 h2 h3 h4;subst h1 h3;simp only [ex,ey];refine(rE xs ys ax ay cx cy w' h2 h4 (by unfold maxLen;omega) (by unfold maxLen;omega)).mono ?_;rintro e w2 ⟨rfl,rfl⟩;exact⟨rfl,Kp.refl w'⟩
def RowsAt(S:Nat->Prop)(w:World)(b:Nat)(iv:Value)(arity:Nat)(LL:List (List ByteArray)):Prop:=
 ∃con zs,(∀x ss,ReadsAs w x ss->con x=ss)/\SetAtRow Tryz.prog S w b (.func (Fn.func 124) #[] #[]) iv [.int .i64 arity] 135 (tZ S w) (fun x y=>aB (con x) (con y)) zs/\zs.map con=LL
theorem rR(s:ByteArray)(w:World):Calls Tryz.prog 84 #[.string s] w (Ret (.bool (decide (1≤s.size/\s.size≤4096))) w):=by
 by_cases h1:1≤s.size
 ·have q1:(1:Int)≤(s.size:Int):=by omega
  by_cases h2:s.size≤4096
  ·have q2:(s.size:Int)≤4096:=by omega
   have H:=qH (nIX h1 h2);go_enter Tryz.func84,Tryz.ntmps84;go_wp2;go_ret;exact Ret.mk (by simp [H.out.1,H.out.2])
  ·have q2:¬(s.size:Int)≤4096:=by omega
   have H:=qH h2;go_enter Tryz.func84,Tryz.ntmps84;go_wp2;go_ret;exact Ret.mk (by simp)
 ·have q1:¬(1:Int)≤(s.size:Int):=by omega
  have H:=qH h1;go_enter Tryz.func84,Tryz.ntmps84;go_wp2;go_ret;exact Ret.mk (by simp)
theorem aBm(s:ByteArray)(w:World):Calls Tryz.prog 126 #[.string s] w (Ret (.bool (decide (4096<s.size))) w):=by
 by_cases h:4096<s.size
 ·have q:(4096:Int)< (s.size:Int):=by omega
  have H:=qH h;go_enter Tryz.func126,Tryz.ntmps126;go_wp2;go_ret;exact Ret.mk (by simp [H.out])
 ·have q:¬(4096:Int)< (s.size:Int):=by omega
  have H:=qH h;go_enter Tryz.func126,Tryz.ntmps126;go_wp2;go_ret;exact Ret.mk (by simp)
def bI(ss:List ByteArray):Bool:=ss.all fun s=>decide (s.size≤4096)
theorem rF(ss:List ByteArray)(ao:Option Addr)(n c:Nat)(w:World)(hn:n=ss.length)(hc:CellsAt w ao (strs ss))(hl:n≤4611686018427387904):
 Calls Tryz.prog 86 #[.slice ao n c] w (RetN w fun w' v=>v= .bool (bI ss)):=by
 have hent:∀args w,(callFunc 126 args).run Tryz.prog w= .ok (.enter 126 args) w:=enters_of Tryz.func126 (by kernel_rfl) rfl;have hi:=oR (strs ss) ao c 126 #[] #[] (fun i=>decide (4096< (ss[i]?.getD ⟨#[]⟩).size)) w n (by simp [strs,hn]) hc ⟨hent,fun w' _ i u hu=>by
  rw [strs,List.getElem?_map]at hu;cases hs:ss[i]? with
  |none=>rw [hs]at hu;cases hu
  |some s=>
   rw [hs]at hu;cases hu;refine(aBm s w').mono ?_;rintro e w2 ⟨rfl,rfl⟩;exact⟨by simp [hs],Kp.refl _⟩⟩ hl
 have key:(!(List.range n).any fun i=>decide (4096< (ss[i]?.getD ⟨#[]⟩).size))=bI ss:=by
  rw [Bool.eq_iff_iff];simp only [Bool.not_eq_true',List.any_eq_false,List.mem_range,decide_eq_true_eq,bI,List.all_eq_true];constructor
  ·intro h s hs;obtain⟨i,hi,rfl⟩:=List.mem_iff_getElem.1 hs;have:=h i (by omega);simp only [qG hi,Option.getD_some]at this;omega
  ·intro h i hi;have hi':i<ss.length:=by omega
   have:=h ss[i] (List.getElem_mem _);simp only [qG hi',Option.getD_some];omega
 have HI:=qH (nIX hi key);clear hi key hent hc hn;go_enter Tryz.func86,Tryz.ntmps86;go_wp2_with fail
 refine HI.out.1.mono ?_;rintro e w1 ⟨v,rfl,hk,rfl⟩;have HK:=qH hk;clear hk;go_wp2;go_ret;exact RetN.mk HK.out (by rw [<-HI.out.2];rfl)
end Go.Proofs.YtinnmeiphbdogaaGreat
namespace Go.Proofs.YtinnmeiphbdogaaGreat
open Go.RowKit
section
variable {S S':Nat->Prop}{w w':World}{b:Nat}{iv:Value}{arity:Nat}{LL:List (List ByteArray)}
theorem RowsAt.move{F:Nat->Prop}(h:RowsAt S w b iv arity LL)(hk:Kp F w w')(hF:∀k,F k->¬eY b iv k)(hS:∀k,F k->¬S k)(hsub:∀k,S k->S' k)(hin:∀k,S' k->k<w'.heap.size)(hno:∀k,eY b iv k->¬S' k):
 RowsAt S' w' b iv arity LL:=by
 obtain⟨con,zs,hc,hs,hl⟩:=h;obtain⟨con',hc'⟩:=xE w';have hs':=hs.kp hk hF hS;have hsame:Same S w w':=hk.same hs.inS fun k h1 h2=>hS k h2 h1;have all:∀z∈zs,tZ S' w' z/\con' z=con z:=fun z hz=>by obtain⟨ss,h1,h2,h3⟩:=hs.all z hz;have h1':=h1.same hsame h3;exact⟨⟨ss,h1',h2,fun a e hne=>hsub _ (h3 a e hne)⟩,by rw [hc' z ss h1',hc z ss h1]⟩
 refine⟨con',zs,hc',⟨hs'.blk,hs'.row,hs'.apart,hin,hno,jP hc',fun z hz=>(all z hz).1,hs.len⟩,?_⟩;rw [<-hl];exact List.map_congr_left fun z hz=>(all z hz).2
theorem RowsAt.ext(h:RowsAt S w b iv arity LL)(hk:Ext w w'):RowsAt S w' b iv arity LL:=by have hb:=h;obtain⟨con,zs,hc,hs,hl⟩:=hb;exact h.move hk (fun _ x=>x.elim) (fun _ x=>x.elim) (fun _ h=>h) (fun k hk'=>Nat.lt_of_lt_of_le (hs.inS k hk') hk.size) hs.notS
theorem RowsAt.blk(h:RowsAt S w b iv arity LL):Blk w b [.func (Fn.func 124) #[] #[],iv,.int .i64 arity] 135:=by obtain⟨con,zs,hc,hs,hl⟩:=h;exact hs.blk
theorem aBy(w:World):Calls Tryz.prog 99 #[.pointer none] w (Ret (.pointer none) w):=by go_enter Tryz.func99,Tryz.ntmps99;go_wp2;go_ret;exact Ret.mk rfl
theorem iL(h:RowsAt S w b iv arity LL):Calls Tryz.prog 99 #[.pointer (some ⟨b,0,none⟩)] w (Ret (.pointer (some ⟨b,0,none⟩)) w):=by
 have c0:=h.blk.c0;have hq:∀w:World,(binOp .eql 131 (.func (Fn.func 124) #[] #[]) .nilFunc).run Tryz.prog w= .ok (.bool false) w:=fun _=>by kernel_rfl
 clear h;go_enter Tryz.func99,Tryz.ntmps99;go_wp2;go_ret;exact Ret.mk rfl
theorem aBz(h:RowsAt S w b iv arity LL):Calls Tryz.prog 105 #[.pointer (some ⟨b,0,none⟩)] w (Ret (.int .i64 (LL.length:Nat)) w):=by
 have H:=qH h;obtain⟨con,zs,hc,hs,hl⟩:=h;have HS:=qH hs;have HL:=qH (show zs.length=LL.length by rw [<-hl];simp);clear hs hc hl;go_enter Tryz.func105,Tryz.ntmps105;go_wp2_with fail
 refine(iL H.out).mono ?_;rintro e w' ⟨rfl,rfl⟩;go_wp2_with fail
 refine(oT HS.out).mono ?_;rintro e w' ⟨rfl,rfl⟩;go_wp2;go_ret;exact Ret.mk (by rw [<-HL.out];rfl)
theorem aEq(S:Nat->Prop)(w:World)(a:Nat)(hS:∀k,S k->k<w.heap.size):
 RowsAt S (w.alloc (.cells #[.func (Fn.func 124) #[] #[],.slice none 0 0,.int .i64 a] 135)) w.heap.size (.slice none 0 0) a []:=by
 obtain⟨con,hc⟩:=xE (w.alloc (.cells #[.func (Fn.func 124) #[] #[],.slice none 0 0,.int .i64 a] 135));refine⟨con,[],hc,⟨Blk.new w [.func (Fn.func 124) #[] #[],.slice none 0 0,.int .i64 a] 135,Row.nil _ _ _ _,by simp [Value.ownBlock],fun k hk=>by rw [aI];have:=hS k hk;omega,fun k ho hs=>?_,jP hc,by simp,by simp⟩,rfl⟩;rcases ho with rfl|ho
 ·have:=hS _ hs;omega
 ·cases ho
theorem nB(S:Nat->Prop)(w:World)(a:Nat)(ha:a≤64)(hS:∀k,S k->k<w.heap.size):
 Calls Tryz.prog 85 #[.int .i64 a] w (RetN w fun w' v=>v= .tuple #[.pointer (some ⟨w.heap.size,0,none⟩),.int .i64 0]/\RowsAt S w' w.heap.size (.slice none 0 0) a []):=by
 have HR:=qH (aEq S w a hS);have q1:¬(a:Int)<0:=by omega
 have q2:¬(64:Int)< (a:Int):=by omega
 clear hS;go_enter Tryz.func85,Tryz.ntmps85;go_wp2;go_ret2;exact RetN.mk ((Kp.refl w).alloc _) ⟨rfl,HR.out⟩
end
end Go.Proofs.YtinnmeiphbdogaaGreat
namespace Go.Proofs.YtinnmeiphbdogaaGreat
open Go.RowKit
def RowIn(w:World)(x:gK)(ss:List ByteArray):Prop:=ReadsAs w x ss/\ss.length≤8796093021952/\∀a,x.1=some a->x.2.1≠0->a.block<w.heap.size
def fX(x:gK)(F:Nat->Prop):Prop:=∀a,x.1=some a->x.2.1≠0->¬F a.block
def iW(S:Nat->Prop)(x:gK):Nat->Prop:=fun k=>S k\/∃a,x.1=some a/\x.2.1≠0/\a.block=k
section
variable {S:Nat->Prop}{w w':World}{b:Nat}{iv:Value}{arity:Nat}{LL:List (List ByteArray)}
theorem RowsAt.inS(h:RowsAt S w b iv arity LL):∀k,S k->k<w.heap.size:=by obtain⟨con,zs,hc,hs,hl⟩:=h;exact hs.inS
theorem RowsAt.notS(h:RowsAt S w b iv arity LL):∀k,eY b iv k->¬S k:=by obtain⟨con,zs,hc,hs,hl⟩:=h;exact hs.notS
theorem RowsAt.pool(h:RowsAt S w b iv arity LL){x:gK}{ss:List ByteArray}(hx:RowIn w x ss)(ho:fX x (eY b iv)):RowsAt (iW S x) w b iv arity LL:=by
 refine h.move (F:=fun _=>False) (Kp.refl w) (fun _ x=>x.elim) (fun _ x=>x.elim) (fun k hk=> .inl hk) (fun k hk=>?_) (fun k hk hs=>?_)
 ·rcases hk with hk|⟨a,e,hne,rfl⟩
  ·exact h.inS k hk
  ·exact hx.2.2 a e hne
 ·rcases hs with hs|⟨a,e,hne,rfl⟩
  ·exact h.notS k hk hs
  ·exact ho a e hne hk
theorem RowsAt.open(h:RowsAt S w b iv arity LL)(hst:Strict aB LL){x:gK}{ss:List ByteArray}(hx:RowIn w x ss)(ho:fX x (eY b iv)):
 ∃con zs,(∀x ss,ReadsAs w x ss->con x=ss)/\SetAtRow Tryz.prog (iW S x) w b (.func (Fn.func 124) #[] #[]) iv [.int .i64 arity] 135 (tZ (iW S x) w) (fun x y=>aB (con x) (con y)) zs/\zs.map con=LL/\
  tZ (iW S x) w x/\con x=ss/\Strict (fun x y=>aB (con x) (con y)) zs/\aX (fun x y=>aB (con x) (con y)) zs x=aX aB LL ss/\below (fun x y=>aB (con x) (con y)) zs x=below aB LL ss:=by
 obtain⟨con,zs,hc,hs,hl⟩:=h.pool hx ho;have ex:=hc x ss hx.1;refine⟨con,zs,hc,hs,hl,⟨ss,hx.1,hx.2.1,fun a e hne=> .inr ⟨a,e,hne,rfl⟩⟩,ex,?_,?_,?_⟩
 ·rw [<-hl]at hst;exact List.pairwise_map.1 hst
 ·rw [<-hl,<-ex];simp [aX,List.any_map,Function.comp_def]
 ·rw [<-hl,<-ex];simp [below,List.filter_map,Function.comp_def]
theorem mU(h:RowsAt S w b iv arity LL)(hst:Strict aB LL){x:gK}{ss:List ByteArray}(hx:RowIn w x ss)(ho:fX x (eY b iv)):
 Calls Tryz.prog 87 #[.pointer (some ⟨b,0,none⟩),.slice x.1 x.2.1 x.2.2] w (RetN w fun w' v=>v= .bool (aX aB LL ss)):=by
 have H:=qH h;obtain⟨con,zs,hc,hs,hl,hd,ex,hz,e1,e2⟩:=h.open hst hx ho;have HF:=qH (oU (dV con) x hd hz hs);rw [e1]at HF;clear h hst hx ho hc hs hl hd ex hz e1 e2;go_enter Tryz.func87,Tryz.ntmps87;go_wp2_with fail
 refine(iL H.out).mono ?_;rintro e w' ⟨rfl,rfl⟩;go_wp2_with fail
 refine HF.out.mono ?_;rintro e w1 ⟨v,rfl,hk,rfl⟩;have HK:=qH hk;clear hk;go_wp2;go_ret;exact RetN.mk HK.out rfl
theorem RowsAt.of_set{S':Nat->Prop}{w1 w2:World}{con:gK->List ByteArray}{zs:List gK}(hc:∀x ss,ReadsAs w1 x ss->con x=ss)(hsame:Same S' w1 w2)
 (h:SetAtRow Tryz.prog S' w2 b (.func (Fn.func 124) #[] #[]) iv [.int .i64 arity] 135 (tZ S' w1) (fun x y=>aB (con x) (con y)) zs):RowsAt S' w2 b iv arity (zs.map con):=by
 obtain⟨con',hc'⟩:=xE w2;have all:∀z∈zs,tZ S' w2 z/\con' z=con z:=fun z hz=>by have hd:=h.all z hz;obtain⟨ss,h1,h2,h3⟩:=hd;have h1':=h1.same hsame h3;exact⟨⟨ss,h1',h2,h3⟩,by rw [hc' z ss h1',hc z ss h1]⟩
 exact⟨con',zs,hc',⟨h.blk,h.row,h.apart,h.inS,h.notS,jP hc',fun z hz=>(all z hz).1,h.len⟩,List.map_congr_left fun z hz=>(all z hz).2⟩
def aM(arity:Nat)(LL:List (List ByteArray))(ss:List ByteArray):Bool×Nat:=
 if ss.length≠arity then(false,30)else if bI ss=false then(false,31)else if 65536≤LL.length/\aX aB LL ss=false then(false,4)else(!aX aB LL ss,0)
def aS(arity:Nat)(LL:List (List ByteArray))(ss:List ByteArray):List (List ByteArray):=if(aM arity LL ss).2=0 then bN aB LL ss else LL
theorem aGq(h:RowsAt S w b iv arity LL)(hst:Strict aB LL){ao:Option Addr}{n cap:Nat}{ss:List ByteArray}{w1:World}(hk:Ext w w1)(hr:Row w1 9 1 (.slice ao n cap) n (strs ss) (New w))(hn:n=ss.length)(hl:n≤8796093021952)(hLL:LL.length+1≤1048576*1048576):
 Calls Tryz.prog 128 #[.pointer (some ⟨b,0,none⟩),.slice ao n cap] w1 (RetF (eY b iv) w1 fun w' v=>v= .bool (!aX aB LL ss)/\
  ∃iv',RowsAt (iW S (ao,n,cap)) w' b iv' arity (bN aB LL ss)/\∀k,iv'.ownBlock=some k->iv.ownBlock=some k\/w1.heap.size≤k):=by
 have hx:RowIn w1 (ao,n,cap) ss:=by obtain⟨ao',cap',e,hc,_⟩:=hr.shape;cases e;refine⟨⟨hn,hc⟩,by omega,fun a e _=>?_⟩;have e':ao=some a:=e;subst e';exact hr.lt a.block rfl
 have ho:fX (ao,n,cap) (eY b iv):=fun a e _ ho=>by
  have e':ao=some a:=e;subst e';have h1:w.heap.size≤a.block:=hr.block a.block rfl;have h2:a.block<w.heap.size:=by
   obtain⟨con,zs,hc,hs,hl⟩:=h;rcases ho with ho|ho
   ·rw [ho];exact hs.blk.lt
   ·exact hs.row.lt _ ho
  omega
 obtain⟨con,zs,hc,hs,hlz,hd,ex,hz,e1,e2⟩:=(h.ext hk).open hst hx ho;have hzl:zs.length=LL.length:=by rw [<-hlz];simp
 refine(xT (dV con) (ao,n,cap) hd hz hs (by omega)).mono ?_;rintro e w2 ⟨v,rfl,hk2,rfl,iv',hs2,hiv⟩;refine RetF.mk hk2 ⟨by rw [e1],iv',?_,hiv⟩;have hsame:Same (iW S (ao,n,cap)) w1 w2:=hk2.same hs.inS fun k h1 h2=>hs.notS k h2 h1;have:=RowsAt.of_set hc hsame hs2
 rwa [<-aLc con zs (ao,n,cap),hlz,ex]at this
end
end Go.Proofs.YtinnmeiphbdogaaGreat
namespace Go.Proofs.YtinnmeiphbdogaaGreat
open Go.RowKit
section
variable {S:Nat->Prop}{w w':World}{b:Nat}{iv:Value}{arity:Nat}{LL:List (List ByteArray)}
def RowsAdded(S:Nat->Prop)(w:World)(b:Nat)(iv:Value)(arity:Nat)(LL:List (List ByteArray))(ss:List ByteArray)(w':World)(v:Value):Prop:=
 v= .tuple #[.bool (aM arity LL ss).1,.int .i64 ((aM arity LL ss).2:Nat)]/\
  ∃S' iv',(∀k,S k->S' k)/\(∀k,S' k->S k\/w.heap.size≤k)/\RowsAt S' w' b iv' arity (aS arity LL ss)/\∀k,iv'.ownBlock=some k->iv.ownBlock=some k\/w.heap.size≤k
theorem RowsAdded.same(h:RowsAt S w b iv arity LL){ss:List ByteArray}{w1:World}(hk:Ext w w1){v:Value}(hv:v= .tuple #[.bool (aM arity LL ss).1,.int .i64 ((aM arity LL ss).2:Nat)])(h0:aS arity LL ss=LL):RowsAdded S w b iv arity LL ss w1 v:=
 ⟨hv,S,iv,fun _ h=>h,fun _ h=> .inl h,by rw [h0];exact h.ext hk,fun _ h=> .inl h⟩
set_option maxHeartbeats 2000000 in
theorem mV(h:RowsAt S w b iv arity LL)(hst:Strict aB LL){ao:Option Addr}{n cap:Nat}{ss:List ByteArray}(hx:RowIn w (ao,n,cap) ss)(ho:fX (ao,n,cap) (eY b iv))(hLL:LL.length+1≤1048576*1048576):
 Calls Tryz.prog 88 #[.pointer (some ⟨b,0,none⟩),.slice ao n cap] w (RetF (eY b iv) w (RowsAdded S w b iv arity LL ss)):=by
 have hn:n=ss.length:=hx.1.1;have hcs:CellsAt w ao (strs ss):=hx.1.2;have hl:ss.length≤8796093021952:=hx.2.1;have c2:=h.blk.c2;have HT:=qH (rF ss ao n cap w hn hcs (by omega));have HH:=qH (fun w1 (hw:Ext w w1)=>mU (h.ext hw) hst (x:=(ao,n,cap)) (ss:=ss) ⟨⟨hn,hcs.ext hw⟩,hl,fun a e hne=>Nat.lt_of_lt_of_le (hx.2.2 a e hne) hw.size⟩ ho);have HLN:=qH (fun w1 (hw:Ext w w1)=>aBz (h.ext hw));have HS:=qH (fun w1 (hw:Ext w w1)=>iL (h.ext hw));have HCL:=qH (fun w1 (hw:Ext w w1)=>jC (strs ss) ao cap w1 n (by simp [strs,hn]) (hcs.ext hw) (gN ss) (by omega));have HP:=qH (fun w0 w1 ao1 cap1 (hw:Ext w w0) (hk:Ext w0 w1) hr=>aGq (w:=w0) (w1:=w1) (ao:=ao1) (n:=n) (cap:=cap1) (h.ext hw) hst hk hr hn (by omega) hLL);have H:=qH h;have HN:=qH hn;clear h hst hx ho hcs hn;obtain⟨m,em⟩:∃m,m=LL.length:=⟨_,rfl⟩;rw [<-em]at HLN hLL;have EM:=qH em;clear em hLL;by_cases h1:n=arity
 ·have q1:((n:Int) !=(arity:Int))=false:=by simp [h1]
  have H1:=qH h1;clear h1;cases ht:bI ss with
  |false=>
   have HTX:=qH ht;rw [ht]at HT;clear ht;go_enter Tryz.func88,Tryz.ntmps88;go_wp2_with fail
   refine HT.out.mono ?_;rintro e w1 ⟨v,rfl,hk,rfl⟩;have HK:=qH hk;clear hk;go_wp2;go_ret2;have e0:aM arity LL ss=(false,31):=by unfold aM;rw [if_neg (by rw [<-HN.out,H1.out];simp),if_pos HTX.out]
   exact RetF.mk (Ext.kp HK.out) (RowsAdded.same H.out HK.out (by rw [e0];rfl) (by unfold aS;rw [e0];rfl))
  |true=>
   have HTX:=qH ht;rw [ht]at HT;clear ht;by_cases hf:65536≤m
   ·have q2:decide ((65536:Int)≤(m:Int))=true:=by rw [decide_eq_true_iff];omega
    have HF:=qH hf;clear hf;cases hi:aX aB LL ss with
    |false=>
     have HI:=qH hi;rw [hi]at HH;clear hi;go_enter Tryz.func88,Tryz.ntmps88;go_wp2_with fail
     refine HT.out.mono ?_;rintro e w0 ⟨v,rfl,hk0,rfl⟩;go_wp2_with fail
     refine(HLN.out w0 hk0).mono ?_;rintro e w' ⟨rfl,rfl⟩;go_wp2_with fail
     refine(HH.out w0 hk0).mono ?_;rintro e w1 ⟨v,rfl,hk01,rfl⟩;have hk1:=hk0.trans hk01;clear hk0 hk01;have HK:=qH hk1;clear hk1;go_wp2;go_ret2;have e0:aM arity LL ss=(false,4):=by unfold aM;rw [if_neg (by rw [<-HN.out,H1.out];simp),if_neg (by rw [HTX.out];simp),if_pos ⟨EM.out▸HF.out,HI.out⟩]
     exact RetF.mk (Ext.kp HK.out) (RowsAdded.same H.out HK.out (by rw [e0];rfl) (by unfold aS;rw [e0];rfl))
    |true=>
     have HI:=qH hi;rw [hi]at HH;clear hi;go_enter Tryz.func88,Tryz.ntmps88;go_wp2_with fail
     refine HT.out.mono ?_;rintro e w0 ⟨v,rfl,hk0,rfl⟩;go_wp2_with fail
     refine(HLN.out w0 hk0).mono ?_;rintro e w' ⟨rfl,rfl⟩;go_wp2_with fail
     refine(HH.out w0 hk0).mono ?_;rintro e w1 ⟨v,rfl,hk01,rfl⟩;have hk1:=hk0.trans hk01;clear hk0 hk01;go_wp2_with fail
     refine(HS.out w1 hk1).mono ?_;rintro e w' ⟨rfl,rfl⟩;go_wp2_with fail
     refine(HCL.out w1 hk1).mono ?_;rintro e w2 ⟨v,rfl,hk2,hr2⟩;obtain⟨ao2,cap2,ev,_,_⟩:=hr2.shape;subst ev;go_wp2_with fail
     refine(HP.out w1 w2 ao2 cap2 hk1 hk2 hr2).mono ?_;rintro e w3 ⟨v,rfl,hk3,rfl,iv',hrows,hiv⟩;have HR:=qH (nIX hk3 (nIX hrows hiv));have hb2:=hr2.block;clear hk3 hrows hiv hr2;go_wp2;go_ret2;have e0:aM arity LL ss=(!aX aB LL ss,0):=by unfold aM;rw [if_neg (by rw [<-HN.out,H1.out];simp),if_neg (by rw [HTX.out];simp),if_neg (fun h=>by rw [HI.out]at h;cases h.2)]
     have z1:=hk1.size;have z2:=hk2.size;refine RetF.mk ((Ext.kp (hk1.trans hk2)).trans HR.out.1) ⟨by rw [e0];rfl,iW S (ao2,n,cap2),iv',fun k h=> .inl h,fun k h=>?_,by unfold aS;rw [e0];exact HR.out.2.1,fun k h=>(HR.out.2.2 k h).imp id (fun h=>by omega)⟩;rcases h with h|⟨a,e,_,rfl⟩
     ·exact .inl h
     ·have e':ao2=some a:=e;subst e';have:=hb2 a.block rfl;exact .inr (Nat.le_trans z1 this)
   ·have q2:decide ((65536:Int)≤(m:Int))=false:=by rw [decide_eq_false_iff_not];omega
    have HF:=qH hf;clear hf;go_enter Tryz.func88,Tryz.ntmps88;go_wp2_with fail
    refine HT.out.mono ?_;rintro e w1 ⟨v,rfl,hk1,rfl⟩;go_wp2_with fail
    refine(HLN.out w1 hk1).mono ?_;rintro e w' ⟨rfl,rfl⟩;go_wp2_with fail
    refine(HS.out w1 hk1).mono ?_;rintro e w' ⟨rfl,rfl⟩;go_wp2_with fail
    refine(HCL.out w1 hk1).mono ?_;rintro e w2 ⟨v,rfl,hk2,hr2⟩;obtain⟨ao2,cap2,ev,_,_⟩:=hr2.shape;subst ev;go_wp2_with fail
    refine(HP.out w1 w2 ao2 cap2 hk1 hk2 hr2).mono ?_;rintro e w3 ⟨v,rfl,hk3,rfl,iv',hrows,hiv⟩;have HR:=qH (nIX hk3 (nIX hrows hiv));have hb2:=hr2.block;clear hk3 hrows hiv hr2;go_wp2;go_ret2;have e0:aM arity LL ss=(!aX aB LL ss,0):=by unfold aM;rw [if_neg (by rw [<-HN.out,H1.out];simp),if_neg (by rw [HTX.out];simp),if_neg (fun h=>HF.out (EM.out▸h.1))]
    have z1:=hk1.size;have z2:=hk2.size;refine RetF.mk ((Ext.kp (hk1.trans hk2)).trans HR.out.1) ⟨by rw [e0];rfl,iW S (ao2,n,cap2),iv',fun k h=> .inl h,fun k h=>?_,by unfold aS;rw [e0];exact HR.out.2.1,fun k h=>(HR.out.2.2 k h).imp id (fun h=>by omega)⟩;rcases h with h|⟨a,e,_,rfl⟩
    ·exact .inl h
    ·have e':ao2=some a:=e;subst e';have:=hb2 a.block rfl;exact .inr (Nat.le_trans z1 this)
 ·have q1:((n:Int) !=(arity:Int))=true:=by rw [bne_iff_ne];omega
  have H1:=qH h1;clear h1;go_enter Tryz.func88,Tryz.ntmps88;go_wp2;go_ret2;have e0:aM arity LL ss=(false,30):=by unfold aM;rw [if_pos (by rw [<-HN.out];exact H1.out)]
  exact RetF.mk (Kp.refl _) (RowsAdded.same H.out (Kp.refl _) (by rw [e0];rfl) (by unfold aS;rw [e0];rfl))
end
end Go.Proofs.YtinnmeiphbdogaaGreat
namespace Go.Proofs.YtinnmeiphbdogaaGreat
section
open Go.RowKit
def RowsQ(z:Prop)(S:Nat->Prop)(w:World)(b:Nat)(iv:Value)(arity:Nat)(LL:List (List ByteArray)):Prop:=
 RowsAt S w b iv arity LL\/ (z/\iv= .slice none 0 0/\LL= []/\Blk w b [.nilFunc,.slice none 0 0,.int .i64 arity] 135/\(∀k,S k->k<w.heap.size)/\¬S b)
abbrev FQ(z:Prop)(b:Nat):Nat->Prop:=fun k=>z/\k=b
theorem FQ.owns{z:Prop}{b:Nat}{iv:Value}:∀k,FQ z b k->eY b iv k:=fun k h=> .inl h.2
theorem Kp.fq{b:Nat}{w w':World}(h:Kp (FQ False b) w w'):Ext w w':=h.mono fun _ _ h=>h.1
section
variable {z:Prop}{S:Nat->Prop}{w w':World}{b:Nat}{iv:Value}{arity:Nat}{LL:List (List ByteArray)}
theorem RowsAt.q(h:RowsAt S w b iv arity LL):RowsQ z S w b iv arity LL:= .inl h
theorem RowsQ.kp{F:Nat->Prop}(h:RowsQ z S w b iv arity LL)(hk:Kp F w w')(hF:∀k,F k->¬eY b iv k)(hS:∀k,F k->¬S k):RowsQ z S w' b iv arity LL:=by
 rcases h with h|⟨hz,e,el,hB,h1,h2⟩
 ·exact .inl (h.move hk hF hS (fun _ h=>h) (fun k hk'=>Nat.lt_of_lt_of_le (h.inS k hk') hk.size) h.notS)
 ·exact .inr ⟨hz,e,el,hB.kp hk (fun hf=>hF _ hf (.inl rfl)),fun k hk'=>Nat.lt_of_lt_of_le (h1 k hk') hk.size,h2⟩
theorem RowsQ.ext(h:RowsQ z S w b iv arity LL)(hk:Ext w w'):RowsQ z S w' b iv arity LL:=h.kp hk (fun _ x=>x.elim) (fun _ x=>x.elim)
theorem RowsQ.blk'(h:RowsQ z S w b iv arity LL):∃ov,Blk w b [ov,iv,.int .i64 arity] 135:=by
 rcases h with h|⟨_,e,_,hB,_⟩
 ·exact⟨_,h.blk⟩
 ·exact⟨_,by rw [e];exact hB⟩
theorem RowsQ.lt(h:RowsQ z S w b iv arity LL):b<w.heap.size:=by obtain⟨ov,h⟩:=h.blk';exact h.lt
theorem RowsQ.ar(h:RowsQ z S w b iv arity LL):w.cell? ⟨b,2,none⟩=some (.int .i64 arity):=by obtain⟨ov,h⟩:=h.blk';rw [h.cell'];rfl
theorem RowsQ.inS(h:RowsQ z S w b iv arity LL):∀k,S k->k<w.heap.size:=by
 rcases h with h|⟨_,_,_,_,h,_⟩
 ·exact h.inS
 ·exact h
theorem oF(h:RowsQ z S w b iv arity LL):
 Calls Tryz.prog 99 #[.pointer (some ⟨b,0,none⟩)] w (RetF (FQ z b) w fun w' v=>v= .pointer (some ⟨b,0,none⟩)/\RowsAt S w' b iv arity LL):=by
 rcases h with h|⟨hz,rfl,rfl,hB,h1,h2⟩
 ·refine(iL h).mono ?_;rintro e w' ⟨rfl,rfl⟩;exact RetF.mk (Kp.refl _) ⟨rfl,h⟩
 ·have c0:=hB.c0;have f0:=hB.free 0;have hq:∀w:World,(binOp .eql 131 .nilFunc .nilFunc).run Tryz.prog w= .ok (.bool true) w:=fun _=>by kernel_rfl
  have HB:=qH (nIX hB (nIX h1 h2));have HZ:=qH hz;clear hB h1 h2 hz;go_enter Tryz.func99,Tryz.ntmps99;go_wp2;go_ret;obtain⟨hB,h1,h2⟩:=HB.out;have hset:=hB.set 0 (.func (Fn.func 124) #[] #[]);have hk:Kp (FQ z b) w (w.setCell ⟨b,0,none⟩ (.func (Fn.func 124) #[] #[])):=Kp.setCell (Kp.refl w) (fun _=>⟨HZ.out,rfl⟩) _;obtain⟨con,hc⟩:=xE (w.setCell ⟨b,0,none⟩ (.func (Fn.func 124) #[] #[]));refine RetF.mk hk ⟨rfl,con,[],hc,⟨hset,Row.nil _ _ _ _,by simp [Value.ownBlock],fun k hk'=>Nat.lt_of_lt_of_le (h1 k hk') hk.size,fun k ho hs=>?_,jP hc,by simp,by simp⟩,rfl⟩;rcases ho with rfl|ho
  ·exact h2 hs
  ·cases ho
theorem rI(h:RowsQ z S w b iv arity LL):Calls Tryz.prog 105 #[.pointer (some ⟨b,0,none⟩)] w (RetF (FQ z b) w fun w' v=>v= .int .i64 (LL.length:Nat)/\RowsAt S w' b iv arity LL):=by
 have HS:=qH (oF h);clear h;go_enter Tryz.func105,Tryz.ntmps105;go_wp2_with fail
 refine HS.out.mono ?_;rintro e w1 ⟨v,rfl,hk,rfl,h1⟩;have HK:=qH (nIX hk h1);obtain⟨con,zs,hc,hs,hl⟩:=h1;have HS1:=qH hs;have HL:=qH (show zs.length=LL.length by rw [<-hl];simp);clear hk hs hc hl;go_wp2_with fail
 refine(oT HS1.out).mono ?_;rintro e w' ⟨rfl,rfl⟩;go_wp2;go_ret;exact RetF.mk HK.out.1 ⟨by rw [<-HL.out];rfl,HK.out.2⟩
theorem RowIn.kp{F:Nat->Prop}{x:gK}{ss:List ByteArray}(h:RowIn w x ss)(hk:Kp F w w')(ho:fX x F):RowIn w' x ss:=
 ⟨⟨h.1.1,fun i u hu=>by
  have hne:x.2.1≠0:=by have h1:=(List.getElem?_eq_some_iff.1 hu).1;simp only [strs,List.length_map]at h1;rw [h.1.1];omega
  obtain⟨b,o,e,c⟩:=h.1.2 i u hu;exact⟨b,o,e,hk.cell c (ho _ e hne)⟩⟩,h.2.1,fun a e hne=>Nat.lt_of_lt_of_le (h.2.2 a e hne) hk.size⟩
theorem aHu(h:RowsQ z S w b iv arity LL)(hst:Strict aB LL){x:gK}{ss:List ByteArray}(hx:RowIn w x ss)(ho:fX x (eY b iv)):
 Calls Tryz.prog 87 #[.pointer (some ⟨b,0,none⟩),.slice x.1 x.2.1 x.2.2] w (RetF (FQ z b) w fun w' v=>v= .bool (aX aB LL ss)/\RowsAt S w' b iv arity LL):=by
 have HS:=qH (oF h);clear h;have HX:=qH (nIX hst (nIX hx ho));clear hst hx ho;go_enter Tryz.func87,Tryz.ntmps87;go_wp2_with fail
 refine HS.out.mono ?_;rintro e w1 ⟨v,rfl,hk,rfl,h1⟩;have hx1:=HX.out.2.1.kp hk (fun a e hne hf=>HX.out.2.2 a e hne (.inl hf.2));obtain⟨con,zs,hc,hs,hl,hd,ex,hz,e1,e2⟩:=h1.open HX.out.1 hx1 HX.out.2.2;have HF:=qH (oU (dV con) x hd hz hs);rw [e1]at HF;have HK:=qH (nIX hk h1);clear hc hs hl hd ex hz e1 e2 hk h1 hx1;go_wp2_with fail
 refine HF.out.mono ?_;rintro e w2 ⟨v,rfl,hk2,rfl⟩;have HK2:=qH hk2;clear hk2;go_wp2;go_ret;exact RetF.mk (HK.out.1.ext HK2.out) ⟨rfl,HK.out.2.ext HK2.out⟩
theorem aB1(h:RowsQ z S w b iv arity LL):Calls Tryz.prog 51 #[.pointer (some ⟨b,0,none⟩)] w (Ret (.int .i64 arity) w):=by have c2:=h.ar;clear h;go_enter Tryz.func51,Tryz.ntmps51;go_wp2;go_ret;exact Ret.mk rfl
def dJ(arity:Nat)(LL:List (List ByteArray))(ss:List ByteArray):Bool×Nat:=if ss.length≠arity then(false,30)else(aX aB LL ss,0)
def bJ(arity:Nat)(LL:List (List ByteArray))(ss:List ByteArray):List (List ByteArray):=if ss.length≠arity then LL else iZ aB LL ss
theorem aI3{α β:Type}{c:α->α->Int}(f:β->α)(L:List β)(i:β):iZ c (L.map f) (f i)=(iZ (fun i j=>c (f i) (f j)) L i).map f:=by
 have e1:aX c (L.map f) (f i)=aX (fun i j=>c (f i) (f j)) L i:=by simp [aX,List.any_map,Function.comp_def]
 have e2:below c (L.map f) (f i)=below (fun i j=>c (f i) (f j)) L i:=by simp [below,List.filter_map,Function.comp_def]
 unfold iZ;rw [e1,e2];split<;>simp
end
section
variable {z:Prop}{S:Nat->Prop}{w w':World}{b:Nat}{iv:Value}{arity:Nat}{LL:List (List ByteArray)}
def RowsAddedQ(z:Prop)(S:Nat->Prop)(w:World)(b:Nat)(iv:Value)(arity:Nat)(LL:List (List ByteArray))(ss:List ByteArray)(w':World)(v:Value):Prop:=
 v= .tuple #[.bool (aM arity LL ss).1,.int .i64 ((aM arity LL ss).2:Nat)]/\
  ∃S' iv',(∀k,S k->S' k)/\(∀k,S' k->S k\/w.heap.size≤k)/\RowsQ z S' w' b iv' arity (aS arity LL ss)/\∀k,iv'.ownBlock=some k->iv.ownBlock=some k\/w.heap.size≤k
theorem RowsAddedQ.same(h:RowsQ z S w b iv arity LL){ss:List ByteArray}{w1:World}(hk:Ext w w1){v:Value}(hv:v= .tuple #[.bool (aM arity LL ss).1,.int .i64 ((aM arity LL ss).2:Nat)])(h0:aS arity LL ss=LL):RowsAddedQ z S w b iv arity LL ss w1 v:=
 ⟨hv,S,iv,fun _ h=>h,fun _ h=> .inl h,by rw [h0];exact h.ext hk,fun _ h=> .inl h⟩
set_option maxHeartbeats 2000000 in
theorem aHw(h:RowsQ z S w b iv arity LL)(hst:Strict aB LL){ao:Option Addr}{n cap:Nat}{ss:List ByteArray}(hx:RowIn w (ao,n,cap) ss)(ho:fX (ao,n,cap) (eY b iv))(hLL:LL.length+1≤1048576*1048576):
 Calls Tryz.prog 88 #[.pointer (some ⟨b,0,none⟩),.slice ao n cap] w (RetF (eY b iv) w (RowsAddedQ z S w b iv arity LL ss)):=by
 rcases h with h|h0
 ·refine(mV h hst hx ho hLL).mono ?_;rintro e w' ⟨v,rfl,hk,e1,S',iv',h1,h2,h3,h4⟩;exact RetF.mk hk ⟨e1,S',iv',h1,h2,.inl h3,h4⟩
 have eLL:LL= []:=h0.2.2.1;have h:RowsQ z S w b iv arity LL:= .inr h0;clear h0;subst eLL;have hn:n=ss.length:=hx.1.1;have hcs:CellsAt w ao (strs ss):=hx.1.2;have hl:ss.length≤8796093021952:=hx.2.1;have c2:w.cell? ⟨b,2,none⟩=some (.int .i64 arity):=h.ar;have HT:=qH (rF ss ao n cap w hn hcs (by omega));have HLN:=qH (fun w1 (hw:Ext w w1)=>rI (h.ext hw));have hob:fX (ao,n,cap) (FQ z b):=fun a e hne hf=>ho a e hne (.inl hf.2);have HCL:=qH (fun w1 (hw:Kp (FQ z b) w w1)=>jC (strs ss) ao cap w1 n (by simp [strs,hn]) (RowIn.kp hx hw hob).1.2 (gN ss) (by omega));have HP:=qH (fun w0 w1 ao1 cap1 (h0:RowsAt S w0 b iv arity []) (hk:Ext w0 w1) hr=>aGq (w:=w0) (w1:=w1) (ao:=ao1) (n:=n) (cap:=cap1) h0 hst hk hr hn (by omega) hLL);have H:=qH h;have HN:=qH hn;clear h hst hx ho hcs hn hLL hob;by_cases h1:n=arity
 ·have q1:((n:Int) !=(arity:Int))=false:=by simp [h1]
  have H1:=qH h1;clear h1;cases ht:bI ss with
  |false=>
   have HTX:=qH ht;rw [ht]at HT;clear ht;go_enter Tryz.func88,Tryz.ntmps88;go_wp2_with fail
   refine HT.out.mono ?_;rintro e w1 ⟨v,rfl,hk,rfl⟩;have HK:=qH hk;clear hk;go_wp2;go_ret2;have e0:aM arity [] ss=(false,31):=by unfold aM;rw [if_neg (by rw [<-HN.out,H1.out];simp),if_pos HTX.out]
   exact RetF.mk (Ext.kp HK.out) (RowsAddedQ.same H.out HK.out (by rw [e0];rfl) (by unfold aS;rw [e0];rfl))
  |true=>
   have HTX:=qH ht;rw [ht]at HT;clear ht;go_enter Tryz.func88,Tryz.ntmps88;go_wp2_with fail
   refine HT.out.mono ?_;rintro e w0 ⟨v,rfl,hk0,rfl⟩;have HK0:=qH hk0;clear hk0;go_wp2_with fail
   refine(HLN.out w0 HK0.out).mono ?_;rintro e w1 ⟨v,rfl,hk1,rfl,hr1⟩;have HK1:=qH (nIX hk1 hr1);clear hk1 hr1;go_wp2_with fail
   refine(iL HK1.out.2).mono ?_;rintro e w' ⟨rfl,rfl⟩;go_wp2_with fail
   refine(HCL.out w1 ((Ext.kp HK0.out).trans HK1.out.1)).mono ?_;rintro e w2 ⟨v,rfl,hk2,hr2⟩;obtain⟨ao2,cap2,ev,_,_⟩:=hr2.shape;subst ev;go_wp2_with fail
   refine(HP.out w1 w2 ao2 cap2 HK1.out.2 hk2 hr2).mono ?_;rintro e w3 ⟨v,rfl,hk3,rfl,iv',hrows,hiv⟩;have HR:=qH (nIX hk3 (nIX hrows hiv));have HB:=qH (nIX hk2 hr2.block);clear hk3 hrows hiv hr2 hk2;go_wp2;go_ret2;have e0:aM arity [] ss=(!aX aB [] ss,0):=by unfold aM;rw [if_neg (by rw [<-HN.out,H1.out];simp),if_neg (by rw [HTX.out];simp),if_neg (fun h=>by simp at h)]
   have z0:=HK0.out.size;have z1:=HK1.out.1.size;have z2:=HB.out.1.size;refine RetF.mk ((((Ext.kp HK0.out).trans (HK1.out.1.mono fun k _ h=>FQ.owns k h)).trans (Ext.kp HB.out.1)).trans HR.out.1) ⟨by rw [e0];rfl,iW S (ao2,n,cap2),iv',fun k h=> .inl h,fun k h=>?_,.inl (by unfold aS;rw [e0];exact HR.out.2.1),fun k h=>(HR.out.2.2 k h).imp id (fun h=>by omega)⟩;rcases h with h|⟨a,e,_,rfl⟩
   ·exact .inl h
   ·have e':ao2=some a:=e;subst e';have:=HB.out.2 a.block rfl;exact .inr (by unfold New at this;omega)
 ·have q1:((n:Int) !=(arity:Int))=true:=by rw [bne_iff_ne];omega
  have HN1:=qH (show ss.length≠arity by have:=HN.out;omega);clear h1;go_enter Tryz.func88,Tryz.ntmps88;go_wp2;go_ret2;have e0:aM arity [] ss=(false,30):=by unfold aM;rw [if_pos HN1.out]
  exact RetF.mk (Kp.refl _) (RowsAddedQ.same H.out (Kp.refl _) (by rw [e0];rfl) (by unfold aS;rw [e0];rfl))
end
section
variable {z:Prop}{S:Nat->Prop}{w w':World}{b:Nat}{iv:Value}{arity:Nat}{LL:List (List ByteArray)}
def aLg(w0 w:World)(v:Value)(ss:List ByteArray):Prop:=Row w 9 1 v ss.length (strs ss) (New w0)
end
abbrev eI:=gK×List ByteArray
def cB(ps:List eI):List Value:=ps.map fun p=> .slice p.1.1 p.1.2.1 p.1.2.2
theorem kV(ps:List eI):(cB ps).length=ps.length:=by simp [cB]
theorem rK(ps:List eI):∀u∈cB ps,u.oneCell'=true:=by intro u hu;obtain⟨x,_,rfl⟩:=List.mem_map.1 hu;rfl
theorem rL(ps:List eI)(k:Nat)(p:eI)(h:ps[k]?=some p):(cB ps)[k]?=some (.slice p.1.1 p.1.2.1 p.1.2.2):=by simp [cB,h]
theorem jA(ps qs:List eI):cB (ps++qs)=cB ps++cB qs:=by simp [cB]
def RowsIn(S:Nat->Prop)(w:World)(ao:Option Addr)(LL:List (List ByteArray)):Prop:=
 ∃ps:List eI,LL=ps.map Prod.snd/\CellsAt w ao (cB ps)/\(∀a,ao=some a->S a.block)/\
  ∀p∈ps,ReadsAs w p.1 p.2/\p.2.length≤8796093021952/\∀a,p.1.1=some a->S a.block
def OwnRows(lo:Nat)(w:World)(v:Value)(LL:List (List ByteArray)):Prop:=
 ∃ps:List eI,LL=ps.map Prod.snd/\Row w 34 1 v ps.length (cB ps) (fun g=>lo≤g)/\
  (∀p∈ps,Row w 9 1 (.slice p.1.1 p.1.2.1 p.1.2.2) p.2.length (strs p.2) (fun g=>lo≤g)/\p.2.length≤8796093021952)/\
  ps.Pairwise fun p q=>∀g,(Value.slice p.1.1 p.1.2.1 p.1.2.2).ownBlock=some g->(Value.slice q.1.1 q.1.2.1 q.1.2.2).ownBlock≠some g
section
variable {S S':Nat->Prop}{w w':World}{ao:Option Addr}{LL:List (List ByteArray)}{v:Value}{lo:Nat}
theorem RowsIn.nil(S:Nat->Prop)(w:World):RowsIn S w none []:=⟨[],rfl,CellsAt.nil _ _,fun a e=>(by cases e),by simp⟩
theorem RowsIn.kp{F:Nat->Prop}(h:RowsIn S w ao LL)(hk:Kp F w w')(hF:∀k,F k->¬S k):RowsIn S w' ao LL:=by obtain⟨ps,h1,h2,h3,h4⟩:=h;exact⟨ps,h1,h2.kp hk (fun a e hf=>hF _ hf (h3 a e)),h3,fun p hp=>⟨⟨(h4 p hp).1.1,(h4 p hp).1.2.kp hk (fun a e hf=>hF _ hf ((h4 p hp).2.2 a e))⟩,(h4 p hp).2⟩⟩
theorem RowsIn.ext(h:RowsIn S w ao LL)(hk:Ext w w'):RowsIn S w' ao LL:=h.kp hk fun _ x=>x.elim
theorem RowsIn.mono(h:RowsIn S w ao LL)(hs:∀k,S k->S' k):RowsIn S' w ao LL:=by obtain⟨ps,h1,h2,h3,h4⟩:=h;exact⟨ps,h1,h2,fun a e=>hs _ (h3 a e),fun p hp=>⟨(h4 p hp).1,(h4 p hp).2.1,fun a e=>hs _ ((h4 p hp).2.2 a e)⟩⟩
theorem RowsIn.get(h:RowsIn S w ao LL){k:Nat}{ss:List ByteArray}(hk:LL[k]?=some ss):
 ∃g o x cap,ao=some ⟨g,o,none⟩/\w.cell? ⟨g,o+k,none⟩=some (.slice x ss.length cap)/\CellsAt w x (strs ss)/\ss.length≤8796093021952/\∀a,x=some a->S a.block:=by
 obtain⟨ps,rfl,h2,h3,h4⟩:=h;rw [List.getElem?_map]at hk;cases hp:ps[k]? with
 |none=>rw [hp]at hk;cases hk
 |some p=>
  rw [hp]at hk;cases hk;obtain⟨g,o,e,c⟩:=h2 k _ (rL ps k p hp);obtain⟨⟨h5,h6⟩,h7,h8⟩:=h4 p (List.mem_of_getElem? hp);exact⟨g,o,p.1.1,p.1.2.2,e,by rw [c,h5],h6,h7,h8⟩
theorem Row.has{e:TypeId}{k:Nat}{n:Nat}{xs:List Value}{M:Nat->Prop}(h:Row w e k v n xs M){g:Nat}(hg:v.ownBlock=some g):∃cs,Blk w g cs e/\n*k≤cs.length/\M g:=by
 obtain⟨h1,⟨rfl,rfl⟩|⟨g',cap,rest,rfl,b,c,d,e,f⟩⟩:=h
 ·cases hg
 ·cases hg;exact⟨_,c,by simp at d ⊢;omega,b⟩
theorem Row.sort_ne{e e':TypeId}{k k':Nat}{n n':Nat}{xs xs':List Value}{M M':Nat->Prop}{v':Value}(h:Row w e k v n xs M)(h':Row w e' k' v' n' xs' M')(he:e≠e'){g:Nat}(hg:v.ownBlock=some g):v'.ownBlock≠some g:=by intro hg';obtain⟨cs,hb,_⟩:=h.has hg;obtain⟨cs',hb',_⟩:=h'.has hg';unfold Blk at hb hb';rw [hb]at hb';simp only [Option.some.injEq,Obj.cells.injEq]at hb';exact he hb'.2.1
theorem OwnRows.nil(lo:Nat)(w:World):OwnRows lo w (.slice none 0 0) []:=⟨[],rfl,Row.nil _ _ _ _,by simp,List.Pairwise.nil⟩
theorem OwnRows.kp{F:Nat->Prop}(h:OwnRows lo w v LL)(hk:Kp F w w')(hF:∀g,lo≤g->¬F g):OwnRows lo w' v LL:=by obtain⟨ps,h1,h2,h3,h4⟩:=h;exact⟨ps,h1,h2.kp hk hF,fun p hp=>⟨(h3 p hp).1.kp hk hF,(h3 p hp).2⟩,h4⟩
theorem OwnRows.ext(h:OwnRows lo w v LL)(hk:Ext w w'):OwnRows lo w' v LL:=h.kp hk fun _ _=>id
theorem OwnRows.mono{lo':Nat}(h:OwnRows lo w v LL)(hl:lo'≤lo):OwnRows lo' w v LL:=by obtain⟨ps,h1,h2,h3,h4⟩:=h;exact⟨ps,h1,Row.mono h2 fun g hg=>Nat.le_trans hl hg,fun p hp=>⟨Row.mono (h3 p hp).1 fun g hg=>Nat.le_trans hl hg,(h3 p hp).2⟩,h4⟩
theorem Row.readsAs{e:TypeId}{x:gK}{ss:List ByteArray}{M:Nat->Prop}(h:Row w e 1 (.slice x.1 x.2.1 x.2.2) ss.length (strs ss) M):ReadsAs w x ss/\∀a,x.1=some a->M a.block/\a.block<w.heap.size:=by have hb:=h.block;have hl:=h.lt;obtain⟨ao,cap,e,hc,_⟩:=h.shape;obtain⟨x1,x2,x3⟩:=x;simp only [Value.slice.injEq]at e;obtain⟨rfl,e2,rfl⟩:=e;refine⟨⟨e2,hc⟩,fun a ea=>?_⟩;simp only at ea;subst ea;exact⟨hb a.block rfl,hl a.block rfl⟩
theorem OwnRows.shape(h:OwnRows lo w v LL):∃ao cap,v= .slice ao LL.length cap/\RowsIn (fun g=>lo≤g/\g<w.heap.size) w ao LL:=by
 obtain⟨ps,rfl,h2,h3,h4⟩:=h;have hb:=h2.block;have hl:=h2.lt;obtain⟨ao,cap,rfl,hc,_⟩:=h2.shape;refine⟨ao,cap,by simp,ps,rfl,hc,fun a e=>?_,fun p hp=>?_⟩
 ·subst e;exact⟨hb a.block rfl,hl a.block rfl⟩
 ·obtain⟨h5,h6⟩:=h3 p hp;exact⟨h5.readsAs.1,h6,fun a e=>h5.readsAs.2 a e⟩
theorem OwnRows.lt(h:OwnRows lo w v LL):∀g,v.ownBlock=some g->lo≤g/\g<w.heap.size:=by obtain⟨ps,rfl,h2,h3,h4⟩:=h;exact fun g hg=>⟨h2.block g hg,h2.lt g hg⟩
theorem OwnRows.push{ps:List eI}(h2:Row w 34 1 v ps.length (cB ps) (fun g=>lo≤g))
 (h3:∀p∈ps,Row w 9 1 (.slice p.1.1 p.1.2.1 p.1.2.2) p.2.length (strs p.2) (fun g=>lo≤g)/\p.2.length≤8796093021952)
 (h4:ps.Pairwise fun p q=>∀g,(Value.slice p.1.1 p.1.2.1 p.1.2.2).ownBlock=some g->(Value.slice q.1.1 q.1.2.1 q.1.2.2).ownBlock≠some g)
 {B:Nat}(hB:∀p∈ps,∀g,(Value.slice p.1.1 p.1.2.1 p.1.2.2).ownBlock=some g->g<B)(hlo:lo≤B){x:gK}{ss:List ByteArray}(hx:Row w 9 1 (.slice x.1 x.2.1 x.2.2) ss.length (strs ss) (fun g=>B≤g))(hss:ss.length≤8796093021952)
 {v':Value}(hr:Row w' 34 1 v' (ps.length+1) (cB ps++ [.slice x.1 x.2.1 x.2.2]) (fun g=>lo≤g))(hk:Kp (fun g=>v.ownBlock=some g) w w'):OwnRows lo w' v' (ps.map Prod.snd++ [ss]):=by
 have hne:9≠34:=by decide
 refine⟨ps++ [(x,ss)],by simp,?_,fun p hp=>?_,?_⟩
 ·rw [jA];simpa [cB]using hr
 ·rcases List.mem_append.1 hp with hp|hp
  ·exact⟨(h3 p hp).1.kp' hk fun g hg _ hf=>(h3 p hp).1.sort_ne h2 hne hg hf,(h3 p hp).2⟩
  ·obtain rfl:=List.mem_singleton.1 hp;exact⟨Row.mono (hx.kp' hk fun g hg _ hf=>hx.sort_ne h2 hne hg hf) fun g hg=>Nat.le_trans hlo hg,hss⟩
 ·refine List.pairwise_append.2 ⟨h4,List.pairwise_singleton _ _,fun p hp q hq g hg hg'=>?_⟩;obtain rfl:=List.mem_singleton.1 hq;have h1:=hB p hp g hg;have h2:B≤g:=hx.block g hg';omega
end
end
section
abbrev bA:=ByteArray×Nat×List (List ByteArray)
abbrev dW:=ByteArray×Int×List (List ByteArray)×Unit
abbrev aD:=List (List ByteArray)
theorem dU:OrdLaw aB:=dV id
theorem aA5:aHd aB:=fun _ _ h=>kJ h
def bU(C:List bA)(s:ByteArray):Option (Nat×aD):=(C.find? fun p=>decide (p.1=s)).map (·.2)
def iV(C:List bA)(s:ByteArray)(v:Nat×aD):List bA:=if(bU C s).isSome then C.map fun p=>if p.1=s then(p.1,v)else p else C++ [(s,v)]
def aV(C:List bA):Nat:=(C.map fun p=>p.2.2.length).sum
def bM(s:ByteArray):Bool:=decide (1≤s.size/\s.size≤4096)
def cV(C:List bA)(s:ByteArray)(a:Int):Nat:=if bM s=false then 32 else if a<0\/64<a then 2 else match bU C s with|some v=>if(v.1:Int)=a then 0 else 30|none=>0
def cW(C:List bA)(s:ByteArray)(a:Int):List bA:=if cV C s a=0/\bU C s=none then C++ [(s,a.toNat,[])]else C
def bO(C:List bA)(s:ByteArray):aD:=match bU C s with|some v=>v.2|none=> []
def oS(C:List bA)(s:ByteArray)(row:List ByteArray):Bool:=match bU C s with|some v=>decide (v.1=row.length)|none=>decide (row.length≤64)
def dB(C:List bA)(s:ByteArray)(row:List ByteArray):Bool×Nat:=
 if bM s=false then(false,32)else
 if oS C s row=false then(false,30)else
 if bI row=false then(false,31)else
 if 262144≤aV C/\aX aB (bO C s) row=false then(false,4)else
 if 65536≤(bO C s).length/\aX aB (bO C s) row=false then(false,4)else(!aX aB (bO C s) row,0)
def gW(C:List bA)(s:ByteArray)(row:List ByteArray):List bA:=if(dB C s row).2=0 then iV C s (row.length,bN aB (bO C s) row)else C
def eV(C:List bA)(s:ByteArray):aD->List bA×Nat
 | []=>(C,0)
 |r::rs=>if(dB C s r).2=0 then eV (gW C s r) s rs else(C,(dB C s r).2)
def cS(C:List bA):List dW->List bA×Nat
 | []=>(C,0)
 |r::rs=>if cV C r.1 r.2.1=0 then(if(eV (cW C r.1 r.2.1) r.1 r.2.2.1).2=0 then cS (eV (cW C r.1 r.2.1) r.1 r.2.2.1).1 rs else eV (cW C r.1 r.2.1) r.1 r.2.2.1)else(C,cV C r.1 r.2.1)
structure CntOk(p:bA):Prop where
 name:bM p.1=true
 ar:p.2.1≤64
 strict:Strict aB p.2.2
 len:∀r∈p.2.2,r.length=p.2.1
 txt:∀r∈p.2.2,bI r=true
 few:p.2.2.length≤65536
structure BaseOk(C:List bA):Prop where
 nodup:(C.map (·.1)).Nodup
 all:∀p∈C,CntOk p
 few:aV C≤262144
theorem fP{C:List bA}(h:(C.map (·.1)).Nodup){s:ByteArray}{v:Nat×aD}:bU C s=some v↔(s,v)∈C:=by
 unfold bU;induction C with
 |nil=>simp
 |cons p C ih=>
  rw [List.map_cons,List.nodup_cons]at h;by_cases e:p.1=s
  ·rw [List.find?_cons_of_pos (by simp [e])];subst e;simp only [Option.map_some,Option.some.injEq,List.mem_cons];constructor
   ·rintro rfl;exact .inl rfl
   ·rintro(h1|h1)
    ·rw [<-h1]
    ·exact absurd (List.mem_map.2 ⟨_,h1,rfl⟩) h.1
  ·rw [List.find?_cons_of_neg (by simp [e]),ih h.2,List.mem_cons];constructor
   ·exact .inr
   ·rintro(h1|h1)
    ·exact absurd (by rw [<-h1]) e
    ·exact h1
theorem lF{C:List bA}{s:ByteArray}:bU C s=none↔s∉C.map (·.1):=by
 unfold bU;rw [Option.map_eq_none_iff,List.find?_eq_none];constructor
 ·intro h hm;obtain⟨p,hp,rfl⟩:=List.mem_map.1 hm;exact h p hp (by simp)
 ·intro h p hp hd;exact h (List.mem_map.2 ⟨p,hp,by simpa using hd⟩)
theorem qP{C:List bA}{s t:ByteArray}{v:Nat×aD}(h:bU C s=none):bU (C++ [(s,v)]) t=if s=t then some v else bU C t:=by
 unfold bU at*;rw [List.find?_append];by_cases e:s=t
 ·subst e;rw [Option.map_eq_none_iff]at h;rw [h,if_pos rfl];simp
 ·rw [if_neg e];cases hc:C.find? (fun p=>decide (p.1=t))with
  |none=>simp [e]
  |some x=>simp
theorem wM{C:List bA}{s t:ByteArray}{v:Nat×aD}:bU (iV C s v) t=if s=t then some v else bU C t:=by
 unfold iV;cases hg:bU C s with
 |none=>rw [if_neg (by simp)];exact qP hg
 |some u=>
  rw [if_pos (by simp)];unfold bU at*;rw [List.find?_map];have hf:((fun p:bA=>decide (p.1=t)) ∘ fun p:bA=>if p.1=s then(p.1,v)else p)=fun p=>decide (p.1=t):=by funext p;simp only [Function.comp];split<;>rfl
  rw [hf];by_cases e:s=t
  ·subst e;rw [if_pos rfl];cases hc:C.find? (fun p=>decide (p.1=s))with
   |none=>rw [hc]at hg;cases hg
   |some x=>
    have hx:=List.find?_some hc;simp only [decide_eq_true_eq]at hx;simp [hx]
  ·rw [if_neg e];cases hc:C.find? (fun p=>decide (p.1=t))with
   |none=>rfl
   |some x=>
    have hx:=List.find?_some hc;simp only [decide_eq_true_eq]at hx;have hne:¬x.1=s:=fun e2=>e (by rw [<-e2,hx]);simp [hne]
theorem aHo{C:List bA}{s:ByteArray}{v:Nat×aD}:(iV C s v).map (·.1)=if(bU C s).isSome then C.map (·.1)else C.map (·.1)++ [s]:=by
 unfold iV;split
 ·rw [List.map_map];apply List.map_congr_left;intro p _;simp only [Function.comp];split<;>rfl
 ·simp
theorem yU{C:List bA}(h:(C.map (·.1)).Nodup)(s:ByteArray)(v:Nat×aD):((iV C s v).map (·.1)).Nodup:=by
 rw [aHo];split
 ·exact h
 ·rename_i hn;have h0:bU C s=none:=by
   cases hg:bU C s with
   |none=>rfl
   |some u=>rw [hg]at hn;simp at hn
  exact List.nodup_append.2 ⟨h,by simp,fun a ha b hb e=>lF.1 h0 (by rw [List.mem_singleton]at hb;rw [<-hb,<-e];exact ha)⟩
theorem aGw{C:List bA}{s:ByteArray}{v:Nat×aD}{p:bA}(h:p∈iV C s v):p=(s,v)\/p∈C:=by
 unfold iV at h;split at h
 ·obtain⟨q,hq,e⟩:=List.mem_map.1 h;split at e
  ·rename_i e2;left;rw [<-e,e2]
  ·right;rw [<-e];exact hq
 ·rcases List.mem_append.1 h with h|h
  ·exact .inr h
  ·left;simpa using h
theorem fZ{C:List bA}{s:ByteArray}(h:bU C s=none):bO C s= []:=by unfold bO;rw [h]
theorem fA{C:List bA}{s:ByteArray}{v:Nat×aD}(h:bU C s=some v):bO C s=v.2:=by unfold bO;rw [h]
theorem aL8{C:List bA}{s:ByteArray}{row:List ByteArray}(h:(dB C s row).2=0):bM s=true/\oS C s row=true:=by
 unfold dB at h;split at h
 ·cases h
 ·rename_i h1;split at h
  ·cases h
  ·rename_i h2;exact⟨by simpa using h1,by simpa using h2⟩
theorem aGd{C:List bA}{s:ByteArray}{row:List ByteArray}(h:(dB C s row).2=0):bI row=true/\(262144≤aV C->aX aB (bO C s) row=true)/\(65536≤(bO C s).length->aX aB (bO C s) row=true):=by
 unfold dB at h;split at h
 ·cases h
 ·split at h
  ·cases h
  ·split at h
   ·cases h
   ·rename_i h3;split at h
    ·cases h
    ·rename_i h4;split at h
     ·cases h
     ·rename_i h5;refine⟨by simpa using h3,fun h6=>?_,fun h6=>?_⟩
      ·cases hi:aX aB (bO C s) row with
       |true=>rfl
       |false=>exact absurd ⟨h6,hi⟩ h4
      ·cases hi:aX aB (bO C s) row with
       |true=>rfl
       |false=>exact absurd ⟨h6,hi⟩ h5
theorem aBx{C:List bA}(h:BaseOk C)(s:ByteArray):Strict aB (bO C s):=by
 cases hg:bU C s with
 |none=>rw [fZ hg];exact fV
 |some v=>rw [fA hg];exact(h.all _ ((fP h.nodup).1 hg)).strict
theorem kS{C:List bA}(hn:(C.map (·.1)).Nodup){s:ByteArray}{v:Nat×aD}:aV (iV C s v)+(bO C s).length=aV C+v.2.length:=by
 unfold iV;cases hg:bU C s with
 |none=>rw [if_neg (by simp),fZ hg];simp [aV]
 |some u=>
  rw [if_pos (by simp),fA hg];have hm:∀(D:List bA),(D.map (·.1)).Nodup->(s,u)∈D->aV (D.map fun p=>if p.1=s then(p.1,v)else p)+u.2.length=aV D+v.2.length:=by
   intro D;induction D with
   |nil=>intro _ h;cases h
   |cons p D ih=>
    intro hnd hin;rw [List.map_cons,List.nodup_cons]at hnd;simp only [aV,List.map_cons,List.sum_cons]at ih ⊢;by_cases e:p.1=s
    ·have hp:p=(s,u):=by
      rcases List.mem_cons.1 hin with h|h
      ·exact h.symm
      ·exact absurd (List.mem_map.2 ⟨_,h,rfl⟩) (by rw [<-e]at h ⊢;exact hnd.1)
     have hid:(D.map fun q:bA=>if q.1=s then(q.1,v)else q)=D:=by
      conv=>rhs;rw [<-List.map_id D]
      apply List.map_congr_left;intro q hq;have:¬q.1=s:=fun e2=>hnd.1 (List.mem_map.2 ⟨q,hq,by rw [e2,e]⟩);rw [if_neg this];rfl
     rw [hid,if_pos e,hp];dsimp only;omega
    ·have h1:(s,u)∈D:=by
      rcases List.mem_cons.1 hin with h|h
      ·exact absurd (by rw [<-h]) e
      ·exact h
     have:=ih hnd.2 h1;rw [if_neg e];omega
  exact hm C hn ((fP hn).1 hg)
theorem aAv{C:List bA}(h:BaseOk C)(s:ByteArray)(a:Int):BaseOk (cW C s a):=by
 unfold cW;split
 ·rename_i hc;obtain⟨h1,h2⟩:=hc;have hn:bM s=true/\0≤a/\a≤64:=by
   unfold cV at h1;split at h1
   ·cases h1
   ·rename_i e1;split at h1
    ·cases h1
    ·rename_i e2;exact⟨by simpa using e1,by omega,by omega⟩
  refine⟨?_,fun p hp=>?_,?_⟩
  ·rw [List.map_append];exact List.nodup_append.2 ⟨h.nodup,by simp,fun x hx y hy e=>lF.1 h2 (by
    have:y=s:=by simpa using hy
    rw [<-this,<-e];exact hx)⟩
  ·rcases List.mem_append.1 hp with hp|hp
   ·exact h.all p hp
   ·have e:p=(s,a.toNat,[]):=by simpa using hp
    subst e;exact⟨hn.1,show a.toNat≤64 by omega,fV,fun r hr=>(by cases hr),fun r hr=>(by cases hr),Nat.zero_le _⟩
  ·have e:aV (C++ [(s,a.toNat,[])])=aV C:=by simp [aV]
   rw [e];exact h.few
 ·exact h
theorem zE{C:List bA}{s t:ByteArray}{a:Int}(h:cV C s a=0):bU (cW C s a) t=if s=t/\bU C s=none then some (a.toNat,[])else bU C t:=by
 unfold cW;cases hg:bU C s with
 |none=>
  rw [if_pos ⟨h,rfl⟩,qP hg];by_cases e:s=t
  ·rw [if_pos e,if_pos ⟨e,rfl⟩]
  ·rw [if_neg e,if_neg (fun k=>e k.1)]
 |some v=>rw [if_neg (fun k=>by cases k.2),if_neg (fun k=>by cases k.2)]
theorem aL4{C:List bA}{s:ByteArray}{a:Int}(h:cV C s a=0):∃LL,bU (cW C s a) s=some (a.toNat,LL)/\0≤a/\a≤64/\bM s=true:=by
 have h0:=h;unfold cV at h;split at h
 ·cases h
 ·rename_i e1;split at h
  ·cases h
  ·rename_i e2;cases hg:bU C s with
   |none=>exact⟨[],by rw [zE h0,if_pos ⟨rfl,hg⟩],by omega,by omega,by simpa using e1⟩
   |some v=>
    rw [hg]at h;have h1:(v.1:Int)=a:=by
     by_cases e:(v.1:Int)=a
     ·exact e
     ·simp [e]at h
    refine⟨v.2,?_,by omega,by omega,by simpa using e1⟩;rw [zE h0,if_neg (fun k=>by rw [hg]at k;cases k.2),hg];have:v.1=a.toNat:=by omega
    rw [<-this]
theorem rO{C:List bA}(h:BaseOk C)(s:ByteArray)(row:List ByteArray):BaseOk (gW C s row):=by
 unfold gW;split
 ·rename_i h0;obtain⟨t1,t2,t3⟩:=aGd h0;obtain⟨n1,n4⟩:=aL8 h0;have n2:∀v,bU C s=some v->v.1=row.length:=fun v hv=>by
   unfold oS at n4;rw [hv]at n4;exact of_decide_eq_true n4
  have n3:row.length≤64:=by
   cases hg:bU C s with
   |none=>unfold oS at n4;rw [hg]at n4;exact of_decide_eq_true n4
   |some v=>
    have h1:v.1≤64:=(h.all _ ((fP h.nodup).1 hg)).ar;have:=n2 v hg;omega
  ·have hst:=aBx h s;have hlen:∀r∈bO C s,r.length=row.length/\bI r=true:=fun r hr=>by
    cases hg:bU C s with
    |none=>rw [fZ hg]at hr;cases hr
    |some v=>
     rw [fA hg]at hr;have hp:=h.all _ ((fP h.nodup).1 hg);exact⟨(hp.len r hr).trans (n2 v hg),hp.txt r hr⟩
   have hfew:(bO C s).length≤65536:=by
    cases hg:bU C s with
    |none=>rw [fZ hg];exact Nat.zero_le _
    |some v=>rw [fA hg];exact(h.all _ ((fP h.nodup).1 hg)).few
   have hl:=qX (c:=aB) (bO C s) row;refine⟨yU h.nodup _ _,fun p hp=>?_,?_⟩
   ·rcases aGw hp with rfl|hp
    ·refine⟨n1,n3,hst.add dU row,fun r hr=>?_,fun r hr=>?_,?_⟩
     ·rcases(nI (c:=aB)).1 hr with hr|⟨rfl,_⟩
      ·exact(hlen r hr).1
      ·rfl
     ·rcases(nI (c:=aB)).1 hr with hr|⟨rfl,_⟩
      ·exact(hlen r hr).2
      ·exact t1
     ·show(bN aB (bO C s) row).length≤65536;rw [hl];split
      ·omega
      ·rename_i hi;have:¬65536≤(bO C s).length:=fun k=>hi (t3 k);omega
    ·exact h.all p hp
   ·have:=kS h.nodup (s:=s) (v:=(row.length,bN aB (bO C s) row));have hf:=h.few;rw [hl]at this;split at this
    ·omega
    ·rename_i hi;have:¬262144≤aV C:=fun k=>hi (t2 k);omega
 ·exact h
structure InC(C D:List bA):Prop where
 ar:∀s v,bU C s=some v->∃LL,bU D s=some (v.1,LL)
 rows:∀s r,r∈bO C s->r∈bO D s
theorem vL:BaseOk []:=⟨List.nodup_nil,fun p hp=>by simp at hp,Nat.zero_le _⟩
def SameC(C D:List bA):Prop:=∀s,bU C s=bU D s
def leN(a b:ByteArray):Bool:=!decide (aZ b.toList a.toList<0)
def mB(a b:ByteArray):Int:=aZ a.toList b.toList
def nH(C:List bA):List ByteArray:=(C.map (·.1)).mergeSort leN
def arC(C:List bA)(s:ByteArray):Nat:=match bU C s with|some v=>v.1|none=>0
def aMh(C:List bA)(s:ByteArray):dW:=(s,(arC C s:Int),bO C s,())
def yP(C:List bA):List dW:=(nH C).map (aMh C)
theorem qU:OrdLaw mB:=⟨fun x y=>by
 have:=cX x.toList y.toList;unfold mB;omega,fun x y z=>by
 intro h1 h2;have:=mA (xs:= [x]) (ys:= [y]) (zs:= [z]);have e:∀a b:ByteArray,aB [a] [b]=mB a b:=fun a b=>by
  unfold mB;simp only [aB];split
  ·rfl
  ·rename_i h;rw [Classical.not_not.1 h]
 rw [e,e,e]at this;exact this h1 h2⟩
theorem jR(C:List bA):(nH C).Perm (C.map (·.1)):=List.mergeSort_perm _ _
theorem yW{C:List bA}{s:ByteArray}:s∈nH C↔∃v,bU C s=some v:=by
 rw [(jR C).mem_iff];cases hg:bU C s with
 |none=>exact⟨fun h=>absurd h (lF.1 hg),fun⟨v,h⟩=>by cases h⟩
 |some v=>exact⟨fun _=>⟨v,rfl⟩,fun _=>by
  by_cases h:s∈C.map (·.1)
  ·exact h
  ·rw [lF.2 h]at hg;cases hg⟩
theorem aIl(a b c:ByteArray)(h1:leN a b=true)(h2:leN b c=true):leN a c=true:=by unfold leN at*;simp only [Bool.not_eq_true',decide_eq_false_iff_not]at*;have s1:=cX a.toList b.toList;have s2:=cX b.toList c.toList;have s3:=cX a.toList c.toList;have:=qU.trans a b c (by show aZ _ _≤0;omega) (by show aZ _ _≤0;omega);have this':aZ a.toList c.toList≤0:=this;omega
theorem aIm(a b:ByteArray):(leN a b||leN b a)=true:=by
 unfold leN;have s1:=cX a.toList b.toList;rw [Bool.or_eq_true];by_cases h:aZ b.toList a.toList<0
 ·right
  simp only [Bool.not_eq_true',decide_eq_false_iff_not];omega
 ·left;simpa using h
theorem qB{C:List bA}(h:(C.map (·.1)).Nodup):Strict mB (nH C):=by have h1:=List.pairwise_mergeSort (le:=leN) aIl aIm (C.map (·.1));have h2:(nH C).Nodup:=(jR C).nodup_iff.2 h;refine(List.Pairwise.and h1 h2).imp fun{a b} hab=>?_;obtain⟨h3,h4⟩:=hab;unfold leN at h3;simp only [Bool.not_eq_true',decide_eq_false_iff_not]at h3;show aZ a.toList b.toList<0;have s1:=cX a.toList b.toList;have hne:¬aZ a.toList b.toList=0:=fun e=>h4 (cY (eD e));omega
theorem vR{C D:List bA}(hC:(C.map (·.1)).Nodup)(hD:(D.map (·.1)).Nodup)(h:SameC C D):nH C=nH D:=(qB hC).unique qU (qB hD) fun x=>by rw [yW,yW,h x]
theorem aHx{C D:List bA}(hC:(C.map (·.1)).Nodup)(hD:(D.map (·.1)).Nodup)(h:SameC C D):yP C=yP D:=by unfold yP;rw [vR hC hD h];apply List.map_congr_left;intro s _;unfold aMh arC bO;rw [h s]
theorem aCj{l m:List Nat}(h:l.Perm m):l.sum=m.sum:=by
 induction h with
 |nil=>rfl
 |cons x _ ih=>rw [List.sum_cons,List.sum_cons,ih]
 |swap x y l=>simp only [List.sum_cons];omega
 |trans _ _ ih1 ih2=>exact ih1.trans ih2
theorem vC{C:List bA}(hC:BaseOk C):((yP C).map fun r=>r.2.2.1.length).sum=aV C:=by
 have h1:((yP C).map fun r=>r.2.2.1.length)=(nH C).map fun s=>(bO C s).length:=by unfold yP;rw [List.map_map];rfl
 have h2:((C.map (·.1)).map fun s=>(bO C s).length)=C.map fun p=>p.2.2.length:=by rw [List.map_map];apply List.map_congr_left;intro p hp;show(bO C p.1).length=_;rw [fA ((fP hC.nodup).2 (show(p.1,p.2)∈C from hp))]
 rw [h1,aCj ((jR C).map fun s=>(bO C s).length),h2];rfl
def dG(W:aD)(i n:Nat):Bool:=n==0||decide ((W.getD (n-1) []).take i≠(W.getD n []).take i)
def aW(W:aD)(d i n:Nat):List Nat:=if i<d then(List.range n).filter fun k=>dG W (i+1) k else List.range n
theorem mM(W:aD){d i n:Nat}(hi:i<d):aW W d i (n+1)=aW W d i n++if dG W (i+1) n then [n]else []:=by
 unfold aW;rw [if_pos hi,if_pos hi,List.range_succ,List.filter_append]
 congr 1
 simp only [List.filter_cons,List.filter_nil]
theorem mN(W:aD){d i n:Nat}(hi:¬i<d):aW W d i n=List.range n:=if_neg hi
theorem dM(W:aD)(d i n:Nat):(aW W d i n).length≤n:=by
 unfold aW;split
 ·exact Nat.le_trans (List.length_filter_le _ _) (by rw [List.length_range];exact Nat.le_refl _)
 ·rw [List.length_range];exact Nat.le_refl _
def bV(W:aD)(d i n:Nat):List ByteArray:=(aW W d i n).map fun k=>(W.getD k []).getD i ByteArray.empty
def aO(W:aD)(d i n:Nat):Nat:=(aW W d i n).length
def cF(W:aD)(d i n:Nat):List Int:=(aW W d i n).map fun k=>(aO W d (i+1) k:Int)
theorem fN(W:aD)(d i n:Nat):(bV W d i n).length=aO W d i n:=by unfold bV aO;rw [List.length_map]
theorem iO(W:aD)(d i n:Nat):(cF W d i n).length=aO W d i n:=by unfold cF aO;rw [List.length_map]
theorem aCl(W:aD)(i:Nat):dG W i 0=true:=rfl
theorem fC{W:aD}{i n:Nat}:dG W i n=true↔n=0\/ (W.getD (n-1) []).take i≠(W.getD n []).take i:=by unfold dG;rw [Bool.or_eq_true,decide_eq_true_iff,beq_iff_eq]
theorem bH{α:Type}{l:List α}{i:Nat}{x d:α}(h:l[i]?=some x):l.getD i d=x:=by rw [List.getD_eq_getElem?_getD,h];rfl
theorem aE1{W:aD}{i n:Nat}{x y:List ByteArray}(hn:0<n)(hx:W[n-1]?=some x)(hy:W[n]?=some y)(h1:i<x.length)(h2:i<y.length):dG W (i+1) n=(dG W i n||decide (x[i]≠y[i])):=by
 rw [Bool.eq_iff_iff,Bool.or_eq_true,decide_eq_true_iff,fC,fC,bH hx,bH hy];have ex:x.take (i+1)=x.take i++ [x[i]]:=by rw [List.take_add_one,qG h1];rfl
 have ey:y.take (i+1)=y.take i++ [y[i]]:=by rw [List.take_add_one,qG h2];rfl
 rw [ex,ey];have hl:(x.take i).length=(y.take i).length:=by rw [List.length_take,List.length_take];omega
 refine⟨fun h=>?_,fun h=> .inr fun e=>?_⟩
 ·by_cases h3:x.take i=y.take i
  ·refine .inr fun h4=>?_;rcases h with h|h
   ·omega
   ·exact h (by rw [h3,h4])
  ·exact .inl (.inr h3)
 ·obtain⟨e1,e2⟩:=List.append_inj e hl;rcases h with(h|h)|h
  ·omega
  ·exact h e1
  ·exact h (by simpa using e2)
structure WaysOk(W:aD)(d:Nat):Prop where
 len:∀r∈W,r.length=d
 rise:Strict aB W
theorem kK:∀(j:Nat) {x y:List ByteArray},x.length=y.length->aB x y≤0->aB (x.take j) (y.take j)≤0
 |0,_,_,_,_=>by simp [aB]
 |j+1,[],[],_,_=>by simp [aB]
 |j+1,[],_::_,h,_=>by simp at h
 |j+1,_::_,[],h,_=>by simp at h
 |j+1,a::x,b::y,hl,h=>by
  simp only [List.take_succ_cons];unfold aB at h ⊢;split at h
  ·rename_i h1;rw [if_pos h1];exact h
  ·rename_i h1;rw [if_neg h1];exact kK j (by simpa using hl) h
theorem tE:∀(q:List ByteArray) (a b:ByteArray),aB (q++ [a]) (q++ [b])=aZ a.toList b.toList
 | [],a,b=>by
  show(if aZ a.toList b.toList≠0 then aZ a.toList b.toList else aB [] [])=_;split
  ·rfl
  ·rename_i h;have:aZ a.toList b.toList=0:=Classical.not_not.1 h;rw [this];rfl
 |c::q,a,b=>by show(if aZ c.toList c.toList≠0 then aZ c.toList c.toList else aB (q++ [a]) (q++ [b]))=_;rw [if_neg (by rw [fG];simp)];exact tE q a b
theorem WaysOk.le{W:aD}{d:Nat}(h:WaysOk W d){m n:Nat}{x y:List ByteArray}(hx:W[m]?=some x)(hy:W[n]?=some y)(hmn:m≤n):aB x y≤0:=by
 rcases Nat.lt_or_eq_of_le hmn with h1|h1
 ·obtain⟨l1,e1⟩:=List.getElem?_eq_some_iff.1 hx;obtain⟨l2,e2⟩:=List.getElem?_eq_some_iff.1 hy;have:=List.pairwise_iff_getElem.1 h.rise m n l1 l2 h1;rw [e1,e2]at this;omega
 ·subst h1;rw [hx]at hy;cases hy;rw [tF];omega
theorem WaysOk.between{W:aD}{d:Nat}(h:WaysOk W d){m k n j:Nat}{x y z:List ByteArray}(hx:W[m]?=some x)(hy:W[k]?=some y)(hz:W[n]?=some z)(h1:m≤k)(h2:k≤n)(he:x.take j=z.take j):y.take j=x.take j:=by have lx:=h.len x (List.mem_of_getElem? hx);have ly:=h.len y (List.mem_of_getElem? hy);have lz:=h.len z (List.mem_of_getElem? hz);have a1:=kK j (lx.trans ly.symm) (h.le hx hy h1);have a2:=kK j (ly.trans lz.symm) (h.le hy hz h2);rw [<-he]at a2;have a3:=nS (x.take j) (y.take j);exact(kJ (xs:=x.take j) (ys:=y.take j) (by omega)).symm
structure Iv(W:aD)(q:List ByteArray)(lo hi:Nat):Prop where
 le:lo<hi
 few:hi≤W.length
 iff:∀n x,W[n]?=some x->(x.take q.length=q↔lo≤n/\n<hi)
theorem lR{W:aD}{d i n k:Nat}(hi:i<d):k∈aW W d i n↔k<n/\dG W (i+1) k=true:=by unfold aW;rw [if_pos hi,List.mem_filter,List.mem_range]
theorem fY(W:aD)(d i n:Nat):(aW W d i n).Pairwise (· < ·):=by
 unfold aW;split
 ·exact List.Pairwise.filter _ List.pairwise_lt_range
 ·exact List.pairwise_lt_range
theorem mL(W:aD)(d i:Nat){m n:Nat}(h:m≤n):∃r,aW W d i n=aW W d i m++r/\∀k∈r,m≤k:=by
 induction n with
 |zero=>exact⟨[],by rw [show m=0 by omega];simp,by simp⟩
 |succ n ih=>
  by_cases e:m=n+1
  ·subst e;exact⟨[],by simp,by simp⟩
  ·obtain⟨r,h1,h2⟩:=ih (by omega);by_cases hi:i<d
   ·rw [mM W hi,h1];refine⟨r++(if dG W (i+1) n then [n]else []),by rw [List.append_assoc],fun k hk=>?_⟩;rcases List.mem_append.1 hk with hk|hk
    ·exact h2 k hk
    ·split at hk
     ·rw [List.mem_singleton]at hk;omega
     ·simp at hk
   ·rw [mN W hi]at h1 ⊢;rw [mN W hi]at*;rw [List.range_succ,h1];refine⟨r++ [n],by rw [List.append_assoc],fun k hk=>?_⟩;rcases List.mem_append.1 hk with hk|hk
    ·exact h2 k hk
    ·rw [List.mem_singleton]at hk;omega
theorem lQ{W:aD}{d i n k s:Nat}(h:(aW W d i n)[k]?=some s):aO W d i s=k/\s<n:=by
 have hk:=(List.getElem?_eq_some_iff.1 h).1;have hs:s<n:=by
  have hm:=List.mem_of_getElem? h;unfold aW at hm;split at hm
  ·exact List.mem_range.1 (List.mem_filter.1 hm).1
  ·exact List.mem_range.1 hm
 obtain⟨r,h1,h2⟩:=mL W d i (Nat.le_of_lt hs);refine⟨?_,hs⟩;unfold aO;have hp:=fY W d i n;rcases Nat.lt_trichotomy (aW W d i s).length k with h3|h3|h3
 ·-- the element at the border is s or above, yet below s
  have hl:(aW W d i s).length< (aW W d i n).length:=by omega
  have h4:=List.pairwise_iff_getElem.1 hp _ k hl hk h3;rw [(List.getElem?_eq_some_iff.1 h).2]at h4;have h5:(aW W d i n)[(aW W d i s).length]'hl∈r:=by
   have:(aW W d i n)[(aW W d i s).length]?=r[0]?:=by rw [h1,List.getElem?_append_right (Nat.le_refl _),Nat.sub_self]
   rw [qG hl]at this;exact List.mem_of_getElem? this.symm
  have:=h2 _ h5;omega
 ·exact h3
 ·rw [h1,List.getElem?_append_left h3]at h;have hm:=List.mem_of_getElem? h;have:s<s:=by
   unfold aW at hm;split at hm
   ·exact List.mem_range.1 (List.mem_filter.1 hm).1
   ·exact List.mem_range.1 hm
  omega
section
variable {Sol:List ByteArray->Prop}{v:Nat}{p:List ByteArray}
structure AllB(Sol:List ByteArray->Prop)(p:List ByteArray)(L:aD):Prop where
 rise:Strict aB L
 iff:∀V,V∈L↔Sol V/\V.take p.length=p
structure PartB(Sol:List ByteArray->Prop)(p:List ByteArray)(D:ByteArray->Prop)(L:aD):Prop where
 rise:Strict aB L
 iff:∀V,V∈L↔Sol V/\V.take p.length=p/\∃x,V[p.length]?=some x/\D x
theorem AllB.none(h:∀V,Sol V->V.take p.length=p->False):AllB Sol p []:=
 ⟨fV,fun V=>⟨fun h=>by simp at h,fun h1=>(h V h1.1 h1.2).elim⟩⟩
theorem AllB.one(hs:Sol p)(hl:∀V,Sol V->V.length=p.length):AllB Sol p [p]:=
 ⟨List.pairwise_singleton _ _,fun V=>⟨fun h=>by
  rw [List.mem_singleton]at h;subst h;exact⟨hs,List.take_length⟩,fun⟨h1,h2⟩=>by
  rw [List.mem_singleton,<-h2,List.take_of_length_le (Nat.le_of_eq (hl V h1))]⟩⟩
theorem AllB.unique{L L':aD}(h:AllB Sol p L)(h':AllB Sol p L'):L=L':=Strict.unique dU h.rise h'.rise fun V=>(h.iff V).trans (h'.iff V).symm
theorem PartB.none{D:ByteArray->Prop}(h:∀V,Sol V->V.take p.length=p->∀x,V[p.length]?=some x->¬D x):PartB Sol p D []:=
 ⟨fV,fun V=>⟨fun h=>by simp at h,fun⟨h1,h2,x,h3,h4⟩=>(h V h1 h2 x h3 h4).elim⟩⟩
theorem PartB.all{D:ByteArray->Prop}{L:aD}(h:PartB Sol p D L)(hd:∀V,Sol V->V.take p.length=p->∃x,V[p.length]?=some x/\D x):AllB Sol p L:=
 ⟨h.rise,fun V=>(h.iff V).trans ⟨fun⟨h1,h2,_⟩=>⟨h1,h2⟩,fun⟨h1,h2⟩=>⟨h1,h2,hd V h1 h2⟩⟩⟩
theorem nU:∀(q:List ByteArray) (a b:ByteArray) (r s:List ByteArray),aZ a.toList b.toList<0->aB (q++a::r) (q++b::s)<0
 | [],a,b,r,s,h=>by show(if aZ a.toList b.toList≠0 then aZ a.toList b.toList else aB r s)<0;rw [if_pos (by omega)];exact h
 |c::q,a,b,r,s,h=>by show(if aZ c.toList c.toList≠0 then aZ c.toList c.toList else aB (q++a::r) (q++b::s))<0;rw [if_neg (by rw [fG];simp)];exact nU q a b r s h
theorem pR{V q:List ByteArray}{x:ByteArray}(h:V.take q.length=q)(hx:V[q.length]?=some x):∃r,V=q++x::r:=by refine⟨V.drop (q.length+1),?_⟩;have hl:=(List.getElem?_eq_some_iff.1 hx);conv=>lhs;rw [<-List.take_append_drop q.length V,h,List.drop_eq_getElem_cons hl.1,hl.2]
theorem PartB.next{D:ByteArray->Prop}{L L':aD}{x:ByteArray}(h:PartB Sol p D L)(h':AllB Sol (p++ [x]) L')(hx:∀V,Sol V->V.take p.length=p->∀y,V[p.length]?=some y->D y->aZ y.toList x.toList<0):PartB Sol p (fun y=>D y\/y=x) (L++L'):=by
 have key:∀V,V∈L'↔Sol V/\V.take p.length=p/\V[p.length]?=some x:=fun V=>by
  rw [h'.iff V,List.length_append,List.length_singleton];refine⟨fun⟨h1,h2⟩=>?_,fun⟨h1,h2,h3⟩=>⟨h1,by rw [List.take_add_one,h2,h3];rfl⟩⟩;have h3:V.take p.length=p:=by have:=congrArg (List.take p.length) h2;rw [List.take_take,List.take_left,show min p.length (p.length+1)=p.length by omega]at this;exact this
  refine⟨h1,h3,?_⟩;rw [List.take_add_one,h3]at h2;have h4:=(List.append_right_inj p).1 h2;cases h5:V[p.length]? with
  |none=>rw [h5]at h4;simp at h4
  |some y=>rw [h5]at h4;simpa using h4
 refine⟨List.pairwise_append.2 ⟨h.rise,h'.rise,fun a ha b hb=>?_⟩,fun V=>?_⟩
 ·obtain⟨a1,a2,y,a3,a4⟩:=(h.iff a).1 ha;obtain⟨b1,b2,b3⟩:=(key b).1 hb;obtain⟨r,rfl⟩:=pR a2 a3;obtain⟨s,rfl⟩:=pR b2 b3;exact nU p y x r s (hx _ a1 a2 y a3 a4)
 ·rw [List.mem_append,h.iff V,key V];refine⟨fun h1=>?_,fun⟨h1,h2,y,h3,h4⟩=>?_⟩
  ·rcases h1 with⟨h1,h2,y,h3,h4⟩|⟨h1,h2,h3⟩
   ·exact⟨h1,h2,y,h3,.inl h4⟩
   ·exact⟨h1,h2,x,h3,.inr rfl⟩
  ·rcases h4 with h4|h4
   ·exact .inl ⟨h1,h2,y,h3,h4⟩
   ·subst h4;exact .inr ⟨h1,h2,h3⟩
structure PartQ(Sol:List ByteArray->Prop)(p:List ByteArray)(m:Nat)(D:List ByteArray->Prop)(L:aD):Prop where
 rise:Strict aB L
 iff:∀V,V∈L↔Sol V/\V.take p.length=p/\D (V.take m)
theorem tG:∀(m:Nat) {x y:List ByteArray},m≤x.length->m≤y.length->aB (x.take m) (y.take m)<0->aB x y<0
 |0,x,y,_,_,h=>by simp [aB]at h
 |m+1,[],_,h,_,_=>by simp at h
 |m+1,_::_,[],_,h,_=>by simp at h
 |m+1,a::x,b::y,hx,hy,h=>by
  simp only [List.take_succ_cons]at h;unfold aB at h ⊢;split at h
  ·rename_i h1;rw [if_pos h1];exact h
  ·rename_i h1;rw [if_neg h1];exact tG m (by simpa using hx) (by simpa using hy) h
theorem PartQ.none{m:Nat}:PartQ Sol p m (fun _=>False) []:=⟨fV,fun V=>⟨fun h=>by simp at h,fun h=>h.2.2.elim⟩⟩
theorem PartQ.next{m:Nat}{D:List ByteArray->Prop}{L L':aD}{q:List ByteArray}(h:PartQ Sol p m D L)(hq:q.length=m)(hp:q.take p.length=p)(hm:p.length≤m)(hl:∀V,Sol V->m≤V.length)(h':AllB Sol q L')(hx:∀y,D y->aB y q<0):PartQ Sol p m (fun y=>D y\/y=q) (L++L'):=by
 refine⟨List.pairwise_append.2 ⟨h.rise,h'.rise,fun a ha b hb=>?_⟩,fun V=>?_⟩
 ·obtain⟨a1,a2,a3⟩:=(h.iff a).1 ha;obtain⟨b1,b2⟩:=(h'.iff b).1 hb;rw [hq]at b2;exact tG m (hl a a1) (hl b b1) (by rw [b2];exact hx _ a3)
 ·rw [List.mem_append,h.iff V,h'.iff V,hq];refine⟨fun h1=>?_,fun⟨h1,h2,h3⟩=>?_⟩
  ·rcases h1 with⟨h1,h2,h3⟩|⟨h1,h2⟩
   ·exact⟨h1,h2,.inl h3⟩
   ·refine⟨h1,?_,.inr h2⟩;have:=congrArg (List.take p.length) h2;rw [List.take_take,hp,show min p.length m=p.length by omega]at this;exact this
  ·rcases h3 with h3|h3
   ·exact .inl ⟨h1,h2,h3⟩
   ·exact .inr ⟨h1,h3⟩
theorem PartQ.all{m:Nat}{D:List ByteArray->Prop}{L:aD}(h:PartQ Sol p m D L)(hd:∀V,Sol V->V.take p.length=p->D (V.take m)):AllB Sol p L:=
 ⟨h.rise,fun V=>(h.iff V).trans ⟨fun⟨h1,h2,_⟩=>⟨h1,h2⟩,fun⟨h1,h2⟩=>⟨h1,h2,hd V h1 h2⟩⟩⟩
theorem PartQ.congr{m:Nat}{D D':List ByteArray->Prop}{L:aD}(h:PartQ Sol p m D L)(hd:∀y,D y↔D' y):PartQ Sol p m D' L:=⟨h.rise,fun V=>(h.iff V).trans (by rw [hd])⟩
end
def isV(s:ByteArray)(t:aE):Bool:=decide (t.1=1/\t.2.1=s)
def fK(ts:List aE)(s:ByteArray):Nat:=ts.findIdx (isV s)
def aU(N:List ByteArray)(ts:List aE):List Nat:=(List.range N.length).filter fun i=>ts.any (isV (N.getD i ByteArray.empty))
def bF(x:List ByteArray)(i:Nat):ByteArray:=x.getD i ByteArray.empty
def oV(ts:List aE)(x:List ByteArray):Prop:=∀(i:Nat) (t:aE),ts[i]?=some t->(t.1=3->bF x i=t.2.1)/\(t.1=1->bF x (fK ts t.2.1)=bF x i)
def iM(N:List ByteArray)(ts:List aE)(x:List ByteArray):List ByteArray:=(aU N ts).map fun v=>bF x (fK ts (bF N v))
def aDh(N V:List ByteArray)(ts:List aE)(x:List ByteArray):Prop:=∀(i:Nat) (t:aE),ts[i]?=some t->(t.1=3->bF x i=t.2.1)/\(t.1=1->∃v:Nat,N[v]?=some t.2.1/\V[v]?=some (bF x i))
theorem aDi{ts:List aE}{s:ByteArray}{i:Nat}{t:aE}(hi:ts[i]?=some t)(ht:t.1=1)(hs:t.2.1=s):∃u,ts[fK ts s]?=some u/\u.1=1/\u.2.1=s:=by have h:fK ts s<ts.length:=List.findIdx_lt_length_of_exists ⟨t,List.mem_of_getElem? hi,by unfold isV;exact decide_eq_true ⟨ht,hs⟩⟩;have h2:=List.findIdx_getElem (w:=h);refine⟨_,qG h,?_⟩;unfold isV at h2;exact of_decide_eq_true h2
theorem dQ{N:List ByteArray}{ts:List aE}{v:Nat}:v∈aU N ts↔v<N.length/\∃(i:Nat) (t:aE),ts[i]?=some t/\t.1=1/\t.2.1=bF N v:=by unfold aU;rw [List.mem_filter,List.mem_range,List.any_eq_true];refine and_congr_right fun _=>⟨fun⟨t,ht,h⟩=>?_,fun⟨i,t,hi,h1,h2⟩=>⟨t,List.mem_of_getElem? hi,by unfold isV;exact decide_eq_true ⟨h1,h2⟩⟩⟩;obtain⟨i,hi⟩:=List.mem_iff_getElem?.1 ht;unfold isV at h;have h':=of_decide_eq_true h;exact⟨i,t,hi,h'.1,h'.2⟩
theorem yF(N:List ByteArray)(ts:List aE):(aU N ts).Pairwise (· < ·):=List.Pairwise.filter _ List.pairwise_lt_range
theorem aCf{N V:List ByteArray}{ts:List aE}(hN:N.Nodup)(hV:V.length=N.length)(hin:∀t∈ts,t.1=1->t.2.1∈N)(x:List ByteArray):
 oV ts x/\iM N ts x=(aU N ts).map (bF V)↔aDh N V ts x:=by
 have get:∀{v:Nat} {s:ByteArray},N[v]?=some s->bF N v=s:=fun h=>bH h;have getv:∀{v:Nat} {s:ByteArray},N[v]?=some s->V[v]?=some (bF V v):=fun{v s} h=>by
  have hv:v<V.length:=by rw [hV];exact(List.getElem?_eq_some_iff.1 h).1
  unfold bF;rw [List.getD_eq_getElem?_getD,qG hv];rfl
 have proj:iM N ts x=(aU N ts).map (bF V)↔∀v∈aU N ts,bF x (fK ts (bF N v))=bF V v:=by unfold iM;exact List.map_inj_left
 rw [proj];refine⟨fun⟨h1,h2⟩ i t hi=>⟨(h1 i t hi).1,fun ht=>?_⟩,fun h=>⟨fun i t hi=>⟨(h i t hi).1,fun ht=>?_⟩,fun v hv=>?_⟩⟩
 ·obtain⟨v,hv⟩:=List.mem_iff_getElem?.1 (hin t (List.mem_of_getElem? hi) ht);refine⟨v,hv,?_⟩;have hm:v∈aU N ts:=dQ.2 ⟨(List.getElem?_eq_some_iff.1 hv).1,i,t,hi,ht,(get hv).symm⟩;have h3:=h2 v hm;rw [get hv,(h1 i t hi).2 ht]at h3;rw [h3];exact getv hv
 ·obtain⟨v,hv,e⟩:=(h i t hi).2 ht;obtain⟨u,hu,u1,u2⟩:=aDi hi ht rfl;obtain⟨v',hv',e'⟩:=(h _ u hu).2 u1;rw [u2]at hv';have:v=v':=(List.getElem?_inj (List.getElem?_eq_some_iff.1 hv).1 hN).1 (hv.trans hv'.symm);subst this;rw [e]at e';exact(Option.some.inj e').symm
 ·obtain⟨hl,i,t,hi,h1,h2⟩:=dQ.1 hv;obtain⟨u,hu,u1,u2⟩:=aDi hi h1 h2;obtain⟨v',hv',e'⟩:=(h _ u hu).2 u1;have hv0:N[v]?=some (bF N v):=by unfold bF;rw [List.getD_eq_getElem?_getD,qG hl];rfl
  rw [u2]at hv';have:v=v':=(List.getElem?_inj hl hN).1 (hv0.trans hv'.symm);subst this;rw [getv hv0]at e';exact(Option.some.inj e').symm
open Classical in
noncomputable def dL(N:List ByteArray)(ts:List aE)(R:aD):aD:=tV aB ((R.filter fun x=>decide (x.length=ts.length/\oV ts x)).map (iM N ts))
theorem zH{x:List ByteArray}:∀(xs acc:aD),x∈xs\/x∈acc->x∈xs.foldl (bN aB) acc
 | [],acc,h=>by
  rcases h with h|h
  ·simp at h
  ·exact h
 |y::xs,acc,h=>by
  refine zH xs (bN aB acc y) ?_;by_cases hx:x∈xs
  ·exact .inl hx
  ·refine .inr (nI.2 ?_);rcases h with h|h
   ·rcases List.mem_cons.1 h with h|h
    ·subst h;by_cases hi:aX aB acc x=true
     ·obtain⟨z,hz,e⟩:=fO.1 hi;rw [<-kJ e];exact .inl hz
     ·exact .inr ⟨rfl,by simpa using hi⟩
    ·exact absurd h hx
   ·exact .inl h
theorem aCr{xs:aD}{x:List ByteArray}:x∈tV aB xs↔x∈xs:=⟨aCq,fun h=>zH xs [] (.inl h)⟩
open Classical in
theorem aGo{N V:List ByteArray}{ts:List aE}(R:aD)(hN:N.Nodup)(hV:V.length=N.length)(hin:∀t∈ts,t.1=1->t.2.1∈N):
 (aU N ts).map (bF V)∈dL N ts R↔∃x∈R,x.length=ts.length/\aDh N V ts x:=by
 unfold dL;rw [aCr,List.mem_map];refine⟨fun⟨x,hx,e⟩=>?_,fun⟨x,hx,hl,hf⟩=>?_⟩
 ·obtain⟨h1,h2⟩:=List.mem_filter.1 hx;obtain⟨h3,h4⟩:=of_decide_eq_true h2;exact⟨x,h1,h3,(aCf hN hV hin x).1 ⟨h4,e⟩⟩
 ·obtain⟨h1,h2⟩:=(aCf hN hV hin x).2 hf;exact⟨x,List.mem_filter.2 ⟨hx,decide_eq_true ⟨hl,h1⟩⟩,h2⟩
theorem uA{N:List ByteArray}{ts:List aE}{R:aD}{x:List ByteArray}(h:x∈dL N ts R):x.length=(aU N ts).length:=by unfold dL at h;obtain⟨y,_,rfl⟩:=List.mem_map.1 (aCq h);unfold iM;rw [List.length_map]
theorem uN(N:List ByteArray)(ts:List aE)(R:aD):Strict aB (dL N ts R):=Strict.new dU _
def tP(N V:List ByteArray)(t:aE):ByteArray:=if t.1=1 then bF V (N.findIdx fun s=>decide (s=t.2.1))else t.2.1
def qA(op:Int)(x y:ByteArray):Prop:=if op=1 then x=y else if op=2 then x≠y else if op=3 then Op.bytesLess x.toList y.toList=true else Op.bytesLess y.toList x.toList=false
def lY(N V:List ByteArray)(R:aD)(l:aJ):Prop:=
 if l.1=1 then ∃x∈R,x.length=(aA l).length/\aDh N V (aA l) x
 else if l.1=2 then ¬∃x∈R,x.length=(aA l).length/\aDh N V (aA l) x
 else qA (gS l) (tP N V (leftOf l)) (tP N V (aN l))
def cP(ls:List aJ)(R:Nat->aD)(V:List ByteArray):Prop:=V.length=(aC ls).length/\∀(i:Nat) (l:aJ),ls[i]?=some l->lY (aC ls) V (R i) l
def IsBinds(ls:List aJ)(R:Nat->aD)(L:aD):Prop:=AllB (cP ls R) [] L
theorem IsBinds.iff{ls:List aJ}{R:Nat->aD}{L:aD}(h:IsBinds ls R L)(V:List ByteArray):V∈L↔cP ls R V:=(AllB.iff h V).trans ⟨fun h=>h.1,fun h=>⟨h,rfl⟩⟩
end
section
abbrev bR:=List ByteArray×List ByteArray
def ofE(e:bR)(s:ByteArray):Option ByteArray:=if gJ e.1 s=true then some (bF e.2 (e.1.findIdx fun x=>decide (x=s)))else none
def gU(e:bR)(t:aE)(y:ByteArray):Option bR:=
 if t.1=3/\t.2.1≠y then none
 else if t.1≠1 then some e
 else match ofE e t.2.1 with
  |some s=>if s=y then some e else none
  |none=>some (e.1++ [t.2.1],e.2++ [y])
def bP(e:bR)(ts:List aE)(x:List ByteArray):Nat->Option bR
 |0=>some e
 |k+1=>match bP e ts x k,ts[k]? with
  |some f,some t=>gU f t (bF x k)
  |_,_=>none
structure EnvOk(e:bR):Prop where
 nodup:e.1.Nodup
 len:e.2.length=e.1.length
theorem aKs{N:List ByteArray}{s:ByteArray}(h:s∈N):N[N.findIdx fun x=>decide (x=s)]?=some s:=by have h1:(N.findIdx fun x=>decide (x=s))<N.length:=List.findIdx_lt_length_of_exists ⟨s,h,decide_eq_true rfl⟩;have h2:=List.findIdx_getElem (w:=h1);rw [qG h1];exact congrArg some (of_decide_eq_true h2)
theorem vN{e:bR}{s y:ByteArray}(he:EnvOk e):ofE e s=some y↔∃v:Nat,e.1[v]?=some s/\e.2[v]?=some y:=by
 unfold ofE;by_cases h:gJ e.1 s=true
 ·rw [if_pos h];have hi:=aKs (dA.1 h);have hl:=(List.getElem?_eq_some_iff.1 hi).1;have hv:e.2[e.1.findIdx fun x=>decide (x=s)]?=some (bF e.2 (e.1.findIdx fun x=>decide (x=s))):=by
   unfold bF;rw [List.getD_eq_getElem?_getD,qG (by rw [he.len];exact hl)];rfl
  refine⟨fun h1=>⟨_,hi,by rw [hv];exact h1⟩,fun⟨v,h1,h2⟩=>?_⟩;have:(e.1.findIdx fun x=>decide (x=s))=v:=(List.getElem?_inj hl he.nodup).1 (hi.trans h1.symm);rw [this]at hv;rw [this,<-hv];exact h2
 ·rw [if_neg h];refine⟨fun h1=>(by cases h1),fun⟨v,h1,h2⟩=>absurd (dA.2 (List.mem_of_getElem? h1)) h⟩
theorem vO{e:bR}{s:ByteArray}:ofE e s=none↔s∉e.1:=by
 unfold ofE;rw [<-dA];split
 ·rename_i h;simp [h]
 ·rename_i h;simp [h]
def zL(e:bR)(t:aE)(y:ByteArray):Prop:=(t.1=3->y=t.2.1)/\(t.1=1->∃v:Nat,e.1[v]?=some t.2.1/\e.2[v]?=some y)
structure EnvLe(e f:bR):Prop where
 names:f.1.take e.1.length=e.1
 vals:f.2.take e.2.length=e.2
theorem EnvLe.refl(e:bR):EnvLe e e:=⟨List.take_length,List.take_length⟩
theorem mK{l k:List ByteArray}(h:l.take k.length=k){i:Nat}{x:ByteArray}(hx:k[i]?=some x):l[i]?=some x:=by have hi:=(List.getElem?_eq_some_iff.1 hx).1;rw [<-h,List.getElem?_take_of_lt hi]at hx;exact hx
theorem EnvLe.fit{e f:bR}(h:EnvLe e f){t:aE}{y:ByteArray}(ht:zL e t y):zL f t y:=
 ⟨ht.1,fun h1=>by obtain⟨v,a,b⟩:=ht.2 h1;exact⟨v,mK h.names a,mK h.vals b⟩⟩
theorem jK{a b c:List ByteArray}(h:b.take a.length=a)(h':c.take b.length=b):c.take a.length=a:=by
 have hl:a.length≤b.length:=by have:=congrArg List.length h;rw [List.length_take]at this;omega
 have h2:(c.take b.length).take a.length=c.take a.length:=by rw [List.take_take];congr 1;omega
 rw [<-h2,h',h]
theorem EnvLe.trans{e f g:bR}(h:EnvLe e f)(h':EnvLe f g):EnvLe e g:=⟨jK h.names h'.names,jK h.vals h'.vals⟩
theorem aDg{e f:bR}{t:aE}{y:ByteArray}(he:EnvOk e)(h:gU e t y=some f):EnvOk f/\EnvLe e f/\f.1=bE e.1 t/\zL f t y:=by
 unfold gU at h;split at h
 ·cases h
 ·rename_i h1;have h3:t.1=3->y=t.2.1:=fun h3=>Classical.byContradiction fun hn=>h1 ⟨h3,fun e=>hn e.symm⟩;split at h
  ·rename_i h2;cases h;exact⟨he,EnvLe.refl _,by unfold bE;rw [if_neg (fun h=>h2 h.1)],h3,fun h=>absurd h h2⟩
  ·rename_i h2;have h2':t.1=1:=Classical.not_not.1 h2;split at h
   ·rename_i s hs;split at h
    ·rename_i e1;cases h;subst e1;have h4:=(vN he).1 hs;refine⟨he,EnvLe.refl _,?_,h3,fun _=>h4⟩;obtain⟨v,h5,_⟩:=h4;unfold bE;rw [if_neg fun h=>by have:=dA.2 (List.mem_of_getElem? h5);rw [this]at h;cases h.2]
    ·cases h
   ·rename_i hs;cases h;have h4:=vO.1 hs;refine⟨⟨?_,by simp [he.len]⟩,⟨List.take_left,List.take_left⟩,?_,h3,fun _=>⟨e.1.length,by simp,by rw [<-he.len];simp⟩⟩
    ·refine List.nodup_append.2 ⟨he.nodup,by simp,fun a ha b hb=>?_⟩;rw [List.mem_singleton]at hb;subst hb;intro e;subst e;exact h4 ha
    ·unfold bE;rw [if_pos ⟨h2',by rw [<-Bool.not_eq_true,dA];exact h4⟩]
theorem aFp{e g:bR}{t:aE}{y:ByteArray}(he:EnvOk e)(hg:EnvOk g)(hle:EnvLe e g)(hn:g.1.take (bE e.1 t).length=bE e.1 t)(h:zL g t y):∃f,gU e t y=some f/\EnvLe f g:=by
 unfold gU;rw [if_neg (fun h1=>h1.2 (h.1 h1.1).symm)];by_cases h2:t.1≠1
 ·rw [if_pos h2];exact⟨e,rfl,hle⟩
 ·rw [if_neg h2];have h2':t.1=1:=Classical.not_not.1 h2;obtain⟨v,hv,hy⟩:=h.2 h2';cases hs:ofE e t.2.1 with
  |some s=>
   obtain⟨u,hu,hs'⟩:=(vN he).1 hs;have h3:=mK hle.names hu;have:u=v:=(List.getElem?_inj (List.getElem?_eq_some_iff.1 h3).1 hg.nodup).1 (h3.trans hv.symm);subst this;have h4:=mK hle.vals hs';rw [hy]at h4;cases h4;exact⟨e,by simp,hle⟩
  |none=>
   refine⟨_,rfl,?_⟩;have h4:=vO.1 hs;have ea:bE e.1 t=e.1++ [t.2.1]:=by unfold bE;rw [if_pos ⟨h2',by rw [<-Bool.not_eq_true,dA];exact h4⟩]
   rw [ea]at hn;refine⟨hn,?_⟩;have h5:g.1[e.1.length]?=some t.2.1:=mK hn (by simp);have:e.1.length=v:=(List.getElem?_inj (List.getElem?_eq_some_iff.1 h5).1 hg.nodup).1 (h5.trans hv.symm);subst this;have h6:=hle.vals;show g.2.take (e.2++ [y]).length=e.2++ [y];rw [List.length_append,List.length_singleton,List.take_add_one,h6,he.len,hy];rfl
theorem vQ(a:List ByteArray)(ts:List aE)(t:aE):bZ a (ts++ [t])=bE (bZ a ts) t:=by unfold bZ;rw [List.foldl_append];rfl
theorem aHa(a:List ByteArray)(t:aE):(bE a t).take a.length=a:=by
 unfold bE;split
 ·exact List.take_left
 ·exact List.take_length
theorem rP:∀(ts:List aE) (a:List ByteArray),(bZ a ts).take a.length=a
 | [],a=>List.take_length
 |t::ts,a=>jK (aHa a t) (rP ts (bE a t))
theorem aE8(a:List ByteArray)(l:aJ):(bK a l).take a.length=a:=by
 unfold bK;split
 ·exact rP _ _
 ·exact List.take_length
theorem zI:∀(ls:List aJ) (a:List ByteArray),(ls.foldl bK a).take a.length=a
 | [],a=>List.take_length
 |l::ls,a=>jK (aE8 a l) (zI ls (bK a l))
theorem jS(ls:List aJ)(i:Nat):(aC ls).take (aC (ls.take i)).length=aC (ls.take i):=by
 have h:=zI (ls.drop i) (aC (ls.take i));have e:(ls.drop i).foldl bK (aC (ls.take i))=aC ls:=by unfold aC;rw [<-List.foldl_append,List.take_append_drop]
 rw [e]at h;exact h
theorem gD{ls:List aJ}{i:Nat}{l:aJ}(h:ls[i]?=some l):aC (ls.take (i+1))=bK (aC (ls.take i)) l:=by rw [List.take_add_one,h];unfold aC;rw [List.foldl_append];rfl
theorem aJm{a:List ByteArray}(h:a.Nodup)(t:aE):(bE a t).Nodup:=by
 unfold bE;split
 ·rename_i h1;refine List.nodup_append.2 ⟨h,by simp,fun x hx y hy=>?_⟩;rw [List.mem_singleton]at hy;subst hy;intro e;subst e;have:=dA.2 hx;rw [h1.2]at this;cases this
 ·exact h
theorem qC:∀(ts:List aE) {a:List ByteArray},a.Nodup->(bZ a ts).Nodup
 | [],_,h=>h
 |t::ts,_,h=>qC ts (aJm h t)
theorem qI:∀(ls:List aJ) {a:List ByteArray},a.Nodup->(ls.foldl bK a).Nodup
 | [],_,h=>h
 |l::ls,_,h=>qI ls (by unfold bK;split;exact qC _ h;exact h)
theorem dK(ls:List aJ):(aC ls).Nodup:=qI ls List.nodup_nil
theorem iD{e:bR}{ts:List aE}{x:List ByteArray}(he:EnvOk e):∀{k:Nat} {f:bR},bP e ts x k=some f->EnvOk f/\EnvLe e f/\f.1=bZ e.1 (ts.take k)/\∀(i:Nat) (t:aE),i<k->ts[i]?=some t->zL f t (bF x i)
 |0,f,h=>by cases h;exact⟨he,EnvLe.refl _,by rw [List.take_zero];rfl,fun i t hi=>by omega⟩
 |k+1,f,h=>by
  unfold bP at h;split at h
  ·rename_i g t hg ht;obtain⟨h1,h2,h3,h4⟩:=iD he hg;obtain⟨h5,h6,h7,h8⟩:=aDg h1 h;refine⟨h5,h2.trans h6,?_,fun i u hi hu=>?_⟩
   ·rw [h7,h3,List.take_add_one,ht];exact(vQ _ _ _).symm
   ·rcases Nat.lt_or_eq_of_le (Nat.le_of_lt_succ hi)with h9|h9
    ·exact h6.fit (h4 i u h9 hu)
    ·subst h9;rw [ht]at hu;cases hu;exact h8
  ·cases h
theorem rV{e g:bR}{ts:List aE}{x:List ByteArray}(he:EnvOk e)(hg:EnvOk g)(hle:EnvLe e g):∀{k:Nat},k≤ts.length->g.1.take (bZ e.1 (ts.take k)).length=bZ e.1 (ts.take k)->(∀(i:Nat) (t:aE),ts[i]?=some t->zL g t (bF x i))->∃f,bP e ts x k=some f/\EnvLe f g
 |0,_,_,_=>⟨e,rfl,hle⟩
 |k+1,hk,hn,h=>by
  obtain⟨t,ht⟩:∃t,ts[k]?=some t:=⟨_,qG (by omega)⟩;have e1:ts.take (k+1)=ts.take k++ [t]:=by rw [List.take_add_one,ht];rfl
  rw [e1,vQ]at hn;obtain⟨f,hf,hle2⟩:=rV he hg hle (by omega) (jK (aHa _ _) hn) h;obtain⟨h1,h2,h3,h4⟩:=iD he hf;obtain⟨f2,hf2,hle3⟩:=aFp h1 hg hle2 (by rw [h3];exact hn) (h k t ht);refine⟨f2,?_,hle3⟩;unfold bP;rw [hf,ht];exact hf2
structure FromOk(ls:List aJ)(R:Nat->aD)(i:Nat)(e:bR):Prop where
 ok:EnvOk e
 names:e.1=aC (ls.take i)
 done:∀(j:Nat) (l:aJ),j<i->ls[j]?=some l->l.1=1->∃x∈R j,x.length=(aA l).length/\aDh e.1 e.2 (aA l) x
theorem FromOk.start(ls:List aJ)(R:Nat->aD):FromOk ls R 0 ([],[]):=⟨⟨List.nodup_nil,rfl⟩,by rw [List.take_zero];rfl,fun j l hj=>by omega⟩
theorem FromOk.skip{ls:List aJ}{R:Nat->aD}{i:Nat}{e:bR}(h:FromOk ls R i e){l:aJ}(hl:ls[i]?=some l)(hk:l.1≠1):FromOk ls R (i+1) e:=
 ⟨h.ok,by rw [h.names,gD hl];unfold bK;rw [if_neg hk],fun j m hj hm h1=>by
  rcases Nat.lt_or_eq_of_le (Nat.le_of_lt_succ hj)with h2|h2
  ·exact h.done j m h2 hm h1
  ·subst h2;rw [hl]at hm;cases hm;exact absurd h1 hk⟩
theorem EnvLe.fitA{e f:bR}(h:EnvLe e f){ts:List aE}{x:List ByteArray}(hx:aDh e.1 e.2 ts x):aDh f.1 f.2 ts x:=fun i t hi=>h.fit (hx i t hi)
theorem FromOk.next{ls:List aJ}{R:Nat->aD}{i:Nat}{e f:bR}(h:FromOk ls R i e){l:aJ}(hl:ls[i]?=some l)(hk:l.1=1){x:List ByteArray}(hx:x∈R i)(hxl:x.length=(aA l).length)(hf:bP e (aA l) x (aA l).length=some f):FromOk ls R (i+1) f/\EnvLe e f:=by
 obtain⟨h1,h2,h3,h4⟩:=iD h.ok hf;rw [List.take_length]at h3;refine⟨⟨h1,?_,fun j m hj hm hm1=>?_⟩,h2⟩
 ·rw [h3,h.names,gD hl];unfold bK;rw [if_pos hk]
 ·rcases Nat.lt_or_eq_of_le (Nat.le_of_lt_succ hj)with h5|h5
  ·obtain⟨y,hy,hyl,hyf⟩:=h.done j m h5 hm hm1;exact⟨y,hy,hyl,h2.fitA hyf⟩
  ·subst h5;rw [hl]at hm;cases hm;exact⟨x,hx,hxl,fun j t hj2=>h4 j t (List.getElem?_eq_some_iff.1 hj2).1 hj2⟩
theorem FromOk.has{ls:List aJ}{R:Nat->aD}{i:Nat}{e:bR}(h:FromOk ls R i e){l:aJ}(hl:ls[i]?=some l)(hk:l.1=1){V:List ByteArray}(hV:cP ls R V)(hp:V.take e.2.length=e.2):
 ∃x∈R i,x.length=(aA l).length/\∃f,bP e (aA l) x (aA l).length=some f/\V.take f.2.length=f.2:=by
 have h1:=hV.2 i l hl;unfold lY at h1;rw [if_pos hk]at h1;obtain⟨x,hx,hxl,hxf⟩:=h1;have hg:EnvOk (aC ls,V):=⟨dK ls,hV.1⟩;have hle:EnvLe e (aC ls,V):=⟨by rw [h.names];exact jS ls i,hp⟩;obtain⟨f,hf,hle2⟩:=rV (x:=x) h.ok hg hle (Nat.le_refl (aA l).length) (by rw [List.take_length,h.names];have:=jS ls (i+1);rw [gD hl]at this;unfold bK at this;rw [if_pos hk]at this;exact this) hxf;exact⟨x,hx,hxl,f,hf,hle2.vals⟩
theorem FromOk.len{ls:List aJ}{R:Nat->aD}{i:Nat}{e:bR}(h:FromOk ls R i e):e.2.length=(aC (ls.take i)).length:=by rw [h.ok.len,h.names]
theorem FromOk.last{ls:List aJ}{R:Nat->aD}{e:bR}(h:FromOk ls R ls.length e):e.1=aC ls/\(cP ls R e.2↔∀(i:Nat) (l:aJ),ls[i]?=some l->l.1≠1->lY (aC ls) e.2 (R i) l)/\∀V,cP ls R V->V.length=e.2.length:=by
 have hn:e.1=aC ls:=by rw [h.names,List.take_length]
 have hl:e.2.length=(aC ls).length:=by rw [h.ok.len,hn]
 refine⟨hn,⟨fun hB i l hi _=>hB.2 i l hi,fun hB=>⟨hl,fun i l hi=>?_⟩⟩,fun V hV=>by rw [hV.1,hl]⟩;by_cases hk:l.1=1
 ·unfold lY;rw [if_pos hk];have:=h.done i l (List.getElem?_eq_some_iff.1 hi).1 hi hk;rw [hn]at this;exact this
 ·exact hB i l hi hk
def bD(e:bR)(ts:List aE)(R:aD):aD:=tV aB (R.filterMap fun x=>(bP e ts x ts.length).map (·.2))
theorem uK{e:bR}{ts:List aE}{R:aD}{q:List ByteArray}:q∈bD e ts R↔∃x∈R,∃f,bP e ts x ts.length=some f/\f.2=q:=by
 unfold bD;rw [aCr,List.mem_filterMap];refine⟨fun⟨x,hx,h⟩=>?_,fun⟨x,hx,f,hf,e⟩=>⟨x,hx,by rw [hf,<-e];rfl⟩⟩;cases hf:bP e ts x ts.length with
 |none=>rw [hf]at h;cases h
 |some f=>rw [hf]at h;exact⟨x,hx,f,hf,Option.some.inj h⟩
theorem aBl(e:bR)(ts:List aE)(R:aD):Strict aB (bD e ts R):=Strict.new dU _
theorem sE(e:bR)(ts:List aE)(R:aD)(x:List ByteArray):bD e ts (R++ [x])=match bP e ts x ts.length with|some f=>bN aB (bD e ts R) f.2|none=>bD e ts R:=by
 unfold bD;rw [List.filterMap_append];cases h:bP e ts x ts.length with
 |none=>simp [h]
 |some f=>simp [h,aH7]
section
variable {ls:List aJ}{R:Nat->aD}{i:Nat}{e:bR}{l:aJ}
theorem FromOk.each(h:FromOk ls R i e)(hl:ls[i]?=some l)(hk:l.1=1){R':aD}(hR:∀x,x∈R'↔x∈R i/\x.length=(aA l).length){q:List ByteArray}(hq:q∈bD e (aA l) R'):
 FromOk ls R (i+1) (aC (ls.take (i+1)),q)/\q.take e.2.length=e.2/\q.length=(aC (ls.take (i+1))).length:=by
 obtain⟨x,hx,f,hf,rfl⟩:=uK.1 hq;obtain⟨h1,h2⟩:=(hR x).1 hx;obtain⟨h3,h4⟩:=h.next hl hk h1 h2 hf
 have e1:f=(aC (ls.take (i+1)),f.2):=by rw [<-h3.names]
 rw [<-e1];exact⟨h3,h4.vals,h3.len⟩
theorem FromOk.whole(h:FromOk ls R i e)(hl:ls[i]?=some l)(hk:l.1=1){R':aD}(hR:∀x,x∈R'↔x∈R i/\x.length=(aA l).length){V:List ByteArray}(hV:cP ls R V)(hp:V.take e.2.length=e.2):V.take (aC (ls.take (i+1))).length∈bD e (aA l) R':=by
 obtain⟨x,hx,hxl,f,hf,hfv⟩:=h.has hl hk hV hp;obtain⟨h3,h4⟩:=h.next hl hk hx hxl hf
 have e1:=h3.len;rw [<-e1,hfv];exact uK.2 ⟨x,(hR x).2 ⟨hx,hxl⟩,f,hf,rfl⟩
theorem aJd{V:List ByteArray}(hV:cP ls R V)(i:Nat):(aC (ls.take i)).length≤V.length:=by have h:=congrArg List.length (jS ls i);rw [List.length_take]at h;rw [hV.1];omega
theorem aJ8(h:FromOk ls R i e)(hl:ls[i]?=some l)(hk:l.1=1){R':aD}(hR:∀x,x∈R'↔x∈R i/\x.length=(aA l).length){k:Nat}{q:List ByteArray}(hq:(bD e (aA l) R')[k]?=some q){L L':aD}
 (hL:PartQ (cP ls R) e.2 (aC (ls.take (i+1))).length (fun y=>y∈(bD e (aA l) R').take k) L)(hL':AllB (cP ls R) q L'):PartQ (cP ls R) e.2 (aC (ls.take (i+1))).length (fun y=>y∈(bD e (aA l) R').take (k+1)) (L++L'):=by
 obtain⟨h1,h2,h3⟩:=h.each hl hk hR (List.mem_of_getElem? hq);have hle:e.2.length≤(aC (ls.take (i+1))).length:=by have:=congrArg List.length h2;rw [List.length_take]at this;omega
 refine(hL.next h3 h2 hle (fun V hV=>aJd hV _) hL' fun y hy=>?_).congr fun y=>?_
 ·obtain⟨j,hj⟩:=List.mem_iff_getElem?.1 hy;have hjk:j<k:=by
   have:=(List.getElem?_eq_some_iff.1 hj).1;rw [List.length_take]at this;omega
  rw [List.getElem?_take_of_lt hjk]at hj;obtain⟨l1,e1⟩:=List.getElem?_eq_some_iff.1 hj;obtain⟨l2,e2⟩:=List.getElem?_eq_some_iff.1 hq;have:=List.pairwise_iff_getElem.1 (aBl e (aA l) R') j k l1 l2 hjk;rw [e1,e2]at this;exact this
 ·rw [List.take_add_one,hq,List.mem_append];simp
theorem aLu(h:FromOk ls R i e)(hl:ls[i]?=some l)(hk:l.1=1){R':aD}(hR:∀x,x∈R'↔x∈R i/\x.length=(aA l).length){L:aD}
 (hL:PartQ (cP ls R) e.2 (aC (ls.take (i+1))).length (fun y=>y∈bD e (aA l) R') L):AllB (cP ls R) e.2 L:=hL.all fun V hV hp=>h.whole hl hk hR hV hp
end
structure CurZ where
 keys:List ByteArray
 lo:Nat
 hi:Nat
structure CurOk(c:CurZ):Prop where
 le:c.lo≤c.hi
 few:c.hi≤c.keys.length
 rise:∀(k l:Nat) (x y:ByteArray),c.lo≤k->k<l->l<c.hi->c.keys[k]?=some x->c.keys[l]?=some y->aZ x.toList y.toList<0
def lJ(c:CurZ)(p:Nat)(x:ByteArray):Prop:=∃k,p≤k/\k<c.hi/\c.keys[k]?=some x
theorem jX{a b c:ByteArray}(h:aZ a.toList b.toList<0)(h':aZ b.toList c.toList<0):aZ a.toList c.toList<0:=by rw [dY]at h h' ⊢;exact fR h h'
theorem yD{a b c:ByteArray}(h:aZ a.toList b.toList<0)(h':¬aZ c.toList b.toList<0):aZ a.toList c.toList<0:=by
 rcases jY b.toList c.toList with h2|h2|h2
 ·exact jX h (by omega)
 ·rw [<-cY (eD h2)];exact h
 ·have:=cX b.toList c.toList;omega
section
variable {Sol:List ByteArray->Prop}{p:List ByteArray}{Cs:List CurZ}
structure LeapInv(Sol:List ByteArray->Prop)(p:List ByteArray)(Cs:List CurZ)(pos:Nat->Nat)(i:Nat)(D:ByteArray->Prop)(L:aD):Prop where
 ok:∀c∈Cs,CurOk c
 here:i<Cs.length
 inn:∀j c,Cs[j]?=some c->c.lo≤pos j/\pos j≤c.hi
 told:PartB Sol p D L
 common:∀V,Sol V->V.take p.length=p->∃x,V[p.length]?=some x/\(D x\/∀(j:Nat) (c:CurZ),Cs[j]?=some c->lJ c (pos j) x)
 below:∀c x y,Cs[i]?=some c->D x->lJ c (pos i) y->aZ x.toList y.toList<0
theorem LeapInv.start(hok:∀c∈Cs,CurOk c)(hne:0<Cs.length)(hc:∀V,Sol V->V.take p.length=p->∃x,V[p.length]?=some x/\∀(j:Nat) (c:CurZ),Cs[j]?=some c->lJ c c.lo x):LeapInv Sol p Cs (fun j=>(Cs.getD j ⟨[],0,0⟩).lo) 0 (fun _=>False) []:=by
 refine⟨hok,hne,fun j c hj=>?_,PartB.none fun V _ _ x _ h=>h,fun V h1 h2=>?_,fun c x y _ h=>h.elim⟩
 ·have e:Cs.getD j ⟨[],0,0⟩=c:=by rw [List.getD_eq_getElem?_getD,hj];rfl
  show _≤(Cs.getD j ⟨[],0,0⟩).lo/\(Cs.getD j ⟨[],0,0⟩).lo≤_;rw [e];exact⟨Nat.le_refl _,(hok c (List.mem_of_getElem? hj)).le⟩
 ·obtain⟨x,hx,h3⟩:=hc V h1 h2;refine⟨x,hx,.inr fun j c hj=>?_⟩;have e:Cs.getD j ⟨[],0,0⟩=c:=by rw [List.getD_eq_getElem?_getD,hj];rfl
  show lJ c (Cs.getD j ⟨[],0,0⟩).lo x;rw [e];exact h3 j c hj
theorem LeapInv.end{pos:Nat->Nat}{i:Nat}{D:ByteArray->Prop}{L:aD}(h:LeapInv Sol p Cs pos i D L){j:Nat}{c:CurZ}(hj:Cs[j]?=some c)(he:pos j=c.hi):AllB Sol p L:=by
 refine h.told.all fun V h1 h2=>?_;obtain⟨x,hx,h3⟩:=h.common V h1 h2;refine⟨x,hx,?_⟩;rcases h3 with h3|h3
 ·exact h3
 ·obtain⟨k,h4,h5,_⟩:=h3 j c hj;omega
theorem LeapInv.seek{pos:Nat->Nat}{i:Nat}{D:ByteArray->Prop}{L:aD}(h:LeapInv Sol p Cs pos i D L){ci:CurZ}(hi:Cs[i]?=some ci)(hlt:pos i<ci.hi){key:ByteArray}(hk:ci.keys[pos i]?=some key){j:Nat}{c:CurZ}(hj:Cs[j]?=some c){q:Nat}(hq:pos j≤q)(hq2:q≤c.hi)(hb:∀k x,pos j≤k->k<q->c.keys[k]?=some x->aZ x.toList key.toList<0)(hij:j=i->q=pos i):
 LeapInv Sol p Cs (fun m=>if m=j then q else pos m) i D L:=by
 have hp:=h.inn j c hj;refine⟨h.ok,h.here,fun m d hm=>?_,h.told,fun V h1 h2=>?_,fun d x y hd hx hy=>?_⟩
 ·show _≤(if m=j then q else pos m)/\(if m=j then q else pos m)≤_;split
  ·rename_i e;subst e;rw [hj]at hm;cases hm;exact⟨by omega,hq2⟩
  ·exact h.inn m d hm
 ·obtain⟨x,hx,h3⟩:=h.common V h1 h2;refine⟨x,hx,?_⟩;rcases h3 with h3|h3
  ·exact .inl h3
  ·refine .inr fun m d hm=>?_;show lJ d (if m=j then q else pos m) x;split
   ·rename_i e;subst e;rw [hj]at hm;cases hm;obtain⟨k,h4,h5,h6⟩:=h3 m c hj;obtain⟨k',h7,h8,h9⟩:=h3 i ci hi;refine⟨k,?_,h5,h6⟩;rcases Nat.lt_or_ge k q with h10|h10
    ·exfalso;have h11:=hb k x h4 h10 h6;rcases Nat.lt_or_eq_of_le h7 with h12|h12
     ·have h13:=(h.ok ci (List.mem_of_getElem? hi)).rise (pos i) k' key x (h.inn i ci hi).1 h12 h8 hk h9;have:=cX x.toList key.toList;omega
     ·subst h12;rw [hk]at h9;cases h9;rw [fG]at h11;omega
    ·exact h10
   ·exact h3 m d hm
 ·have e:(if i=j then q else pos i)=pos i:=by
   split
   ·rename_i e;exact hij e.symm
   ·rfl
  have hy':lJ d (pos i) y:=by have h0:lJ d (if i=j then q else pos i) y:=hy;rw [e]at h0;exact h0
  exact h.below d x y hd hx hy'
theorem LeapInv.lead{pos:Nat->Nat}{i:Nat}{D:ByteArray->Prop}{L:aD}(h:LeapInv Sol p Cs pos i D L){ci:CurZ}(hi:Cs[i]?=some ci)(hlt:pos i<ci.hi){key:ByteArray}(hk:ci.keys[pos i]?=some key){j:Nat}{c:CurZ}(hj:Cs[j]?=some c)(hl2:pos j<c.hi){key2:ByteArray}(hk2:c.keys[pos j]?=some key2)(hge:¬aZ key2.toList key.toList<0):LeapInv Sol p Cs pos j D L:=by
 refine⟨h.ok,(List.getElem?_eq_some_iff.1 hj).1,h.inn,h.told,h.common,fun d x y hd hx hy=>?_⟩;rw [hj]at hd;cases hd;have h1:=h.below ci x key hi hx ⟨pos i,Nat.le_refl _,hlt,hk⟩;have h2:=yD h1 hge;obtain⟨k,h3,h4,h5⟩:=hy;rcases Nat.lt_or_eq_of_le h3 with h6|h6
 ·exact jX h2 ((h.ok c (List.mem_of_getElem? hj)).rise (pos j) k key2 y (h.inn j c hj).1 h6 h4 hk2 h5)
 ·subst h6;rw [hk2]at h5;cases h5;exact h2
theorem LeapInv.next{pos:Nat->Nat}{i:Nat}{D:ByteArray->Prop}{L L':aD}(h:LeapInv Sol p Cs pos i D L){ci:CurZ}(hi:Cs[i]?=some ci)(hlt:pos i<ci.hi){key:ByteArray}(hk:ci.keys[pos i]?=some key)(h':AllB Sol (p++ [key]) L'):LeapInv Sol p Cs (fun m=>if m=i then pos i+1 else pos m) i (fun y=>D y\/y=key) (L++L'):=by
 refine⟨h.ok,h.here,fun m d hm=>?_,h.told.next h' fun V h1 h2 y hy hD=>h.below ci y key hi hD ⟨pos i,Nat.le_refl _,hlt,hk⟩,fun V h1 h2=>?_,fun d x y hd hx hy=>?_⟩
 ·show _≤(if m=i then pos i+1 else pos m)/\(if m=i then pos i+1 else pos m)≤_;split
  ·rename_i e;subst e;rw [hi]at hm;cases hm;have:=(h.inn m ci hi).1;exact⟨by omega,hlt⟩
  ·exact h.inn m d hm
 ·obtain⟨x,hx,h3⟩:=h.common V h1 h2;refine⟨x,hx,?_⟩;rcases h3 with h3|h3
  ·exact .inl (.inl h3)
  ·by_cases e:x=key
   ·exact .inl (.inr e)
   ·refine .inr fun m d hm=>?_;show lJ d (if m=i then pos i+1 else pos m) x;split
    ·rename_i e2;subst e2;rw [hi]at hm;cases hm;obtain⟨k,h4,h5,h6⟩:=h3 m ci hi;refine⟨k,?_,h5,h6⟩;rcases Nat.lt_or_eq_of_le h4 with h7|h7
     ·exact h7
     ·subst h7;rw [hk]at h6;cases h6;exact absurd rfl e
    ·exact h3 m d hm
 ·rw [hi]at hd;cases hd;have hy':lJ ci (pos i+1) y:=by
   have h0:lJ ci (if i=i then pos i+1 else pos i) y:=hy;rw [if_pos rfl]at h0;exact h0
  obtain⟨k,h3,h4,h5⟩:=hy';have h6:=(h.ok ci (List.mem_of_getElem? hi)).rise (pos i) k key y (h.inn i ci hi).1 (by omega) h4 hk h5;rcases hx with hx|hx
  ·exact h.below ci x y hi hx ⟨k,by omega,h4,h5⟩
  ·rw [hx];exact h6
end
section
variable {W:aD}{d:Nat}
def SpanOf(W:aD)(d:Nat)(q:List ByteArray)(a b:Nat):Prop:=∃lo hi,Iv W q lo hi/\a=aO W d q.length lo/\b=aO W d q.length hi
theorem aD7(i:Nat):aO W d i 0=0:=by have:=dM W d i 0;unfold aO;omega
theorem lL(i:Nat){m n:Nat}(h:m≤n):aO W d i m≤aO W d i n:=by obtain⟨r,e,_⟩:=mL W d i h;unfold aO;rw [e,List.length_append];omega
theorem aHn(hne:0<W.length):SpanOf W d [] 0 (aO W d 0 W.length):=
 ⟨0,W.length,⟨hne,Nat.le_refl _,fun n x hx=>⟨fun _=>⟨Nat.zero_le _,(List.getElem?_eq_some_iff.1 hx).1⟩,fun _=>rfl⟩⟩,(aD7 0).symm,rfl⟩
theorem mO{i n k s:Nat}(h:(aW W d i n)[k]?=some s){m:Nat}(hm:m≤n):k<aO W d i m↔s<m:=by
 obtain⟨r,e,hr⟩:=mL W d i hm;rw [e]at h;unfold aO;refine⟨fun hk=>?_,fun hs=>?_⟩
 ·rw [List.getElem?_append_left hk]at h;exact(lQ h).2
 ·rcases Nat.lt_or_ge k (aW W d i m).length with h1|h1
  ·exact h1
  ·rw [List.getElem?_append_right h1]at h;have:=hr _ (List.mem_of_getElem? h);omega
theorem WaysOk.cell(h:WaysOk W d){n:Nat}{r:List ByteArray}(hr:W[n]?=some r){i:Nat}(hi:i<d):∃x,r[i]?=some x/\r.take (i+1)=r.take i++ [x]:=by
 have hl:i<r.length:=by rw [h.len r (List.mem_of_getElem? hr)];exact hi
 refine⟨_,qG hl,?_⟩;rw [List.take_add_one,qG hl];rfl
theorem SpanOf.place(hW:WaysOk W d){q:List ByteArray}{a b:Nat}(h:SpanOf W d q a b)(hq:q.length<d){k:Nat}(ha:a≤k)(hb:k<b):
 ∃s r x,(aW W d q.length W.length)[k]?=some s/\W[s]?=some r/\r.take (q.length+1)=q++ [x]/\(bV W d q.length W.length)[k]?=some x/\Iv W (q++ [x]) s ((aW W d q.length W.length).getD (k+1) W.length):=by
 obtain⟨lo,hi,hI,rfl,rfl⟩:=h;have hkS:k< (aW W d q.length W.length).length:=Nat.lt_of_lt_of_le hb (lL _ hI.few);obtain⟨s,hs⟩:∃s,(aW W d q.length W.length)[k]?=some s:=⟨_,qG hkS⟩;have hsn:=(lQ hs).2;have h1:s<hi:=(mO hs hI.few).1 hb;have h2:¬s<lo:=fun h=>Nat.not_lt.2 ha ((mO hs (Nat.le_trans (Nat.le_of_lt hI.le) hI.few)).2 h);obtain⟨r,hr⟩:∃r,W[s]?=some r:=⟨_,qG hsn⟩;obtain⟨x,hx,et⟩:=hW.cell hr hq;have eq:r.take q.length=q:=(hI.iff s r hr).2 ⟨by omega,h1⟩;rw [eq]at et;have hst:=(lR hq).1 (List.mem_of_getElem? hs);refine⟨s,r,x,hs,hr,et,?_,?_,?_,?_⟩
 ·unfold bV;rw [List.getElem?_map,hs];show some ((W.getD s []).getD q.length ByteArray.empty)=some x;rw [bH hr,bH hx]
 ·rw [List.getD_eq_getElem?_getD];cases h4:(aW W d q.length W.length)[k+1]? with
  |none=>exact hsn
  |some e=>
   obtain⟨l1,e1⟩:=List.getElem?_eq_some_iff.1 hs;obtain⟨l2,e2⟩:=List.getElem?_eq_some_iff.1 h4;have:=List.pairwise_iff_getElem.1 (fY W d q.length W.length) k (k+1) l1 l2 (by omega);rw [e1,e2]at this;exact this
 ·rw [List.getD_eq_getElem?_getD];cases h4:(aW W d q.length W.length)[k+1]? with
  |none=>exact Nat.le_refl _
  |some e=>exact Nat.le_of_lt (lQ h4).2
 ·intro n y hy;have hn:=(List.getElem?_eq_some_iff.1 hy).1;rw [List.length_append,List.length_singleton,<-et];refine⟨fun he=>⟨?_,?_⟩,fun⟨h3,h4⟩=>?_⟩
  ·rcases Nat.lt_or_ge n s with h3|h3
   ·exfalso;rcases fC.1 hst.2 with h4|h4
    ·omega
    ·obtain⟨z,hz⟩:∃z,W[s-1]?=some z:=⟨_,qG (by omega)⟩;rw [bH hz,bH hr]at h4;exact h4 ((hW.between hy hz hr (by omega) (by omega) he).trans he)
   ·exact h3
  ·rcases Nat.lt_or_ge n ((aW W d q.length W.length).getD (k+1) W.length)with h3|h3
   ·exact h3
   ·exfalso;rw [List.getD_eq_getElem?_getD]at h3;cases h4:(aW W d q.length W.length)[k+1]? with
    |none=>
     rw [h4]at h3;have h5:W.length≤n:=h3;omega
    |some e=>
     rw [h4]at h3;have h5:e≤n:=h3;have h6:=(lR hq).1 (List.mem_of_getElem? h4);obtain⟨l1,e1⟩:=List.getElem?_eq_some_iff.1 hs;obtain⟨l2,e2⟩:=List.getElem?_eq_some_iff.1 h4;have h7:=List.pairwise_iff_getElem.1 (fY W d q.length W.length) k (k+1) l1 l2 (by omega);rw [e1,e2]at h7;obtain⟨z,hz⟩:∃z,W[e-1]?=some z:=⟨_,qG (by omega)⟩;obtain⟨u,hu⟩:∃u,W[e]?=some u:=⟨_,qG (by omega)⟩;rcases fC.1 h6.2 with h8|h8
     ·omega
     ·rw [bH hz,bH hu]at h8;exact h8 ((hW.between hr hz hy (by omega) (by omega) he.symm).trans (hW.between hr hu hy (by omega) h5 he.symm).symm)
  ·-- no start lies between
   have key:∀m,s≤m->m≤n->∀z,W[m]?=some z->z.take (q.length+1)=r.take (q.length+1):=by
    intro m;induction m with
    |zero=>
     intro h5 _ z hz;have:s=0:=by omega
     rw [this]at hr;rw [hr]at hz;cases hz;rfl
    |succ m ih=>
     intro h5 h6 z hz;rcases Nat.lt_or_eq_of_le h5 with h7|h7
     ·obtain⟨u,hu⟩:∃u,W[m]?=some u:=⟨_,qG (by omega)⟩;have h8:=ih (by omega) (by omega) u hu;have h9:¬dG W (q.length+1) (m+1)=true:=fun h10=>by
       have hm:=(lR (W:=W) (n:=W.length) hq).2 ⟨(List.getElem?_eq_some_iff.1 hz).1,h10⟩;obtain⟨j,hj⟩:=List.mem_iff_getElem?.1 hm;obtain⟨l1,e1⟩:=List.getElem?_eq_some_iff.1 hs;obtain⟨l2,e2⟩:=List.getElem?_eq_some_iff.1 hj;have hjk:k<j:=by
        rcases Nat.lt_trichotomy k j with h|h|h
        ·exact h
        ·subst h;rw [hs]at hj;cases hj;omega
        ·have:=List.pairwise_iff_getElem.1 (fY W d q.length W.length) j k l2 l1 h;rw [e1,e2]at this;omega
       rw [List.getD_eq_getElem?_getD,qG (by omega:k+1<_)]at h4;have h11:n< (aW W d q.length W.length)[k+1]:=h4;rcases Nat.lt_or_eq_of_le (show k+1≤j from hjk)with h|h
       ·have:=List.pairwise_iff_getElem.1 (fY W d q.length W.length) (k+1) j (by omega) l2 h;rw [e2]at this;omega
       ·subst h;rw [e2]at h11;omega
      have h12:u.take (q.length+1)=z.take (q.length+1):=by refine Classical.byContradiction fun h13=>h9 (fC.2 (.inr ?_));rw [Nat.add_sub_cancel,bH hu,bH hz];exact h13
      rw [<-h12];exact h8
     ·rw [<-h7]at hz;rw [hr]at hz;cases hz;rfl
   exact key n h3 (Nat.le_refl _) y hy
theorem SpanOf.all(hW:WaysOk W d){q:List ByteArray}{a b:Nat}(h:SpanOf W d q a b)(hq:q.length<d){x:ByteArray}{r:List ByteArray}(hr:r∈W)(he:r.take (q.length+1)=q++ [x]):
 ∃k,a≤k/\k<b/\(bV W d q.length W.length)[k]?=some x:=by
 have hS:=h;obtain⟨lo,hi,hI,ea,eb⟩:=h;obtain⟨n,hn⟩:=List.mem_iff_getElem?.1 hr;have hnl:=(List.getElem?_eq_some_iff.1 hn).1;have e1:r.take q.length=q:=by have:=congrArg (List.take q.length) he;rw [List.take_take,List.take_left]at this;rw [show min q.length (q.length+1)=q.length by omega]at this;exact this
 obtain⟨h1,h2⟩:=(hI.iff n r hn).1 e1;have hlo:dG W (q.length+1) lo=true:=by
  refine fC.2 ?_;by_cases h0:lo=0
  ·exact .inl h0
  ·refine .inr fun h3=>?_;obtain⟨z,hz⟩:∃z,W[lo-1]?=some z:=⟨_,qG (by omega)⟩;obtain⟨u,hu⟩:∃u,W[lo]?=some u:=⟨_,qG (by omega)⟩;rw [bH hz,bH hu]at h3;have h4:z.take q.length=u.take q.length:=by
    have:=congrArg (List.take q.length) h3;rw [List.take_take,List.take_take]at this;rw [show min q.length (q.length+1)=q.length by omega]at this;exact this
   have h5:=(hI.iff lo u hu).2 ⟨Nat.le_refl _,hI.le⟩;have h6:=((hI.iff (lo-1) z hz).1 (h4.trans h5)).1;omega
 have hml:lo∈aW W d q.length (n+1):=(lR hq).2 ⟨by omega,hlo⟩;obtain⟨j,hj⟩:=List.mem_iff_getElem?.1 hml;have hjl:=(List.getElem?_eq_some_iff.1 hj).1;obtain⟨k,ek⟩:∃k,aO W d q.length (n+1)=k+1:=⟨aO W d q.length (n+1)-1,by unfold aO;omega⟩;have hka:a≤k:=by have h3:¬j<aO W d q.length lo:=fun h=>absurd ((mO hj (by omega)).1 h) (by omega);have h4:j<aO W d q.length (n+1):=hjl;omega
 have hkb:k<b:=by have:=lL (W:=W) (d:=d) q.length (show n+1≤hi from h2);omega
 obtain⟨s,r',x',hs,hr',he',hk',hI'⟩:=hS.place hW hq hka hkb;refine⟨k,hka,hkb,?_⟩;have hsn:s<n+1:=(mO hs (by omega)).1 (by omega);have hne:n< (aW W d q.length W.length).getD (k+1) W.length:=by
  rw [List.getD_eq_getElem?_getD];cases h4:(aW W d q.length W.length)[k+1]? with
  |none=>exact hnl
  |some e=>
   have h5:¬e<n+1:=fun h=>absurd ((mO h4 (by omega)).2 h) (by omega);show n<e;omega
 have h7:=(hI'.iff n r hn).2 ⟨by omega,hne⟩;rw [List.length_append,List.length_singleton,he]at h7;have h8:=(List.append_inj h7 rfl).2;rw [hk'];simpa using h8.symm
theorem SpanOf.rise(hW:WaysOk W d){q:List ByteArray}{a b:Nat}(h:SpanOf W d q a b)(hq:q.length<d){k l:Nat}(ha:a≤k)(hl:k<l)(hb:l<b){x y:ByteArray}(hx:(bV W d q.length W.length)[k]?=some x)(hy:(bV W d q.length W.length)[l]?=some y):aZ x.toList y.toList<0:=by
 obtain⟨s,r,x',hs,hr,he,hk,hI⟩:=h.place hW hq ha (by omega);obtain⟨t,u,y',ht,hu,he2,hk2,hI2⟩:=h.place hW hq (show a≤l by omega) hb;rw [hk]at hx;cases hx;rw [hk2]at hy;cases hy;obtain⟨l1,e1⟩:=List.getElem?_eq_some_iff.1 hs;obtain⟨l2,e2⟩:=List.getElem?_eq_some_iff.1 ht;have hst:=List.pairwise_iff_getElem.1 (fY W d q.length W.length) k l l1 l2 hl;rw [e1,e2]at hst;have h1:=kK (q.length+1) ((hW.len r (List.mem_of_getElem? hr)).trans (hW.len u (List.mem_of_getElem? hu)).symm) (hW.le hr hu (Nat.le_of_lt hst));rw [he,he2,tE]at h1;have h2:aZ x.toList y.toList≠0:=fun e=>by have exy:x=y:=cY (eD e);subst exy;have h3:=((hI2.iff s r hr).1 (by rw [List.length_append,List.length_singleton];exact he)).1;omega
 omega
theorem SpanOf.down(hW:WaysOk W d){q:List ByteArray}{a b:Nat}(h:SpanOf W d q a b)(hq:q.length<d){k:Nat}(ha:a≤k)(hb:k<b){x:ByteArray}(hx:(bV W d q.length W.length)[k]?=some x):
 ∃f t,(cF W d q.length W.length++ [(aO W d (q.length+1) W.length:Int)])[k]?=some ((f:Nat):Int)/\(cF W d q.length W.length++ [(aO W d (q.length+1) W.length:Int)])[k+1]?=some ((t:Nat):Int)/\SpanOf W d (q++ [x]) f t:=by
 obtain⟨s,r,x',hs,hr,he,hk,hI⟩:=h.place hW hq ha hb;rw [hk]at hx;cases hx;refine⟨aO W d (q.length+1) s,aO W d (q.length+1) ((aW W d q.length W.length).getD (k+1) W.length),?_,?_,s,_,hI,by rw [List.length_append,List.length_singleton],by rw [List.length_append,List.length_singleton]⟩
 ·have hkl:k< (cF W d q.length W.length).length:=by rw [iO];exact(List.getElem?_eq_some_iff.1 hs).1
  rw [List.getElem?_append_left hkl];unfold cF;rw [List.getElem?_map,hs];rfl
 ·rw [List.getD_eq_getElem?_getD];cases h4:(aW W d q.length W.length)[k+1]? with
  |none=>
   have h5:=List.getElem?_eq_none_iff.1 h4;have h6:=(List.getElem?_eq_some_iff.1 hs).1;have h7:(cF W d q.length W.length).length=k+1:=by rw [iO];unfold aO;omega
   rw [List.getElem?_append_right (by omega),h7,Nat.sub_self];rfl
  |some e=>
   have hkl:k+1< (cF W d q.length W.length).length:=by rw [iO];exact(List.getElem?_eq_some_iff.1 h4).1
   rw [List.getElem?_append_left hkl];unfold cF;rw [List.getElem?_map,h4];rfl
theorem SpanOf.le{q:List ByteArray}{a b:Nat}(h:SpanOf W d q a b):a≤b/\b≤aO W d q.length W.length:=by obtain⟨lo,hi,hI,rfl,rfl⟩:=h;exact⟨lL _ (Nat.le_of_lt hI.le),lL _ hI.few⟩
theorem SpanOf.some(hW:WaysOk W d){q:List ByteArray}{a b:Nat}(h:SpanOf W d q a b)(hq:q.length<d):a<b:=by have hS:=h;obtain⟨lo,hi,hI,ea,eb⟩:=h;obtain⟨r,hr⟩:∃r,W[lo]?= .some r:=⟨_,qG (Nat.lt_of_lt_of_le hI.le hI.few)⟩;obtain⟨x,hx,et⟩:=hW.cell hr hq;have e:=(hI.iff lo r hr).2 ⟨Nat.le_refl _,hI.le⟩;rw [e]at et;obtain⟨k,h1,h2,_⟩:=hS.all hW hq (List.mem_of_getElem? hr) et;omega
end
section
variable {W:aD}{d:Nat}
theorem rS{i n:Nat}(hi:i<d){r:List ByteArray}{x:ByteArray}(hr:W[n]?=some r)(hx:r[i]?=some x):bV W d i (n+1)=bV W d i n++if dG W (i+1) n then [x]else []:=by
 unfold bV;rw [mM W hi,List.map_append]
 congr 1
 split
 ·rw [List.map_singleton,bH hr,bH hx]
 ·rfl
theorem rU{i n:Nat}(hi:i<d):cF W d i (n+1)=cF W d i n++if dG W (i+1) n then [(aO W d (i+1) n:Int)]else []:=by
 unfold cF;rw [mM W hi,List.map_append]
 congr 1
 split
 ·rfl
 ·rfl
theorem pB{n:Nat}:aO W d d n=n:=by unfold aO;rw [mN W (Nat.lt_irrefl d),List.length_range]
theorem aE0{n:Nat}:dG W 0 n=(n==0):=by unfold dG;rw [List.take_zero,List.take_zero];simp
structure PathOk(W:aD)(d:Nat)(q:List ByteArray)(st:List (Nat×Nat)):Prop where
 len:st.length=q.length
 at_:∀(j:Nat) (e:Nat×Nat),st[j]?=some e->∃a x,SpanOf W d (q.take j) a e.2/\a≤e.1/\e.1<e.2/\q[j]?=some x/\(bV W d j W.length)[e.1]?=some x
 few:q.length≤d
theorem PathOk.nil:PathOk W d [] []:=⟨rfl,fun j e h=>by simp at h,Nat.zero_le _⟩
theorem PathOk.push{q:List ByteArray}{st:List (Nat×Nat)}(h:PathOk W d q st)(hq:q.length<d){a b k:Nat}{x:ByteArray}(hs:SpanOf W d q a b)(ha:a≤k)(hb:k<b)(hx:(bV W d q.length W.length)[k]?=some x):PathOk W d (q++ [x]) (st++ [(k,b)]):=by
 refine⟨by simp [h.len],fun j e he=>?_,by simp;omega⟩;rcases Nat.lt_trichotomy j st.length with h1|h1|h1
 ·rw [List.getElem?_append_left h1]at he;obtain⟨a',x',h2,h3,h4,h5,h6⟩:=h.at_ j e he;have hj:j<q.length:=by rw [<-h.len];exact h1
  exact⟨a',x',by rw [List.take_append_of_le_length (by omega)];exact h2,h3,h4,by rw [List.getElem?_append_left hj];exact h5,h6⟩
 ·subst h1;rw [List.getElem?_append_right (Nat.le_refl _),Nat.sub_self]at he;cases he;refine⟨a,x,?_,ha,hb,?_,?_⟩
  ·rw [h.len,List.take_left];exact hs
  ·rw [h.len,List.getElem?_append_right (Nat.le_refl _),Nat.sub_self];rfl
  ·rw [h.len];exact hx
 ·rw [List.getElem?_append_right (by omega)]at he;have:j-st.length≠0:=by omega
  cases hj:j-st.length with
  |zero=>omega
  |succ m=>rw [hj]at he;simp at he
theorem PathOk.open(hW:WaysOk W d)(hne:0<W.length){q:List ByteArray}{st:List (Nat×Nat)}(h:PathOk W d q st)(hq:q.length<d):
 ∃a b,SpanOf W d q a b/\a<b/\((q= []/\a=0/\b=aO W d 0 W.length)\/
  ∃(m:Nat) (e:Nat×Nat),q.length=m+1/\st[m]?=some e/\(cF W d m W.length++ [(aO W d (m+1) W.length:Int)])[e.1]?=some ((a:Nat):Int)/\(cF W d m W.length++ [(aO W d (m+1) W.length:Int)])[e.1+1]?=some ((b:Nat):Int)):=by
 cases hl:q.length with
 |zero=>
  have e:q= []:=List.eq_nil_of_length_eq_zero hl;subst e;have hs:=aHn (W:=W) (d:=d) hne;exact⟨0,_,hs,hs.some hW hq,.inl ⟨rfl,rfl,rfl⟩⟩
 |succ m=>
  obtain⟨e,he⟩:∃e,st[m]?=some e:=⟨_,qG (by rw [h.len,hl];omega)⟩;obtain⟨a',x,h1,h2,h3,h4,h5⟩:=h.at_ m e he;have hlen:(q.take m).length=m:=by rw [List.length_take];omega
  have hd:=h1.down hW (by rw [hlen];omega) h2 h3 (x:=x) (by rw [hlen];exact h5);rw [hlen]at hd;obtain⟨f,t,h6,h7,h8⟩:=hd;have eq:q.take m++ [x]=q:=by
   have:q.take (m+1)=q.take m++ [x]:=by rw [List.take_add_one,h4];rfl
   rw [<-this,<-hl,List.take_length]
  rw [eq]at h8;exact⟨f,t,h8,h8.some hW hq,.inr ⟨m,e,rfl,he,h6,h7⟩⟩
end
def kC(N V:List ByteArray)(R:aD)(l:aJ):Prop:=
 if l.1=1 then(aU N (aA l)).map (bF V)∈dL N (aA l) R
 else if l.1=2 then ¬(aU N (aA l)).map (bF V)∈dL N (aA l) R
 else qA (gS l) (tP N V (leftOf l)) (tP N V (aN l))
theorem aDz{N V:List ByteArray}{R:aD}{l:aJ}(hN:N.Nodup)(hV:V.length=N.length)(hin:l.1=1\/l.1=2->∀t∈aA l,t.1=1->t.2.1∈N):kC N V R l↔lY N V R l:=by
 unfold kC lY;by_cases h1:l.1=1
 ·rw [if_pos h1,if_pos h1];exact aGo R hN hV (hin (.inl h1))
 ·rw [if_neg h1,if_neg h1];by_cases h2:l.1=2
  ·rw [if_pos h2,if_pos h2,aGo R hN hV (hin (.inr h2))]
  ·rw [if_neg h2,if_neg h2]
theorem yX:∀(ts:List aE) (a:List ByteArray) (t:aE),t∈ts->t.1=1->t.2.1∈bZ a ts
 | [],_,_,h,_=>by simp at h
 |u::ts,a,t,h,h1=>by
  show t.2.1∈bZ (bE a u) ts;rcases List.mem_cons.1 h with h|h
  ·subst h;have hm:t.2.1∈bE a t:=by
    unfold bE;split
    ·simp
    ·rename_i h2;rw [<-dA];cases h3:gJ a t.2.1 with
     |true=>rfl
     |false=>exact absurd ⟨h1,h3⟩ h2
   have hp:=rP ts (bE a t);rw [<-hp]at hm;exact List.mem_of_mem_take hm
  ·exact yX ts (bE a u) t h h1
theorem aFa{ls:List aJ}{l:aJ}(hl:l∈ls)(h1:l.1=1){t:aE}(ht:t∈aA l)(h:t.1=1):t.2.1∈aC ls:=by
 obtain⟨i,hi⟩:=List.mem_iff_getElem?.1 hl;have e:=gD hi;have hm:t.2.1∈aC (ls.take (i+1)):=by rw [e];unfold bK;rw [if_pos h1];exact yX _ _ _ ht h
 rw [<-jS ls (i+1)]at hm;exact List.mem_of_mem_take hm
theorem aAj{r:dC}(h:bG r=0){l:aJ}(hl:l∈r.2.1)(hk:l.1=1\/l.1=2):∀t∈aA l,t.1=1->t.2.1∈aC r.2.1:=fun t ht h1=>by
 rcases hk with hk|hk
 ·exact aFa hl hk ht h1
 ·unfold bG at h;split at h
  ·split at h
   ·rename_i hp hs;unfold jO at hs;rw [Bool.and_eq_true]at hs;have h2:=List.all_eq_true.1 hs.2 l hl;unfold dX at h2;rw [if_neg (by omega),if_pos hk]at h2;have h3:=List.all_eq_true.1 h2 t ht;unfold bY at h3;rw [if_neg (by omega)]at h3;rcases of_decide_eq_true h3 with h4|h4|h4
    ·omega
    ·omega
    ·exact dA.1 h4
   ·cases h
  ·cases h
theorem xK{r:dC}(h:bG r=0){R:Nat->aD}{V:List ByteArray}:cP r.2.1 R V↔V.length=(aC r.2.1).length/\∀(i:Nat) (l:aJ),r.2.1[i]?=some l->kC (aC r.2.1) V (R i) l:=by unfold cP;refine and_congr_right fun hV=>⟨fun h1 i l hl=>(aDz (dK _) hV fun hk=>aAj h (List.mem_of_getElem? hl) hk).2 (h1 i l hl),fun h1 i l hl=>(aDz (dK _) hV fun hk=>aAj h (List.mem_of_getElem? hl) hk).1 (h1 i l hl)⟩
theorem vS:∀(ts:List aE) (a:List ByteArray) (s:ByteArray),s∈bZ a ts->s∈a\/∃t∈ts,t.1=1/\t.2.1=s
 | [],a,s,h=> .inl h
 |t::ts,a,s,h=>by
  rcases vS ts (bE a t) s h with h1|⟨u,hu,h1⟩
  ·unfold bE at h1;split at h1
   ·rename_i h2;rcases List.mem_append.1 h1 with h1|h1
    ·exact .inl h1
    ·rw [List.mem_singleton]at h1;exact .inr ⟨t,List.mem_cons_self ..,h2.1,h1.symm⟩
   ·exact .inl h1
  ·exact .inr ⟨u,List.mem_cons_of_mem _ hu,h1⟩
theorem sT:∀(ls:List aJ) (a:List ByteArray) (s:ByteArray),s∈ls.foldl bK a->s∈a\/∃l∈ls,l.1=1/\∃t∈aA l,t.1=1/\t.2.1=s
 | [],a,s,h=> .inl h
 |l::ls,a,s,h=>by
  rcases sT ls (bK a l) s h with h1|⟨m,hm,h1⟩
  ·unfold bK at h1;split at h1
   ·rename_i h2;rcases vS _ _ _ h1 with h3|h3
    ·exact .inl h3
    ·exact .inr ⟨l,List.mem_cons_self ..,h2,h3⟩
   ·exact .inl h1
  ·exact .inr ⟨m,List.mem_cons_of_mem _ hm,h1⟩
theorem nC{ls:List aJ}{v:Nat}(hv:v< (aC ls).length):∃l∈ls,l.1=1/\v∈aU (aC ls) (aA l):=by
 have hg:(aC ls)[v]?=some (bF (aC ls) v):=by unfold bF;rw [List.getD_eq_getElem?_getD,qG hv];rfl
 rcases sT ls [] _ (List.mem_of_getElem? hg)with h|⟨l,hl,h1,t,ht,h2,h3⟩
 ·simp at h
 ·obtain⟨i,hi⟩:=List.mem_iff_getElem?.1 ht;exact⟨l,hl,h1,dQ.2 ⟨hv,i,t,hi,h2,h3⟩⟩
theorem aD9{vs:List Nat}(hr:vs.Pairwise (· < ·)){m v:Nat}(hm:vs[m]?=some v){p V:List ByteArray}(hp:V.take v=p)(hV:v<V.length):
 (vs.map (bF V)).take (m+1)=(vs.take m).map (bF p)++ [bF V v]:=by
 have hml:=(List.getElem?_eq_some_iff.1 hm);rw [List.take_add_one,List.getElem?_map,hm];show(vs.map (bF V)).take m++ [bF V v]=_;rw [<-List.map_take]
 congr 1
 refine List.map_congr_left fun u hu=>?_;obtain⟨j,hj⟩:=List.mem_iff_getElem?.1 hu;have hjm:j<m:=by have:=(List.getElem?_eq_some_iff.1 hj).1;rw [List.length_take]at this;omega
 rw [List.getElem?_take_of_lt hjm]at hj;obtain⟨l1,e1⟩:=List.getElem?_eq_some_iff.1 hj;have huv:=List.pairwise_iff_getElem.1 hr j m l1 hml.1 hjm;rw [e1,hml.2]at huv;unfold bF;rw [List.getD_eq_getElem?_getD,List.getD_eq_getElem?_getD,<-hp,List.getElem?_take_of_lt huv]
theorem nD:∀(ts:List aE) (a:List ByteArray),(∀t∈ts,t.1=1->t.2.1∈a)->bZ a ts=a
 | [],_,_=>rfl
 |t::ts,a,h=>by
  have e:bE a t=a:=by unfold bE;refine if_neg fun h1=>?_;have h2:=dA.2 (h t (List.mem_cons_self ..) h1.1);rw [h2]at h1;cases h1.2
  show bZ (bE a t) ts=a;rw [e];exact nD ts a fun u hu=>h u (List.mem_cons_of_mem _ hu)
theorem zK{e:bR}(he:EnvOk e){ts:List aE}{x:List ByteArray}(hin:∀t∈ts,t.1=1->t.2.1∈e.1):(∃f,bP e ts x ts.length=some f)↔aDh e.1 e.2 ts x:=by
 refine⟨fun⟨f,hf⟩=>?_,fun h=>?_⟩
 ·obtain⟨h1,h2,h3,h4⟩:=iD he hf;rw [List.take_length,nD ts e.1 hin]at h3;have hl:f.2.length=e.2.length:=by rw [h1.len,h3,he.len]
  have h5:f.2=e.2:=by have:=h2.vals;rw [<-hl,List.take_length]at this;exact this
  have e1:f=e:=Prod.ext h3 h5;subst e1;exact fun i t hi=>h4 i t (List.getElem?_eq_some_iff.1 hi).1 hi
 ·obtain⟨f,hf,_⟩:=rV (x:=x) he he (EnvLe.refl e) (Nat.le_refl ts.length) (by rw [List.take_length,nD ts e.1 hin,List.take_length]) h;exact⟨f,hf⟩
def rC(e:bR)(t:aE):ByteArray:=if t.1=3 then t.2.1 else(ofE e t.2.1).getD ByteArray.empty
theorem aGk{e:bR}{t:aE}(h:t.1=1/\t.2.1∈e.1\/t.1=3):rC e t=tP e.1 e.2 t:=by
 unfold rC tP;rcases h with⟨h1,h2⟩|h1
 ·rw [if_neg (by omega),if_pos h1];unfold ofE;rw [if_pos (dA.2 h2)];rfl
 ·rw [if_pos h1,if_neg (by omega)]
theorem pT{r:dC}(h:bG r=0){l:aJ}(hl:l∈r.2.1)(hk:l.1=3):∀t,t=leftOf l\/t=aN l->t.1=1/\t.2.1∈aC r.2.1\/t.1=3:=fun t ht=>by
 unfold bG at h;split at h
 ·rename_i hp;split at h
  ·rename_i hs;unfold cU at hp;unfold jO at hs;rw [Bool.and_eq_true]at hp hs;have h1:=List.all_eq_true.1 hp.2 l hl;have h2:=List.all_eq_true.1 hs.2 l hl;unfold eO at h1;rw [if_neg (by omega),if_pos hk,Bool.and_eq_true]at h1;unfold dX at h2;rw [if_pos hk,Bool.and_eq_true]at h2;have h3:decide (1≤t.1/\t.1≤3)=true:=by
    have h4:=h1.2;unfold kinds at h4;rw [List.all_eq_true]at h4;rcases ht with ht|ht
    ·rw [ht];exact h4 _ (by simp)
    ·rw [ht];exact h4 _ (by simp)
   have h5:=of_decide_eq_true h3;have h6:bY (aC r.2.1) false t=true:=by
    rcases ht with ht|ht
    ·rw [ht];exact h2.1
    ·rw [ht];exact h2.2
   unfold bY at h6;split at h6
   ·cases h6
   ·rename_i h7;rcases of_decide_eq_true h6 with h8|h8|h8
    ·exact .inr h8
    ·omega
    ·by_cases h9:t.1=3
     ·exact .inr h9
     ·exact .inl ⟨by omega,dA.1 h8⟩
  ·cases h
 ·cases h
theorem aIf{r:dC}(h:bG r=0){l:aJ}(hl:l∈r.2.1):l.1=1\/l.1=2\/ (l.1=3/\1≤gS l/\gS l≤4):=by
 unfold bG at h;split at h
 ·rename_i hp;unfold cU at hp;rw [Bool.and_eq_true]at hp;have h1:=List.all_eq_true.1 hp.2 l hl;unfold eO at h1;split at h1
  ·rename_i h2;omega
  ·split at h1
   ·rename_i h3;rw [Bool.and_eq_true]at h1;have:=of_decide_eq_true h1.1;exact .inr (.inr ⟨h3,this⟩)
   ·cases h1
 ·cases h
def wK(e:bR)(R:aD)(l:aJ):Prop:=
 if l.1=2 then ∀x∈R,bP e (aA l) x (aA l).length=none
 else qA (gS l) (rC e (leftOf l)) (rC e (aN l))
theorem wJ{r:dC}(h:bG r=0){l:aJ}(hl:l∈r.2.1)(hk:l.1≠1){e:bR}(he:EnvOk e)(hn:e.1=aC r.2.1){R R':aD}(hR:∀x,x∈R'↔x∈R/\x.length=(aA l).length):wK e R' l↔lY (aC r.2.1) e.2 R l:=by
 unfold wK lY;rw [if_neg hk];by_cases h2:l.1=2
 ·rw [if_pos h2,if_pos h2];have hin:∀t∈aA l,t.1=1->t.2.1∈e.1:=by rw [hn];exact aAj h hl (.inr h2)
  refine⟨fun h3 ⟨x,hx,hxl,hf⟩=>?_,fun h3 x hx=>?_⟩
  ·rw [<-hn]at hf;obtain⟨f,hf'⟩:=(zK he hin).2 hf;rw [h3 x ((hR x).2 ⟨hx,hxl⟩)]at hf';cases hf'
  ·cases hf:bP e (aA l) x (aA l).length with
   |none=>rfl
   |some f=>
    have h4:=(zK he hin).1 ⟨f,hf⟩;obtain⟨h5,h6⟩:=(hR x).1 hx;rw [hn]at h4;exact absurd ⟨x,h5,h6,h4⟩ h3
 ·rw [if_neg h2,if_neg h2];have h3:l.1=3:=by
   rcases aIf h hl with h4|h4|h4
   ·exact absurd h4 hk
   ·exact absurd h4 h2
   ·exact h4.1
  have hs:=pT h hl h3;rw [<-hn]at hs;rw [aGk (hs _ (.inl rfl)),aGk (hs _ (.inr rfl)),hn]
def bL(ts:List aE)(R:aD):aD:=R.filter fun x=>decide (x.length=ts.length)
theorem gB{ts:List aE}{R:aD}(x:List ByteArray):x∈bL ts R↔x∈R/\x.length=ts.length:=by unfold bL;rw [List.mem_filter,decide_eq_true_iff]
def opB(op:Int)(x y:ByteArray):Bool:=if op=1 then decide (x=y)else if op=2 then decide (x≠y)else if op=3 then Op.bytesLess x.toList y.toList else !Op.bytesLess y.toList x.toList
theorem aGv{op:Int}{x y:ByteArray}:opB op x y=true↔qA op x y:=by
 unfold opB qA;split
 ·exact decide_eq_true_iff
 ·split
  ·exact decide_eq_true_iff
  ·split
   ·exact Iff.rfl
   ·rw [Bool.not_eq_true']
def eS(e:bR)(R:aD)(l:aJ):Bool:=if l.1=2 then R.all fun x=>(bP e (aA l) x (aA l).length).isNone else opB (gS l) (rC e (leftOf l)) (rC e (aN l))
theorem lZ{e:bR}{R:aD}{l:aJ}:eS e R l=true↔wK e R l:=by
 unfold eS wK;split
 ·rw [List.all_eq_true];exact⟨fun h x hx=>Option.isNone_iff_eq_none.1 (h x hx),fun h x hx=>Option.isNone_iff_eq_none.2 (h x hx)⟩
 ·exact aGv
def lD(e:bR)(R:Nat->aD):Nat->List aJ->Bool
 |_,[]=>true
 |i,l::ls=>(if l.1=1 then true else eS e (bL (aA l) (R i)) l) && lD e R (i+1) ls
theorem oH{e:bR}{R:Nat->aD}:∀{ls:List aJ} {i:Nat},lD e R i ls=true↔∀(j:Nat) (l:aJ),ls[j]?=some l->l.1≠1->wK e (bL (aA l) (R (i+j))) l
 | [],i=>⟨fun _ j l h=>by simp at h,fun _=>rfl⟩
 |l::ls,i=>by
  unfold lD;rw [Bool.and_eq_true,oH];refine⟨fun⟨h1,h2⟩ j m hm hk=>?_,fun h=>⟨?_,fun j m hm hk=>?_⟩⟩
  ·cases j with
   |zero=>
    cases hm;rw [if_neg hk]at h1;exact lZ.1 h1
   |succ j=>
    have:=h2 j m (by simpa using hm) hk;rw [show i+(j+1)=i+1+j by omega];exact this
  ·split
   ·rfl
   ·rename_i hk;exact lZ.2 (h 0 l rfl hk)
  ·have:=h (j+1) m (by simpa using hm) hk;rw [show i+(j+1)=i+1+j by omega]at this;exact this
def bT(all:List aJ)(R:Nat->aD):List aJ->Nat->bR->aD
 | [],_,e=>if lD e R 0 all then [e.2]else []
 |l::rest,i,e=>if l.1=1 then(bD e (aA l) (bL (aA l) (R i))).flatMap fun q=>bT all R rest (i+1) (bZ e.1 (aA l),q)else bT all R rest (i+1) e
def aG6(r:dC)(R:Nat->aD):aD:=bT r.2.1 R r.2.1 0 ([],[])
theorem mZ{r:dC}(hc:bG r=0)(R:Nat->aD):∀(rest:List aJ) (i:Nat) (e:bR),r.2.1.drop i=rest->i≤r.2.1.length->FromOk r.2.1 R i e->AllB (cP r.2.1 R) e.2 (bT r.2.1 R rest i e)
 | [],i,e,hd,hi,h=>by
  have hil:i=r.2.1.length:=by have:=congrArg List.length hd;rw [List.length_drop]at this;simp at this;omega
  subst hil;obtain⟨hn,hb,hl⟩:=h.last;unfold bT;have hiff:lD e R 0 r.2.1=true↔cP r.2.1 R e.2:=by
   rw [oH,hb];refine⟨fun h1 j l hj hk=>?_,fun h1 j l hj hk=>?_⟩
   ·have h2:=h1 j l hj hk;rw [Nat.zero_add]at h2;exact(wJ hc (List.mem_of_getElem? hj) hk h.ok hn fun x=>gB x).1 h2
   ·rw [Nat.zero_add];exact(wJ hc (List.mem_of_getElem? hj) hk h.ok hn fun x=>gB x).2 (h1 j l hj hk)
  split
  ·rename_i h1;exact AllB.one (hiff.1 h1) hl
  ·rename_i h1;refine AllB.none fun V hV hp=>h1 (hiff.2 ?_);have:V=e.2:=by rw [<-hp,<-hl V hV,List.take_length]
   rw [<-this];exact hV
 |l::rest,i,e,hd,hi,h=>by
  have hl:r.2.1[i]?=some l:=by
   have:(r.2.1.drop i)[0]?=some l:=by rw [hd];rfl
   rw [List.getElem?_drop]at this;exact this
  have hil:=(List.getElem?_eq_some_iff.1 hl).1;have hd2:r.2.1.drop (i+1)=rest:=by have:=congrArg (List.drop 1) hd;rw [List.drop_drop]at this;exact this
  unfold bT;split
  ·rename_i hk;have hnx:bZ e.1 (aA l)=aC (r.2.1.take (i+1)):=by
    rw [h.names,gD hl];unfold bK;rw [if_pos hk]
   rw [hnx];refine aLu h hl hk (R':=bL (aA l) (R i)) (fun x=>gB x) ?_;have key:∀k,k≤(bD e (aA l) (bL (aA l) (R i))).length->PartQ (cP r.2.1 R) e.2 (aC (r.2.1.take (i+1))).length (fun y=>y∈(bD e (aA l) (bL (aA l) (R i))).take k) (((bD e (aA l) (bL (aA l) (R i))).take k).flatMap fun q=>bT r.2.1 R rest (i+1) (aC (r.2.1.take (i+1)),q)):=by
    intro k;induction k with
    |zero=>exact fun _=>PartQ.none.congr fun y=>by simp
    |succ k ih=>
     intro hk2;obtain⟨q,hq⟩:∃q,(bD e (aA l) (bL (aA l) (R i)))[k]?=some q:=⟨_,qG (by omega)⟩;have hf:=(h.each hl hk (fun x=>gB x) (List.mem_of_getElem? hq)).1;have h1:=aJ8 h hl hk (fun x=>gB x) hq (ih (by omega)) (mZ hc R rest (i+1) _ hd2 hil hf);have e1:(bD e (aA l) (bL (aA l) (R i))).take (k+1)=(bD e (aA l) (bL (aA l) (R i))).take k++ [q]:=by rw [List.take_add_one,hq];rfl
     have e2:∀(f:List ByteArray->aD) (a:aD),(a++ [q]).flatMap f=a.flatMap f++f q:=fun f a=>by simp
     rw [e1,e2,<-e1];exact h1
   have h2:=key _ (Nat.le_refl _);rw [List.take_length]at h2;exact h2
  ·rename_i hk;exact mZ hc R rest (i+1) e hd2 hil (h.skip hl hk)
theorem xL{r:dC}(hc:bG r=0)(R:Nat->aD):IsBinds r.2.1 R (aG6 r R):=mZ hc R r.2.1 0 ([],[]) rfl (Nat.zero_le _) (FromOk.start _ _)
end
section
open Go.RowKit Go.Shelf
structure LevelAt(w:World)(b off i:Nat)(W:aD)(d:Nat):Prop where
 ex:∃ka kc fa fc,w.cell? ⟨b,off+i*2,none⟩=some (.slice ka (aO W d i W.length) kc)/\w.cell? ⟨b,off+i*2+1,none⟩=some (.slice fa (aO W d i W.length+1) fc)/\aO W d i W.length≤kc/\
  CellsAt w ka (strs (bV W d i W.length))/\CellsAt w fa (ints (cF W d i W.length++ [(aO W d (i+1) W.length:Int)]))
theorem LevelAt.ext{w w':World}{b off i:Nat}{W:aD}{d:Nat}(h:LevelAt w b off i W d)(hk:Ext w w'):LevelAt w' b off i W d:=by obtain⟨ka,kc,fa,fc,h1,h2,h3,h4,h5⟩:=h.ex;exact⟨ka,kc,fa,fc,hk.cell h1 id,hk.cell h2 id,h3,h4.ext hk,h5.ext hk⟩
structure TrieAt(w:World)(tb:Nat)(W:aD)(d:Nat):Prop where
 ex:∃la lc,w.cell? ⟨tb,0,none⟩=some (.slice la d lc)/\w.cell? ⟨tb,1,none⟩=some (.int .i64 W.length)/\w.cell? ⟨tb,2,none⟩=some (.bool true)/\∀i,i<d->∃b off,la=some ⟨b,off,none⟩/\LevelAt w b off i W d
 few:W.length≤1048576
 dep:d≤1048576
theorem TrieAt.ext{w w':World}{tb:Nat}{W:aD}{d:Nat}(h:TrieAt w tb W d)(hk:Ext w w'):TrieAt w' tb W d:=by obtain⟨⟨la,lc,h1,h2,h3,h4⟩,h5,h6⟩:=h;exact⟨⟨la,lc,hk.cell h1 id,hk.cell h2 id,hk.cell h3 id,fun i hi=>by obtain⟨b,off,e,hl⟩:=h4 i hi;exact⟨b,off,e,hl.ext hk⟩⟩,h5,h6⟩
theorem aHh(tb:Nat)(w:World):(binOp .eql 187 (.pointer (some ⟨tb,0,none⟩)) (.pointer none)).run Tryz.prog w= .ok (.bool false) w:=by kernel_rfl
set_option maxHeartbeats 1000000 in
theorem vP{w:World}{tb:Nat}{W:aD}{d:Nat}(h:TrieAt w tb W d):Calls Tryz.prog 155 #[.pointer (some ⟨tb,0,none⟩)] w (RetN w fun w' v=>v= .bool false):=by have hq:=aHh tb;obtain⟨⟨la,lc,-,-,h3,-⟩,-,-⟩:=h;go_enter Tryz.func155,Tryz.ntmps155;go_wp2;go_ret;exact RetN.mk (Kp.refl _) rfl
set_option maxHeartbeats 1000000 in
theorem zV{w:World}{tb:Nat}{W:aD}{d:Nat}(h:TrieAt w tb W d):Calls Tryz.prog 183 #[.pointer (some ⟨tb,0,none⟩)] w (RetN w fun w' v=>v= .int .i64 d):=by
 have HN:=qH (vP h);have HT:=qH h;clear h;go_enter Tryz.func183,Tryz.ntmps183;go_wp2_with fail
 refine HN.out.mono ?_;rintro e w1 ⟨v,rfl,hk,rfl⟩;obtain⟨⟨la,lc,h1,-,-,-⟩,-,-⟩:=HT.out.ext hk;have HK:=qH hk;clear hk;go_wp2;go_ret;exact RetN.mk HK.out rfl
set_option maxHeartbeats 1000000 in
theorem aGz{w:World}{tb:Nat}{W:aD}{d:Nat}(h:TrieAt w tb W d):Calls Tryz.prog 184 #[.pointer (some ⟨tb,0,none⟩)] w (RetN w fun w' v=>v= .int .i64 W.length):=by
 have HN:=qH (vP h);have HT:=qH h;clear h;go_enter Tryz.func184,Tryz.ntmps184;go_wp2_with fail
 refine HN.out.mono ?_;rintro e w1 ⟨v,rfl,hk,rfl⟩;obtain⟨⟨la,lc,-,h2,-,-⟩,-,-⟩:=HT.out.ext hk;have HK:=qH hk;clear hk;go_wp2;go_ret;exact RetN.mk HK.out rfl
def jL(e:Nat×Nat):List Value:= [.int .i64 e.1,.int .i64 e.2]
theorem iB(e:Nat×Nat):(jL e).length=2:=rfl
structure CurAt(w:World)(cb tb:Nat)(st:List (Nat×Nat))(ov:Value)(M:Nat->Prop):Prop where
 box:Blk w cb [.pointer (some ⟨tb,0,none⟩),ov] 218
 row:Row w 249 2 ov st.length (st.flatMap jL) M
theorem CurAt.ext{w w':World}{cb tb:Nat}{st:List (Nat×Nat)}{ov:Value}{M:Nat->Prop}(h:CurAt w cb tb st ov M)(hk:Ext w w'):CurAt w' cb tb st ov M:=⟨h.box.ext hk,h.row.ext hk⟩
theorem nR(cb:Nat)(w:World):(binOp .eql 188 (.pointer (some ⟨cb,0,none⟩)) (.pointer none)).run Tryz.prog w= .ok (.bool false) w:=by kernel_rfl
theorem uZ{w:World}{e:TypeId}{k:Nat}{v:Value}{n:Nat}{xs:List Value}{M:Nat->Prop}(h:Row w e k v n xs M):∃ao cap,v= .slice ao n cap/\CellsAt w ao xs/\n≤cap/\cap≤maxLen:=by
 obtain⟨h1,⟨rfl,rfl⟩|⟨g,cap,rest,rfl,b,c,d,e,f⟩⟩:=h
 ·have:xs= []:=List.eq_nil_of_length_eq_zero (by simpa using h1);subst this;exact⟨none,0,rfl,CellsAt.nil _ _,Nat.le_refl _,Nat.zero_le _⟩
 ·exact⟨_,cap,rfl,CellsAt.pre c,e,f⟩
set_option maxHeartbeats 1000000 in
theorem lB{w:World}{cb tb:Nat}{st:List (Nat×Nat)}{g c m:Nat}{M:Nat->Prop}(h:CurAt w cb tb st (.slice (some ⟨g,0,none⟩) (m+1) c) M):
 Calls Tryz.prog 185 #[.pointer (some ⟨cb,0,none⟩)] w (RetN w fun w' v=>v= .pointer (some ⟨g,m*2,none⟩)):=by
 have hq:=nR cb;have c1:=h.box.c1;have hmx:m+1≤maxLen:=by obtain⟨a,cc,e,h1,h2,h3⟩:=uZ h.row;rw [Value.slice.injEq]at e;omega
 have hw:IntKind.i64.wrap (m:Int)=(m:Int):=IntWalk.i64_in _ (by unfold maxLen at hmx;omega);have hz:¬((m:Int)+1)=0:=by omega
 clear hmx;clear h;go_enter Tryz.func185,Tryz.ntmps185;go_wp2;go_quiet (fail)
 go_wp2;go_ret;exact RetN.mk ((Kp.refl _).drewN _) rfl
set_option maxHeartbeats 1000000 in
theorem yZ{w:World}{cb tb:Nat}{ao:Option Addr}{c:Nat}{M:Nat->Prop}(h:CurAt w cb tb [] (.slice ao 0 c) M):
 Calls Tryz.prog 185 #[.pointer (some ⟨cb,0,none⟩)] w (RetN w fun w' v=>v= .pointer none):=by
 have hq:=nR cb;have c1:=h.box.c1;clear h;go_enter Tryz.func185,Tryz.ntmps185;go_wp2;go_ret;exact RetN.mk (Kp.refl _) rfl
structure CurIn(w:World)(cb tb:Nat)(st:List (Nat×Nat))(g c m a b:Nat)(M:Nat->Prop):Prop where
 at_:CurAt w cb tb st (.slice (some ⟨g,0,none⟩) (m+1) c) M
 last:st[m]?=some (a,b)
theorem CurIn.len{w:World}{cb tb:Nat}{st:List (Nat×Nat)}{g c m a b:Nat}{M:Nat->Prop}(h:CurIn w cb tb st g c m a b M):st.length=m+1:=by obtain⟨ao,cc,e,h1,h2,h3⟩:=uZ h.at_.row;rw [Value.slice.injEq]at e;omega
theorem CurIn.ext{w w':World}{cb tb:Nat}{st:List (Nat×Nat)}{g c m a b:Nat}{M:Nat->Prop}(h:CurIn w cb tb st g c m a b M)(hk:Ext w w'):CurIn w' cb tb st g c m a b M:=⟨h.at_.ext hk,h.last⟩
theorem yL(st:List (Nat×Nat)){m:Nat}{e:Nat×Nat}(h:st[m]?=some e):(st.flatMap jL)[m*2]?=some (.int .i64 e.1)/\(st.flatMap jL)[m*2+1]?=some (.int .i64 e.2):=by
 induction st generalizing m with
 |nil=>simp at h
 |cons x st ih=>
  cases m with
  |zero=>cases h;exact⟨rfl,rfl⟩
  |succ m=>
   have h2:=ih (by simpa using h);refine⟨?_,?_⟩
   ·rw [List.flatMap_cons,List.getElem?_append_right (by rw [iB];omega),iB,show(m+1)*2-2=m*2 by omega];exact h2.1
   ·rw [List.flatMap_cons,List.getElem?_append_right (by rw [iB];omega),iB,show(m+1)*2+1-2=m*2+1 by omega];exact h2.2
theorem CurIn.cells{w:World}{cb tb:Nat}{st:List (Nat×Nat)}{g c m a b:Nat}{M:Nat->Prop}(h:CurIn w cb tb st g c m a b M):w.cell? ⟨g,m*2,none⟩=some (.int .i64 a)/\w.cell? ⟨g,m*2+1,none⟩=some (.int .i64 b)/\w.frozen? ⟨g,m*2,none⟩=false:=by
 obtain⟨h1,h2⟩:=yL st h.last;obtain⟨_,⟨e1,_⟩|⟨g',cap,rest,e1,hM,hB,h3⟩⟩:=h.at_.row
 ·cases e1
 ·simp only [Value.slice.injEq,Option.some.injEq,Addr.mk.injEq,and_true]at e1;obtain⟨rfl,_⟩:=e1;have l1:=(List.getElem?_eq_some_iff.1 h1).1;have l2:=(List.getElem?_eq_some_iff.1 h2).1;exact⟨by rw [hB.cell',List.getElem?_append_left l1];exact h1,by rw [hB.cell',List.getElem?_append_left l2];exact h2,hB.free _⟩
theorem aL5(a b:Nat):((a:Int)==(b:Int))=decide (a=b):=by
 by_cases h:a=b
 ·subst h;simp
 ·rw [decide_eq_false h];have:¬(a:Int)=b:=by omega
  simp [this]
theorem yM(g o:Nat)(w:World):(binOp .neq 250 (.pointer (some ⟨g,o,none⟩)) (.pointer none)).run Tryz.prog w= .ok (.bool true) w:=by kernel_rfl
theorem lS(g o:Nat)(w:World):(binOp .eql 250 (.pointer (some ⟨g,o,none⟩)) (.pointer none)).run Tryz.prog w= .ok (.bool false) w:=by kernel_rfl
set_option maxHeartbeats 1000000 in
theorem iF{w:World}{cb tb:Nat}{st:List (Nat×Nat)}{g c m a b:Nat}{M:Nat->Prop}(h:CurIn w cb tb st g c m a b M):
 Calls Tryz.prog 181 #[.pointer (some ⟨cb,0,none⟩)] w (RetN w fun w' v=>v= .bool (decide (a=b))):=by
 have HL:=qH (lB h.at_);have HC:=qH h;clear h;go_enter Tryz.func181,Tryz.ntmps181;go_wp2_with fail
 refine HL.out.mono ?_;rintro e w1 ⟨v,rfl,hk,rfl⟩;obtain⟨z0,z1,-⟩:=(HC.out.ext hk).cells;have hq:=yM g (m*2);have HK:=qH hk;clear hk;go_wp2;go_quiet (fail)
 go_wp2;go_ret;exact RetN.mk (HK.out.drewN _) (congrArg Value.bool (aL5 a b))
theorem mH{m:Nat}(h:m≤maxLen):IntKind.i64.wrap (m:Int)=(m:Int):=IntWalk.i64_in _ (by unfold maxLen at h;omega)
theorem CurIn.small{w:World}{cb tb:Nat}{st:List (Nat×Nat)}{g c m a b:Nat}{M:Nat->Prop}(h:CurIn w cb tb st g c m a b M):m≤maxLen:=by obtain⟨ao,cc,e,h1,h2,h3⟩:=uZ h.at_.row;rw [Value.slice.injEq]at e;have:=h.len;omega
set_option maxHeartbeats 1000000 in
theorem aLy{w:World}{cb tb:Nat}{st:List (Nat×Nat)}{g c m a b d:Nat}{W:aD}{M:Nat->Prop}{x:ByteArray}(h:CurIn w cb tb st g c m a b M)(ht:TrieAt w tb W d)(hm:m<d)(hab:a≠b)(hx:(bV W d m W.length)[a]?=some x):
 Calls Tryz.prog 187 #[.pointer (some ⟨cb,0,none⟩)] w (RetN w fun w' v=>v= .string x):=by
 have HL:=qH (lB h.at_);have HE:=qH (fun(W:World) (hW:Ext w W)=>iF (h.ext hW));have HC:=qH h;have HT:=qH ht;have hw:=mH h.small;have hn:=(List.getElem?_eq_some_iff.1 hx).1;rw [fN]at hn;have HX:=qH hx;have hd:decide (a=b)=false:=decide_eq_false hab;rw [hd]at HE;clear h ht hx hab hd;go_enter Tryz.func187,Tryz.ntmps187;go_wp2_with fail
 refine HL.out.mono ?_;rintro e w1 ⟨v,rfl,hk,rfl⟩;have hq:=lS g (m*2);have H1:=qH hk;clear hk;go_wp2_with (go_at_call 181;refine Halted.out ?_)
 refine Halted.mk ((HE.out w1 H1.out).mono ?_);rintro e w2 ⟨v,rfl,hk,rfl⟩;have H2:=qH (H1.out.trans hk);clear hk H1;obtain⟨z0,z1,-⟩:=(HC.out.ext H2.out).cells;have hb:=(HC.out.at_.box.ext H2.out);have c0:=hb.c0;have c1:=hb.c1;obtain⟨⟨la,lc,t0,-,-,hlev⟩,-,-⟩:=HT.out.ext H2.out;obtain⟨bl,ol,ela,hL⟩:=hlev m hm;subst ela;obtain⟨ka,kc,fa,fc,l0,-,-,hk1,-⟩:=hL.ex;obtain⟨kb,ko,eka,k0⟩:=hk1 a (.string x) (by simp [strs,HX.out]);subst eka;generalize aO W d m W.length=nk at*;clear hL hk1 hlev hb z1;go_wp2;go_quiet (fail)
 go_wp2;go_ret;exact RetN.mk (H2.out.drewN _) rfl
theorem aMv{w:World}{e:TypeId}{k:Nat}{g m c n:Nat}{xs:List Value}{M:Nat->Prop}(h:Row w e k (.slice (some ⟨g,0,none⟩) m c) n xs M)(i:Nat)(hi:i<xs.length)(v:Value):Row (w.setCell ⟨g,i,none⟩ v) e k (.slice (some ⟨g,0,none⟩) m c) n (xs.set i v) M:=by
 obtain⟨h1,⟨e1,_⟩|⟨g',cap,rest,e1,hM,hB,h2,h3⟩⟩:=h
 ·cases e1
 ·cases e1;refine⟨by rw [List.length_set];exact h1,.inr ⟨g,c,rest,rfl,hM,?_,by simpa using h2,h3⟩⟩;have:=hB.set i v;rw [List.set_append_left _ _ hi]at this;exact this
theorem aP{w:World}{g:Nat}{cs cs':List Value}{e e':TypeId}(h:Blk w g cs e)(h':Blk w g cs' e'):e=e':=by unfold Blk at h h';rw [h]at h';cases h';rfl
theorem rD:218≠249:=by decide
theorem CurAt.apart{w:World}{cb tb g n c:Nat}{st:List (Nat×Nat)}{M:Nat->Prop}(h:CurAt w cb tb st (.slice (some ⟨g,0,none⟩) n c) M):cb≠g/\M g/\g<w.heap.size:=by
 obtain⟨hb,_,⟨e1,_⟩|⟨g',cap,rest,e1,hM,hB,h3⟩⟩:=h
 ·cases e1
 ·simp only [Value.slice.injEq,Option.some.injEq,Addr.mk.injEq,and_true]at e1;obtain⟨rfl,_⟩:=e1;exact⟨fun e=>by subst e;exact rD (aP hb hB),hM,hB.lt⟩
theorem yK:∀(st:List (Nat×Nat)) (m a b a':Nat),st[m]?=some (a,b)->(st.set m (a',b)).flatMap jL=(st.flatMap jL).set (m*2) (.int .i64 a')
 | [],m,a,b,a',h=>by simp at h
 |x::st,0,a,b,a',h=>by cases h;rfl
 |x::st,m+1,a,b,a',h=>by
  rw [List.set_cons_succ,List.flatMap_cons,List.flatMap_cons,yK st m a b a' (by simpa using h),List.set_append_right _ _ (by rw [iB];omega),iB]
  congr 2
  omega
theorem CurIn.put{w:World}{cb tb:Nat}{st:List (Nat×Nat)}{g c m a b:Nat}{M:Nat->Prop}(h:CurIn w cb tb st g c m a b M)(a':Nat):CurIn (w.setCell ⟨g,m*2,none⟩ (.int .i64 a')) cb tb (st.set m (a',b)) g c m a' b M:=by have hap:=h.at_.apart;have hks:Kp (fun k=>k=g) w (w.setCell ⟨g,m*2,none⟩ (.int .i64 a')):=Kp.setCell (F:=fun k=>k=g) (p:=⟨g,m*2,none⟩) (Kp.refl w) (fun _=>rfl) _;have hml:m<st.length:=(List.getElem?_eq_some_iff.1 h.last).1;refine⟨⟨h.at_.box.kp hks hap.1,?_⟩,by rw [List.getElem?_set_self hml]⟩;rw [yK st m a b a' h.last,List.length_set];exact aMv h.at_.row (m*2) (List.getElem?_eq_some_iff.1 (yL st h.last).1).1 _
set_option maxHeartbeats 1000000 in
theorem aKf{w:World}{cb tb:Nat}{st:List (Nat×Nat)}{g c m a b:Nat}{M:Nat->Prop}(h:CurIn w cb tb st g c m a b M)(hab:a<b)(hb:b≤1048576):
 Calls Tryz.prog 189 #[.pointer (some ⟨cb,0,none⟩)] w (RetF (fun k=>k=g) w fun w' v=>v= .bool (decide (a+1≠b))/\CurIn w' cb tb (st.set m (a+1,b)) g c m (a+1) b M):=by
 have HL:=qH (lB h.at_);have HE:=qH (fun(W:World) (hW:Ext w W)=>iF (h.ext hW));have HC:=qH h;have hd:decide (a=b)=false:=decide_eq_false (by omega);rw [hd]at HE;clear h hd;go_enter Tryz.func189,Tryz.ntmps189;go_wp2_with fail
 refine HL.out.mono ?_;rintro e w1 ⟨v,rfl,hk,rfl⟩;have hq:=lS g (m*2);have H1:=qH hk;clear hk;go_wp2_with (go_at_call 181;refine Halted.out ?_)
 refine Halted.mk ((HE.out w1 H1.out).mono ?_);rintro e w2 ⟨v,rfl,hk,rfl⟩;have H2:=qH (H1.out.trans hk);clear hk H1;obtain⟨z0,-,f0⟩:=(HC.out.ext H2.out).cells;obtain⟨w3,e3⟩:=nm (w2.setCell ⟨g,m*2,none⟩ (.int .i64 ((a:Int)+1)));have hc3:CurIn w3 cb tb (st.set m (a+1,b)) g c m (a+1) b M:=by rw [<-e3];exact(HC.out.ext H2.out).put (a+1)
 have H3:=qH (nIX hc3 (show Kp (fun k=>k=g) w w3 from by rw [<-e3];exact Kp.setCell (F:=fun k=>k=g) (p:=⟨g,m*2,none⟩) (Ext.kp H2.out) (fun _=>rfl) _));have HE3:=qH (iF hc3);clear hc3;go_wp2_with fail
 refine HE3.out.mono ?_;rintro e w4 ⟨v,rfl,hk,rfl⟩;have H4:=qH (nIX (H3.out.1.ext hk) (H3.out.2.ext hk));clear hk e3 z0 f0;by_cases he:a+1=b
 ·rw [decide_eq_true he];have HE5:=qH (show decide (a+1≠b)=false from decide_eq_false fun h=>h he);clear he;go_wp2;go_ret;exact RetF.mk H4.out.2 ⟨by rw [HE5.out];rfl,H4.out.1⟩
 ·rw [decide_eq_false he];have HE5:=qH (show decide (a+1≠b)=true from decide_eq_true he);clear he;go_wp2;go_ret;exact RetF.mk H4.out.2 ⟨by rw [HE5.out];rfl,H4.out.1⟩
theorem CurIn.up{w:World}{cb tb:Nat}{st:List (Nat×Nat)}{g c m a b:Nat}{M:Nat->Prop}(h:CurIn w cb tb st g c m a b M):CurAt (w.setCell ⟨cb,1,none⟩ (.slice (some ⟨g,0,none⟩) m c)) cb tb (st.take m) (.slice (some ⟨g,0,none⟩) m c) M:=by
 have hap:=h.at_.apart;have hks:Kp (fun k=>k=cb) w (w.setCell ⟨cb,1,none⟩ (.slice (some ⟨g,0,none⟩) m c)):=kSa;have hl:=h.len;refine⟨?_,?_⟩
 ·have:=h.at_.box.set 1 (.slice (some ⟨g,0,none⟩) m c);exact this
 ·have hr:Row w 249 2 (.slice (some ⟨g,0,none⟩) m c) (st.take m).length ((st.take m).flatMap jL) M:=by
   have et:(st.take m).length=m:=by rw [List.length_take];omega
   rw [et];obtain⟨h1,⟨e1,_⟩|⟨g',cap,rest,e1,hM,hB,h2,h3,h4⟩⟩:=h.at_.row
   ·cases e1
   ·simp only [Value.slice.injEq,Option.some.injEq,Addr.mk.injEq,and_true]at e1;obtain⟨rfl,e2,rfl⟩:=e1;have es:st.flatMap jL=(st.take m).flatMap jL++(st.drop m).flatMap jL:=by rw [<-List.flatMap_append,List.take_append_drop]
    rw [es,List.append_assoc]at hB;rw [es]at h2;have hfl:∀l:List (Nat×Nat),(l.flatMap jL).length=l.length*2:=fun l=>by
     induction l with
     |nil=>rfl
     |cons x l ih=>rw [List.flatMap_cons,List.length_append,iB,ih,List.length_cons];omega
    refine⟨by rw [hfl,et],.inr ⟨g,c,_,rfl,hM,hB,?_,by omega,h4⟩⟩;rw [List.length_append]at h2 ⊢;rw [List.length_append,<-Nat.add_assoc];rw [List.length_append]at h2;omega
  exact hr.kp' hks fun g' hg _ e=>by have e3:some g=some g':=hg;exact hap.1 (e.symm.trans (Option.some.inj e3).symm)
set_option maxHeartbeats 1000000 in
theorem aMs{w:World}{cb tb:Nat}{st:List (Nat×Nat)}{g c m a b:Nat}{M:Nat->Prop}(h:CurIn w cb tb st g c m a b M):
 Calls Tryz.prog 159 #[.pointer (some ⟨cb,0,none⟩)] w (RetF (fun k=>k=cb) w fun w' v=>v= .bool true/\CurAt w' cb tb (st.take m) (.slice (some ⟨g,0,none⟩) m c) M):=by
 have HL:=qH (lB h.at_);have HC:=qH h;have hw:=mH h.small;obtain⟨hmc,hcm⟩:m≤c/\c≤maxLen:=by obtain⟨ao,cc,e,h1,h2,h3⟩:=uZ h.at_.row;rw [Value.slice.injEq]at e;have:=h.len;omega
 clear h;go_enter Tryz.func159,Tryz.ntmps159;go_wp2_with fail
 refine HL.out.mono ?_;rintro e w1 ⟨v,rfl,hk,rfl⟩;have hq:=lS g (m*2);have H1:=qH hk;have hb:=HC.out.at_.box.ext hk;have c1:=hb.c1;have f1:=hb.free 1;clear hb hk;go_wp2;go_still_tail 14,(by kernel_rfl)
 go_wp2;go_ret;exact RetF.mk ((Kp.setCell (F:=fun k=>k=cb) (p:=⟨cb,1,none⟩) (Ext.kp H1.out) (fun _=>rfl) _).drew) ⟨rfl,(HC.out.ext H1.out).up.ext ((Kp.refl _).drew)⟩
set_option maxHeartbeats 1000000 in
theorem aJv{w:World}{tb:Nat}{W:aD}{d:Nat}(h:TrieAt w tb W d):Calls Tryz.prog 122 #[.pointer (some ⟨tb,0,none⟩)] w (RetN w fun w' v=>∃cb,v= .pointer (some ⟨cb,0,none⟩)/\w.heap.size≤cb/\CurAt w' cb tb [] (.slice none 0 0) (fun k=>w.heap.size≤k)):=by
 have HN:=qH (vP h);clear h;go_enter Tryz.func122,Tryz.ntmps122;go_wp2_with fail
 refine HN.out.mono ?_;rintro e w1 ⟨v,rfl,hk,rfl⟩;have HK:=qH hk;clear hk;go_wp2;go_ret;exact RetN.mk (HK.out.alloc _) ⟨_,rfl,HK.out.size,Blk.new w1 _ _,Row.nil _ _ _ _⟩
def aLl(K:List ByteArray)(t:ByteArray)(a b:Nat)(w0:World)(lv sv:Value)(w:World):Prop:=∃low:Nat,a≤low/\low≤b/\lv= .int .i64 low/\sv= .int .i64 (low-a+1:Nat)/\Hid (∀x,a<low->K[low-1]?=some x->aZ x.toList t.toList<0)/\Hid (Ext w0 w)
def iJ(K:List ByteArray)(t:ByteArray)(a b p:Nat):Prop:=a≤p/\p≤b/\(∀x,a<p->K[p-1]?=some x->aZ x.toList t.toList<0)/\∀x,p<b->K[p]?=some x->0≤aZ x.toList t.toList
theorem fQ{K:List ByteArray}{low mm j:Nat}(hj:j<mm-low):((K.drop low).take (mm-low))[j]?=K[low+j]?:=by rw [List.getElem?_take_of_lt hj,List.getElem?_drop]
theorem wR{K:List ByteArray}{t:ByteArray}{a b low mm n:Nat}(h1:a≤low)(h2:low≤mm)(h3:mm≤b)(hbe:∀x,a<low->K[low-1]?=some x->aZ x.toList t.toList<0)(hmm:mm=b\/ (low<mm/\∃x,K[mm-1]?=some x/\0≤aZ x.toList t.toList))
 (hn:n≤mm-low)(hs1:∀x,0<n->((K.drop low).take (mm-low))[n-1]?=some x->aZ x.toList t.toList<0)(hs2:∀x,((K.drop low).take (mm-low))[n]?=some x->0≤aZ x.toList t.toList):iJ K t a b (low+n):=by
 refine⟨by omega,by omega,fun x hx he=>?_,fun x hx he=>?_⟩
 ·by_cases h0:0<n
  ·refine hs1 x h0 ?_;rw [fQ (by omega),show low+(n-1)=low+n-1 by omega];exact he
  ·have:n=0:=by omega
   subst this;exact hbe x (by omega) (by rw [Nat.add_zero]at he;exact he)
 ·by_cases hlt:n<mm-low
  ·exact hs2 x (by rw [fQ hlt];exact he)
  ·rcases hmm with h|⟨h,y,hy,hy2⟩
   ·omega
   ·have h4:=hs1 y (by omega) (by rw [fQ (by omega),show low+(n-1)=mm-1 by omega];exact hy);omega
set_option maxHeartbeats 4000000 in
theorem aHp{w:World}{tb:Nat}{W:aD}{d i a b:Nat}(t:ByteArray)(h:TrieAt w tb W d)(hi:i<d)(hab:a<b)(hb:b≤aO W d i W.length):
 Calls Tryz.prog 204 #[.pointer (some ⟨tb,0,none⟩),.int .i64 i,.agg #[.int .i64 a,.int .i64 b],.string t] w (RetN w fun w' v=>∃p:Nat,v= .int .i64 p/\iJ (bV W d i W.length) t a b p):=by
 have hwl:=dM W d i W.length;have hbig:b≤1048576:=by have:=h.few;unfold aO at hb;omega
 obtain⟨⟨la,lc,t0,-,-,hlev⟩,-,-⟩:=h;obtain⟨bl,ol,ela,hL⟩:=hlev i hi;subst ela;obtain⟨ka,kc,fa,fc,l0,-,hkc,hk1,-⟩:=hL.ex;obtain⟨nk,enk⟩:=nm (aO W d i W.length);have hkl:(bV W d i W.length).length=nk:=by rw [fN,enk]
 rw [enk]at l0 hkc hb;obtain⟨K,eK⟩:=nm (bV W d i W.length);rw [eK]at hk1 hkl ⊢;have HK:=qH (nIX hk1 hkl);clear hk1 hkl eK enk hlev hL hwl;obtain⟨kb,ko,eka⟩:∃kb ko,ka=some ⟨kb,ko,none⟩:=by obtain⟨x,hx⟩:∃x,K[0]?=some x:=⟨_,qG (by have:=HK.out.2;omega)⟩;obtain⟨kb,ko,e,-⟩:=HK.out.1 0 (.string x) (by simp [strs,hx]);exact⟨kb,ko,e⟩
 subst eka;go_enter Tryz.func204,Tryz.ntmps204;obtain⟨w1,e1⟩:=nm (w.alloc (.cells #[.int .i64 a,.int .i64 b] 249));obtain⟨g0,eg0⟩:=nm w.heap.size;have hB:=bNX eg0 e1;have hx1:Ext w w1:=xAX e1;have s0:w1.cell? ⟨g0,0,none⟩=some (.int .i64 a):=by rw [hB.cell'];rfl
 have s1:w1.cell? ⟨g0,1,none⟩=some (.int .i64 b):=by rw [hB.cell'];rfl
 have t0':=hx1.cell t0 id;have l0':=hx1.cell l0 id;have H1:=qH (nIX hx1 hB);clear hx1 hB t0 l0;go_wp2
 go_step3
 go_wp2
 go_step3
 go_wp2;clear e1 eg0 t0' l0';go_loopw [10,11] (fun lv sv wr=>aLl K t a b w1 lv sv wr) (fun lv _ _=>b- (intOf lv).toNat)
 case atStart=>exact⟨a,Nat.le_refl _,Nat.le_of_lt hab,rfl,by rw [Nat.sub_self];rfl,qH fun x hx=>by omega,qH (Kp.refl _)⟩
 case round=>
  clear s0 s1;obtain⟨low,hlo,hhi,rfl,rfl,hbe,hex⟩:=hrel;have hb2:=H1.out.2.ext hex.out;have s1:wr.cell? ⟨g0,1,none⟩=some (.int .i64 b):=by rw [hb2.cell'];rfl
  obtain⟨st,est⟩:=nm (low-a+1);rw [est];have hst1:1≤st:=by omega
  clear hb2;by_cases hlt:low+st≤b
  ·obtain⟨x,hx⟩:∃x,K[low+st-1]?=some x:=⟨_,qG (by have:=HK.out.2;omega)⟩;obtain⟨kb',ko',eka,k0⟩:=HK.out.1 (low+st-1) (.string x) (by simp [strs,hx]);cases eka;replace k0:=hex.out.cell (H1.out.1.cell k0 id) id;by_cases hc:Op.bytesLess x.toList t.toList=true
   ·have HX:=qH (nIX hx (dY.2 hc));clear hx;go_wp2;go_roundw
    case rel=>exact⟨low+st,by omega,hlt,nMX,nMX,qH fun y _ hy=>by rw [HX.out.1]at hy;cases hy;exact HX.out.2,hex⟩
    case measure=>simp [intOf];omega
   ·rw [Bool.not_eq_true]at hc;have HX:=qH (nIX hx (show 0≤aZ x.toList t.toList from Int.not_lt.1 fun h=>by rw [dY,hc]at h;cases h));clear hx;have HS:=qH (fun(cp:Nat)=>mS ((K.drop low).take ((low+st)-low)) t (some ⟨kb,ko+low,none⟩) ((low+st)-low) cp wr (by have:=HK.out.2;simp;omega) (fun j u hu=>by
     obtain⟨v,hv,ev⟩:=List.mem_map.1 (List.mem_of_getElem? hu);have hu2:=hu;unfold strs at hu2;rw [List.getElem?_map]at hu2;have hj':j< (low+st)-low:=by
      rcases Nat.lt_or_ge j ((low+st)-low)with h|h
      ·exact h
      ·rw [List.getElem?_eq_none (by simp;omega)]at hu2;cases hu2
     rw [fQ hj']at hu2;obtain⟨kb',ko',ek,hc2⟩:=HK.out.1 (low+j) u (by unfold strs;rw [List.getElem?_map];exact hu2);cases ek;exact⟨kb,ko+low,rfl,by rw [Nat.add_assoc];exact hex.out.cell (H1.out.1.cell hc2 id) id⟩) (by omega))
    have HB:=qH hbe.out;clear hbe;go_wp2_with (go_at_call 210;refine Halted.out ?_)
    clear hc k0;rw [show(low+st-low)=st by omega]at HS;try rw [show(min ((low:Int)+(st:Int)) (b:Int)).toNat-low=st by omega]
    refine Halted.mk ((HS.out _).mono ?_);rintro e w2 ⟨v,rfl,hk2,n,bb,rfl,hn,hs1,hs2⟩;have HFin:=qH (show iJ K t a b (low+n)from wR (mm:=low+st) hlo (by omega) hlt HB.out (.inr ⟨by omega,x,HX.out.1,HX.out.2⟩) (by omega) (by rw [show(low+st-low)=st by omega];exact hs1) (by rw [show(low+st-low)=st by omega];exact hs2));have HX2:=qH (H1.out.1.trans (hex.out.trans hk2));clear hs1 hs2 hk2;go_wp2;go_ret;exact RetN.mk HX2.out ⟨low+n,rfl,HFin.out⟩
  ·have HB:=qH hbe.out;have HS:=qH (fun(cp:Nat)=>mS ((K.drop low).take (b-low)) t (some ⟨kb,ko+low,none⟩) (b-low) cp wr (by have:=HK.out.2;simp;omega) (fun j u hu=>by
    obtain⟨v,hv,ev⟩:=List.mem_map.1 (List.mem_of_getElem? hu);have hu2:=hu;unfold strs at hu2;rw [List.getElem?_map]at hu2;have hj':j<b-low:=by
     rcases Nat.lt_or_ge j (b-low)with h|h
     ·exact h
     ·rw [List.getElem?_eq_none (by simp;omega)]at hu2;cases hu2
    rw [fQ hj']at hu2;obtain⟨kb',ko',ek,hc2⟩:=HK.out.1 (low+j) u (by unfold strs;rw [List.getElem?_map];exact hu2);cases ek;exact⟨kb,ko+low,rfl,by rw [Nat.add_assoc];exact hex.out.cell (H1.out.1.cell hc2 id) id⟩) (by omega))
   clear hbe;by_cases hlk:low<kc
   ·go_wp2_with (go_at_call 210;refine Halted.out ?_)
    try rw [show(min ((low:Int)+(st:Int)) (b:Int)).toNat-low=b-low by omega]
    refine Halted.mk ((HS.out _).mono ?_);rintro e w2 ⟨v,rfl,hk2,n,bb,rfl,hn,hs1,hs2⟩;have HFin:=qH (show iJ K t a b (low+n)from wR (mm:=b) hlo hhi (Nat.le_refl _) HB.out (.inl rfl) hn hs1 hs2);have HX2:=qH (H1.out.1.trans (hex.out.trans hk2));clear hs1 hs2 hk2;go_wp2;go_ret;exact RetN.mk HX2.out ⟨low+n,rfl,HFin.out⟩
   ·have elb:low=b:=by omega
    subst elb;rw [Nat.sub_self]at HS;have HS2:=qH (mS [] t (some ⟨kb,ko,none⟩) 0 0 wr rfl (CellsAt.nil _ _) (by omega));go_wp2_with (go_at_call 210;refine Halted.out ?_)
    try rw [show(min ((low:Int)+(st:Int)) (low:Int)).toNat-low=0 by omega]
    refine Halted.mk ((HS2.out).mono ?_);rintro e w2 ⟨v,rfl,hk2,n,bb,rfl,hn,hs1,hs2⟩;have hn0:n=0:=by omega
    subst hn0;have HFin:=qH (show iJ K t a low (low+0)from wR (mm:=low) hlo (Nat.le_refl _) (Nat.le_refl _) HB.out (.inl rfl) (Nat.zero_le _) (fun x h=>by omega) (fun x h=>by rw [Nat.sub_self,List.take_zero]at h;simp at h));have HX2:=qH (H1.out.1.trans (hex.out.trans hk2));clear hs1 hs2 hk2;go_wp2;go_ret;exact RetN.mk HX2.out ⟨low+0,rfl,HFin.out⟩
set_option maxHeartbeats 4000000 in
theorem aI6{w:World}{cb tb:Nat}{st:List (Nat×Nat)}{g c m a b d:Nat}{W:aD}{M:Nat->Prop}(t:ByteArray)(h:CurIn w cb tb st g c m a b M)(ht:TrieAt w tb W d)(hm:m<d)(hab:a<b)(hb:b≤aO W d m W.length):
 Calls Tryz.prog 188 #[.pointer (some ⟨cb,0,none⟩),.string t] w (RetF (fun k=>k=g) w fun w' v=>∃p:Nat,iJ (bV W d m W.length) t a b p/\v= .bool (decide (p≠b))/\CurIn w' cb tb (st.set m (p,b)) g c m p b M):=by
 have HL:=qH (lB h.at_);have HE:=qH (fun(W:World) (hW:Ext w W)=>iF (h.ext hW));have HSk:=qH (fun(W':World) (hW:Ext w W')=>aHp t (ht.ext hW) hm hab hb);have HC:=qH h;have hw:=mH h.small;have hd:decide (a=b)=false:=decide_eq_false (by omega);rw [hd]at HE;clear h hd ht;go_enter Tryz.func188,Tryz.ntmps188;go_wp2_with fail
 refine HL.out.mono ?_;rintro e w1 ⟨v,rfl,hk,rfl⟩;have hq:=lS g (m*2);have H1:=qH hk;clear hk;go_wp2_with (go_at_call 181;refine Halted.out ?_)
 refine Halted.mk ((HE.out w1 H1.out).mono ?_);rintro e w2 ⟨v,rfl,hk,rfl⟩;have H2:=qH (H1.out.trans hk);clear hk H1;have HJ:=qH (show ∀w',Ext w2 w'->(fun w':World=>w'.cell? ⟨cb,0,none⟩=some (.pointer (some ⟨tb,0,none⟩))/\w'.cell? ⟨cb,1,none⟩=some (.slice (some ⟨g,0,none⟩) (m+1) c)/\w'.cell? ⟨g,m*2,none⟩=some (.int .i64 a)/\w'.cell? ⟨g,m*2+1,none⟩=some (.int .i64 b)/\w'.frozen? ⟨g,m*2,none⟩=false) w' from fun w' hw'=>by have hc:=HC.out.ext (H2.out.trans hw');obtain⟨z0,z1,f0⟩:=hc.cells;exact⟨by rw [hc.at_.box.cell'];rfl,by rw [hc.at_.box.cell'];rfl,z0,z1,f0⟩);go_wp2;refine aY (fun w':World=>w'.cell? ⟨cb,0,none⟩=some (.pointer (some ⟨tb,0,none⟩))/\w'.cell? ⟨cb,1,none⟩=some (.slice (some ⟨g,0,none⟩) (m+1) c)/\w'.cell? ⟨g,m*2,none⟩=some (.int .i64 a)/\w'.cell? ⟨g,m*2+1,none⟩=some (.int .i64 b)/\w'.frozen? ⟨g,m*2,none⟩=false) [18] (by kernel_rfl) (HJ.out _ (Kp.refl w2).drew) (fun hHeld=>?_);refine eFX 0 ?_;refine eFX 1 ?_;refine eFX 2 ?_;refine eFX 3 ?_;refine eIX 4 ?_;refine eFX 5 ?_;refine eFX 6 ?_;refine eFX 7 ?_;refine eIX 8 ?_;refine eIX 9 ?_;refine eFX 10 ?_;refine eFX 11 ?_;refine eFX 12 ?_;refine eIX 13 ?_;refine eFX 14 ?_;refine eTX 15 fun K hK=>?_;go_simp
 (refine(HSk.out _ (H2.out.trans ((Kp.refl w2).drew))).mono ?_;rintro e w3 ⟨v,rfl,hk3,p,rfl,hp⟩;have X3:=qH (show Ext w2 w3 from((Kp.refl w2).drew).trans hk3);have HP:=qH hp;clear hk3 hp)
 go_wp2_with fail
 refine hK.out _ _ (HJ.out _ X3.out) fun hHeld=>?_;clear hK K;refine eFX 16 ?_;refine eFX 17 ?_;refine eLX 18 fun K hK=>?_;go_simp;refine hK.out _ _ ?_;clear hK K;refine aL (by kernel_rfl) ?_ _;clear hHeld hw;obtain⟨w4,e4⟩:=nm (w3.setCell ⟨g,m*2,none⟩ (.int .i64 p));have hc4:CurIn w4 cb tb (st.set m (p,b)) g c m p b M:=by rw [<-e4];exact(HC.out.ext (H2.out.trans X3.out)).put p
 have H4:=qH (nIX hc4 (show Kp (fun k=>k=g) w w4 from by rw [<-e4];exact Kp.setCell (F:=fun k=>k=g) (p:=⟨g,m*2,none⟩) (Ext.kp (H2.out.trans X3.out)) (fun _=>rfl) _));have HE4:=qH (iF hc4);rw [e4];clear hc4 e4;go_wp2_with fail
 refine HE4.out.mono ?_;rintro e w5 ⟨v,rfl,hk,rfl⟩;have H5:=qH (nIX (H4.out.1.ext hk) (H4.out.2.ext hk));clear hk;by_cases he:p=b
 ·rw [decide_eq_true he];have HE5:=qH (show decide (p≠b)=false from decide_eq_false fun h=>h he);clear he;go_wp2;go_ret;exact RetF.mk H5.out.2 ⟨p,HP.out,by rw [HE5.out];rfl,H5.out.1⟩
 ·rw [decide_eq_false he];have HE5:=qH (show decide (p≠b)=true from decide_eq_true he);clear he;go_wp2;go_ret;exact RetF.mk H5.out.2 ⟨p,HP.out,by rw [HE5.out];rfl,H5.out.1⟩
end
end Go.Proofs.YtinnmeiphbdogaaGreat
