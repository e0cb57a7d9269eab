/- Texts joined for a claim (Each, JoinHead, HeadWalk, FactsAux, FactsPlain, FactsRound, Facts, JoinSmall, JColl, JEach, JRefHead, JLent, RowSame, BaseAdd, BaseAdd2, BaseDecl, BaseFrom, JGiven, RefC, JBase, JKept, JSpoil, RowDrop, BaseDrop, JGot). -/
import Derived.Test.YtinnmeiphbdogaaGreatJv6
import Derived.Laws.Concat
set_option linter.unusedVariables false
set_option linter.unusedSimpArgs false
set_option maxRecDepth 100000
namespace Go.Proofs.YtinnmeiphbdogaaGreat
section
open Go.RowKit Go.Shelf
attribute [local go_sem] Oper.semAt_some
theorem oJ:cL Tryz.prog 64 29 1 8 (.pointer none):=⟨by kernel_rfl,by kernel_rfl,rfl,by decide⟩
theorem aLw(n:Nat)(hn:n≤1048576)(w:World):Calls Tryz.prog 131 #[.int .u64 (1:Nat),.int .u64 (n:Nat)] w fun e w'=>e= .returned (.tuple #[.int .u64 0,.int .u64 (n:Nat)])/\w'=w:=by
 refine(Tryz.bits_Mul 1 n (by omega) (by omega) w).mono ?_;rintro e w' ⟨rfl,rfl⟩;have h1:1*n/18446744073709551616=0:=Nat.div_eq_of_lt (by omega);have h2:1*n % 18446744073709551616=n:=by rw [Nat.one_mul];exact Nat.mod_eq_of_lt (by omega)
 rw [h1,h2];exact⟨rfl,rfl⟩
def aLf(w0:World)(g n:Nat)(bv:Value)(kv:Value)(W:World):Prop:=∃k:Nat,k≤n/\(n=0\/0<k)/\kv= .int .i64 k/\Hid (Ext w0 W)/\Hid (Blk W g (List.replicate k bv++List.replicate (n-k) (.pointer none)) 29)
set_option maxHeartbeats 2000000 in
theorem aEs{w:World}{o:Option Addr}{xa:Option Addr}{xc n:Nat}(hx:CellsAt w xa [.pointer o])(hn:n≤1048576):
 Calls Tryz.prog 92 #[.slice xa 1 xc,.int .i64 n] w (RetN w fun w' v=>∃ao cap,v= .slice ao n cap/\CellsAt w' ao (List.replicate n (.pointer o))):=by
 have HX:=qH hx;have hm:=aLw n hn w;have HMu:=qH hm;have hmk:=jT (P:=Tryz.prog) oJ (c:= .pointer none) rfl n (by omega) (by unfold maxLen;omega) w;rw [Nat.mul_one]at hmk;obtain⟨g,eg⟩:=nm w.heap.size;obtain⟨w1,e1⟩:=nm (w.alloc (.cells (Array.replicate n (.pointer none)) 29));have hB1:Blk w1 g (List.replicate n (.pointer none)) 29:=by have h:=Blk.new w (List.replicate n (.pointer none)) 29;rw [List.toArray_replicate,e1,eg]at h;exact h
 have x1:Ext w w1:=xAX e1;obtain⟨w2,hrun,hk2,hB2⟩:=oD (P:=Tryz.prog) oJ hB1 (off:=0) (dp:=some ⟨g,0,none⟩) (dLen:=n) (dCap:=n) (sp:=xa) (sLen:=1) (sCap:=xc) (cs:=List.replicate (Nat.min 1 n) (.pointer o)) (by simp) (fun _=>rfl) (fun j u hu=>by
  have hj:=(List.getElem?_eq_some_iff.1 hu).1;rw [List.length_replicate]at hj;have hj1:j<1:=Nat.lt_of_lt_of_le hj (Nat.min_le_left _ _);rw [List.getElem?_replicate,if_pos hj]at hu;obtain rfl:j=0:=by omega
  exact(hx.ext x1) 0 u (by cases hu;rfl)) (by simp [List.length_replicate];exact Nat.min_le_right _ _) (fun u hu=>by rw [List.eq_of_mem_replicate hu];rfl)
 have n0:¬(n:Int)<0:=by omega
 have n1:¬(9223372036854775807:Int)< (n:Int):=by omega
 have hlen:(List.replicate (Nat.min 1 n) (Value.pointer o)).length=Nat.min 1 n:=List.length_replicate;obtain⟨k0,ek0⟩:=nm (Nat.min 1 n);rw [ek0]at hrun hB2 hlen;rw [hlen]at hrun;have hk0:k0≤n/\(n=0\/0<k0)/\(n=0->k0=0)/\(0<n->k0=1):=by rw [<-ek0];simp only [Nat.min_def];split<;>omega
 have hB2':Blk w2 g (List.replicate k0 (.pointer o)++List.replicate (n-k0) (.pointer none)) 29:=by
  have e:splice (List.replicate n (Value.pointer none)) 0 (List.replicate k0 (Value.pointer o))=List.replicate k0 (.pointer o)++List.replicate (n-k0) (.pointer none):=by unfold splice;simp
  rw [e]at hB2;exact hB2
 have HP:=qH (show aLf w g n (.pointer o) (.int .i64 k0) w2 from⟨k0,hk0.1,hk0.2.1,rfl,qH (x1.trans' hk2 fun i hi e=>by have e':i=g:=e;omega),qH hB2'⟩);have hg:goInt (k0:Nat)= .int .i64 (k0:Nat):=rfl;rw [hg]at hrun;have HEG:=qH eg;clear hx hB1 x1 hk2 hB2 hB2' hm hlen ek0 hk0 hg;go_enter Tryz.func92,Tryz.ntmps92;go_wp2_with fail
 refine HMu.out.mono ?_;rintro e w' ⟨rfl,rfl⟩;go_wp2;go_loopw [8] (fun kv wk=>aLf w' g n (.pointer o) kv wk) (fun kv _=>n- (intOf kv).toNat)
 case atStart=>exact HP.out
 case round=>
  clear HP hrun;obtain⟨k,hk,hk0,rfl,hex,hb⟩:=hrel;by_cases hlt:k<n
  ·have hkp:0<k:=by omega
   obtain⟨j,ej⟩:=nm (Nat.min k (n-k));have hj1:j≤k:=by rw [<-ej];exact Nat.min_le_left _ _
   have hj2:j≤n-k:=by rw [<-ej];exact Nat.min_le_right _ _
   have hj3:0<j:=by rw [<-ej];simp only [Nat.min_def];split<;>omega
   obtain⟨W2,hrun2,hk3,hB3⟩:=oD (P:=Tryz.prog) oJ (hb.out.drew) (off:=k) (dp:=some ⟨g,k,none⟩) (dLen:=n-k) (dCap:=n-k) (sp:=some ⟨g,0,none⟩) (sLen:=k) (sCap:=n) (cs:=List.replicate j (.pointer o)) (by rw [List.length_replicate,ej]) (fun _=>rfl) (fun i u hu=>by have hi:=(List.getElem?_eq_some_iff.1 hu).1;rw [List.length_replicate]at hi;rw [List.getElem?_replicate,if_pos hi]at hu;refine⟨g,0,rfl,?_⟩;rw [hb.out.drew.cell',Nat.zero_add,List.getElem?_append_left (by rw [List.length_replicate];omega),List.getElem?_replicate,if_pos (by omega)];exact hu) (by simp;omega) (fun u hu=>by rw [List.eq_of_mem_replicate hu];rfl);rw [List.length_replicate]at hrun2;have hg:goInt (j:Nat)= .int .i64 (j:Nat):=rfl;rw [hg]at hrun2;have HNX:=qH (show aLf w' g n (.pointer o) (.int .i64 ((k:Int)+(j:Int))) W2 from by
    refine⟨k+j,by omega,.inr (by omega),by congr 1,qH (hex.out.trans' ((Ext.kp (Kp.refl wr).drew).trans hk3) fun i hi e=>?_),qH ?_⟩
    ·have e':i=g:=e;have:=HEG.out;omega
    ·have e:splice (List.replicate k (.pointer o)++List.replicate (n-k) (Value.pointer none)) k (List.replicate j (.pointer o))=List.replicate (k+j) (.pointer o)++List.replicate (n- (k+j)) (.pointer none):=by
      unfold splice;rw [List.take_append_of_le_length (by simp),List.take_of_length_le (by simp),List.length_replicate,List.drop_append,List.drop_of_length_le (by simp),List.length_replicate,List.drop_replicate,List.nil_append,<-List.append_assoc,List.replicate_append_replicate]
      congr 2
      omega
     rw [e]at hB3;exact hB3)
   have k1:(k:Int)< (n:Int):=by omega
   have k2:(k:Int)≤(n:Int):=by omega
   have k3:¬n=k:=by omega
   have rk:(n:Int)-k=((n-k:Nat):Int):=by omega
   have HJ:=qH (nIX hj1 (nIX hj2 hj3));clear hex hb hk3 hB3 hg hk0 hk ej;go_wp2;refine aY (fun _:World=>True) [] (by kernel_rfl) trivial (fun hHeld=>?_);refine eFX 0 ?_;refine eFX 1 ?_;refine eFX 2 ?_;refine eIX 3 ?_;refine eFX 4 ?_;refine eFX 5 ?_;refine eIX 6 ?_;refine eTX 7 fun K hK=>?_;go_simp;refine hK.out _ _ (by first|done|trivial) fun hHeld=>?_;clear hK K;refine eFX 8 ?_;refine eFX 9 ?_;refine aL (by kernel_rfl) ?_ _;clear hHeld;have hw:IntKind.i64.wrap ((k:Int)+(j:Int))=(k:Int)+(j:Int):=IntWalk.i64_in _ (by have:=HJ.out;omega);go_wp2;try rw [hw]
   go_roundw
   case rel=>exact HNX.out
   case measure=>have:=HJ.out;simp [intOf];omega
  ·obtain rfl:n=k:=by omega
   have hB2:=hb.out;rw [Nat.sub_self,List.replicate_zero,List.append_nil]at hB2;have HR:=qH (show Ext w' wr/\CellsAt wr (some ⟨g,0,none⟩) (List.replicate n (.pointer o))from⟨hex.out,CellsAt.pre (rest:= []) (by rw [List.append_nil];exact hB2)⟩);clear hex hb hB2 hk0 hk hlt;go_wp2;go_ret;exact RetN.mk HR.out.1 ⟨_,_,rfl,HR.out.2⟩
def aAu(ls:List aJ)(E:List Ent)(j:Nat):List Ent:=if j<ls.length then E else []
set_option maxHeartbeats 2000000 in
theorem aK3{S:Nat->Prop}{w:World}{p:ByteArray}{hs:List aE}{ls:List aJ}{ha ba:Option Addr}{hn hcap n bcap:Nat}{G:Nat->Prop}{o:Option Addr}{E:List Ent}{L:aD}(hhn:hn=hs.length)(hh:aR w G ha hs)(hhl:hn≤1048576)(hbn:n=ls.length)(h:cD w G ba ls)(hf:Fit ls)(hnv:(aC ls).length≤1048576)(hn16:n≤1048576)
 (hB:BaseV S w (.pointer o) E)(hL:mD ((p,hs,()),ls,()) (cE (aAu ls E) ls) L):
 Calls Tryz.prog 46 #[dS p ha hn hcap ba n bcap,.pointer o] w (RetN w fun w' v=>aGi w w' L v):=by
 have HOv:=qH (fun W (hW:Ext w W) (bsa:Option Addr) (bsc:Nat) (hbs:CellsAt W bsa (List.replicate n (.pointer o)))=>aCn (w:=W) (p:=p) (hs:=hs) (ls:=ls) (ha:=ha) (ba:=ba) (bsa:=bsa) (hn:=hn) (hcap:=hcap) (n:=n) (bcap:=bcap) (nb:=n) (bsc:=bsc) (G:=G) (bvs:=List.replicate n (.pointer o)) (Es:=aAu ls E) (L:=L) hhn (hh.ext hW) hhl hbn (h.ext hW) hf hnv hn16 (by rw [List.length_replicate]) hbs (fun j=>by
  unfold aAu;by_cases hj:j<n
  ·rw [List.getD_eq_getElem?_getD,List.getElem?_replicate,if_pos hj,if_pos (by omega)];exact⟨S,hB.ext hW⟩
  ·rw [List.getD_eq_getElem?_getD,List.getElem?_replicate,if_neg hj,if_neg (by omega)];exact⟨fun _=>False,BaseV.nil⟩) hL)
 have HN:=qH hn16;obtain⟨gb,egb⟩:=nm w.heap.size;obtain⟨w1,e1⟩:=nm (w.alloc (.cells #[.string p,.slice ha hn hcap,.slice ba n bcap] 27));have x1:Ext w w1:=xAX e1;have hB1:=bNX egb e1;have H1:=qH x1;have HJ:=qH (show ∀w',Ext w1 w'->(fun w':World=>w'.cell? ⟨gb,0,none⟩=some (.string p)/\w'.cell? ⟨gb,1,none⟩=some (.slice ha hn hcap)/\w'.cell? ⟨gb,2,none⟩=some (.slice ba n bcap)) w' from fun w' hw'=>⟨by rw [(hB1.ext hw').cell'];rfl,by rw [(hB1.ext hw').cell'];rfl,by rw [(hB1.ext hw').cell'];rfl⟩);clear hhn hh hhl hbn h hf hnv hB hL x1 hB1;go_enter Tryz.func46,Tryz.ntmps46;go_wp2;clear e1 egb;refine aY (fun w':World=>w'.cell? ⟨gb,0,none⟩=some (.string p)/\w'.cell? ⟨gb,1,none⟩=some (.slice ha hn hcap)/\w'.cell? ⟨gb,2,none⟩=some (.slice ba n bcap)) [7,8] (by kernel_rfl) (HJ.out _ (Kp.refl w1).drew) (fun hHeld=>?_);refine eIX 0 ?_;refine eFX 1 ?_;refine eFX 3 ?_;refine eIX 4 ?_;refine eIX 5 ?_;refine eTX 2 fun K hK=>?_;go_simp;refine hK.out _ _ (HJ.out _ (((Kp.refl w1).drew).alloc _)) fun hHeld=>?_;clear hK K;refine eTX 6 fun K hK=>?_;go_simp
 (refine(aEs (o:=o) (CellsAt.one w1.drew (.pointer o) 29) HN.out).mono ?_;rintro e w4 ⟨v4,rfl,hk4,ao,cap,rfl,hcs⟩;have X1:=qH (nIX (show Ext w1 w4 from(((Kp.refl w1).drew).alloc _).trans hk4) hcs);clear hk4 hcs)
 go_wp2_with fail
 refine hK.out _ _ (HJ.out _ X1.out.1) fun hHeld=>?_;clear hK K;refine eLX 7 fun K hK=>?_;go_simp
 (refine(HOv.out w4 (H1.out.trans X1.out.1) ao cap X1.out.2).mono ?_;rintro e w5 ⟨v5,rfl,hk5,hbd⟩;have X2:=qH (nIX hk5 hbd);clear hk5 hbd)
 go_wp2_with fail
 refine hK.out _ _ ?_;clear hK K;refine eLX 8 fun K hK=>?_;go_simp;refine hK.out _ _ ?_;clear hK K;refine aL (by kernel_rfl) ?_ _;clear hHeld;go_wp2;go_ret;have hx4:Ext w w4:=H1.out.trans X1.out.1;obtain⟨xb,lo,hlo,ev,hseq⟩:=X2.out.2;exact RetN.mk (hx4.trans X2.out.1) ⟨xb,lo,Nat.le_trans hx4.size hlo,ev,hseq⟩
end
section
end
section
open Go.RowKit Go.Shelf
attribute [local go_sem] Oper.semAt_some
end
section
end
section
open Go.RowKit Go.Shelf
attribute [local go_sem] Oper.semAt_some
structure FactsAt(w X:World)(gb b7 rb:Nat)(cs:List Value):Prop where
 rule:Blk X gb cs 27
 r4:Blk X (gb+1) [.pointer none] 88
 r5:Blk X (gb+1+1) [.int .i64 0] 41
 rows:Blk X b7 [.pointer (some ⟨rb,0,none⟩)] 88
 ext:Ext w X
 lt:gb+1+1<b7
theorem GvRow.put(T:Nat->Prop)(W1 W2:World)(x:XB)(l:Nat)(r o:Obj)(h:GvRow W1 T W2 x)(hr:W2.heap[l]?=some r)(hc:r.isCells=false):GvRow (W1.putObj l o) T (W2.putObj l o) x:=by
 refine⟨h.1,?_⟩;rcases h.2 with h2|⟨g,rest,h1,h2,h3,h4⟩
 ·exact .inl h2
 ·refine .inr ⟨g,rest,h1,h2.kp (F:=fun k=>k=l) (Kp.putF (F:=fun k=>k=l) rfl _) (fun e=>?_),by rw [size_put];exact h3,h4⟩;have e':g=l:=e;unfold Blk at h2;rw [e',hr]at h2;cases h2;cases hc
theorem GvRow.cells{W1 W2:World}{T:Nat->Prop}{xa:Option Addr}{xn xc:Nat}{V:List ByteArray}(h:GvRow W1 T W2 ((xa,xn,xc),V)):(xn=V.length/\xc=V.length)/\CellsAt W2 xa (strs V):=by
 obtain⟨h1,h2⟩:=h;have h1':(xn,xc)=(V.length,V.length):=h1;refine⟨⟨congrArg Prod.fst h1',congrArg Prod.snd h1'⟩,?_⟩;rcases h2 with⟨e,e2⟩|⟨g,rest,e,hb,_⟩
 ·have e2':V= []:=e2;rw [e2'];exact CellsAt.nil _ _
 ·have e':xa=some ⟨g,0,none⟩:=e;rw [e'];exact CellsAt.pre hb
end
section
theorem aFl{x:List ByteArray}{i:Nat}(h:bI x=true):(bF x i).size≤4096:=by
 unfold bF;rw [List.getD_eq_getElem?_getD];cases hx:x[i]? with
 |none=>show ByteArray.empty.size≤4096;exact Nat.zero_le _
 |some s=>
  unfold bI at h;exact of_decide_eq_true (List.all_eq_true.1 h s (List.mem_of_getElem? hx))
theorem aF6{ls:List aJ}{R:Nat->aD}{V:List ByteArray}(hV:cP ls R V)(hR:∀j x,x∈R j->bI x=true):∀s∈V,s.size≤4096:=fun s hs=>by
 obtain⟨v,hv⟩:=List.mem_iff_getElem?.1 hs;have hvl:=(List.getElem?_eq_some_iff.1 hv).1;rw [hV.1]at hvl;obtain⟨l,hl,h1,hva⟩:=nC hvl;obtain⟨j,hj⟩:=List.mem_iff_getElem?.1 hl;have hh:=hV.2 j l hj;unfold lY at hh;rw [if_pos h1]at hh;obtain⟨x,hx,-,hf⟩:=hh;obtain⟨hvn,i,t,hi,ht,he⟩:=dQ.1 hva;obtain⟨v',hv',e'⟩:=(hf i t hi).2 ht;have hv0:(aC ls)[v]?=some (bF (aC ls) v):=by unfold bF;rw [List.getD_eq_getElem?_getD,qG hvn];rfl
 rw [he]at hv';have:v=v':=(List.getElem?_inj hvn (dK ls)).1 (hv0.trans hv'.symm);subst this;rw [hv]at e';cases e';exact aFl (hR j x hx)
def jV(V:List ByteArray):ByteArray:=V.foldl (fun s x=>s++x++⟨#[59]⟩) ⟨#[]⟩
theorem aFh(V:List ByteArray)(x:ByteArray):jV (V++ [x])=jV V++x++⟨#[59]⟩:=by unfold jV;rw [List.foldl_append];rfl
theorem wG{V:List ByteArray}{i:Nat}{x:ByteArray}(h:V[i]?=some x):jV (V.take (i+1))=jV (V.take i)++x++⟨#[59]⟩:=by rw [List.take_add_one,h];exact aFh _ _
theorem aC5{V:List ByteArray}(h:∀s∈V,s.size≤4096)(i:Nat):(jV (V.take i)).size≤i*4097:=by
 induction i with
 |zero=>exact Nat.zero_le _
 |succ i ih=>
  rw [Nat.succ_mul];generalize i*4097=m at ih ⊢;cases hx:V[i]? with
  |none=>
   rw [List.take_add_one,hx,Option.toList_none,List.append_nil];exact Nat.le_trans ih (Nat.le_add_right _ _)
  |some x=>
   have h2:=h x (List.mem_of_getElem? hx);rw [wG hx,ByteArray.size_append,ByteArray.size_append,show(⟨#[59]⟩:ByteArray).size=1 from rfl];omega
end
section
open Go.RowKit Go.Shelf
attribute [local go_sem] Oper.semAt_some
def ListI(w8:World)(b:Nat)(f:List XB->List ByteArray)(T:Nat->Prop)(pre:List XB)(W:World):Prop:=
 Kp (fun k=>k=b) w8 W/\(∀k,T k->w8.heap.size≤k)/\∃v,Blk W b [v] 34/\Row W 9 1 v (f pre).length (strs (f pre)) (fun g=>w8.heap.size≤g/\¬T g)
section
variable {w8 W1 W:World}{b:Nat}{f:List XB->List ByteArray}{T T':Nat->Prop}{pre:List XB}
theorem ListI.step(h:ListI w8 b f T pre W1)(hb:b<w8.heap.size)(hk:Kp T W1 W)(hT:∀k,T' k->xP T W1 W k):ListI w8 b f T' pre W:=by
 obtain⟨h1,h2,v,h3,h4⟩:=h;have hs1:=h1.size;refine⟨h1.trans' hk fun i hi hf=>absurd (h2 i hf) (by omega),fun k hk'=>?_,v,h3.kp hk fun hf=>by have:=h2 b hf;omega,?_⟩
 ·rcases hT k hk' with h|h
  ·exact h2 k h
  ·omega
 ·have h5:=h4.kp' hk fun g hg hM hf=>hM.2 hf;obtain⟨q1,q2|⟨g,cap,rest,a,hM,c,d⟩⟩:=h4
  ·obtain⟨q3,q4⟩:=q2;exact⟨q1,.inl ⟨q3,q4⟩⟩
  ·obtain⟨r1,⟨r2,_⟩|⟨g',cap',rest',a',hM',c',d'⟩⟩:=h5
   ·rw [a]at r2;cases r2
   ·have hgg:g'=g:=by rw [a]at a';cases a';rfl
    refine⟨r1,.inr ⟨g',cap',rest',a',⟨hM'.1,fun ht=>?_⟩,c',d'⟩⟩;rcases hT g' ht with h|h
    ·exact hM'.2 h
    ·have:=c.lt;omega
theorem ListI.put(h:ListI w8 b f T pre W)(hb:b<w8.heap.size){l:Nat}{o o':Obj}(hl:w8.heap.size≤l)(ho:W.heap[l]?=some o)(hc:o.isCells=false):ListI w8 b f T pre (W.putObj l o'):=by obtain⟨h1,h2,v,h3,h4⟩:=h;have hk:Kp (fun k=>k=l) W (W.putObj l o'):=Kp.putF (F:=fun k=>k=l) rfl _;refine⟨h1.trans' hk fun i hi hf=>by have e:i=l:=hf;omega,h2,v,h3.kp hk fun e=>by have e':b=l:=e;omega,h4.kp' hk fun g hg _ e=>?_⟩;obtain⟨cs,hb'⟩:=aQ h4 hg;have e':g=l:=e;unfold Blk at hb';rw [e',ho]at hb';cases hb';cases hc
theorem ListI.start(h:Blk w8 b [.slice none 0 0] 34)(hf:f []= []):ListI w8 b f (fun _=>False) [] w8:=
 ⟨Kp.refl _,fun k h=>h.elim,_,h,by rw [hf];exact Row.nil _ _ _ _⟩
theorem ListI.round{v v':Value}{X:World}{x:XB}{s:ByteArray}{Z:Nat->Prop}(h:ListI w8 b f T pre W)(hb:b<w8.heap.size)(hTlt:∀k,T k->k<W.heap.size)(hZ:∀k,Z k->b<k/\k<w8.heap.size)(hv:Blk W b [v] 34)(hk:Kp (fun k=>k=b\/v.ownBlock=some k) W X)(hB:Blk X b [v'] 34)(hr:Row X 9 1 v' ((f pre).length+1) (strs (f pre++ [s])) (fun g=>v.ownBlock=some g\/W.heap.size≤g))(hf:f (pre++ [x])=f pre++ [s]):
 KeepsFrom w8.heap.size W X/\Kp (fun k=>¬fI Z T k) W X/\ListI w8 b f T (pre++ [x]) X:=by
 obtain⟨h1,h2,v0,h3,h4⟩:=h;have e0:v0=v:=by unfold Blk at h3 hv;rw [h3]at hv;cases hv;rfl
 subst e0;have hsz:=h1.size;have hno:∀k,(k=b\/v0.ownBlock=some k)->¬T k/\(k=b\/w8.heap.size≤k):=fun k hk=>by
  rcases hk with h|h
  ·exact⟨fun ht=>by have:=h2 k ht;omega,.inl h⟩
  ·exact⟨(h4.block k h).2,.inr (h4.block k h).1⟩
 refine⟨⟨hk.size,fun k o hB2 hk2 ho=>(hk.block k (lt_of_block hk2) fun hf=>?_).trans hk2⟩,hk.mono fun k hk2 hf hz=>?_,h1.trans' hk fun k hk2 hf=>?_,h2,v',hB,?_⟩
 ·rcases hf with e|e
  ·unfold Blk at h3;rw [e,h3]at hk2;cases hk2;cases ho
  ·obtain⟨cs,hb'⟩:=aQ h4 e;unfold Blk at hb';rw [hb']at hk2;cases hk2;cases ho
 ·rcases hz with hz|hz
  ·exact(hno k hf).1 hz
  ·have:=hZ k hz;rcases(hno k hf).2 with h|h<;>omega
 ·rcases(hno k hf).2 with h|h
  ·exact h
  ·omega
 ·rw [hf,List.length_append,List.length_singleton];refine hr.mono fun g hg=>?_;rcases hg with hg|hg
  ·exact h4.block g hg
  ·exact⟨by omega,fun ht=>by have:=hTlt g ht;omega⟩
end
def tC(pre:List XB):List ByteArray:=pre.map fun x=>jV x.2
noncomputable def aDq:Code:=((Tryz.f18.body.bind cG).getD .skip)
theorem lit31(t:Array Value)(h:t.size=31):∃u:Nat->Value,(∀i,t.getD i undef=u i)/\t=#[u 0,u 1,u 2,u 3,u 4,u 5,u 6,u 7,u 8,u 9,u 10,u 11,u 12,u 13,u 14,u 15,u 16,u 17,u 18,u 19,u 20,u 21,u 22,u 23,u 24,u 25,u 26,u 27,u 28,u 29,u 30]:=by refine⟨fun i=>t.toList.getD i undef,fun i=>by simp [Array.getD_eq_getD_getElem?,List.getD_eq_getElem?_getD],?_⟩;apply Array.ext';have:=kY t.toList 31 (by simpa using h);exact this
def aNa(X:World)(V:List ByteArray)(n:Nat)(sv iv:Value)(W:World):Prop:=∃i:Nat,i≤n/\iv= .int .i64 i/\sv= .string (jV (V.take i))/\Hid (Ext X W)
set_option maxHeartbeats 4000000 in
theorem aFz{X:World}{b5 n l:Nat}{xa:Option Addr}{xc:Nat}{V ss:List ByteArray}{v:Value}{M:Nat->Prop}{t:Array Value}{Qn:World->Prop}
 (h5:Blk X b5 [v] 34)(hr:Row X 9 1 v n (strs ss) M)(hn:n≤1048576*1048576)(hV:CellsAt X xa (strs V))(hVl:V.length≤1048576)(hVs:∀s∈V,s.size≤4096)
 (hz:t.size=31)(t5:t.getD 5 undef= .pointer (some ⟨b5,0,none⟩))(t6:t.getD 6 undef= .slice xa V.length xc)
 (hQn:∀X',Kp (fun k=>k=b5\/v.ownBlock=some k) X X'->(∃v',Blk X' b5 [v'] 34/\Row X' 9 1 v' (n+1) (strs (ss++ [jV V])) (fun g=>v.ownBlock=some g\/X.heap.size≤g))->Qn X'):
 aDq.wpIn (Fence.wide.inRound l) 2 Tryz.prog (gT Qn fun _=>False) {tmps:=t,defers:= []} X:=by
 obtain⟨u,hu,rfl⟩:=lit31 t hz;have e5:=(hu 5).symm.trans t5;have e6:=(hu 6).symm.trans t6;rw [e5,e6];clear hz t5 t6 e5 e6 hu;obtain⟨oa,oc,ev,_,_⟩:=hr.shape;subst ev;have HQ:=qH hQn;have H0:=qH (nIX h5 hr);have HV:=qH (nIX hV hVs);obtain⟨m,em⟩:=nm V.length;rw [em]at hVl ⊢;have HM:=qH em;clear hQn h5 hr hV hVs em;conv=>arg 4;whnf
 gi_wp2;gi_loopw [7,8] (fun sv iv wr=>aNa X V m sv iv wr) (fun _ iv _=>m- (intOf iv).toNat)
 case atStart=>exact⟨0,Nat.zero_le _,rfl,rfl,qH (Kp.refl _)⟩
 case round=>
  obtain⟨i,hi,rfl,rfl,hex⟩:=hrel;by_cases hlt:i<m
  ·obtain⟨x,hx⟩:∃x,V[i]?=some x:=⟨_,qG (by rw [HM.out];exact hlt)⟩;obtain⟨xb,xo,exa,xc0⟩:=(HV.out.1.ext hex.out) i (.string x) (by simp [strs,hx]);subst exa;have HX:=qH (wG hx);have hs1:=aC5 HV.out.2 i;have hs2:=HV.out.2 x (List.mem_of_getElem? hx);obtain⟨sa,esa⟩:=nm (jV (V.take i));rw [esa]at HX hs1 ⊢;have hadd1:(Op.stringOp .add sa x).run Tryz.prog wr= .ok (.string (sa++x)) wr:=run_string_add_sum _ _ _ (by omega);have hadd2:(Op.stringOp .add (sa++x) ⟨#[59]⟩).run Tryz.prog wr= .ok (.string (sa++x++⟨#[59]⟩)) wr:=run_string_add_sum _ _ _ (by rw [ByteArray.size_append];have h3:(⟨#[59]⟩:ByteArray).size=1:=rfl;omega);have i1:(i:Int)< (m:Int):=by omega
   clear hx hs1 hs2 esa;gi_wp2;go_roundw
   case rel=>exact⟨i+1,by omega,nMX,by rw [HX.out],hex⟩
   case measure=>simp [intOf];omega
  ·obtain rfl:i=m:=by omega
   have hall:V.take i=V:=List.take_of_length_le (by rw [HM.out];exact Nat.le_refl _);rw [hall];obtain⟨s,es⟩:=nm (jV V);rw [es]at HQ ⊢;have b0:=(H0.out.1.ext hex.out).c0;gi_wp2_with (first|(gi_at_builtin;refine Halted.out ?_))
   refine Halted.mk (uI fF rfl _ _ rfl (F:=fun k=>(Value.slice oa n oc).ownBlock=some k) (w0:=X) (M:=fun g=>(Value.slice oa n oc).ownBlock=some g\/X.heap.size≤g) ((Ext.kp hex.out).alloc _) (fun g hg hlt2=>by rcases hg with hg|hg;exact hg;omega) (fun g hg=> .inr (by have:=hex.out.size;have h2:(wr.alloc _).heap.size≤g:=hg;rw [aI]at h2;omega)) rfl (((H0.out.2.ext hex.out).alloc _).own.mono fun g hg=> .inl hg) rfl (by rfl) (CellsAt.one wr (.string s) 9) (by simp [Value.oneCell']) (by omega) (by unfold maxLen;omega) ?_);intro v6 w6 hr6 hk6 hk6b _ _;have hB6:Blk w6 b5 [.slice oa n oc] 34:=((H0.out.1.ext hex.out).alloc _).kp hk6b fun hg=>by obtain⟨cs,hb⟩:=aQ (H0.out.2.ext hex.out) hg;exact absurd (aP hb (H0.out.1.ext hex.out)) (by decide)
   have c6:=hB6.c0;have f6:=hB6.free 0;obtain⟨la,lcap,elv,_,_⟩:=hr6.shape;subst elv;have H6:=qH (nIX hr6 (nIX hk6 hB6));clear hr6 hk6 hk6b hB6 b0;gi_wp2;have ks:Kp (fun k=>k=b5) w6 (w6.setCell ⟨b5,0,none⟩ (.slice la (n+1) lcap)):=kSa;refine HQ.out _ ((H6.out.2.1.mono fun k _ h=>Or.inr h).trans (ks.mono fun k _ h=>Or.inl h)) ⟨_,H6.out.2.2.set 0 _,?_⟩;have e:strs (ss++ [s])=strs ss++ [.string s]:=by simp [strs]
   rw [e];refine H6.out.1.kp' ks fun g hg _ e2=>?_;obtain⟨cs,hb⟩:=aQ H6.out.1 hg;rw [show g=b5 from e2]at hb;exact absurd (aP hb H6.out.2.2) (by decide)
theorem aF8{S:Nat->Prop}{w:World}{v:Value}{E:List Ent}(hB:BaseV S w v E)(s:ByteArray):∀x∈gR (bS E s),bI x=true:=fun x hx=>by
 have hok:=hB.ok;cases he:bS E s with
 |none=>rw [he]at hx;simp [gR]at hx
 |some e=>
  rw [he]at hx;exact(hok.all _ (List.mem_map.2 ⟨e,(cJ he).1,rfl⟩)).txt x hx
theorem aDv{r:dC}{Es:Nat->List Ent}{L:aD}(hL:mD r (cE Es r.2.1) L)(hT:∀j x,x∈cE Es r.2.1 j->bI x=true):∀V∈L,bG r=0/\V.length=(aC r.2.1).length/\∀s∈V,s.size≤4096:=fun V hV=>by
 by_cases hc:bG r=0
 ·have hb:=((hL.1 hc).iff V).1 hV;exact⟨hc,hb.1,aF6 hb hT⟩
 ·rw [hL.2 hc]at hV;simp at hV
theorem aH4{S:Nat->Prop}{w:World}{v:Value}{E:List Ent}{ls:List aJ}(hB:BaseV S w v E):∀j x,x∈cE (aAu ls E) ls j->bI x=true:=fun j x hx=>by
 unfold cE aAu at hx;split at hx
 ·exact aF8 hB _ x hx
 ·simp [bS,gR]at hx
theorem aK2{w W:World}{P:World->Value->Prop}{tmps:Array Value}{ds:List Deferred}{lo:Nat}{v:Value}(hm:Marks lo W ds)(hk:Ext w W)(hlo:w.heap.size≤lo)(h4:tmps.getD 4 undef=v)
 (hP:∀w',Ext w w'->Kp (fun k=>lo≤k/\¬gH W k) W w'->P w' v):
 bodyPostM Fence.wide 4 Tryz.prog Tryz.f18 (RetN w P) .ret {tmps:=tmps,defers:=ds} W:=by
 refine fD hm fun w' e1 e2 e3 e4 e5 e6=>?_;have kx:Kp (fun k=>lo≤k/\¬gH W k) W w':=⟨e1,e2,e3,by omega,fun k hk hf=>by
  by_cases h:lo≤k
  ·by_cases h2:∃o:Obj,W.heap[k]?=some o/\o.isCells=true
   ·obtain⟨o,h2,h3⟩:=h2;rw [h2];exact e6 k o h2 h3
   ·exact absurd ⟨h,h2⟩ hf
  ·exact e5 k (by omega)⟩
 have hx:Ext w w':=hk.trans' kx fun i hi h=>absurd h.1 (by omega);refine⟨v,?_,RetN.mk hx (hP w' hx kx)⟩;have h4':tmps[4]?.getD undef=v:=by simpa using h4
 simp [results,Tryz.f18,go_sem,h4']
set_option maxHeartbeats 4000000 in
theorem aF0{S:Nat->Prop}{w:World}{p:ByteArray}{hs:List aE}{ls:List aJ}{ha ba:Option Addr}{hn hcap n bcap:Nat}{G:Nat->Prop}{o:Option Addr}{E:List Ent}{L:aD}(hhn:hn=hs.length)(hh:aR w G ha hs)(hhl:hn≤1048576)(hbn:n=ls.length)(h:cD w G ba ls)(hf:Fit ls)(hnv:(aC ls).length≤1048576)(hn16:n≤1048576)
 (hB:BaseV S w (.pointer o) E)(hL:mD ((p,hs,()),ls,()) (cE (aAu ls E) ls) L)(hLn:L.length≤1048576*1048576):
 Calls Tryz.prog 18 #[dS p ha hn hcap ba n bcap,.pointer o] w (RetN w fun w' v=>Row w' 9 1 v L.length (strs (L.map jV)) (New w)):=by
 have HEa:=qH (fun W (hW:Ext w W)=>aK3 (hcap:=hcap) (bcap:=bcap) (p:=p) hhn (hh.ext hW) hhl hbn (h.ext hW) hf hnv hn16 (hB.ext hW) hL);have HK:=qH (aDv hL (aH4 hB));have HN:=qH (nIX hnv hLn);obtain⟨gb,egb⟩:=nm w.heap.size;obtain⟨w1,e1⟩:=nm (w.alloc (.cells #[.string p,.slice ha hn hcap,.slice ba n bcap] 27));obtain⟨w2,e2⟩:=nm (w1.alloc (.cells #[.slice none 0 0] 34));have s1:w1.heap.size=gb+1:=by rw [<-e1,aI,egb]
 have x1:Ext w w1:=xAX e1;have x2:Ext w1 w2:=xAX e2;have H2:=qH (show Blk w2 gb [.string p,.slice ha hn hcap,.slice ba n bcap] 27/\Blk w2 (gb+1) [.slice none 0 0] 34/\Ext w w2 from
  ⟨Blk.ext (by have h:=Blk.new w [.string p,.slice ha hn hcap,.slice ba n bcap] 27;rw [egb]at h;rw [<-e1];exact h) x2,by have h:=Blk.new w1 [.slice none 0 0] 34;rw [s1]at h;rw [<-e2];exact h,x1.trans x2⟩)
 have r0:=H2.out.1.c0;have r1:=H2.out.1.c1;have r2:=H2.out.1.c2;have HG:=qH egb;clear hhn hh hhl hbn h hf hnv hn16 hB hL x1 x2 hLn;refine callsIn_wide.1 (callsIn_of_wp_marks (n:=4) Tryz.func18 rfl trivial ?_ rfl);refine wpIn_wide.2 ?_;obtain⟨Q,eQ⟩:∃Q,Q=bodyPostM Fence.wide 4 Tryz.prog Tryz.f18 (RetN w fun w' v=>Row w' 9 1 v L.length (strs (L.map jV)) (New w)):=⟨_,rfl⟩;rw [<-eQ];have EQ:=qH eQ;clear eQ;simp only [Tryz.ntmps18,List.size_toArray,List.length_cons,List.length_nil,Nat.reduceAdd,Nat.reduceSub,Array.replicate_succ,Array.replicate_zero,List.push_toArray,List.append_toArray,List.nil_append,List.cons_append];go_wp2_with fail
 clear e1 e2 egb s1;refine(HEa.out w2 H2.out.2.2).mono ?_;rintro e w8 ⟨v8,rfl,hk8,xb,lo,hlo,rfl,hseq⟩;have HS:=qH (show pP Fence.wide 3 Tryz.prog 82 #[.pointer (some ⟨xb,0,none⟩)] (fun x:XB=>#[.slice x.1.1 x.1.2.1 x.1.2.2]) (fun k=>lo≤k/\k<w8.heap.size) GvRow (fun xs=>xs.map Prod.snd=L) (fun pre=>pre.map Prod.snd<+:L) w8 from hseq 3);have H8:=qH (show Blk w8 (gb+1) [.slice none 0 0] 34/\Ext w w8/\gb+1<lo from⟨H2.out.2.1.ext hk8,H2.out.2.2.trans hk8,Nat.lt_of_lt_of_le H2.out.2.1.lt hlo⟩);clear hseq hk8 hlo r0 r1 r2;go_wp2_with fail
 have hb8:gb+1<w8.heap.size:=H8.out.1.lt;refine' wpIn_wide.1 (iI (F:=Fence.wide) (n:=4) (w0:=w8) rfl (by omega) (gf:=82) (lb:=#[.pointer (some ⟨xb,0,none⟩)]) rfl trivial (enters_of Tryz.func82 (by kernel_rfl) rfl)
  HS.out (Kp.refl _) (fun k h=>h.2) (fun _=>rfl) GvRow.put (ListI w8 (gb+1) tC) (fun _ _ _ _=>False)
  (fun T s W l o o' h _ hl ho hc=>h.put hb8 hl ho hc) (fun c T s W l o o' h _ hl ho hc=>h.elim)
  (fun W o h=>h.step hb8 ((Kp.refl W).alloc o) (fun k hk=>hk.elim)) (ListI.start H8.out.1 rfl) _ ?assign ?body ?done ?stop)
 case assign=>
  intro l x W K hK;gi_wp2;exact hK
 case body=>
  rintro l T T' pre ⟨⟨xa,xn,xc⟩,V⟩ W1 W hI hT hk hsub hgv hpre;have hI2:=hI.step hb8 hk hsub;have hTlt:∀k,T' k->k<W.heap.size:=fun k hk'=>by
   rcases hsub k hk' with h|h
   ·exact Nat.lt_of_lt_of_le (hT k h) hk.size
   ·exact h.2
  obtain⟨hx1,hxc⟩:=hgv.cells;have hxn:xn=V.length:=hx1.1;have hxc2:xc=V.length:=hx1.2;subst hxn hxc2;have hmem:V∈L:=hpre.subset (by rw [List.map_append];exact List.mem_append_right _ (List.mem_singleton.2 rfl));have hpl:pre.length<L.length:=by have h:=hpre.length_le;rw [List.length_map,List.length_append,List.length_singleton]at h;omega
  obtain⟨hc0,hVl,hVs⟩:=HK.out V hmem;have hN1:=HN.out.1;have hN2:=HN.out.2;have hVl':V.length=(aC ls).length:=hVl;obtain⟨v,hv,hrv⟩:=hI2.2.2;have hel:(tC pre).length=pre.length:=by unfold tC;rw [List.length_map]
  rw [hel]at hrv;refine wpIn_mono (Q:=gT (fun X'=>KeepsFrom w8.heap.size W X'/\Kp (fun k=>¬fI (fun k=>lo≤k/\k<w8.heap.size) T' k) W X'/\ListI w8 (gb+1) tC T' (pre++ [((xa,V.length,V.length),V)]) X') (fun _=>False)) ?_ ?_
  ·show Code.wpIn _ _ _ aDq _ _ _;refine aFz (v:=v) (ss:=tC pre) (V:=V) hv hrv (by omega) hxc (by omega) hVs rfl rfl rfl ?_;rintro X' hk' ⟨v',hv',hr'⟩;exact hI2.round hb8 hTlt (fun k hk=>⟨by have:=H8.out.2.2;have:=hk.1;omega,hk.2⟩) hv hk' hv' (by rw [hel];exact hr') (by unfold tC;rw [List.map_append];rfl)
  ·intro e a W' h;cases e<;>first|exact h|exact h.elim
 case done=>
  rintro D T xs W1 W hD hxs hI hT hk hd;have hI2:=hI.step (T':=fun _=>False) hb8 hk (fun k hk'=>hk'.elim);obtain⟨kX,hTge,v,hv,hrv⟩:=hI2;have hxs':tC xs=L.map jV:=by have h:xs.map Prod.snd=L:=hxs;unfold tC;rw [<-h,List.map_map];rfl
  rw [hxs',List.length_map]at hrv;have hm1:Marks w8.heap.size W [{target:= .collected D,args:=#[]}]:=Marks.push (Marks.nil w8.heap.size w8) (fun k o h ho=>(kX.block k (lt_of_block h) (fun e=>by have e':k=gb+1:=e;have h8:=H8.out.1;unfold Blk at h8;rw [e',h8]at h;cases h;cases ho)).trans h) hD hD hd;have v7:=hv.c0;obtain⟨la,lc,ev,_,_⟩:=hrv.shape;subst ev;have HZ:=qH (nIX hm1 (nIX hrv kX));clear hxs' hm1 hrv kX hTge hI hT hk hd hD hxs hv;go_wp2_with fail
  obtain⟨hm1,hrv,kX⟩:=HZ.out;have hx8:=H8.out.2.1.size;have hgl:=HG.out;rw [EQ.out];refine aK2 (lo:=w8.heap.size) hm1 (H8.out.2.1.trans' kX fun i hi hf=>by have e:i=gb+1:=hf;omega) hx8 rfl fun w' hx' kx=>?_;refine(hrv.kp' kx fun g hg hM hf=>?_).mono fun g hg=>Nat.le_trans hx8 hg.1;obtain⟨cs,hb⟩:=aQ hrv hg;exact hf.2 ⟨_,hb,rfl⟩
 case stop=>
  rintro D c T pre W1 W hD hpre hX hT hk hd;exact hX.elim
def aLe(w0:World)(ss tt:List ByteArray)(n:Nat)(iv:Value)(w:World):Prop:=∃i:Nat,i≤n/\iv= .int .i64 i/\Hid (Ext w0 w)/\Hid (ss.take i=tt.take i)
set_option maxHeartbeats 1000000 in
theorem uT(ss tt:List ByteArray)(ao bo:Option Addr)(n m acap bcap:Nat)(w:World)(hn:n=ss.length)(hm:m=tt.length)(ha:CellsAt w ao (strs ss))(hb:CellsAt w bo (strs tt))(hl:n≤4611686018427387904):
 Calls Tryz.prog 17 #[.slice ao n acap,.slice bo m bcap] w (RetN w fun w' v=>v= .bool (decide (ss=tt))):=by
 have HN:=qH (nIX hn hm);have HA:=qH ha;have HB:=qH hb;clear hn hm ha hb;by_cases hnm:n=m
 ·subst hnm;have q1:((n:Int) !=(n:Int))=false:=by simp
  go_enter Tryz.func17,Tryz.ntmps17;go_wp2;go_loopw [5] (fun iv wr=>aLe w ss tt n iv wr) (fun iv _=>n- (intOf iv).toNat)
  case atStart=>exact⟨0,Nat.zero_le _,rfl,qH (Kp.refl w),qH rfl⟩
  case round=>
   obtain⟨i,hi,rfl,hex,heq⟩:=hrel;by_cases hlt:i<n
   ·obtain⟨s,hs⟩:∃s,ss[i]?=some s:=⟨_,qG (by rw [<-HN.out.1];exact hlt)⟩;obtain⟨t,ht⟩:∃t,tt[i]?=some t:=⟨_,qG (by rw [<-HN.out.2];exact hlt)⟩;obtain⟨g1,o1,e1,c0⟩:=HA.out i (.string s) (by simp [strs,hs]);obtain⟨g2,o2,e2,d0⟩:=HB.out i (.string t) (by simp [strs,ht]);subst e1 e2;replace c0:=hex.out.cell c0 id;replace d0:=hex.out.cell d0 id;have HST:=qH (nIX hs ht);clear hs ht;by_cases hst:s=t
    ·subst hst;have q4:=str_eq s;go_wp2;go_quiet (fail)
     go_wp2;go_roundw
     case rel=>exact⟨i+1,by omega,nMX,qH (hex.out.drewN _),qH (by rw [List.take_add_one,List.take_add_one,HST.out.1,HST.out.2,heq.out])⟩
     case measure=>simp [intOf];omega
    ·have q4:=kO hst;have HD:=qH (show decide (ss=tt)=false from decide_eq_false fun e=>hst (by have h:=HST.out.1;rw [e,HST.out.2]at h;cases h;rfl));clear hst;go_wp2;go_quiet (fail)
     go_wp2;go_ret;exact RetN.mk (hex.out.drewN _) (by rw [HD.out];rfl)
   ·obtain rfl:n=i:=by omega
    have HD:=qH (show decide (ss=tt)=true from decide_eq_true (by have h:=heq.out;rw [List.take_of_length_le (by rw [<-HN.out.1];exact Nat.le_refl _),List.take_of_length_le (by rw [<-HN.out.2];exact Nat.le_refl _)]at h;exact h));go_wp2;go_ret;exact RetN.mk hex.out (by rw [HD.out];rfl)
 ·have q1:((n:Int) !=(m:Int))=true:=by simp;omega
  have q2:((n:Int)==(m:Int))=false:=by simp;omega
  have HD:=qH (show decide (ss=tt)=false from decide_eq_false fun e=>hnm (by rw [HN.out.1,HN.out.2,e]));clear hnm;go_enter Tryz.func17,Tryz.ntmps17;go_wp2;go_ret;exact RetN.mk (Kp.refl w) (by rw [HD.out];rfl)
end
section
open Go.RowKit
abbrev aMj:aE:=(-71,⟨#[]⟩,())
def TermsK(w0 w:World)(a:Option Addr)(n cap:Nat)(ts:List aE):Prop:=∃g rest,a=some ⟨g,0,none⟩/\n=ts.length/\n+1≤cap/\cap≤maxLen/\w0.heap.size≤g/\Blk w g (iT (ts++ [aMj])++rest) 38
theorem TermsK.at{w0 w:World}{a:Option Addr}{n cap:Nat}{ts:List aE}(h:TermsK w0 w a n cap ts)(hf:∀t∈ts,fU t):aR w (New w0) a ts:=by obtain⟨g,rest,rfl,_,_,_,hg,hB⟩:=h;rw [sH,List.append_assoc]at hB;exact aDn (s:=cA) (f:=mJ) (fun x=>rfl) (fun i x hi=>oB (hf x (List.mem_of_getElem? hi))) hg hB
theorem TermsK.kp{w0 w w':World}{F:Nat->Prop}{a:Option Addr}{n cap:Nat}{ts:List aE}(h:TermsK w0 w a n cap ts)(hk:Kp F w w')(hF:∀k cs,Blk w k cs 38->¬F k):TermsK w0 w' a n cap ts:=by obtain⟨g,rest,e,hn,h1,h2,hg,hB⟩:=h;exact⟨g,rest,e,hn,h1,h2,hg,hB.kp hk (hF g _ hB)⟩
theorem TermsK.ext{w0 w w':World}{a:Option Addr}{n cap:Nat}{ts:List aE}(h:TermsK w0 w a n cap ts)(hk:Ext w w'):TermsK w0 w' a n cap ts:=h.kp hk fun _ _ _=>id
theorem TermsK.old{w0 w1 w:World}{a:Option Addr}{n cap:Nat}{ts:List aE}(h:TermsK w1 w a n cap ts)(hs:w0.heap.size≤w1.heap.size):TermsK w0 w a n cap ts:=by obtain⟨g,rest,e,hn,h1,h2,hg,hB⟩:=h;exact⟨g,rest,e,hn,h1,h2,Nat.le_trans hs hg,hB⟩
theorem aEd:38≠24:=by decide
set_option maxHeartbeats 2000000 in
theorem qL(p:ByteArray)(ts:List aE)(ao:Option Addr)(n cap:Nat)(w:World)(G:Nat->Prop)(hn:n=ts.length)(h:aR w G ao ts)(hl:n≤1048576):
 Calls Tryz.prog 68 #[.agg #[.string p,.slice ao n cap]] w (RetN w fun w' v=>∃a c,v= .agg #[.string p,.slice a n c]/\TermsK w w' a n c ts):=by
 have HN:=qH hn;have HC:=qH (aBo h);have HL:=qH (aEg ts);obtain⟨g0,eg0⟩:=nm w.heap.size;obtain⟨w1,e1⟩:=nm ((w.alloc (.cells #[.string p,.slice ao n cap] 24)).alloc (.cells #[.string ⟨#[]⟩,.slice none 0 0] 24));have hB1:Blk w1 g0 [.string p,.slice ao n cap] 24:=by rw [<-e1,<-eg0];exact(Blk.new w _ _).alloc _
 have hB2:Blk w1 (g0+1) [.string ⟨#[]⟩,.slice none 0 0] 24:=by have h:=Blk.new (w.alloc (.cells #[.string p,.slice ao n cap] 24)) [.string ⟨#[]⟩,.slice none 0 0] 24;rw [aI,eg0]at h;rw [<-e1];exact h
 have hx1:Ext w w1:=by rw [<-e1];exact((Kp.refl w).alloc _).alloc _
 have r1:=hB1.c1;have H1:=qH (nIX hx1 (nIX hB1 (nIX hB2 eg0)));clear hn h hB1 hB2 hx1;go_enter Tryz.func68,Tryz.ntmps68;go_wp2_with (first|(at_builtin;refine Halted.out ?_))
 clear e1 eg0;refine Halted.mk (bQ (m:=n) (n:=0) zQ rfl _ _ rfl H1.out.1 rfl (Row.nil _ _ _ (New w)) rfl (HC.out.ext H1.out.1) (by rw [HL.out,HN.out]) (aEf ts) (by omega) (by unfold maxLen;omega) ?_);intro v1 w2 hr1 hk1 hk1b _;rw [Nat.zero_add,List.nil_append]at hr1;obtain⟨a1,c1,ev1,_,_⟩:=hr1.shape;subst ev1;have HR1:=qH hr1;have X1:=qH (nIX hk1 (show Ext w1 w2 from hk1b.mono fun k _ h=>by cases h));clear hr1 hk1 hk1b r1;go_wp2_with (first|(at_builtin;refine Halted.out ?_))
 refine Halted.mk (bQ (m:=1) (n:=n) zQ rfl _ _ rfl (X1.out.1.alloc _) rfl (HR1.out.alloc _) rfl (CellsAt.two w2 (.int .i64 (-71)) (.string ⟨#[]⟩) 38) (by rfl) (by simp [Value.oneCell']) (by omega) (by unfold maxLen;omega) ?_);intro v2 w3 hr2 hk2 hk2b _;have hno:∀g cs,Blk w2 g cs 24->Blk w3 g cs 24:=fun g cs hb=>(hb.alloc _).kp hk2b fun hg=>by obtain⟨cs',hb'⟩:=HR1.out.blkOf hg;exact aEd (bX hb' hb)
 have hB13:=hno _ _ (H1.out.2.1.ext X1.out.2);have hB23:=hno _ _ (H1.out.2.2.1.ext X1.out.2);obtain⟨h1,⟨rfl,h0⟩|⟨g,cap2,rest,rfl,hM,hB,hlen,hnc,hcm⟩⟩:=hr2
 ·omega
 ·have hcm2:cap2≤9223372036854775807:=hcm;have i1:(n:Int)≤(cap2:Int):=by omega
  have q0:=hB13.c0;have q1:=hB13.c1;have q2:=hB23.c0;have q3:=hB23.c1;have f1:=hB13.free 1;have f2:=hB23.free 0;have f3:=hB23.free 1;have H3:=qH (nIX hk2 (nIX hB13 (nIX hB23 (nIX hM hB))));clear h1 hk2 hk2b hno hB13 hB23 hM hB hlen;go_wp2;obtain⟨W,eW⟩:=nm ((((w3.setCell ⟨g0,1,none⟩ (.slice (some ⟨g,0,none⟩) n cap2)).setCell ⟨g0+1,0,none⟩ (.string p)).setCell ⟨g0+1,1,none⟩ (.slice (some ⟨g,0,none⟩) n cap2)));have n1:g0≠g0+1:=by omega
  have hBW:Blk W (g0+1) [.string p,.slice (some ⟨g,0,none⟩) n cap2] 24:=by rw [<-eW];exact((H3.out.2.2.1.other (p:=⟨g0,1,none⟩) (fun e=>n1 e.symm) _).set 0 _).set 1 _
  have kW:Kp (fun k=>k=g0\/k=g0+1) w3 W:=by rw [<-eW];exact Kp.setCell (F:=fun k=>k=g0\/k=g0+1) (p:=⟨g0+1,1,none⟩) (Kp.setCell (F:=fun k=>k=g0\/k=g0+1) (p:=⟨g0+1,0,none⟩) (Kp.setCell (F:=fun k=>k=g0\/k=g0+1) (p:=⟨g0,1,none⟩) (Kp.refl w3) (fun _=> .inl rfl) _) (fun _=> .inr rfl) _) (fun _=> .inr rfl) _
  have d0:=hBW.c0;have d1:=hBW.c1;rw [eW];refine bodyPost_ret (v:= .agg #[.string p,.slice (some ⟨g,0,none⟩) n cap2]) (by simp [results,Tryz.results68,go_sem,d0,d1]) rfl ?_;refine RetN.mk (H3.out.1.trans' kW fun i hi h=>by have:=H1.out.2.2.2;omega) ⟨_,_,rfl,g,rest,rfl,HN.out,hnc,hcm,H3.out.2.2.2.1,?_⟩;rw [sH];refine H3.out.2.2.2.2.kp kW fun h=>?_;rcases h with h|h
  ·rw [h]at H3;exact aEd (bX H3.out.2.2.2.2 H3.out.2.1)
  ·rw [h]at H3;exact aEd (bX H3.out.2.2.2.2 H3.out.2.2.1)
def aMi:List Value:= [.int .i64 (-72),.string ⟨#[]⟩,.slice none 0 0,.int .i64 0,.int .i64 0,.string ⟨#[]⟩,.int .i64 0,.string ⟨#[]⟩]
structure RuleK(w0 w:World)(hs:List aE)(ls:List aJ)(ha:Option Addr)(hn hcap:Nat)(ba:Option Addr)(n bcap:Nat):Prop where
 head:TermsK w0 w ha hn hcap hs
 body:∃g rest vs,ba=some ⟨g,0,none⟩/\n=ls.length/\n+1≤bcap/\bcap≤maxLen/\w0.heap.size≤g/\vs.length=ls.length/\Blk w g ((ls.zip vs).flatMap gI++(aMi++rest)) 40/\∀x∈ls.zip vs,TermsK w0 w x.2.1 (aA x.1).length x.2.2 (aA x.1)
section
variable {w0 w w':World}{F:Nat->Prop}{hs:List aE}{ls:List aJ}{ha:Option Addr}{hn hcap:Nat}{ba:Option Addr}{n bcap:Nat}
theorem RuleK.kp(h:RuleK w0 w hs ls ha hn hcap ba n bcap)(hk:Kp F w w')(hF:∀k cs,Blk w k cs 38\/Blk w k cs 40->¬F k):RuleK w0 w' hs ls ha hn hcap ba n bcap:=by obtain⟨h1,g,rest,vs,e,a1,a2,a3,a4,a5,hB,hx⟩:=h;exact⟨h1.kp hk fun k cs hb=>hF k cs (.inl hb),g,rest,vs,e,a1,a2,a3,a4,a5,hB.kp hk (hF g _ (.inr hB)),fun x hxx=>(hx x hxx).kp hk fun k cs hb=>hF k cs (.inl hb)⟩
theorem RuleK.ext(h:RuleK w0 w hs ls ha hn hcap ba n bcap)(hk:Ext w w'):RuleK w0 w' hs ls ha hn hcap ba n bcap:=h.kp hk fun _ _ _=>id
theorem RuleK.lits(h:RuleK w0 w hs ls ha hn hcap ba n bcap)(hall:∀l∈ls,LitAll l):cD w (New w0) ba ls:=by obtain⟨_,g,rest,vs,rfl,a1,a2,a3,a4,a5,hB,hx⟩:=h;refine pJ a5 hall (fun x hxx=>?_) a4 hB;have hm:=hx x hxx;have hl:x.1∈ls:=(List.of_mem_zip (show(x.1,x.2)∈ls.zip vs from hxx)).1;refine⟨hm.at (hall _ hl).terms,?_⟩;obtain⟨_,_,_,_,q1,q2,_,_⟩:=hm;exact⟨by omega,q2⟩
theorem RuleK.terms(h:RuleK w0 w hs ls ha hn hcap ba n bcap)(hf:∀t∈hs,fU t):aR w (New w0) ha hs:=h.head.at hf
theorem RuleK.mark(h:RuleK w0 w hs ls ha hn hcap ba n bcap):∃g,ba=some ⟨g,0,none⟩/\w.cell? ⟨g,n*8,none⟩=some (.int .i64 (-72))/\n+1≤bcap/\bcap≤maxLen/\∀i l,ls[i]?=some l->∃a2 c2,TermsK w0 w a2 (aA l).length c2 (aA l)/\∀c u,(gI (l,(a2,c2)))[c]?=some u->w.cell? ⟨g,i*8+c,none⟩=some u:=by
 obtain⟨_,g,rest,vs,rfl,hn,hc,hm,_,hv,hB,hx⟩:=h;have hz:(ls.zip vs).length=n:=by rw [List.length_zip,hv,Nat.min_self,hn]
 have hfl:((ls.zip vs).flatMap gI).length=n*8:=by rw [iP gI 8 iN,hz]
 refine⟨g,rfl,?_,hc,hm,fun i l hi=>?_⟩
 ·rw [hB.cell',<-hfl,List.getElem?_append_right (Nat.le_refl _),Nat.sub_self];rfl
 ·have hil:=(List.getElem?_eq_some_iff.1 hi).1;have hv2:i<vs.length:=by omega
  have hzi:(ls.zip vs)[i]?=some (l,vs[i]):=by rw [List.getElem?_zip_eq_some];exact⟨hi,qG hv2⟩
  refine⟨vs[i].1,vs[i].2,hx _ (List.mem_of_getElem? hzi),fun c u hu=>?_⟩;have hc8:c<8:=(List.getElem?_eq_some_iff.1 hu).1;have hg:=flat_get gI 8 iN (ls.zip vs) i _ c hzi hc8;rw [hB.cell',List.getElem?_append_left (by rw [hfl];omega),hg];exact hu
end
def aM9(ls:List aJ)(hs:List aE)(p:ByteArray)(w0 wb:World)(g0:Nat)(ha:Option Addr)(hn hcap:Nat)(ba:Option Addr)(bcap n:Nat)(bv iv:Value)(w:World):Prop:=∃i:Nat,i≤n/\iv= .int .i64 i/\Hid (Ext w0 w)/\Hid (Blk w g0 [.string p,.slice ha hn hcap,.slice ba n bcap] 27/\Blk w (g0+1) [.string ⟨#[]⟩,.slice none 0 0,.slice none 0 0] 27/\TermsK w0 w ha hn hcap hs)/\Hid (∃vs,vs.length=i/\Row w 40 8 bv i (((ls.take i).zip vs).flatMap gI) (New w0)/\∀x∈(ls.take i).zip vs,TermsK w0 w x.2.1 (aA x.1).length x.2.2 (aA x.1))
set_option maxHeartbeats 8000000 in
theorem aFe(p:ByteArray)(hs:List aE)(ls:List aJ)(ha:Option Addr)(hn hcap:Nat)(ba:Option Addr)(n bcap:Nat)(w:World)(G:Nat->Prop)(hhn:hn=hs.length)(hh:aR w G ha hs)(hhl:hn≤1048576)(hbn:n=ls.length)(h:cD w G ba ls)(hf:Fit ls):
 Calls Tryz.prog 19 #[dS p ha hn hcap ba n bcap] w (RetN w fun w' v=>∃ha' hcap' ba' bcap',v=dS p ha' hn hcap' ba' n bcap'/\RuleK w w' hs ls ha' hn hcap' ba' n bcap'):=by
 have HN:=qH hbn;have HE:=qH h;have HF:=qH hf;have hl:n≤1048576:=by have:=hf.len;omega
 have HHd:=qH (fun(W:World) (hW:Ext w W)=>qL p hs ha hn hcap W G hhn (hh.ext hW) hhl);obtain⟨g0,eg0⟩:=nm w.heap.size;obtain⟨w1,e1⟩:=nm ((w.alloc (.cells #[.string p,.slice ha hn hcap,.slice ba n bcap] 27)).alloc (.cells #[.string ⟨#[]⟩,.slice none 0 0,.slice none 0 0] 27));have hB1:Blk w1 g0 [.string p,.slice ha hn hcap,.slice ba n bcap] 27:=by rw [<-e1,<-eg0];exact(Blk.new w _ _).alloc _
 have hB2:Blk w1 (g0+1) [.string ⟨#[]⟩,.slice none 0 0,.slice none 0 0] 27:=by have h:=Blk.new (w.alloc (.cells #[.string p,.slice ha hn hcap,.slice ba n bcap] 27)) [.string ⟨#[]⟩,.slice none 0 0,.slice none 0 0] 27;rw [aI,eg0]at h;rw [<-e1];exact h
 have hx1:Ext w w1:=by rw [<-e1];exact((Kp.refl w).alloc _).alloc _
 have r0:=hB1.c0;have r1:=hB1.c1;have r2:=hB1.c2;have H1:=qH (nIX hx1 (nIX hB1 (nIX hB2 eg0)));clear hbn h hf hhn hh hB1 hB2 hx1;go_enter Tryz.func19,Tryz.ntmps19;go_wp2_with fail
 clear e1 eg0;refine(HHd.out _ H1.out.1).mono ?_;rintro e w2 ⟨v,rfl,hk2,ha',hcap',rfl,htm⟩;have hB2a:=H1.out.2.1.ext hk2;have s0:=hB2a.c0;have s1:=hB2a.c1;have sf0:=hB2a.free 0;have sf1:=hB2a.free 1;obtain⟨w3,e3⟩:=nm ((w2.setCell ⟨g0,0,none⟩ (.string p)).setCell ⟨g0,1,none⟩ (.slice ha' hn hcap'));have k23:Kp (fun k=>k=g0) w2 w3:=by rw [<-e3];exact kSb
 have hB3:Blk w3 g0 [.string p,.slice ha' hn hcap',.slice ba n bcap] 27:=by rw [<-e3];exact(hB2a.set 0 _).set 1 _
 have hB3b:Blk w3 (g0+1) [.string ⟨#[]⟩,.slice none 0 0,.slice none 0 0] 27:=(H1.out.2.2.1.ext hk2).kp k23 (by omega);have hx3:Ext w w3:=(H1.out.1.trans hk2).trans' k23 fun i hi e=>by have:=H1.out.2.2.2;omega
 have htm3:TermsK w w3 ha' hn hcap' hs:=(htm.old H1.out.1.size).kp k23 fun k cs hb e=>by rw [e]at hb;exact aEb (bX hb hB2a)
 have H3:=qH (nIX hx3 (nIX hB3 (nIX hB3b htm3)));clear hB2a k23 hB3 hB3b hx3 htm3 htm hk2 r0 r1 r2;go_wp2;try rw [e3]
 clear e3 s0 s1 sf0 sf1;go_loopw [4,5] (fun bv iv wr=>aM9 ls hs p w w3 g0 ha' hn hcap' ba bcap n bv iv wr) (fun _ iv _=>n- (intOf iv).toNat)
 case atStart=>exact⟨0,Nat.zero_le _,rfl,qH H3.out.1,qH H3.out.2,qH ⟨[],rfl,Row.nil _ _ _ _,fun x hx=>by simp at hx⟩⟩
 case round=>
  obtain⟨i,hi,rfl,hex,hbk,hin⟩:=hrel;obtain⟨vs,hvs,hrow,hterms⟩:=hin.out;obtain⟨bo,bc,ebv,_,_⟩:=hrow.shape;subst ebv;by_cases hlt:i<n
  ·have hltl:i<ls.length:=by rw [<-HN.out];exact hlt
   obtain⟨l,hli⟩:∃l,ls[i]?=some l:=⟨_,qG hltl⟩;obtain⟨b,off,a2,cap2,eao,hG,hb,hL,c0,c1,c2,c3,c4,c5,c6,c7⟩:=iC HE.out hli;subst eao;replace c0:=hex.out.cell c0 id;replace c1:=hex.out.cell c1 id;replace c2:=hex.out.cell c2 id;replace c3:=hex.out.cell c3 id;replace c4:=hex.out.cell c4 id;replace c5:=hex.out.cell c5 id;replace c6:=hex.out.cell c6 id;replace c7:=hex.out.cell c7 id;obtain⟨mm,emm⟩:∃mm,mm=(aA l).length:=⟨_,rfl⟩;rw [<-emm]at c2;have hmm:mm≤1048576:=by rw [emm];exact HF.out.terms l (List.mem_of_getElem? hli)
   obtain⟨k,ek⟩:∃k,k=l.1:=⟨_,rfl⟩;rw [<-ek]at c0;clear hltl hG hb;have HOL:=qH (fun(W:World) (hW:Ext w W)=>qL (bC l) (aA l) a2 mm cap2 W G emm (hL.terms.ext hW) hmm);have b2:=hbk.out.1.c2;obtain⟨pl,epl⟩:=nm (bC l);rw [epl]at c1 HOL;obtain⟨s3,e3⟩:=nm (gS l);rw [e3]at c3;obtain⟨s4,e4⟩:=nm ((leftOf l).1);rw [e4]at c4;obtain⟨s5,e5⟩:=nm ((leftOf l).2.1);rw [e5]at c5;obtain⟨s6,e6⟩:=nm ((aN l).1);rw [e6]at c6;obtain⟨s7,e7⟩:=nm ((aN l).2.1);rw [e7]at c7;have HL:=qH (nIX hli (show ∀a c,gI (l,(a,c))= [.int .i64 k,.string pl,.slice a mm c,.int .i64 s3,.int .i64 s4,.string s5,.int .i64 s6,.string s7]from fun a c=>by rw [ek,<-epl,emm,<-e3,<-e4,<-e5,<-e6,<-e7];rfl));have EMM:=qH emm;obtain⟨gt,egt⟩:=nm wr.heap.size;obtain⟨wx,ewx⟩:=nm (wr.alloc (.cells #[.int .i64 k,.string pl,.slice a2 mm cap2,.int .i64 s3,.int .i64 s4,.string s5,.int .i64 s6,.string s7] 40));have hgt:=bNX egt ewx;have hxx:Ext wr wx:=xAX ewx;have g1:=hgt.c1;have g2:=hgt.c2;have HX:=qH (nIX hxx (nIX hgt egt));have HIn:=qH (nIX hvs (nIX hrow hterms));clear hli emm ek epl e3 e4 e5 e6 e7 hL hgt hxx hvs hrow hterms hin;go_wp2_with fail
   clear ewx egt c0 c1 c2 c3 c4 c5 c6 c7 b2;refine(HOL.out _ (hex.out.trans HX.out.1)).mono ?_;rintro e w4 ⟨v,rfl,hk4,a3,c3,rfl,htm⟩;have hg4:=HX.out.2.1.ext hk4;have h1:=hg4.c1;have h2:=hg4.c2;have h1f:=hg4.free 1;have h2f:=hg4.free 2;obtain⟨w5,ew5⟩:=nm ((w4.setCell ⟨gt,1,none⟩ (.string pl)).setCell ⟨gt,2,none⟩ (.slice a3 mm c3));have hg5:Blk w5 gt [.int .i64 k,.string pl,.slice a3 mm c3,.int .i64 s3,.int .i64 s4,.string s5,.int .i64 s6,.string s7] 40:=by rw [<-ew5];exact(hg4.set 1 _).set 2 _
   have hk45:Kp (fun k=>k=gt) w4 w5:=by rw [<-ew5];exact kSb
   have hx5:Ext wr w5:=(HX.out.1.trans hk4).trans' hk45 fun j hj e=>by have:=HX.out.2.2;omega
   have hT5:TermsK w w5 a3 mm c3 (aA l):=(htm.old (Nat.le_trans hex.out.size HX.out.1.size)).kp hk45 fun k cs hb e=>by rw [e]at hb;exact aEc (bX hb hg4)
   have q0:=hg5.c0;have q1:=hg5.c1;have q2:=hg5.c2;have q3:=hg5.c3;have q4:=hg5.c4;have q5:=hg5.c5;have q6:=hg5.c6;have q7:=hg5.c7;have X5:=qH (nIX hx5 hT5);have HR5:=qH (HIn.out.2.1.ext hx5);clear hk4 htm hg4 hg5 hx5 hk45 hT5 g1 g2;go_wp2_with (first|(at_builtin;refine Halted.out ?_))
   clear ew5 h1 h2 h1f h2f;refine Halted.mk (bQ (m:=1) (n:=i) wU rfl _ _ rfl ((hex.out.trans X5.out.1).alloc _) rfl (HR5.out.alloc _) rfl (CellsAt.new w5 [.int .i64 k,.string pl,.slice a3 mm c3,.int .i64 s3,.int .i64 s4,.string s5,.int .i64 s6,.string s7] 40) (by rfl) (by rw [<-HL.out.2];exact aCy _) (by omega) (by unfold maxLen;omega) ?_);intro v1 w6 hr1 hk1 hk2 _;have hbl:∀g cs,Blk w5 g cs 27->Blk w6 g cs 27:=fun g cs hb=>(hb.alloc _).kp hk2 fun e=>by obtain⟨cs',hb'⟩:=HR5.out.blkOf e;exact nZ (bX hb' hb)
   have hT6:∀{a:Option Addr} {m c:Nat} {ts:List aE},TermsK w w5 a m c ts->TermsK w w6 a m c ts:=fun ht=>(ht.ext ((Kp.refl w5).alloc _)).kp hk2 fun k cs hb e=>by obtain⟨cs',hb'⟩:=(HR5.out.alloc _).blkOf e;exact aEc (bX hb hb')
   have hlen:(ls.take i).length=vs.length:=by rw [List.length_take,HIn.out.1];have:=HN.out;omega
   have et:ls.take (i+1)=ls.take i++ [l]:=by rw [List.take_add_one,HL.out.1];rfl
   have HFin:=qH (show Ext w w6/\(Blk w6 g0 [.string p,.slice ha' hn hcap',.slice (some ⟨b,off,none⟩) n bcap] 27/\Blk w6 (g0+1) [.string ⟨#[]⟩,.slice none 0 0,.slice none 0 0] 27/\TermsK w w6 ha' hn hcap' hs)/\∃vs,vs.length=i+1/\Row w6 40 8 v1 (i+1) (((ls.take (i+1)).zip vs).flatMap gI) (New w)/\∀x∈(ls.take (i+1)).zip vs,TermsK w w6 x.2.1 (aA x.1).length x.2.2 (aA x.1)from by
    refine⟨hk1,⟨hbl _ _ (hbk.out.1.ext X5.out.1),hbl _ _ (hbk.out.2.1.ext X5.out.1),hT6 (hbk.out.2.2.ext X5.out.1)⟩,vs++ [(a3,c3)],by rw [List.length_append,HIn.out.1];rfl,?_,?_⟩
    ·rw [et,List.zip_append hlen,List.flatMap_append];have e2:(([l].zip [(a3,c3)]).flatMap gI)= [.int .i64 k,.string pl,.slice a3 mm c3,.int .i64 s3,.int .i64 s4,.string s5,.int .i64 s6,.string s7]:=by
      show gI (l,(a3,c3))++ []=_;rw [HL.out.2,List.append_nil]
     rw [e2];exact hr1
    ·intro x hx;rw [et,List.zip_append hlen,List.mem_append]at hx;rcases hx with hx|hx
     ·exact hT6 ((HIn.out.2.2 x hx).ext X5.out.1)
     ·simp at hx;subst hx;have h:=hT6 X5.out.2;rw [EMM.out]at h;exact h)
   obtain⟨b6,c6,ev6,_,_⟩:=hr1.shape;subst ev6;clear hr1 hk1 hk2 hbl hT6 hlen et q0 q1 q2 q3 q4 q5 q6 q7;go_wp2;go_roundw
   case rel=>exact⟨i+1,by omega,nMX,qH HFin.out.1,qH HFin.out.2.1,qH HFin.out.2.2⟩
   case measure=>simp [intOf];omega
  ·obtain rfl:n=i:=by omega
   have hall:ls.take n=ls:=List.take_of_length_le (by have:=HN.out;omega);rw [hall]at hrow hterms;have HR5:=qH hrow;have HTs:=qH (nIX hvs hterms);have HBk:=hbk;have HEx:=hex;clear hrow hterms hvs hall hin hbk;go_wp2_with (first|(at_builtin;refine Halted.out ?_))
   refine Halted.mk (bQ (m:=1) (n:=n) wU rfl _ _ rfl (HEx.out.alloc _) rfl (HR5.out.alloc _) rfl (CellsAt.new wr [.int .i64 (-72),.string ⟨#[]⟩,.slice none 0 0,.int .i64 0,.int .i64 0,.string ⟨#[]⟩,.int .i64 0,.string ⟨#[]⟩] 40) (by rfl) (by intro u hu;simp at hu;rcases hu with rfl|rfl|rfl|rfl|rfl|rfl|rfl|rfl<;>rfl) (by omega) (by unfold maxLen;omega) ?_);intro v1 w6 hr1 hk1 hk2 _;have hbl:∀g cs,Blk wr g cs 27->Blk w6 g cs 27:=fun g cs hb=>(hb.alloc _).kp hk2 fun e=>by obtain⟨cs',hb'⟩:=HR5.out.blkOf e;exact nZ (bX hb' hb)
   have hT6:∀{a:Option Addr} {m c:Nat} {ts:List aE},TermsK w wr a m c ts->TermsK w w6 a m c ts:=fun ht=>(ht.ext ((Kp.refl wr).alloc _)).kp hk2 fun k cs hb e=>by obtain⟨cs',hb'⟩:=(HR5.out.alloc _).blkOf e;exact aEc (bX hb hb')
   obtain⟨h1,⟨rfl,h0⟩|⟨gb,cap2,rest,rfl,hM,hBB,hlen,hnc,hcm⟩⟩:=hr1
   ·omega
   ·have hB6:=hbl _ _ HBk.out.1;have hB6b:=hbl _ _ HBk.out.2.1;have hcm2:cap2≤9223372036854775807:=hcm;have i1:(n:Int)≤(cap2:Int):=by omega
    have q0:=hB6.c0;have q1:=hB6.c1;have q2:=hB6.c2;have p0:=hB6b.c0;have p1:=hB6b.c1;have p2:=hB6b.c2;have f2:=hB6.free 2;have f3:=hB6b.free 0;have f4:=hB6b.free 1;have f5:=hB6b.free 2;have H6:=qH (show Ext w w6/\Blk w6 g0 [.string p,.slice ha' hn hcap',.slice ba n bcap] 27/\Blk w6 (g0+1) [.string ⟨#[]⟩,.slice none 0 0,.slice none 0 0] 27/\TermsK w w6 ha' hn hcap' hs/\Blk w6 gb ((ls.zip vs).flatMap gI++(aMi++rest)) 40/\(∀x∈ls.zip vs,TermsK w w6 x.2.1 (aA x.1).length x.2.2 (aA x.1))/\New w gb from
     ⟨hk1,hB6,hB6b,hT6 HBk.out.2.2,by rw [<-List.append_assoc];exact hBB,fun x hx=>hT6 (HTs.out.2 x hx),hM⟩)
    clear h1 hk1 hk2 hbl hT6 hB6 hB6b hM hBB hlen;go_wp2;obtain⟨W,eW⟩:=nm (((((w6.setCell ⟨g0,2,none⟩ (.slice (some ⟨gb,0,none⟩) n cap2)).setCell ⟨g0+1,0,none⟩ (.string p)).setCell ⟨g0+1,1,none⟩ (.slice ha' hn hcap')).setCell ⟨g0+1,2,none⟩ (.slice (some ⟨gb,0,none⟩) n cap2)));have n1:g0≠g0+1:=by omega
    have hBW:Blk W (g0+1) [.string p,.slice ha' hn hcap',.slice (some ⟨gb,0,none⟩) n cap2] 27:=by rw [<-eW];exact(((H6.out.2.2.1.other (p:=⟨g0,2,none⟩) (fun e=>n1 e.symm) _).set 0 _).set 1 _).set 2 _
    have kW:Kp (fun k=>k=g0\/k=g0+1) w6 W:=by rw [<-eW];exact Kp.setCell (F:=fun k=>k=g0\/k=g0+1) (p:=⟨g0+1,2,none⟩) (Kp.setCell (F:=fun k=>k=g0\/k=g0+1) (p:=⟨g0+1,1,none⟩) (Kp.setCell (F:=fun k=>k=g0\/k=g0+1) (p:=⟨g0+1,0,none⟩) (Kp.setCell (F:=fun k=>k=g0\/k=g0+1) (p:=⟨g0,2,none⟩) (Kp.refl w6) (fun _=> .inl rfl) _) (fun _=> .inr rfl) _) (fun _=> .inr rfl) _) (fun _=> .inr rfl) _
    have d0:=hBW.c0;have d1:=hBW.c1;have d2:=hBW.c2;rw [eW];have noT:∀k cs,Blk w6 k cs 38->¬(k=g0\/k=g0+1):=fun k cs hb h=>by
     rcases h with h|h
     ·rw [h]at hb;exact aEb (bX hb H6.out.2.1)
     ·rw [h]at hb;exact aEb (bX hb H6.out.2.2.1)
    have noL:¬(gb=g0\/gb=g0+1):=fun h=>by
     rcases h with h|h
     ·have hb:=H6.out.2.2.2.2.1;rw [h]at hb;exact nZ (bX hb H6.out.2.1)
     ·have hb:=H6.out.2.2.2.2.1;rw [h]at hb;exact nZ (bX hb H6.out.2.2.1)
    refine bodyPost_ret (v:=dS p ha' hn hcap' (some ⟨gb,0,none⟩) n cap2) (by simp [results,Tryz.results19,go_sem,d0,d1,d2]) rfl ?_;exact RetN.mk (H6.out.1.trans' kW fun i hi h=>by have:=H1.out.2.2.2;omega) ⟨_,_,_,_,rfl,H6.out.2.2.2.1.kp kW noT,gb,rest,vs,rfl,HN.out,hnc,hcm,H6.out.2.2.2.2.2.2,by rw [HTs.out.1,HN.out],H6.out.2.2.2.2.1.kp kW noL,fun x hx=>(H6.out.2.2.2.2.2.1 x hx).kp kW noT⟩
end
section
open Go.RowKit Go.Shelf
section
variable {z z1 z2:Prop}{S:Nat->Prop}{w w':World}{b b1 b2:Nat}{iv iv1 iv2:Value}{arity a1 a2:Nat}{LL L1 L2:List (List ByteArray)}
theorem sO(a:Int)(w:World)(ha:a<0\/64<a):Calls Tryz.prog 85 #[.int .i64 a] w (Ret (.tuple #[.pointer none,.int .i64 2]) w):=by
 by_cases h0:a<0
 ·have t1:decide (a<0)=true:=by simp [h0]
  go_enter Tryz.func85,Tryz.ntmps85;go_wp2;go_ret2;exact Ret.mk rfl
 ·have h1:64<a:=by omega
  have t1:decide (a<0)=false:=by simp;omega
  have t2:decide (a>64)=true:=by simp;omega
  have t3:decide (64<a)=true:=by simp;omega
  go_enter Tryz.func85,Tryz.ntmps85;go_wp2;go_ret2;exact Ret.mk rfl
end
end
section
open Go.RowKit
theorem aAc{C:List bA}{s:ByteArray}(row:List ByteArray)(h:bM s=false):dB C s row=(false,32):=if_pos h
theorem aAd{C:List bA}{s:ByteArray}{row:List ByteArray}(h:bM s=true)(hg:bU C s=none)(hl:64<row.length):dB C s row=(false,30):=by unfold dB;rw [if_neg (by rw [h];simp),if_pos (by unfold oS;rw [hg];exact decide_eq_false (by omega))]
theorem pO{C:List bA}{s:ByteArray}{row:List ByteArray}{v:Nat×aD}(h:bM s=true)(hg:bU C s=some v)(hl:v.1≠row.length):dB C s row=(false,30):=by unfold dB;rw [if_neg (by rw [h];simp),if_pos (by unfold oS;rw [hg];exact decide_eq_false hl)]
theorem oO{C:List bA}{s:ByteArray}{row:List ByteArray}(h:bM s=true)(hg:oS C s row=true)(ht:bI row=false):dB C s row=(false,31):=by unfold dB;rw [if_neg (by rw [h];simp),if_neg (by rw [hg];simp),if_pos ht]
theorem oP{C:List bA}{s:ByteArray}{row:List ByteArray}(h:bM s=true)(hg:oS C s row=true)(ht:bI row=true)(hm:262144≤aV C)(hi:aX aB (bO C s) row=false):dB C s row=(false,4):=by unfold dB;rw [if_neg (by rw [h];simp),if_neg (by rw [hg];simp),if_neg (by rw [ht];simp),if_pos ⟨hm,hi⟩]
theorem iG{C:List bA}{s:ByteArray}{row:List ByteArray}(h:bM s=true)(hg:oS C s row=true)(ht:bI row=true)(hm:¬(262144≤aV C/\aX aB (bO C s) row=false)):
 dB C s row=if 65536≤(bO C s).length/\aX aB (bO C s) row=false then(false,4)else(!aX aB (bO C s) row,0):=by
 unfold dB;rw [if_neg (by rw [h];simp),if_neg (by rw [hg];simp),if_neg (by rw [ht];simp),if_neg hm]
theorem oM{C:List bA}{s:ByteArray}{row:List ByteArray}{v:Nat×aD}(hg:bU C s=some v)(h:v.1=row.length):oS C s row=true:=by unfold oS;rw [hg];exact decide_eq_true h
theorem uH{C:List bA}{s:ByteArray}{row:List ByteArray}(hg:bU C s=none)(h:row.length≤64):oS C s row=true:=by unfold oS;rw [hg];exact decide_eq_true h
theorem xM{C:List bA}{s:ByteArray}{row:List ByteArray}(h:(dB C s row).2≠0):gW C s row=C:=if_neg h
section
variable {S S':Nat->Prop}{w w1 w2 w3 w4:World}{bb r:Nat}{E:List Ent}{s:ByteArray}{ss:List ByteArray}{e:Ent}{iv':Value}
def BaseAdded(S:Nat->Prop)(w:World)(bb r:Nat)(E:List Ent)(s:ByteArray)(ss:List ByteArray)(w':World)(v:Value):Prop:=
 v= .tuple #[.bool (dB (aT E) s ss).1,.int .i64 ((dB (aT E) s ss).2:Nat)]/\∃S' E',(∀k,S k->S' k)/\(∀k,S' k->S k\/w.heap.size≤k)/\BaseAt S' w' bb r E'/\aT E'=gW (aT E) s ss/\∀k,eJ bb r E' k->eJ bb r E k\/w.heap.size≤k
theorem BaseAdded.same(h:BaseAt S w bb r E)(hk:Ext w w1){n:Nat}(hR:dB (aT E) s ss=(false,n))(hn:n≠0){v:Value}(hv:v= .tuple #[.bool false,.int .i64 (n:Nat)]):BaseAdded S w bb r E s ss w1 v:=
 ⟨by rw [hv,hR],S,E,fun _ h=>h,fun _ h=> .inl h,h.ext hk,(xM (by rw [hR];exact hn)).symm,fun _ h=> .inl h⟩
theorem vJ{pre post:List Ent}(hiv:∀k,iv'.ownBlock=some k->e.iv.ownBlock=some k\/w.heap.size≤k)(LL':List (List ByteArray)):∀k,eJ bb r (pre++{e with iv:=iv',LL:=LL'}::post) k->eJ bb r (pre++e::post) k\/w.heap.size≤k:=by
 rintro k (h|h|⟨f,hf,ho⟩)
 ·exact .inl (.inl h)
 ·exact .inl (.inr (.inl h))
 ·rcases List.mem_append.1 hf with hf|hf
  ·exact .inl (.inr (.inr ⟨f,List.mem_append_left _ hf,ho⟩))
  ·rcases List.mem_cons.1 hf with rfl|hf
   ·rcases ho with ho|ho
    ·exact .inl (.inr (.inr ⟨e,List.mem_append_right _ List.mem_cons_self,.inl ho⟩))
    ·rcases hiv k ho with h2|h2
     ·exact .inl (.inr (.inr ⟨e,List.mem_append_right _ List.mem_cons_self,.inr h2⟩))
     ·exact .inr h2
   ·exact .inl (.inr (.inr ⟨f,List.mem_append_right _ (List.mem_cons_of_mem _ hf),ho⟩))
theorem nW(h:BaseAt S w bb r E)(he:bS E s=some e)(hx:Ext w w2)(hk:Kp e.own w2 w3):MapIs w3 r (iR E):=(h.map.ext hx).kp hk fun ho=>(h.off e (cJ he).1 r ho).2 rfl
theorem gG(h:BaseAt S w bb r E)(he:bS E s=some e)(hx:Ext w w2)(hk:Kp e.own w2 w3):Blk w3 bb [.map (some r),.int .i64 (aV (aT E):Nat)] 129:=(h.blk.ext hx).kp hk fun ho=>(h.off e (cJ he).1 bb ho).1 rfl
theorem qW{LL:List (List ByteArray)}(h:BaseAt S w bb r E)(he:bS E s=some e)(hf:bM s=true/\e.ar=ss.length/\bI ss=true/\e.LL=LL/\¬(262144≤aV (aT E)/\aX aB LL ss=false))(hx:Ext w w2)(hk:Kp e.own w2 w3)(hss:∀k,S k->S' k)(hsn:∀k,S' k->S k\/w2.heap.size≤k)
 (hr:RowsAt S' w3 e.b iv' e.ar (aS e.ar LL ss))(hiv:∀k,iv'.ownBlock=some k->e.iv.ownBlock=some k\/w2.heap.size≤k)(h0:aM e.ar LL ss=if 65536≤LL.length/\aX aB LL ss=false then(false,4)else(!aX aB LL ss,0))(h4:65536≤LL.length/\aX aB LL ss=false):
 RetF (eJ bb r E) w (BaseAdded S w bb r E s ss) (.returned (.tuple #[.bool false,.int .i64 4])) w3:=by
 obtain⟨f1,f2,f3,f4,f5⟩:=hf;obtain⟨g1,g2⟩:=dP he;have hL:aS e.ar LL ss=LL:=by unfold aS;rw [h0,if_pos h4];rfl
 rw [hL]at hr;have hR:dB (aT E) s ss=(false,4):=by rw [iG f1 (oM g1 f2) f3 (by rw [g2,f4];exact f5),g2,f4,if_pos h4]
 have hC:gW (aT E) s ss=aT E:=xM (by rw [hR];decide);obtain⟨pre,post,rfl⟩:=iQ he;have hem:e∈pre++e::post:=List.mem_append_right _ List.mem_cons_self;have hkw:Kp e.own w w3:=(Ext.kp hx).trans hk;have hz:=hx.size;have hs2:∀k,S' k->S k\/w.heap.size≤k:=fun k hk'=>(hsn k hk').imp id fun q=>Nat.le_trans hz q;have hiv2:∀k,iv'.ownBlock=some k->e.iv.ownBlock=some k\/w.heap.size≤k:=fun k hk'=>(hiv k hk').imp id fun q=>Nat.le_trans hz q;have hsame:aT (pre++{e with iv:=iv',LL:=LL}::post)=aT (pre++e::post):=by rw [<-f4];simp [aT,Ent.cnt]
 refine RetF.mk (hkw.mono fun k _ ho=> .inr (.inr ⟨e,hem,ho⟩)) ⟨by rw [hR];rfl,S',pre++{e with iv:=iv',LL:=LL}::post,hss,hs2,?_,by rw [hC,hsame],vJ hiv2 LL⟩;exact h.turn hkw hss hs2 hr hiv2 (Kp.refl _) (nW h he hx hk) (gG h he hx hk) (by rw [hsame]) (by rw [hsame];exact h.ok)
theorem tL{LL:List (List ByteArray)}(h:BaseAt S w bb r E)(he:bS E s=some e)(hf:bM s=true/\e.ar=ss.length/\bI ss=true/\e.LL=LL/\¬(262144≤aV (aT E)/\aX aB LL ss=false))(hx:Ext w w2)(hk:Kp e.own w2 w3)(hss:∀k,S k->S' k)(hsn:∀k,S' k->S k\/w2.heap.size≤k)
 (hr:RowsAt S' w3 e.b iv' e.ar (aS e.ar LL ss))(hiv:∀k,iv'.ownBlock=some k->e.iv.ownBlock=some k\/w2.heap.size≤k)(h0:aM e.ar LL ss=if 65536≤LL.length/\aX aB LL ss=false then(false,4)else(!aX aB LL ss,0))(hi:aX aB LL ss=true)
 (hk4:Kp (fun k=>k=r) w3 w4)(hm4:MapIs w4 r (oQ (iR E) s (.pointer (some ⟨e.b,0,none⟩)))):RetF (eJ bb r E) w (BaseAdded S w bb r E s ss) (.returned (.tuple #[.bool false,.int .i64 0])) w4:=by
 obtain⟨f1,f2,f3,f4,f5⟩:=hf;obtain⟨g1,g2⟩:=dP he;have hn4:¬(65536≤LL.length/\aX aB LL ss=false):=fun k=>by rw [hi]at k;cases k.2
 have hadd:bN aB LL ss=LL:=by unfold bN;rw [if_pos hi]
 have hL:aS e.ar LL ss=LL:=by unfold aS;rw [h0,if_neg hn4];exact hadd
 rw [hL]at hr;have hR:dB (aT E) s ss=(false,0):=by rw [iG f1 (oM g1 f2) f3 (by rw [g2,f4];exact f5),g2,f4,if_neg hn4,hi];rfl
 have hnd:=h.ok.nodup;rw [show oQ (iR E) s (.pointer (some ⟨e.b,0,none⟩))=iR E from aDl he (by rw [wT];exact hnd)]at hm4;obtain⟨pre,post,rfl⟩:=iQ he;have hem:e∈pre++e::post:=List.mem_append_right _ List.mem_cons_self;have hkw:Kp e.own w w3:=(Ext.kp hx).trans hk;have hz:=hx.size;have hs2:∀k,S' k->S k\/w.heap.size≤k:=fun k hk'=>(hsn k hk').imp id fun q=>Nat.le_trans hz q;have hiv2:∀k,iv'.ownBlock=some k->e.iv.ownBlock=some k\/w.heap.size≤k:=fun k hk'=>(hiv k hk').imp id fun q=>Nat.le_trans hz q;have hsame:aT (pre++{e with iv:=iv',LL:=LL}::post)=aT (pre++e::post):=by rw [<-f4];simp [aT,Ent.cnt]
 have hC:gW (aT (pre++e::post)) s ss=aT (pre++{e with iv:=iv',LL:=LL}::post):=by unfold gW;rw [if_pos (by rw [hR]),g2,f4,hadd,<-f2];exact xI he hnd iv' LL
 refine RetF.mk ((hkw.mono fun k _ ho=> .inr (.inr ⟨e,hem,ho⟩)).trans (hk4.mono fun k _ ho=> .inr (.inl ho))) ⟨by rw [hR];rfl,S',pre++{e with iv:=iv',LL:=LL}::post,hss,hs2,?_,hC.symm,vJ hiv2 LL⟩;exact h.turn hkw hss hs2 hr hiv2 (hk4.mono fun k _ ho=> .inr ho) hm4 ((gG h he hx hk).kp hk4 h.ne) (by rw [hsame]) (by rw [hsame];exact h.ok)
theorem tM{LL:List (List ByteArray)}{n:Nat}(h:BaseAt S w bb r E)(he:bS E s=some e)(hf:bM s=true/\e.ar=ss.length/\bI ss=true/\e.LL=LL/\¬(262144≤aV (aT E)/\aX aB LL ss=false))(hx:Ext w w2)(hk:Kp e.own w2 w3)(hss:∀k,S k->S' k)(hsn:∀k,S' k->S k\/w2.heap.size≤k)
 (hr:RowsAt S' w3 e.b iv' e.ar (aS e.ar LL ss))(hiv:∀k,iv'.ownBlock=some k->e.iv.ownBlock=some k\/w2.heap.size≤k)(h0:aM e.ar LL ss=if 65536≤LL.length/\aX aB LL ss=false then(false,4)else(!aX aB LL ss,0))(hi:aX aB LL ss=false)(hn4:¬(65536≤LL.length/\aX aB LL ss=false))
 (hk4:Kp (fun k=>k=r) w3 w4)(hm4:MapIs w4 r (oQ (iR E) s (.pointer (some ⟨e.b,0,none⟩))))(en:aV (aT E)=n):RetF (eJ bb r E) w (BaseAdded S w bb r E s ss) (.returned (.tuple #[.bool true,.int .i64 0])) (w4.setCell ⟨bb,1,none⟩ (.int .i64 ((n:Int)+1))):=by
 obtain⟨f1,f2,f3,f4,f5⟩:=hf;obtain⟨g1,g2⟩:=dP he;have hL:aS e.ar LL ss=bN aB LL ss:=by unfold aS;rw [h0,if_neg hn4];rfl
 rw [hL]at hr;have hR:dB (aT E) s ss=(true,0):=by rw [iG f1 (oM g1 f2) f3 (by rw [g2,f4];exact f5),g2,f4,if_neg hn4,hi];rfl
 have hnd:=h.ok.nodup;rw [show oQ (iR E) s (.pointer (some ⟨e.b,0,none⟩))=iR E from aDl he (by rw [wT];exact hnd)]at hm4;obtain⟨pre,post,rfl⟩:=iQ he;have hem:e∈pre++e::post:=List.mem_append_right _ List.mem_cons_self;have hkw:Kp e.own w w3:=(Ext.kp hx).trans hk;have hz:=hx.size;have hs2:∀k,S' k->S k\/w.heap.size≤k:=fun k hk'=>(hsn k hk').imp id fun q=>Nat.le_trans hz q;have hiv2:∀k,iv'.ownBlock=some k->e.iv.ownBlock=some k\/w.heap.size≤k:=fun k hk'=>(hiv k hk').imp id fun q=>Nat.le_trans hz q;have hset:=xI he hnd iv' (bN aB LL ss);have hC:gW (aT (pre++e::post)) s ss=aT (pre++{e with iv:=iv',LL:=bN aB LL ss}::post):=by unfold gW;rw [if_pos (by rw [hR]),g2,f4,<-f2];exact hset
 have htot:n+1=aV (aT (pre++{e with iv:=iv',LL:=bN aB LL ss}::post)):=by have h1:=kS hnd (s:=s) (v:=(e.ar,bN aB LL ss));rw [hset,g2,f4]at h1;have h2:=qX (c:=aB) LL ss;rw [hi]at h2;simp only [Bool.false_eq_true,if_false]at h2;have h3:(e.ar,bN aB LL ss).2.length=LL.length+1:=h2;omega
 have kf:Kp (fun k=>k=bb\/k=r) w3 (w4.setCell ⟨bb,1,none⟩ (.int .i64 ((n:Int)+1))):=(hk4.mono fun k _ ho=> .inr ho).trans (Kp.setCell (F:=fun k=>k=bb\/k=r) (Kp.refl w4) (fun _=> .inl rfl) _);have hb5:Blk (w4.setCell ⟨bb,1,none⟩ (.int .i64 ((n:Int)+1))) bb [.map (some r),.int .i64 ((n+1:Nat):Int)] 129:=by have h1:=((gG h he hx hk).kp hk4 h.ne).set 1 (.int .i64 ((n:Int)+1));exact h1
 have hm5:=hm4.kp (Kp.setCell (F:=fun k=>k=bb) (Kp.refl w4) (p:=⟨bb,1,none⟩) (fun _=>rfl) (.int .i64 ((n:Int)+1))) (fun e2=>h.ne e2.symm);refine RetF.mk ((hkw.mono fun k _ ho=> .inr (.inr ⟨e,hem,ho⟩)).trans (kf.mono fun k _ ho=>ho.elim .inl fun h=> .inr (.inl h))) ⟨by rw [hR];rfl,S',pre++{e with iv:=iv',LL:=bN aB LL ss}::post,hss,hs2,?_,hC.symm,vJ hiv2 _⟩;exact h.turn hkw hss hs2 hr hiv2 kf hm5 hb5 htot (by rw [<-hC];exact rO h.ok s ss)
theorem aDx{n:Nat}{b:Nat}(h:BaseAt S w bb r E)(he:bS E s=none)(hf:bM s=true/\ss.length≤64/\bI ss=true/\¬262144≤aV (aT E))(hx:Ext w w3)(hss:∀k,S k->S' k)(hsn:∀k,S' k->S k\/w.heap.size≤k)
 (hr:RowsAt S' w3 b iv' ss.length [ss])(hb:w.heap.size≤b)(hiv:∀k,iv'.ownBlock=some k->w.heap.size≤k)
 (hk4:Kp (fun k=>k=r) w3 w4)(hm4:MapIs w4 r (oQ (iR E) s (.pointer (some ⟨b,0,none⟩))))(en:aV (aT E)=n):RetF (eJ bb r E) w (BaseAdded S w bb r E s ss) (.returned (.tuple #[.bool true,.int .i64 0])) (w4.setCell ⟨bb,1,none⟩ (.int .i64 ((n:Int)+1))):=by
 obtain⟨f1,f2,f3,f4⟩:=hf;obtain⟨g1,g2⟩:=eT he;have hR:dB (aT E) s ss=(true,0):=by rw [iG f1 (uH g1 f2) f3 (fun k=>f4 k.1),g2,if_neg (by simp)];rfl
 have hone:bN aB [] ss= [ss]:=by simp [bN,aX,below]
 have hpush:=aI8 he b iv' ss.length [ss];have hC:gW (aT E) s ss=aT (E++ [{name:=s,b:=b,iv:=iv',ar:=ss.length,LL:= [ss]}]):=by unfold gW;rw [if_pos (by rw [hR]),g2,hone];exact hpush
 have htot:n+1=aV (aT (E++ [{name:=s,b:=b,iv:=iv',ar:=ss.length,LL:= [ss]}])):=by rw [<-en];simp [aV,aT,Ent.cnt]
 rw [zP he b iv' ss.length [ss]]at hm4;have kf:Kp (fun k=>k=bb\/k=r) w3 (w4.setCell ⟨bb,1,none⟩ (.int .i64 ((n:Int)+1))):=(hk4.mono fun k _ ho=> .inr ho).trans (Kp.setCell (F:=fun k=>k=bb\/k=r) (Kp.refl w4) (fun _=> .inl rfl) _);have hb5:Blk (w4.setCell ⟨bb,1,none⟩ (.int .i64 ((n:Int)+1))) bb [.map (some r),.int .i64 ((n+1:Nat):Int)] 129:=((h.blk.ext hx).kp hk4 h.ne).set 1 (.int .i64 ((n:Int)+1));have hm5:=hm4.kp (Kp.setCell (F:=fun k=>k=bb) (Kp.refl w4) (p:=⟨bb,1,none⟩) (fun _=>rfl) (.int .i64 ((n:Int)+1))) (fun e2=>h.ne e2.symm);have ho:∀k,eY b iv' k->w.heap.size≤k:=fun k ho=>by
  rcases ho with rfl|ho
  ·exact hb
  ·exact hiv k ho
 refine RetF.mk ((Ext.kp hx).trans (kf.mono fun k _ ho=>ho.elim .inl fun h=> .inr (.inl h))) ⟨by rw [hR];rfl,S',E++ [{name:=s,b:=b,iv:=iv',ar:=ss.length,LL:= [ss]}],hss,hsn,?_,hC.symm,?_⟩
 ·exact h.push (e:={name:=s,b:=b,iv:=iv',ar:=ss.length,LL:= [ss]}) hx hss hsn hr ho kf hb5 hm5 htot (by rw [<-hC];exact rO h.ok s ss)
 ·rintro k (h1|h1|⟨f,hf,ho2⟩)
  ·exact .inl (.inl h1)
  ·exact .inl (.inr (.inl h1))
  ·rcases List.mem_append.1 hf with hf|hf
   ·exact .inl (.inr (.inr ⟨f,hf,ho2⟩))
   ·obtain rfl:=List.mem_singleton.1 hf;exact .inr (ho k ho2)
end
set_option maxHeartbeats 4000000 in
theorem tN{S:Nat->Prop}{w:World}{bb r:Nat}{E:List Ent}(h:BaseAt S w bb r E)(s:ByteArray){ao:Option Addr}{k cap:Nat}{ss:List ByteArray}(hx:RowIn w (ao,k,cap) ss)(ho:fX (ao,k,cap) (eJ bb r E)):
 Calls Tryz.prog 42 #[.pointer (some ⟨bb,0,none⟩),.string s,.slice ao k cap] w (RetF (eJ bb r E) w (BaseAdded S w bb r E s ss)):=by
 have hkn:k=ss.length:=hx.1.1;have hcs:CellsAt w ao (strs ss):=hx.1.2;have hkl:k≤8796093021952:=by rw [hkn];exact hx.2.1
 have c0:=h.blk.c0;have hlk:=gO (P:=Tryz.prog) Tryz.underlying127 Tryz.underlying9 (z:= .pointer none) (by kernel_rfl) h.map s;rw [lH]at hlk;have hnm:=rR s w;rw [show decide (1≤s.size/\s.size≤4096)=bM s from rfl]at hnm;have HN:=qH hnm;clear hnm;have HT:=qH (fun w1 (hw:Ext w w1)=>rF ss ao k cap w1 hkn (hcs.ext hw) (by omega));obtain⟨n,en⟩:=nm (aV (aT E));have EN:=qH en;have hnl:n≤262144:=by rw [<-en];exact h.ok.few
 have c1:w.cell? ⟨bb,1,none⟩=some (.int .i64 n):=by rw [h.blk.cell',en];rfl
 have HC1:=qH (fun w1 (hw:Ext w w1)=>(hw.cell c1 id:w1.cell? ⟨bb,1,none⟩=some (.int .i64 n)));have H:=qH h;have HX:=qH (nIX hx ho);have HKN:=qH hkn;clear h hx ho hcs hkn en c1;cases hn:bM s with
 |false=>
  rw [hn]at HN;have HNM:=qH hn;clear hn hlk c0;go_enter Tryz.func42,Tryz.ntmps42;go_wp2_with fail
  refine HN.out.mono ?_;rintro e w' ⟨rfl,rfl⟩;go_wp2;go_ret2;exact RetF.mk (Kp.refl _) (BaseAdded.same H.out (Kp.refl _) (aAc ss HNM.out) (by decide) rfl)
 |true=>
  rw [hn]at HN;have HNM:=qH hn;clear hn;cases he:bS E s with
  |none=>
   rw [he]at hlk;have hlk':∀w',w'=w->(Instr.lookup 127 (.map (some r)) (.string s) false).run Tryz.prog w'= .ok (.pointer none) w':=fun w' e=>by rw [e];exact hlk
   replace hlk:=hlk' w rfl;clear hlk';have HE:=qH he;clear he;by_cases hl:64<k
   ·have HNB:=qH (sO (k:Int) w (.inr (by omega)));go_enter Tryz.func42,Tryz.ntmps42;go_wp2_with fail
    refine HN.out.mono ?_;rintro e w' ⟨rfl,rfl⟩;go_wp2_with fail
    refine HNB.out.mono ?_;rintro e w' ⟨rfl,rfl⟩;go_wp2;go_ret2;exact RetF.mk (Kp.refl _) (BaseAdded.same H.out (Kp.refl _) (aAd HNM.out (eT HE.out).1 (by rw [<-HKN.out];exact hl)) (by decide) rfl)
   have hk64:k≤64:=by omega
   have HNR:=qH (nB S w k hk64 H.out.inS);have HL:=qH (show ss.length≤64 by rw [<-HKN.out];exact hk64);clear hl;cases ht:bI ss with
   |false=>
    rw [ht]at HT;have HTX:=qH ht;clear ht;go_enter Tryz.func42,Tryz.ntmps42;go_wp2_with fail
    refine HN.out.mono ?_;rintro e w' ⟨rfl,rfl⟩;go_wp2_with fail
    refine HNR.out.mono ?_;rintro e w1 ⟨v,rfl,hk1,rfl,hrows⟩;have d2:=hrows.blk.c2;have HK1:=qH hk1;clear hk1 hrows;go_wp2_with fail
    refine(HT.out w1 HK1.out).mono ?_;rintro e w2 ⟨v,rfl,hk2,rfl⟩;have HK2:=qH (HK1.out.trans hk2);clear hk2;go_wp2;go_ret2;exact RetF.mk (Ext.kp HK2.out) (BaseAdded.same H.out HK2.out (oO HNM.out (uH (eT HE.out).1 HL.out) HTX.out) (by decide) rfl)
   |true=>
    rw [ht]at HT;have HTX:=qH ht;clear ht;have HAdd:=qH (fun w1 (hw:Ext w w1) (hr:RowsAt S w1 w.heap.size (.slice none 0 0) k [])=>mV hr List.Pairwise.nil (ao:=ao) (n:=k) (cap:=cap) (ss:=ss) ⟨⟨HKN.out,HX.out.1.1.2.ext hw⟩,HX.out.1.2.1,fun a e hne=>Nat.lt_of_lt_of_le (HX.out.1.2.2 a e hne) hw.size⟩
     (fun a e hne ho=>by
      have:=HX.out.1.2.2 a e hne;rcases ho with ho|ho
      ·omega
      ·cases ho) (by simp))
    by_cases hm:262144≤n
    ·have q2:decide ((262144:Int)≤(n:Int))=true:=by rw [decide_eq_true_iff];omega
     have HM:=qH hm;have HHas:=qH (fun w1 (hw:Ext w w1) (hr:RowsAt S w1 w.heap.size (.slice none 0 0) k [])=>mU hr List.Pairwise.nil (x:=(ao,k,cap)) (ss:=ss) ⟨⟨HKN.out,HX.out.1.1.2.ext hw⟩,HX.out.1.2.1,fun a e hne=>Nat.lt_of_lt_of_le (HX.out.1.2.2 a e hne) hw.size⟩
      (fun a e hne ho=>by
       have:=HX.out.1.2.2 a e hne;rcases ho with ho|ho
       ·omega
       ·cases ho))
     clear hm;go_enter Tryz.func42,Tryz.ntmps42;go_wp2_with fail
     refine HN.out.mono ?_;rintro e w' ⟨rfl,rfl⟩;go_wp2_with fail
     refine HNR.out.mono ?_;rintro e w1 ⟨v,rfl,hk1,rfl,hrows⟩;have d2:=hrows.blk.c2;have HK1:=qH (nIX hk1 hrows);clear hk1 hrows;go_wp2_with fail
     refine(HT.out w1 HK1.out.1).mono ?_;rintro e w2 ⟨v,rfl,hk2,rfl⟩;have HK2:=qH (HK1.out.1.trans hk2);have HR2:=qH (HK1.out.2.ext hk2);have c1':=HC1.out w2 HK2.out;clear hk2 d2;go_wp2_with fail
     refine(HHas.out w2 HK2.out HR2.out).mono ?_;rintro e w3 ⟨v,rfl,hk3,rfl⟩;have HK3:=qH (HK2.out.trans hk3);clear hk3 c1';have hni:aX aB ([]:List (List ByteArray)) ss=false:=rfl;go_wp2;go_ret2;exact RetF.mk (Ext.kp HK3.out) (BaseAdded.same H.out HK3.out (oP HNM.out (uH (eT HE.out).1 HL.out) HTX.out (by rw [EN.out];exact HM.out) (by rw [(eT HE.out).2];rfl)) (by decide) rfl)
    ·have q2:decide ((262144:Int)≤(n:Int))=false:=by rw [decide_eq_false_iff_not];omega
     have HM:=qH hm;clear hm;go_enter Tryz.func42,Tryz.ntmps42;go_wp2_with fail
     refine HN.out.mono ?_;rintro e w' ⟨rfl,rfl⟩;go_wp2_with fail
     refine HNR.out.mono ?_;rintro e w1 ⟨v,rfl,hk1,rfl,hrows⟩;have d2:=hrows.blk.c2;have HK1:=qH (nIX hk1 hrows);clear hk1 hrows;go_wp2_with fail
     refine(HT.out w1 HK1.out.1).mono ?_;rintro e w2 ⟨v,rfl,hk2,rfl⟩;have HK2:=qH (HK1.out.1.trans hk2);have HR2:=qH (HK1.out.2.ext hk2);have c1':=HC1.out w2 HK2.out;clear hk2 d2;go_wp2_with fail
     refine(HAdd.out w2 HK2.out HR2.out).mono ?_;rintro e w3 ⟨v,rfl,hk3,hv,S',iv',hss,hsn,hrows3,hiv⟩;have e0:aM k [] ss=(true,0):=by unfold aM;rw [if_neg (by rw [HKN.out];simp),if_neg (by rw [HTX.out];simp),if_neg (by simp)];simp [aX]
     have e1:aS k [] ss= [ss]:=by unfold aS;rw [e0];simp [bN,aX,below]
     rw [e0]at hv;rw [e1]at hrows3;subst hv;have hz:=HK2.out.size;have kk3:Kp (fun g=>g=w.heap.size) w2 w3:=hk3.mono fun g _ h=>by
      rcases h with h|h
      ·exact h
      ·cases h
     have hex3:Ext w w3:=HK2.out.trans' kk3 (fun i hi e=>by omega);rw [HKN.out]at hrows3;have HR3:=qH (nIX hex3 (nIX hss (nIX (fun q (hq:S' q)=>(hsn q hq).imp id fun u=>Nat.le_trans hz u) (nIX hrows3 (fun q (hq:iv'.ownBlock=some q)=>show w.heap.size≤q by
      rcases hiv q hq with u|u
      ·cases u
      ·exact Nat.le_trans hz u)))))
     have HB3:=qH (nIX (H.out.blk.ext hex3) (H.out.map.ext hex3));clear hk3 kk3 hex3 hrows3 hss hsn hiv e0 e1 c1' hlk c0 hz;go_wp2_with fail
     refine(gF HB3.out.1 HB3.out.2 s (some ⟨w.heap.size,0,none⟩)).mono ?_;rintro e w4 ⟨v,rfl,hk4,hm4⟩;have HM4:=qH (nIX hk4 hm4);have hb4:Blk w4 bb [.map (some r),.int .i64 (aV (aT E):Nat)] 129:=HB3.out.1.kp hk4 H.out.ne;have c4:w4.cell? ⟨bb,1,none⟩=some (.int .i64 n):=by rw [hb4.cell',EN.out];rfl
     have f4:=hb4.free 1;clear hk4 hm4 hb4;go_wp2;go_ret2;exact aDx H.out HE.out ⟨HNM.out,HL.out,HTX.out,by rw [EN.out];exact HM.out⟩ HR3.out.1 HR3.out.2.1 HR3.out.2.2.1 HR3.out.2.2.2.1 (Nat.le_refl _) HR3.out.2.2.2.2 HM4.out.1 HM4.out.2 EN.out
  |some e0=>
   rw [he]at hlk;have HE:=qH he;obtain⟨hem,hes⟩:=cJ he;obtain⟨b0,eb0⟩:=nm e0.b;obtain⟨ar,ear⟩:=nm e0.ar;obtain⟨LL,eLL⟩:=nm e0.LL;have hlk':(Instr.lookup 127 (.map (some r)) (.string s) false).run Tryz.prog w= .ok (.pointer (some ⟨b0,0,none⟩)) w:=by rw [<-eb0];exact hlk
   have hra:=H.out.rows e0 hem;have d2:w.cell? ⟨b0,2,none⟩=some (.int .i64 ar):=by rw [<-eb0,hra.blk.cell',ear];rfl
   have HEM:=qH (nIX hem (nIX eb0 (nIX ear eLL)));have hoff:fX (ao,k,cap) (eY e0.b e0.iv):=fun a e hne hown=>HX.out.2 a e hne (.inr (.inr ⟨e0,hem,hown⟩));have HOff:=qH hoff;have HHas:=qH (fun w1 (hw:Ext w w1)=>mU ((H.out.rows e0 hem).ext hw) (H.out.strict hem) (x:=(ao,k,cap)) (ss:=ss) ⟨⟨HKN.out,HX.out.1.1.2.ext hw⟩,HX.out.1.2.1,fun a e hne=>Nat.lt_of_lt_of_le (HX.out.1.2.2 a e hne) hw.size⟩ hoff);have HA:=qH (fun w1 (hw:Ext w w1)=>mV ((H.out.rows e0 hem).ext hw) (H.out.strict hem) (ao:=ao) (n:=k) (cap:=cap) (ss:=ss) ⟨⟨HKN.out,HX.out.1.1.2.ext hw⟩,HX.out.1.2.1,fun a e hne=>Nat.lt_of_lt_of_le (HX.out.1.2.2 a e hne) hw.size⟩ hoff (by have:=H.out.few hem;omega));clear he hem hes hra hoff hlk;rw [HEM.out.2.1,HEM.out.2.2.2]at HHas;rw [HEM.out.2.1,HEM.out.2.2.1,HEM.out.2.2.2]at HA;clear eb0 ear eLL;by_cases ha:ar=k
   ·have HAr:=qH ha;have q1:((ar:Int) !=(k:Int))=false:=by simp [ha]
    clear ha;have hnil:Ext w w:=Kp.refl w;cases ht:bI ss with
    |false=>
     rw [ht]at HT;have HTX:=qH ht;clear ht;go_enter Tryz.func42,Tryz.ntmps42;go_wp2_with fail
     refine HN.out.mono ?_;rintro e w' ⟨rfl,rfl⟩;go_wp2_with fail
     refine(HT.out w hnil).mono ?_;rintro e w2 ⟨v,rfl,hk2,rfl⟩;have HK2:=qH hk2;clear hk2;go_wp2;go_ret2;exact RetF.mk (Ext.kp HK2.out) (BaseAdded.same H.out HK2.out (oO HNM.out (oM (dP HE.out).1 (by rw [HEM.out.2.2.1,HAr.out];exact HKN.out)) HTX.out) (by decide) rfl)
    |true=>
     rw [ht]at HT;have HTX:=qH ht;clear ht;have hR0:aM ar LL ss=if 65536≤LL.length/\aX aB LL ss=false then(false,4)else(!aX aB LL ss,0):=by unfold aM;rw [if_neg (by rw [HAr.out,HKN.out];simp),if_neg (by rw [HTX.out];simp)]
     have HR0:=qH hR0;clear hR0;by_cases hm:262144≤n
     ·have q2:decide ((262144:Int)≤(n:Int))=true:=by rw [decide_eq_true_iff];omega
      have HM:=qH hm;clear hm;cases hi:aX aB LL ss with
      |false=>
       have HI:=qH hi;rw [hi]at HHas;clear hi;go_enter Tryz.func42,Tryz.ntmps42;go_wp2_with fail
       refine HN.out.mono ?_;rintro e w' ⟨rfl,rfl⟩;go_wp2_with fail
       refine(HT.out w hnil).mono ?_;rintro e w2 ⟨v,rfl,hk2,rfl⟩;have HK2:=qH hk2;have c1':=HC1.out w2 hk2;clear hk2;go_wp2_with fail
       refine(HHas.out w2 HK2.out).mono ?_;rintro e w3 ⟨v,rfl,hk3,rfl⟩;have HK3:=qH (HK2.out.trans hk3);clear hk3 c1';go_wp2;go_ret2;exact RetF.mk (Ext.kp HK3.out) (BaseAdded.same H.out HK3.out (oP HNM.out (oM (dP HE.out).1 (by rw [HEM.out.2.2.1,HAr.out];exact HKN.out)) HTX.out (by rw [EN.out];exact HM.out) (by rw [(dP HE.out).2,HEM.out.2.2.2];exact HI.out)) (by decide) rfl)
      |true=>
       have HI0:=qH hi;rw [hi]at HHas;clear hi;have HF:=qH (show(bM s=true/\e0.ar=ss.length/\bI ss=true/\e0.LL=LL/\¬(262144≤aV (aT E)/\aX aB LL ss=false))/\True from⟨⟨HNM.out,by rw [HEM.out.2.2.1,HAr.out];exact HKN.out,HTX.out,HEM.out.2.2.2,fun q=>by rw [HI0.out]at q;cases q.2⟩,trivial⟩);go_enter Tryz.func42,Tryz.ntmps42;go_wp2_with fail
       refine HN.out.mono ?_;rintro e w' ⟨rfl,rfl⟩;go_wp2_with fail
       refine(HT.out w hnil).mono ?_;rintro e w2 ⟨v,rfl,hk2,rfl⟩;have HK2:=qH hk2;have c1':=HC1.out w2 hk2;clear hk2;go_wp2_with fail
       refine(HHas.out w2 HK2.out).mono ?_;rintro e w2b ⟨v,rfl,hk3,rfl⟩;have HK2b:=qH (HK2.out.trans hk3);clear hk3 c1';go_wp2_with fail
       refine(HA.out w2b HK2b.out).mono ?_;rintro e w3 ⟨v,rfl,hk3,hv,S',iv',hss,hsn,hrows3,hiv⟩;rw [<-HEM.out.2.1]at hk3 hrows3;rw [<-HEM.out.2.2.1]at hrows3;have HX3:=qH (nIX hk3 (nIX hss (nIX hsn (nIX hrows3 hiv))));rw [HR0.out]at hv;subst hv;clear hk3 hss hsn hrows3 hiv;by_cases h4:65536≤LL.length/\aX aB LL ss=false
       ·have e4:(if 65536≤LL.length/\aX aB LL ss=false then(false,4)else(!aX aB LL ss,0))=(false,4):=if_pos h4;have H4:=qH (nIX h4 e4);rw [e4];clear h4 e4;go_wp2;go_ret2;exact qW H.out HE.out HF.out.1 HK2b.out HX3.out.1 HX3.out.2.1 HX3.out.2.2.1 HX3.out.2.2.2.1 HX3.out.2.2.2.2 (by rw [HEM.out.2.2.1];exact HR0.out) H4.out.1
       ·have e4:(if 65536≤LL.length/\aX aB LL ss=false then(false,4)else(!aX aB LL ss,0))=(!aX aB LL ss,0):=if_neg h4;have H4:=qH (nIX h4 e4);rw [e4];clear h4 e4;have hm3:=nW H.out HE.out HK2b.out HX3.out.1;have hb3:=gG H.out HE.out HK2b.out HX3.out.1;have HB3:=qH (nIX hb3 hm3);have c31:w3.cell? ⟨bb,1,none⟩=some (.int .i64 n):=by rw [HB3.out.1.cell',EN.out];rfl
        clear hm3 hb3 c31;cases hi:aX aB LL ss with
        |true=>
         have HI:=qH hi;clear hi;go_wp2_with fail
         refine(gF HB3.out.1 HB3.out.2 s (some ⟨b0,0,none⟩)).mono ?_;rintro e w4 ⟨v,rfl,hk4,hm4⟩;rw [<-HEM.out.2.1]at hm4;have HM4:=qH (nIX hk4 hm4);clear hk4 hm4;go_wp2;go_ret2;exact tL H.out HE.out HF.out.1 HK2b.out HX3.out.1 HX3.out.2.1 HX3.out.2.2.1 HX3.out.2.2.2.1 HX3.out.2.2.2.2 (by rw [HEM.out.2.2.1];exact HR0.out) HI.out HM4.out.1 HM4.out.2
        |false=>
         have HI:=qH hi;clear hi;go_wp2_with fail
         refine(gF HB3.out.1 HB3.out.2 s (some ⟨b0,0,none⟩)).mono ?_;rintro e w4 ⟨v,rfl,hk4,hm4⟩;rw [<-HEM.out.2.1]at hm4;have HM4:=qH (nIX hk4 hm4);have hb4:Blk w4 bb [.map (some r),.int .i64 (aV (aT E):Nat)] 129:=HB3.out.1.kp hk4 H.out.ne;have c4:w4.cell? ⟨bb,1,none⟩=some (.int .i64 n):=by rw [hb4.cell',EN.out];rfl
         have f4:=hb4.free 1;clear hk4 hm4 hb4;go_wp2;go_ret2;exact tM H.out HE.out HF.out.1 HK2b.out HX3.out.1 HX3.out.2.1 HX3.out.2.2.1 HX3.out.2.2.2.1 HX3.out.2.2.2.2 (by rw [HEM.out.2.2.1];exact HR0.out) HI.out H4.out.1 HM4.out.1 HM4.out.2 EN.out
     ·have q2:decide ((262144:Int)≤(n:Int))=false:=by rw [decide_eq_false_iff_not];omega
      have HM:=qH hm;clear hm;have HF:=qH (show(bM s=true/\e0.ar=ss.length/\bI ss=true/\e0.LL=LL/\¬(262144≤aV (aT E)/\aX aB LL ss=false))/\True from⟨⟨HNM.out,by rw [HEM.out.2.2.1,HAr.out];exact HKN.out,HTX.out,HEM.out.2.2.2,fun q=>HM.out (by rw [<-EN.out];exact q.1)⟩,trivial⟩);go_enter Tryz.func42,Tryz.ntmps42;go_wp2_with fail
      refine HN.out.mono ?_;rintro e w' ⟨rfl,rfl⟩;go_wp2_with fail
      refine(HT.out w hnil).mono ?_;rintro e w2 ⟨v,rfl,hk2,rfl⟩;have HK2:=qH hk2;have c1':=HC1.out w2 hk2;clear hk2;go_wp2_with fail
      refine(HA.out w2 HK2.out).mono ?_;rintro e w3 ⟨v,rfl,hk3,hv,S',iv',hss,hsn,hrows3,hiv⟩;rw [<-HEM.out.2.1]at hk3 hrows3;rw [<-HEM.out.2.2.1]at hrows3;have HX3:=qH (nIX hk3 (nIX hss (nIX hsn (nIX hrows3 hiv))));rw [HR0.out]at hv;subst hv;clear hk3 hss hsn hrows3 hiv;by_cases h4:65536≤LL.length/\aX aB LL ss=false
      ·have e4:(if 65536≤LL.length/\aX aB LL ss=false then(false,4)else(!aX aB LL ss,0))=(false,4):=if_pos h4;have H4:=qH (nIX h4 e4);rw [e4];clear h4 e4;go_wp2;go_ret2;exact qW H.out HE.out HF.out.1 HK2.out HX3.out.1 HX3.out.2.1 HX3.out.2.2.1 HX3.out.2.2.2.1 HX3.out.2.2.2.2 (by rw [HEM.out.2.2.1];exact HR0.out) H4.out.1
      ·have e4:(if 65536≤LL.length/\aX aB LL ss=false then(false,4)else(!aX aB LL ss,0))=(!aX aB LL ss,0):=if_neg h4;have H4:=qH (nIX h4 e4);rw [e4];clear h4 e4;have hm3:=nW H.out HE.out HK2.out HX3.out.1;have hb3:=gG H.out HE.out HK2.out HX3.out.1;have HB3:=qH (nIX hb3 hm3);have c31:w3.cell? ⟨bb,1,none⟩=some (.int .i64 n):=by rw [HB3.out.1.cell',EN.out];rfl
       clear hm3 hb3 c31;cases hi:aX aB LL ss with
       |true=>
        have HI:=qH hi;clear hi;go_wp2_with fail
        refine(gF HB3.out.1 HB3.out.2 s (some ⟨b0,0,none⟩)).mono ?_;rintro e w4 ⟨v,rfl,hk4,hm4⟩;rw [<-HEM.out.2.1]at hm4;have HM4:=qH (nIX hk4 hm4);clear hk4 hm4;go_wp2;go_ret2;exact tL H.out HE.out HF.out.1 HK2.out HX3.out.1 HX3.out.2.1 HX3.out.2.2.1 HX3.out.2.2.2.1 HX3.out.2.2.2.2 (by rw [HEM.out.2.2.1];exact HR0.out) HI.out HM4.out.1 HM4.out.2
       |false=>
        have HI:=qH hi;clear hi;go_wp2_with fail
        refine(gF HB3.out.1 HB3.out.2 s (some ⟨b0,0,none⟩)).mono ?_;rintro e w4 ⟨v,rfl,hk4,hm4⟩;rw [<-HEM.out.2.1]at hm4;have HM4:=qH (nIX hk4 hm4);have hb4:Blk w4 bb [.map (some r),.int .i64 (aV (aT E):Nat)] 129:=HB3.out.1.kp hk4 H.out.ne;have c4:w4.cell? ⟨bb,1,none⟩=some (.int .i64 n):=by rw [hb4.cell',EN.out];rfl
        have f4:=hb4.free 1;clear hk4 hm4 hb4;go_wp2;go_ret2;exact tM H.out HE.out HF.out.1 HK2.out HX3.out.1 HX3.out.2.1 HX3.out.2.2.1 HX3.out.2.2.2.1 HX3.out.2.2.2.2 (by rw [HEM.out.2.2.1];exact HR0.out) HI.out H4.out.1 HM4.out.1 HM4.out.2 EN.out
   ·have HAr:=qH ha;have q1:((ar:Int) !=(k:Int))=true:=by rw [bne_iff_ne];omega
    clear ha;go_enter Tryz.func42,Tryz.ntmps42;go_wp2_with fail
    refine HN.out.mono ?_;rintro e w' ⟨rfl,rfl⟩;go_wp2;go_ret2;exact RetF.mk (Kp.refl _) (BaseAdded.same H.out (Kp.refl _) (pO HNM.out (dP HE.out).1 (by show e0.ar≠ss.length;rw [HEM.out.2.2.1,<-HKN.out];exact HAr.out)) (by decide) rfl)
section
variable {S S':Nat->Prop}{w w1 w2 w3 w4:World}{bb r:Nat}{E:List Ent}{s:ByteArray}{e:Ent}
def BaseDecled(S:Nat->Prop)(w:World)(bb r:Nat)(E:List Ent)(s:ByteArray)(a:Int)(w':World)(v:Value):Prop:=
 v= .int .i64 ((cV (aT E) s a:Nat):Int)/\∃E',BaseAt S w' bb r E'/\aT E'=cW (aT E) s a/\∀k,eJ bb r E' k->eJ bb r E k\/w.heap.size≤k
theorem BaseDecled.same{a:Int}(h:BaseAt S w bb r E)(hk:Ext w w1){n:Nat}(hR:cV (aT E) s a=n)(hn:cW (aT E) s a=aT E){v:Value}(hv:v= .int .i64 (n:Nat)):BaseDecled S w bb r E s a w1 v:=
 ⟨by rw [hv,hR],E,h.ext hk,hn.symm,fun _ h=> .inl h⟩
theorem pN{C:List bA}(a:Int)(h:bM s=false):cV C s a=32:=if_pos h
theorem zW{C:List bA}{a:Int}(h:bM s=true)(ha:a<0\/64<a):cV C s a=2:=by unfold cV;rw [if_neg (by rw [h];simp),if_pos ha]
theorem pM{C:List bA}{a:Int}(h:bM s=true)(ha:¬(a<0\/64<a))(hg:bU C s=none):cV C s a=0:=by unfold cV;rw [if_neg (by rw [h];simp),if_neg ha,hg]
theorem wZ{C:List bA}{a:Int}{v:Nat×aD}(h:bM s=true)(ha:¬(a<0\/64<a))(hg:bU C s=some v):cV C s a=if(v.1:Int)=a then 0 else 30:=by unfold cV;rw [if_neg (by rw [h];simp),if_neg ha,hg]
theorem oK{C:List bA}{a:Int}(h:cV C s a≠0):cW C s a=C:=if_neg fun k=>h k.1
theorem xA{C:List bA}{a:Int}{v:Nat×aD}(hg:bU C s=some v):cW C s a=C:=if_neg fun k=>by rw [hg]at k;cases k.2
theorem aBa{k b:Nat}(h:BaseAt S w bb r E)(he:bS E s=none)(hn:bM s=true)(hk:k≤64)(hx:Ext w w3)(hr:RowsAt S w3 b (.slice none 0 0) k [])(hb:w.heap.size≤b)
 (hk4:Kp (fun k=>k=r) w3 w4)(hm4:MapIs w4 r (oQ (iR E) s (.pointer (some ⟨b,0,none⟩)))):RetF (eJ bb r E) w (BaseDecled S w bb r E s (k:Int)) (.returned (.int .i64 0)) w4:=by
 obtain⟨g1,g2⟩:=eT he;have hR:cV (aT E) s (k:Int)=0:=pM hn (by omega) g1;have hC:cW (aT E) s (k:Int)=aT (E++ [{name:=s,b:=b,iv:= .slice none 0 0,ar:=k,LL:= []}]):=by unfold cW;rw [if_pos ⟨hR,g1⟩];simp [aT,Ent.cnt]
 rw [zP he b (.slice none 0 0) k []]at hm4;have ho:∀q,eY b (.slice none 0 0) q->w.heap.size≤q:=fun q ho=>by
  rcases ho with rfl|ho
  ·exact hb
  ·cases ho
 have htot:aV (aT E)=aV (aT (E++ [{name:=s,b:=b,iv:= .slice none 0 0,ar:=k,LL:= []}])):=by simp [aV,aT,Ent.cnt]
 refine RetF.mk ((Ext.kp hx).trans (hk4.mono fun k _ ho=> .inr (.inl ho))) ⟨by rw [hR];rfl,E++ [{name:=s,b:=b,iv:= .slice none 0 0,ar:=k,LL:= []}],?_,hC.symm,?_⟩
 ·exact h.push (e:={name:=s,b:=b,iv:= .slice none 0 0,ar:=k,LL:= []}) hx (fun _ x=>x) (fun _ x=> .inl x) hr ho (hk4.mono fun k _ ho=> .inr ho) ((h.blk.ext hx).kp hk4 h.ne) hm4 htot (by rw [<-hC];exact aAv h.ok s _)
 ·rintro q (h1|h1|⟨f,hf,ho2⟩)
  ·exact .inl (.inl h1)
  ·exact .inl (.inr (.inl h1))
  ·rcases List.mem_append.1 hf with hf|hf
   ·exact .inl (.inr (.inr ⟨f,hf,ho2⟩))
   ·obtain rfl:=List.mem_singleton.1 hf;exact .inr (ho q ho2)
set_option maxHeartbeats 4000000 in
theorem aBb(h:BaseAt S w bb r E)(s:ByteArray)(a:Int):
 Calls Tryz.prog 107 #[.pointer (some ⟨bb,0,none⟩),.string s,.int .i64 a] w (RetF (eJ bb r E) w (BaseDecled S w bb r E s a)):=by
 have c0:=h.blk.c0;have hnm:=rR s w;rw [show decide (1≤s.size/\s.size≤4096)=bM s from rfl]at hnm;have HN:=qH hnm;clear hnm;have H:=qH h;have HLk:=qH (fun w1 (hw:Ext w w1)=>gO (P:=Tryz.prog) Tryz.underlying127 Tryz.underlying9 (z:= .pointer none) (by kernel_rfl) (h.map.ext hw) s);rw [lH]at HLk;clear h;cases hn:bM s with
 |false=>
  rw [hn]at HN;have HNM:=qH hn;clear hn c0;go_enter Tryz.func107,Tryz.ntmps107;go_wp2_with fail
  refine HN.out.mono ?_;rintro e w' ⟨rfl,rfl⟩;go_wp2;go_ret;exact RetF.mk (Kp.refl _) (BaseDecled.same H.out (Kp.refl _) (pN a HNM.out) (oK (by rw [pN a HNM.out];decide)) rfl)
 |true=>
  rw [hn]at HN;have HNM:=qH hn;clear hn;by_cases ha:a<0\/64<a
  ·have HNB:=qH (sO a w ha);have HAB:=qH ha;obtain⟨p,hp⟩:∃p:Option Addr,((bS E s).map Ent.ptr).getD (.pointer none)= .pointer p:=by
    cases bS E s with
    |none=>exact⟨none,rfl⟩
    |some e=>exact⟨some ⟨e.b,0,none⟩,rfl⟩
   have hlk:=HLk.out w (Kp.refl w);rw [hp]at hlk;clear ha hp;go_enter Tryz.func107,Tryz.ntmps107;go_wp2_with fail
   refine HN.out.mono ?_;rintro e w' ⟨rfl,rfl⟩;go_wp2_with fail
   refine HNB.out.mono ?_;rintro e w' ⟨rfl,rfl⟩;go_wp2;go_ret;have e2:=zW (s:=s) (C:=aT E) HNM.out HAB.out;exact RetF.mk (Kp.refl _) (BaseDecled.same H.out (Kp.refl _) e2 (oK (by rw [e2];decide)) rfl)
  ·obtain⟨k,rfl⟩:=Int.eq_ofNat_of_zero_le (show 0≤a by omega);have hk64:k≤64:=by omega
   have HNR:=qH (nB S w k hk64 H.out.inS);have HAN:=qH ha;clear ha;cases he:bS E s with
   |none=>
    rw [he]at HLk;have HE:=qH he;clear he;go_enter Tryz.func107,Tryz.ntmps107;go_wp2_with fail
    refine HN.out.mono ?_;rintro e w' ⟨rfl,rfl⟩;go_wp2_with fail
    refine HNR.out.mono ?_;rintro e w1 ⟨v,rfl,hk1,rfl,hrows⟩;have hlk:(Instr.lookup 127 (.map (some r)) (.string s) false).run Tryz.prog w1= .ok (.pointer none) w1:=HLk.out w1 hk1;have c1:=hk1.cell c0 id;have HK1:=qH (nIX hk1 hrows);clear hk1 hrows;go_wp2_with fail
    refine(gF (H.out.blk.ext HK1.out.1) (H.out.map.ext HK1.out.1) s (some ⟨w.heap.size,0,none⟩)).mono ?_;rintro e w4 ⟨v,rfl,hk4,hm4⟩;have HM4:=qH (nIX hk4 hm4);clear hk4 hm4;go_wp2;go_ret;exact aBa H.out HE.out HNM.out hk64 HK1.out.1 HK1.out.2 (Nat.le_refl _) HM4.out.1 HM4.out.2
   |some e0=>
    rw [he]at HLk;have HE:=qH he;obtain⟨hem,hes⟩:=cJ he;obtain⟨b0,eb0⟩:=nm e0.b;obtain⟨ar,ear⟩:=nm e0.ar;have d2:w.cell? ⟨b0,2,none⟩=some (.int .i64 ar):=by rw [<-eb0,(H.out.rows e0 hem).blk.cell',ear];rfl
    have HEM:=qH (nIX eb0 ear);have hg:bU (aT E) s=some (ar,e0.LL):=by rw [<-ear];exact(dP he).1
    have hR:=wZ (C:=aT E) HNM.out HAN.out hg;have HR:=qH (nIX hR (xA (C:=aT E) (a:=(k:Int)) hg));clear he hem hes eb0 ear hg hR;by_cases hq:ar=k
    ·have q1:((ar:Int) !=(k:Int))=false:=by simp [hq]
     have HQ:=qH hq;clear hq;go_enter Tryz.func107,Tryz.ntmps107;go_wp2_with fail
     refine HN.out.mono ?_;rintro e w' ⟨rfl,rfl⟩;go_wp2_with fail
     refine HNR.out.mono ?_;rintro e w1 ⟨v,rfl,hk1,rfl,hrows⟩;have hlk:(Instr.lookup 127 (.map (some r)) (.string s) false).run Tryz.prog w1= .ok (.pointer (some ⟨b0,0,none⟩)) w1:=by rw [<-HEM.out.1];exact HLk.out w1 hk1
     have c1:=hk1.cell c0 id;have d21:=hk1.cell d2 id;have HK1:=qH hk1;clear hk1 hrows;go_wp2;go_ret;exact RetF.mk (Ext.kp HK1.out) (BaseDecled.same H.out HK1.out (by rw [HR.out.1,if_pos (by rw [HQ.out])]) HR.out.2 rfl)
    ·have q1:((ar:Int) !=(k:Int))=true:=by rw [bne_iff_ne];omega
     have HQ:=qH hq;clear hq;go_enter Tryz.func107,Tryz.ntmps107;go_wp2_with fail
     refine HN.out.mono ?_;rintro e w' ⟨rfl,rfl⟩;go_wp2_with fail
     refine HNR.out.mono ?_;rintro e w1 ⟨v,rfl,hk1,rfl,hrows⟩;have hlk:(Instr.lookup 127 (.map (some r)) (.string s) false).run Tryz.prog w1= .ok (.pointer (some ⟨b0,0,none⟩)) w1:=by rw [<-HEM.out.1];exact HLk.out w1 hk1
     have c1:=hk1.cell c0 id;have d21:=hk1.cell d2 id;have HK1:=qH hk1;clear hk1 hrows;go_wp2;go_ret;exact RetF.mk (Ext.kp HK1.out) (BaseDecled.same H.out HK1.out (by rw [HR.out.1,if_neg (fun q=>HQ.out (by omega))]) HR.out.2 rfl)
end
def RelsIn(S:Nat->Prop)(w:World)(ao:Option Addr)(L:List dW):Prop:=∀(i:Nat) (q:dW),L[i]?=some q->∃b off ra rcap,ao=some ⟨b,off,none⟩/\S b/\w.cell? ⟨b,off+i*3,none⟩=some (.string q.1)/\w.cell? ⟨b,off+i*3+1,none⟩=some (.int .i64 q.2.1)/\w.cell? ⟨b,off+i*3+2,none⟩=some (.slice ra q.2.2.1.length rcap)/\q.2.2.1.length≤rcap/\rcap≤maxLen/\RowsIn S w ra q.2.2.1
section
variable {S S':Nat->Prop}{w w':World}{ao:Option Addr}{L:List dW}
theorem RelsIn.kp{F:Nat->Prop}(h:RelsIn S w ao L)(hk:Kp F w w')(hF:∀k,F k->¬S k):RelsIn S w' ao L:=fun i q hq=>by obtain⟨b,off,ra,rcap,e,hb,c0,c1,c2,h1,h2,h3⟩:=h i q hq;exact⟨b,off,ra,rcap,e,hb,hk.cell c0 (fun f=>hF _ f hb),hk.cell c1 (fun f=>hF _ f hb),hk.cell c2 (fun f=>hF _ f hb),h1,h2,h3.kp hk hF⟩
theorem RelsIn.ext(h:RelsIn S w ao L)(hk:Ext w w'):RelsIn S w' ao L:=h.kp hk fun _ x=>x.elim
end
theorem aDb{C:List bA}{q:dW}{L:List dW}(h:cV C q.1 q.2.1≠0):cS C (q::L)=(C,cV C q.1 q.2.1):=if_neg h
theorem aDa{C:List bA}{q:dW}{L:List dW}(h:cV C q.1 q.2.1=0)(h2:(eV (cW C q.1 q.2.1) q.1 q.2.2.1).2≠0):cS C (q::L)=eV (cW C q.1 q.2.1) q.1 q.2.2.1:=by show(if cV C q.1 q.2.1=0 then _ else _)=_;rw [if_pos h,if_neg h2]
theorem aG4{C:List bA}{q:dW}{L:List dW}(h:cV C q.1 q.2.1=0)(h2:(eV (cW C q.1 q.2.1) q.1 q.2.2.1).2=0):cS C (q::L)=cS (eV (cW C q.1 q.2.1) q.1 q.2.2.1).1 L:=by show(if cV C q.1 q.2.1=0 then _ else _)=_;rw [if_pos h,if_pos h2]
theorem aAe{C:List bA}{s:ByteArray}{x:List ByteArray}{rs:aD}(h:(dB C s x).2=0):eV C s (x::rs)=eV (gW C s x) s rs:=if_pos h
theorem xN{C:List bA}{s:ByteArray}{x:List ByteArray}{rs:aD}(h:(dB C s x).2≠0):eV C s (x::rs)=(C,(dB C s x).2):=if_neg h
def FromV(w:World)(L:List dW)(w':World)(v:Value):Prop:=
 ((cS [] L).2=0->∃bb r S E,v= .tuple #[.pointer (some ⟨bb,0,none⟩),.int .i64 0]/\BaseAt S w' bb r E/\aT E=(cS [] L).1/\(∀k,S k->w.heap.size≤k)/\∀k,eJ bb r E k->w.heap.size≤k)/\
 ((cS [] L).2≠0->v= .tuple #[.pointer none,.int .i64 (((cS [] L).2:Nat):Int)])
structure MyBase(w0:World)(S:Nat->Prop)(w:World)(bb r:Nat)(E:List Ent):Prop where
 base:BaseAt S w bb r E
 ext:Ext w0 w
 pool:∀k,S k->w0.heap.size≤k
 own:∀k,eJ bb r E k->w0.heap.size≤k
def aNf(w0:World)(bb r:Nat)(L:List dW)(n:Nat)(iv:Value)(w:World):Prop:=∃i:Nat,i≤n/\iv= .int .i64 i/\Hid (∃S E,MyBase w0 S w bb r E/\cS (aT E) (L.drop i)=cS [] L)
def aNg(w0:World)(bb r:Nat)(q:dW)(R:List bA×Nat)(g:Nat)(cs:List Value)(m:Nat)(jv:Value)(w:World):Prop:=∃j:Nat,j≤m/\jv= .int .i64 j/\Hid (∃S E,MyBase w0 S w bb r E/\eV (aT E) q.1 (q.2.2.1.drop j)=R/\Blk w g cs 116/\¬eJ bb r E g)
theorem drop_at{α:Type}{xs:List α}{i:Nat}{x:α}(h:xs[i]?=some x):xs.drop i=x::xs.drop (i+1):=by obtain⟨hi,e⟩:=List.getElem?_eq_some_iff.1 h;rw [List.drop_eq_getElem_cons hi,e]
theorem cells_lt{w:World}{xa:Option Addr}{ss:List ByteArray}(h:CellsAt w xa (strs ss))(hne:ss≠ []):∀a,xa=some a->a.block<w.heap.size:=fun a e=>by
 cases ss with
 |nil=>exact absurd rfl hne
 |cons s ss=>
  obtain⟨b,off,e1,hc⟩:=h 0 (.string s) rfl;rw [e]at e1;cases e1;exact World.block_lt_of_cell? _ _ hc
set_option maxHeartbeats 4000000 in
theorem aDc(L:List dW)(ao:Option Addr)(n cap:Nat)(w:World)(S0:Nat->Prop)(hn:n=L.length)(hL:RelsIn S0 w ao L)(hl:n≤4194304)(hr:∀q∈L,q.2.2.1.length≤1048576):
 Calls Tryz.prog 59 #[.slice ao n cap] w (RetN w (FromV w L)):=by
 have HN:=qH hn;have HL:=qH hL;have HR:=qH hr;clear hn hL hr;go_enter Tryz.func59,Tryz.ntmps59;go_wp2_with fail
 refine(aCs w).mono ?_;rintro e w1 ⟨v,rfl,hk1,rfl,hB,hm⟩;obtain⟨bb,ebb⟩:=nm (w.heap.size+1);rw [ebb]at hB ⊢;obtain⟨r,er⟩:=nm w.heap.size;rw [er]at hB hm;have HM0:=qH (show MyBase w (fun _=>False) w1 bb r []from
  {base:=BaseAt.new (fun _=>False) (fun _ x=>x.elim) hk1 (by omega) (by omega) (by omega) hB hm
   ext:=hk1,pool:=fun _ x=>x.elim
   own:=fun k hk=>by
    rcases hk with rfl|rfl|⟨e,he,_⟩
    ·omega
    ·omega
    ·simp at he})
 clear hB hm hk1 ebb er;go_wp2;go_loopw [15] (fun iv wr=>aNf w bb r L n iv wr) (fun iv _=>n- (intOf iv).toNat)
 case atStart=>exact⟨0,Nat.zero_le _,rfl,_,[],HM0.out,rfl⟩
 case round=>
  clear HM0;obtain⟨i,hi,rfl,hin⟩:=hrel;obtain⟨S,E,hM,hF⟩:=hin.out;have HM:=qH hM;have HF:=qH hF;clear hin hM hF;by_cases hlt:i<n
  ·obtain⟨q,hq⟩:∃q,L[i]?=some q:=⟨_,qG (by rw [<-HN.out];exact hlt)⟩;obtain⟨b,off,ra,rcap,eao,hSb,c0,c1,c2,hrl,hrm,hrows⟩:=HL.out i q hq;subst eao;replace c0:=HM.out.ext.cell c0 id;replace c1:=HM.out.ext.cell c1 id;replace c2:=HM.out.ext.cell c2 id;obtain⟨s,es⟩:=nm q.1;obtain⟨a,ea⟩:=nm q.2.1;obtain⟨m,em⟩:=nm q.2.2.1.length;rw [es]at c0;rw [ea]at c1;rw [em]at c2 hrl;have hm1:m≤1048576:=by rw [<-em];exact HR.out q (List.mem_of_getElem? hq)
   have HQ:=qH (nIX hq (nIX es (nIX ea em)));have HRows:=qH hrows;clear hq es ea em hrows hSb;obtain⟨gx,egx⟩:=nm wr.heap.size;obtain⟨wx,ewx⟩:=nm (wr.alloc (.cells #[.string s,.int .i64 a,.slice ra m rcap] 116));have HBx:=qH (show Blk wx gx [.string s,.int .i64 a,.slice ra m rcap] 116 by rw [<-ewx,<-egx];exact Blk.new wr _ _);have HXx:=qH (show Ext wr wx by rw [<-ewx];exact(Kp.refl wr).alloc _);have HGx:=qH (show ∀k,eJ bb r E k->k<gx from fun k hk=>by rw [<-egx];exact HM.out.base.ownLt k hk);have EGX:=qH egx;have x0:wx.cell? ⟨wr.heap.size,0,none⟩=some (.string s):=by rw [egx,HBx.out.cell'];rfl
   have x1:wx.cell? ⟨wr.heap.size,1,none⟩=some (.int .i64 a):=by rw [egx,HBx.out.cell'];rfl
   clear egx;go_wp2_with fail
   rw [EGX.out];refine(aBb (HM.out.base.ext HXx.out) s a).mono ?_;rintro e w2 ⟨v,rfl,hk2,rfl,E1,hB1,hC1,ho1⟩;have hgx:gx<wx.heap.size:=HBx.out.lt;have hbx2:Blk w2 gx [.string s,.int .i64 a,.slice ra m rcap] 116:=HBx.out.kp hk2 fun ho=>by have:=HGx.out gx ho;omega
   have hM1:MyBase w S w2 bb r E1:=
    {base:=hB1
     ext:=(HM.out.ext.trans HXx.out).trans' hk2 fun k hk ho=>by have:=HM.out.own k ho;omega
     pool:=HM.out.pool
     own:=fun k hk=>by
      rcases ho1 k hk with h1|h1
      ·exact HM.out.own k h1
      ·have:=(HM.out.ext.trans HXx.out).size;omega}
   have hng:¬eJ bb r E1 gx:=fun ho=>by
    rcases ho1 gx ho with h1|h1
    ·have:=HGx.out gx h1;omega
    ·omega
   have HM1:=qH (nIX hM1 (nIX hC1 (nIX hbx2 hng)));clear hk2 hB1 hC1 ho1 hgx hbx2 hM1 hng ewx x0 x1 c0 c1 c2;obtain⟨d,ed⟩:=nm (cV (aT E) s a);rw [ed];have ED:=qH ed;clear ed;have y2:=HM1.out.2.2.1.c2;by_cases hd:d=0
   ·have q1:((d:Int) !=0)=false:=by simp [hd]
    have HD:=qH hd;clear hd;have hdr:(L.drop i)=q::L.drop (i+1):=drop_at HQ.out.1;have HDr:=qH hdr;clear hdr;go_wp2;clear q1;generalize hw5:w2=w5 at*;clear hw5;go_loopw [31] (fun jv wk=>aNg w bb r q (eV (cW (aT E) s a) s q.2.2.1) gx [.string s,.int .i64 a,.slice ra m rcap] m jv wk) (fun jv _=>m- (intOf jv).toNat)
    case atStart=>exact⟨0,Nat.zero_le _,rfl,S,E1,HM1.out.1,by rw [HM1.out.2.1,HQ.out.2.1];rfl,HM1.out.2.2.1,HM1.out.2.2.2⟩
    case round=>
     clear HM1 HBx HXx HGx EGX y2;obtain⟨j,hj,rfl,hin⟩:=hrel;obtain⟨S1,E2,hM2,hA2,hbx,hng⟩:=hin.out;have HM2:=qH (nIX hM2 (nIX hA2 (nIX hbx hng)));clear hin hM2 hA2 hbx hng;by_cases hlt2:j<m
     ·obtain⟨ss,hss⟩:∃ss,q.2.2.1[j]?=some ss:=⟨_,qG (by rw [HQ.out.2.2.2];exact hlt2)⟩;obtain⟨g,o,xa,xcap,era,d0,d1,d2,d3⟩:=HRows.out.get hss;subst era;replace d0:=HM2.out.1.ext.cell d0 id;obtain⟨k,ek⟩:=nm ss.length;rw [ek]at d0;have HSS:=qH (nIX hss ek);have HRow:=qH (nIX d1 (nIX d2 d3));have y0:=HM2.out.2.2.1.c0;clear hss ek d1 d2 d3;go_wp2_with fail
      refine(tN HM2.out.1.base s (ao:=xa) (k:=k) (cap:=xcap) (ss:=ss) ⟨⟨HSS.out.2.symm,HRow.out.1.ext HM2.out.1.ext⟩,HRow.out.2.1,fun a e hne=>Nat.lt_of_lt_of_le (cells_lt HRow.out.1 (fun h=>hne (by show k=0;rw [<-HSS.out.2,h];rfl)) a e) HM2.out.1.ext.size⟩ (fun a e hne ho=>by have h1:=HM2.out.1.own _ ho;have h2:=cells_lt HRow.out.1 (fun h=>hne (by show k=0;rw [<-HSS.out.2,h];rfl)) a e;omega)).mono ?_;rintro e w3 ⟨v,rfl,hk3,rfl,S3,E3,hs1,hs2,hB3,hC3,ho3⟩;have hgx:gx<wr.heap.size:=HM2.out.2.2.1.lt;have hM3:MyBase w S3 w3 bb r E3:=
       {base:=hB3
        ext:=HM2.out.1.ext.trans' hk3 fun k hk ho=>by have:=HM2.out.1.own k ho;omega
        pool:=fun k hk=>by
         rcases hs2 k hk with h1|h1
         ·exact HM2.out.1.pool k h1
         ·have:=HM2.out.1.ext.size;omega
        own:=fun k hk=>by
         rcases ho3 k hk with h1|h1
         ·exact HM2.out.1.own k h1
         ·have:=HM2.out.1.ext.size;omega}
      have hb3:Blk w3 gx [.string s,.int .i64 a,.slice (some ⟨g,o,none⟩) m rcap] 116:=HM2.out.2.2.1.kp hk3 HM2.out.2.2.2;have hng:¬eJ bb r E3 gx:=fun ho=>by
       rcases ho3 gx ho with h1|h1
       ·exact HM2.out.2.2.2 h1
       ·omega
      have HM3:=qH (nIX hM3 (nIX hC3 (nIX hb3 hng)));clear hk3 hB3 hC3 ho3 hgx hM3 hng hb3 hs1 hs2 y0 d0;obtain⟨x1,ex1⟩:=nm ((dB (aT E2) s ss).1);obtain⟨x2,ex2⟩:=nm ((dB (aT E2) s ss).2);rw [ex1,ex2];have EX:=qH ex2;clear ex1 ex2;have hdj:q.2.2.1.drop j=ss::q.2.2.1.drop (j+1):=drop_at HSS.out.1;have HDj:=qH hdj;clear hdj;by_cases hx:x2=0
      ·have q1:((x2:Int) !=0)=false:=by simp [hx]
       have HX:=qH hx;clear hx;go_wp2;go_roundw
       case rel=>
        refine⟨j+1,by omega,nMX,S3,E3,HM3.out.1,?_,HM3.out.2.2.1,HM3.out.2.2.2⟩;rw [HM3.out.2.1,<-HM2.out.2.1,HDj.out,HQ.out.2.1];exact(aAe (by rw [EX.out];exact HX.out)).symm
       case measure=>simp [intOf];omega
      ·have q1:((x2:Int) !=0)=true:=by simp;omega
       have HX:=qH hx;clear hx;go_wp2;go_ret2;have hall:=HM2.out.2.1;rw [HDj.out,HQ.out.2.1,xN (by rw [EX.out];exact HX.out),EX.out]at hall;have hfr:cS [] L=(aT E2,x2):=by rw [<-HF.out,HDr.out,aDa (by rw [HQ.out.2.1,HQ.out.2.2.1,ED.out];exact HD.out) (by rw [HQ.out.2.1,HQ.out.2.2.1,<-hall];exact HX.out),HQ.out.2.1,HQ.out.2.2.1,<-hall]
       exact RetN.mk HM3.out.1.ext ⟨fun h0=>by rw [hfr]at h0;exact absurd h0 HX.out,fun _=>by rw [hfr];rfl⟩
     ·obtain rfl:j=m:=by omega
      have hall:=HM2.out.2.1;rw [List.drop_of_length_le (by rw [HQ.out.2.2.2];exact Nat.le_refl _)]at hall;have hall':eV (cW (aT E) s a) s q.2.2.1=(aT E2,0):=hall.symm;have HAll:=qH hall';clear hall hall';go_wp2;go_roundw
      case rel=>
       refine⟨i+1,by omega,nMX,S1,E2,HM2.out.1,?_⟩;rw [<-HF.out,HDr.out,aG4 (by rw [HQ.out.2.1,HQ.out.2.2.1,ED.out];exact HD.out) (by rw [HQ.out.2.1,HQ.out.2.2.1,HAll.out]),HQ.out.2.1,HQ.out.2.2.1,HAll.out]
      case measure=>simp [intOf];omega
   ·have q1:((d:Int) !=0)=true:=by simp;omega
    have HD:=qH hd;clear hd;go_wp2;go_ret2;have hfr:cS [] L=(aT E,d):=by rw [<-HF.out,drop_at HQ.out.1,aDb (by rw [HQ.out.2.1,HQ.out.2.2.1,ED.out];exact HD.out),HQ.out.2.1,HQ.out.2.2.1,ED.out]
    exact RetN.mk HM1.out.1.ext ⟨fun h0=>by rw [hfr]at h0;exact absurd h0 HD.out,fun _=>by rw [hfr];rfl⟩
  ·obtain rfl:i=n:=by omega
   have hfr:cS [] L=(aT E,0):=by rw [<-HF.out,List.drop_of_length_le (by rw [<-HN.out];exact Nat.le_refl _)];rfl
   have HFr:=qH hfr;clear hfr;go_wp2;go_ret2;exact RetN.mk HM.out.ext ⟨fun _=>⟨bb,r,S,E,rfl,HM.out.base,by rw [HFr.out],HM.out.pool,HM.out.own⟩,fun h0=>absurd (by rw [HFr.out]) h0⟩
end
section
open Go.RowKit Go.Shelf
attribute [local go_sem] Oper.semAt_some
def aJ6(C:List bA)(ls:List aJ)(j:Nat):aD:=match ls[j]? with|some l=>bO C (bC l)|none=> []
def qV(r:dC)(C:List bA):aD:=if bG r=0 then aG6 r (aJ6 C r.2.1)else []
theorem vK(E:List Ent)(s:ByteArray):gR (bS E s)=bO (aT E) s:=by unfold bO;rw [qT];cases bS E s<;>rfl
theorem aJ5(ls:List aJ)(E:List Ent):cE (aAu ls E) ls=aJ6 (aT E) ls:=by
 funext j
 unfold cE aAu aJ6;by_cases hj:j<ls.length
 ·rw [if_pos hj,qG hj,vK];rfl
 ·rw [if_neg hj,List.getElem?_eq_none (by omega)];rfl
theorem aF5(r:dC)(E:List Ent):mD r (cE (aAu r.2.1 E) r.2.1) (qV r (aT E)):=by rw [aJ5];unfold qV;exact⟨fun hc=>by rw [if_pos hc];exact xL hc _,fun hc=>by rw [if_neg hc]⟩
abbrev TT:Nat->Prop:=fun _=>True
def fitB(ts:List aE):Bool:=ts.all fun t=>(Lit.int .i64 t.1).wf && decide (t.2.1.size≤4096)
theorem aIx{t:aE}(h:((Lit.int .i64 t.1).wf && decide (t.2.1.size≤4096))=true):fU t:=by rw [Bool.and_eq_true,decide_eq_true_eq]at h;exact⟨h.1,by unfold maxLen;omega⟩
theorem wQ{ts:List aE}(h:fitB ts=true):∀t∈ts,fU t:=fun t ht=>aIx (List.all_eq_true.1 h t ht)
def aGx(ls:List aJ):Bool:=ls.all fun l=>(Lit.int .i64 l.1).wf && (decide ((bC l).size≤4096) && (fitB (aA l) && ((Lit.int .i64 (gS l)).wf && fitB [leftOf l,aN l])))
theorem sW{ls:List aJ}(h:aGx ls=true):∀l∈ls,LitAll l:=fun l hl=>by have h1:=List.all_eq_true.1 h l hl;simp only [Bool.and_eq_true,decide_eq_true_eq]at h1;obtain⟨a,b,c,d,e⟩:=h1;have e2:=wQ e;exact⟨a,by unfold maxLen;omega,wQ c,d,e2 _ (by simp),e2 _ (by simp)⟩
theorem oA(w:World)(ts:List aE)(h:fitB ts=true):aR (w.alloc (.cells (iT ts).toArray 38)) TT (some ⟨w.heap.size,0,none⟩) ts:=
 aDn (s:=cA) (f:=mJ) (rest:= []) (fun x=>rfl) (fun i x hi=>oB (wQ h x (List.mem_of_getElem? hi))) trivial (by rw [List.append_nil];exact Blk.new w (iT ts) 38)
theorem aKh(w:World)(a:Option Addr):cD w TT a []:=fun i x hx=>by simp at hx
theorem aKi(w:World)(ls:List aJ)(vs:List (Option Addr×Nat))(hv:vs.length=ls.length)(h:aGx ls=true)(ht:∀x∈ls.zip vs,aR w TT x.2.1 (aA x.1)/\(aA x.1).length≤x.2.2/\x.2.2≤maxLen):cD (w.alloc (.cells ((ls.zip vs).flatMap gI).toArray 40)) TT (some ⟨w.heap.size,0,none⟩) ls:=
 pJ (rest:= []) hv (sW h) (fun x hx=>⟨(ht x hx).1.ext ((Kp.refl w).alloc _),(ht x hx).2⟩) trivial (by rw [List.append_nil];exact Blk.new w ((ls.zip vs).flatMap gI) 40)
theorem aIe{w:World}{G:Nat->Prop}{ao:Option Addr}{ls:List aJ}(h:cD w G ao ls):∃vs:List (Option Addr×Nat),vs.length=ls.length/\CellsAt w ao ((ls.zip vs).flatMap gI)/\∀x∈ls.zip vs,LitIn w G x.1 x.2.1 x.2.2:=by
 have hex:∀i:Fin ls.length,∃p:Option Addr×Nat,LitIn w G ls[i] p.1 p.2/\∀c u,(gI (ls[i],p))[c]?=some u->∃b off,ao=some ⟨b,off,none⟩/\w.cell? ⟨b,off+i.1*8+c,none⟩=some u:=fun i=>by
  obtain⟨b,off,a,cap,e,-,-,hl,c0,c1,c2,c3,c4,c5,c6,c7⟩:=iC h (qG i.2);refine⟨(a,cap),hl,fun c u hu=>⟨b,off,e,?_⟩⟩
  match c,hu with
  |0,hu=>cases hu;exact c0
  |1,hu=>cases hu;exact c1
  |2,hu=>cases hu;exact c2
  |3,hu=>cases hu;exact c3
  |4,hu=>cases hu;exact c4
  |5,hu=>cases hu;exact c5
  |6,hu=>cases hu;exact c6
  |7,hu=>cases hu;exact c7
  |k+8,hu=>cases hu
 let f:Fin ls.length->Option Addr×Nat:=fun i=>Classical.choose (hex i)
 have hf:∀i,_:=fun i=>Classical.choose_spec (hex i);have hz:∀(i:Nat) x,(ls.zip (List.ofFn f))[i]?=some x->∃hi:i<ls.length,x=(ls[i],f ⟨i,hi⟩):=fun i x hx=>by obtain⟨l,p⟩:=x;rw [List.getElem?_zip_eq_some]at hx;have hi:=(List.getElem?_eq_some_iff.1 hx.1).1;refine⟨hi,?_⟩;have h1:=hx.1;have h2:=hx.2;rw [qG hi]at h1;rw [List.getElem?_ofFn,dif_pos hi]at h2;cases h1;cases h2;rfl
 refine⟨List.ofFn f,List.length_ofFn,fun i u hu=>?_,fun x hx=>?_⟩
 ·have hl:=(List.getElem?_eq_some_iff.1 hu).1;rw [iP gI 8 iN,List.length_zip,List.length_ofFn,Nat.min_self]at hl;have hq:=Nat.div_add_mod i 8;have hm:=Nat.mod_lt i (show 8>0 by decide);have hi:i/8<ls.length:=Nat.div_lt_of_lt_mul (by omega);have hzi:(ls.zip (List.ofFn f))[i/8]?=some (ls[i/8],f ⟨i/8,hi⟩):=by
   rw [List.getElem?_zip_eq_some];exact⟨qG hi,by rw [List.getElem?_ofFn,dif_pos hi]⟩
  have hg:=flat_get gI 8 iN _ (i/8) _ (i % 8) hzi hm;rw [show i/8*8+i % 8=i by omega,hu]at hg;obtain⟨b,off,e,hc⟩:=(hf ⟨i/8,hi⟩).2 (i % 8) u hg.symm;refine⟨b,off,e,?_⟩;rw [<-hc]
  congr 2
  show off+i=off+i/8*8+i % 8;omega
 ·obtain⟨i,hi⟩:=List.mem_iff_getElem?.1 hx;obtain⟨hil,rfl⟩:=hz i x hi;exact(hf ⟨i,hil⟩).1
def sA:ByteArray:=⟨#[97]⟩
def sB:ByteArray:=⟨#[98]⟩
def sC:ByteArray:=⟨#[99]⟩
def aFm:List dW:= [(⟨#[101]⟩,2,[[sA,sB],[sB,sC],[sB,sB],[sC,sA]],()),(⟨#[110]⟩,1,[[sB]],()),(⟨#[122]⟩,0,[[]],())]
def awC:List bA:= [(⟨#[101]⟩,2,[[sA,sB],[sB,sB],[sB,sC],[sC,sA]]),(⟨#[110]⟩,1,[[sB]]),(⟨#[122]⟩,0,[[]])]
theorem aC8:cS [] aFm=(awC,0):=by kernel_rfl
def aJ7(l:List (Nat×List ByteArray)):List eI:=l.map fun x=>((some ⟨x.1,0,none⟩,x.2.length,x.2.length),x.2)
theorem rJ{w:World}{g:Nat}{l:List (Nat×List ByteArray)}{LL:aD}(hl:LL=l.map Prod.snd)(hB:Blk w g (cB (aJ7 l)) 34)(hr:∀x∈l,Blk w x.1 (strs x.2) 9/\x.2.length≤64):RowsIn TT w (some ⟨g,0,none⟩) LL:=by refine⟨aJ7 l,by rw [hl];unfold aJ7;rw [List.map_map];rfl,CellsAt.pre (rest:= []) (by rw [List.append_nil];exact hB),fun _ _=>trivial,fun p hp=>?_⟩;obtain⟨x,hx,rfl⟩:=List.mem_map.1 hp;obtain⟨h1,h2⟩:=hr x hx;exact⟨⟨rfl,CellsAt.pre (rest:= []) (by rw [List.append_nil];exact h1)⟩,by show x.2.length≤_;omega,fun _ _=>trivial⟩
set_option maxHeartbeats 4000000 in
theorem aIr(w:World):Calls Tryz.prog 26 #[] w (RetN w fun w' v=>∃bb E S,v= .pointer (some ⟨bb,0,none⟩)/\BaseV S w' v E/\aT E=awC):=by
 obtain⟨w1,e1⟩:=nm (w.alloc (.cells #[.string ⟨#[97]⟩,.string ⟨#[98]⟩] 9));have B1:=qH (show Blk w1 w.heap.size [.string ⟨#[97]⟩,.string ⟨#[98]⟩] 9 from by rw [<-e1];exact Blk.new w _ _);have Y1:=qH (show Ext w w1 from xAX e1);obtain⟨w2,e2⟩:=nm (w1.alloc (.cells #[.string ⟨#[98]⟩,.string ⟨#[99]⟩] 9));have B2:=qH (show Blk w2 w1.heap.size [.string ⟨#[98]⟩,.string ⟨#[99]⟩] 9 from by rw [<-e2];exact Blk.new w1 _ _);have Y2:=qH (show Ext w1 w2 from xAX e2);obtain⟨w3,e3⟩:=nm (w2.alloc (.cells #[.string ⟨#[98]⟩,.string ⟨#[98]⟩] 9));have B3:=qH (show Blk w3 w2.heap.size [.string ⟨#[98]⟩,.string ⟨#[98]⟩] 9 from by rw [<-e3];exact Blk.new w2 _ _);have Y3:=qH (show Ext w2 w3 from xAX e3);obtain⟨w4,e4⟩:=nm (w3.alloc (.cells #[.string ⟨#[99]⟩,.string ⟨#[97]⟩] 9));have B4:=qH (show Blk w4 w3.heap.size [.string ⟨#[99]⟩,.string ⟨#[97]⟩] 9 from by rw [<-e4];exact Blk.new w3 _ _);have Y4:=qH (show Ext w3 w4 from xAX e4);obtain⟨w5,e5⟩:=nm (w4.alloc (.cells #[.slice (some ⟨w.heap.size,0,none⟩) 2 2,.slice (some ⟨w1.heap.size,0,none⟩) 2 2,.slice (some ⟨w2.heap.size,0,none⟩) 2 2,.slice (some ⟨w3.heap.size,0,none⟩) 2 2] 34));have B5:=qH (show Blk w5 w4.heap.size [.slice (some ⟨w.heap.size,0,none⟩) 2 2,.slice (some ⟨w1.heap.size,0,none⟩) 2 2,.slice (some ⟨w2.heap.size,0,none⟩) 2 2,.slice (some ⟨w3.heap.size,0,none⟩) 2 2] 34 from by rw [<-e5];exact Blk.new w4 _ _);have Y5:=qH (show Ext w4 w5 from xAX e5);obtain⟨w6,e6⟩:=nm (w5.alloc (.cells #[.string ⟨#[98]⟩] 9));have B6:=qH (show Blk w6 w5.heap.size [.string ⟨#[98]⟩] 9 from by rw [<-e6];exact Blk.new w5 _ _);have Y6:=qH (show Ext w5 w6 from xAX e6);obtain⟨w7,e7⟩:=nm (w6.alloc (.cells #[.slice (some ⟨w5.heap.size,0,none⟩) 1 1] 34));have B7:=qH (show Blk w7 w6.heap.size [.slice (some ⟨w5.heap.size,0,none⟩) 1 1] 34 from by rw [<-e7];exact Blk.new w6 _ _);have Y7:=qH (show Ext w6 w7 from xAX e7);obtain⟨w8,e8⟩:=nm (w7.alloc (.cells #[] 9));have B8:=qH (show Blk w8 w7.heap.size [] 9 from by rw [<-e8];exact Blk.new w7 _ _);have Y8:=qH (show Ext w7 w8 from xAX e8);obtain⟨w9,e9⟩:=nm (w8.alloc (.cells #[.slice (some ⟨w7.heap.size,0,none⟩) 0 0] 34));have B9:=qH (show Blk w9 w8.heap.size [.slice (some ⟨w7.heap.size,0,none⟩) 0 0] 34 from by rw [<-e9];exact Blk.new w8 _ _);have Y9:=qH (show Ext w8 w9 from xAX e9);obtain⟨w10,e10⟩:=nm (w9.alloc (.cells #[.string ⟨#[101]⟩,.int .i64 2,.slice (some ⟨w4.heap.size,0,none⟩) 4 4,.string ⟨#[110]⟩,.int .i64 1,.slice (some ⟨w6.heap.size,0,none⟩) 1 1,.string ⟨#[122]⟩,.int .i64 0,.slice (some ⟨w8.heap.size,0,none⟩) 1 1] 116));have B10:=qH (show Blk w10 w9.heap.size [.string ⟨#[101]⟩,.int .i64 2,.slice (some ⟨w4.heap.size,0,none⟩) 4 4,.string ⟨#[110]⟩,.int .i64 1,.slice (some ⟨w6.heap.size,0,none⟩) 1 1,.string ⟨#[122]⟩,.int .i64 0,.slice (some ⟨w8.heap.size,0,none⟩) 1 1] 116 from by rw [<-e10];exact Blk.new w9 _ _)
 have Y10:=qH (show Ext w9 w10 from xAX e10);have HE:=qH (rJ (w:=w5) (g:=w4.heap.size) (l:= [(w.heap.size,[sA,sB]),(w1.heap.size,[sB,sC]),(w2.heap.size,[sB,sB]),(w3.heap.size,[sC,sA])]) (LL:= [[sA,sB],[sB,sC],[sB,sB],[sC,sA]]) rfl B5.out (fun x hx=>by
  simp only [List.mem_cons,List.not_mem_nil,or_false]at hx;rcases hx with rfl|rfl|rfl|rfl
  ·exact⟨B1.out.ext (Y2.out.trans (Y3.out.trans (Y4.out.trans Y5.out))),by simp⟩
  ·exact⟨B2.out.ext (Y3.out.trans (Y4.out.trans Y5.out)),by simp⟩
  ·exact⟨B3.out.ext (Y4.out.trans Y5.out),by simp⟩
  ·exact⟨B4.out.ext Y5.out,by simp⟩))
 have HN:=qH (rJ (w:=w7) (g:=w6.heap.size) (l:= [(w5.heap.size,[sB])]) (LL:= [[sB]]) rfl B7.out (fun x hx=>by simp only [List.mem_cons,List.not_mem_nil,or_false]at hx;subst hx;exact⟨B6.out.ext Y7.out,by simp⟩));have HZ:=qH (rJ (w:=w9) (g:=w8.heap.size) (l:= [(w7.heap.size,[])]) (LL:= [[]]) rfl B9.out (fun x hx=>by simp only [List.mem_cons,List.not_mem_nil,or_false]at hx;subst hx;exact⟨B8.out.ext Y9.out,by simp⟩));have X5to10:=qH (Y6.out.trans (Y7.out.trans (Y8.out.trans (Y9.out.trans Y10.out))));have X7to10:=qH (Y8.out.trans (Y9.out.trans Y10.out));have X9to10:=qH Y10.out;have X10:=qH (Y1.out.trans (Y2.out.trans (Y3.out.trans (Y4.out.trans (Y5.out.trans (Y6.out.trans (Y7.out.trans (Y8.out.trans (Y9.out.trans Y10.out)))))))));clear B1 Y1 B2 Y2 B3 Y3 B4 Y4 B5 Y5 B6 Y6 B7 Y7 B8 Y8 B9 Y9 Y10;have hL:RelsIn TT w10 (some ⟨w9.heap.size,0,none⟩) aFm:=fun i q hq=>by
  match i,hq with
  |0,hq=>cases hq;exact⟨w9.heap.size,0,some ⟨w4.heap.size,0,none⟩,4,rfl,trivial,by rw [B10.out.cell'];rfl,by rw [B10.out.cell'];rfl,by rw [B10.out.cell'];rfl,by decide,by decide,HE.out.ext (X5to10.out)⟩
  |1,hq=>cases hq;exact⟨w9.heap.size,0,some ⟨w6.heap.size,0,none⟩,1,rfl,trivial,by rw [B10.out.cell'];rfl,by rw [B10.out.cell'];rfl,by rw [B10.out.cell'];rfl,by decide,by decide,HN.out.ext (X7to10.out)⟩
  |2,hq=>cases hq;exact⟨w9.heap.size,0,some ⟨w8.heap.size,0,none⟩,1,rfl,trivial,by rw [B10.out.cell'];rfl,by rw [B10.out.cell'];rfl,by rw [B10.out.cell'];rfl,by decide,by decide,HZ.out.ext (X9to10.out)⟩
  |n+3,hq=>cases hq
 have HFr:=qH (aDc aFm (some ⟨w9.heap.size,0,none⟩) 3 3 w10 TT rfl hL (by decide) (by decide));clear hL;go_enter Tryz.func26,Tryz.ntmps26;go_wp2_with fail
 refine HFr.out.mono ?_;rintro e w11 ⟨v,rfl,hk11,hv⟩;obtain⟨bb,r,S,E,rfl,hb,hC,-,-⟩:=hv.1 (by rw [aC8]);have H11:=qH (show Ext w w11/\BaseAt S w11 bb r E/\aT E=awC from⟨X10.out.trans hk11,hb,by rw [hC,aC8]⟩);clear hv hb hC hk11;go_wp2;go_ret;exact RetN.mk H11.out.1 ⟨bb,E,S,rfl,.full bb r E H11.out.2.1,H11.out.2.2⟩
theorem wX{S:Nat->Prop}{w:World}{p:ByteArray}{hs:List aE}{ls:List aJ}{ha ba:Option Addr}{hn hcap n bcap:Nat}{o:Option Addr}{E:List Ent}(hhn:hn=hs.length)(hh:aR w TT ha hs)(hhl:hn≤1048576)(hbn:n=ls.length)(h:cD w TT ba ls)(hf:Fit ls)(hnv:(aC ls).length≤1048576)(hn16:n≤1048576)
 (hB:BaseV S w (.pointer o) E)(hC:aT E=awC)(M:List ByteArray)(m:Nat)(hM:(qV ((p,hs,()),ls,()) awC).map jV=M)(hm:M.length=m)(hm2:m≤1048576):
 Calls Tryz.prog 18 #[dS p ha hn hcap ba n bcap,.pointer o] w (RetN w fun w' v=>∃ao cap,v= .slice ao m cap/\CellsAt w' ao (strs M)):=by
 have hl:(qV ((p,hs,()),ls,()) (aT E)).length=m:=by rw [hC,<-hm,<-hM,List.length_map]
 have h1:=aF0 (hcap:=hcap) (bcap:=bcap) (p:=p) (L:=qV ((p,hs,()),ls,()) (aT E)) hhn hh hhl hbn h hf hnv hn16 hB (aF5 ((p,hs,()),ls,()) E) (by omega);refine h1.mono ?_;rintro e w' ⟨v,rfl,hk,hr⟩;rw [hl,hC,hM]at hr;obtain⟨ao,cap,ev,hc,_⟩:=hr.shape;exact RetN.mk hk ⟨ao,cap,ev,hc⟩
theorem uR(M:List ByteArray)(ao bo:Option Addr)(n acap bcap:Nat)(w:World)(hn:M.length=n)(ha:CellsAt w ao (strs M))(hb:CellsAt w bo (strs M))(hl:n≤1048576):
 Calls Tryz.prog 17 #[.slice ao n acap,.slice bo n bcap] w (RetN w fun w' v=>v= .bool true):=by
 refine(uT M M ao bo n n acap bcap w hn.symm hn.symm ha hb (by omega)).mono ?_;rintro e w' ⟨v,rfl,hk,rfl⟩;exact RetN.mk hk (by rw [decide_eq_true rfl])
end
section
section
variable {C D:List bA}{s:ByteArray}{row:List ByteArray}{a:Int}
theorem SameC.refl(C:List bA):SameC C C:=fun _=>rfl
theorem SameC.symm(h:SameC C D):SameC D C:=fun s=>(h s).symm
theorem SameC.trans{E:List bA}(h:SameC C D)(h':SameC D E):SameC C E:=fun s=>(h s).trans (h' s)
theorem aEl(hC:BaseOk C)(hD:BaseOk D)(h:SameC C D):aV C=aV D:=by rw [<-vC hC,<-vC hD,aHx hC.nodup hD.nodup h]
theorem yN(h:SameC C D)(s:ByteArray):bO C s=bO D s:=by unfold bO;rw [h s]
theorem uS(h:SameC C D)(s:ByteArray)(a:Int):cV C s a=cV D s a:=by unfold cV;rw [h s]
theorem aEm(h:SameC C D)(s:ByteArray)(a:Int):SameC (cW C s a) (cW D s a):=fun t=>by
 unfold cW;rw [uS h,h s];split
 ·rename_i h2;rw [qP h2.2,qP (by rw [h s];exact h2.2),h t]
 ·exact h t
theorem yO(hC:BaseOk C)(hD:BaseOk D)(h:SameC C D)(s:ByteArray)(row:List ByteArray):dB C s row=dB D s row:=by unfold dB oS;rw [yN h,aEl hC hD h,h s]
theorem aHs(hC:BaseOk C)(hD:BaseOk D)(h:SameC C D)(s:ByteArray)(row:List ByteArray):SameC (gW C s row) (gW D s row):=fun t=>by
 unfold gW;rw [yO hC hD h,yN h];split
 ·rw [wM,wM,h t]
 ·exact h t
theorem vI(h:C.Perm D)(hn:(C.map (·.1)).Nodup):(D.map (·.1)).Nodup:=(h.map _).nodup_iff.1 hn
theorem yS(h:C.Perm D)(hn:(C.map (·.1)).Nodup):SameC C D:=fun s=>by have hd:=vI h hn;apply Option.ext;intro v;rw [fP hn,fP hd,h.mem_iff]
theorem aEx(h:C.Perm D):aV C=aV D:=aCj (h.map _)
theorem aGt(h:C.Perm D)(hC:BaseOk C):BaseOk D:=⟨vI h hC.nodup,fun p hp=>hC.all p (h.mem_iff.2 hp),by rw [<-aEx h];exact hC.few⟩
end
def eE{α:Type}(f:α->ByteArray)(G:List α)(g:α):List α:=G.take (below mB (G.map f) (f g))++g::G.drop (below mB (G.map f) (f g))
theorem fE{α:Type}(f:α->ByteArray)(G:List α)(g:α):(eE f G g).Perm (G++ [g]):=by unfold eE;refine List.perm_middle.trans ?_;rw [List.take_append_drop];exact(List.perm_append_singleton g G).symm
theorem sY{α:Type}(f:α->ByteArray){G:List α}{g:α}(h:Strict mB (G.map f))(hn:f g∉G.map f):Strict mB ((eE f G g).map f):=by
 have hi:aX mB (G.map f) (f g)=false:=by rw [Bool.eq_false_iff];intro hi;obtain⟨y,hy,e⟩:=fO.1 hi;exact hn (cY (eD e)▸hy)
 have:=h.add qU (f g);unfold bN at this;rw [hi]at this;have e:(eE f G g).map f=(G.map f).take (below mB (G.map f) (f g))++f g::(G.map f).drop (below mB (G.map f) (f g)):=by unfold eE;rw [List.map_append,List.map_take,List.map_cons,List.map_drop]
 rw [e];simpa using this
end
section
open Go.RowKit Go.Shelf
attribute [local go_sem] Oper.semAt_some
end
section
open Go.RowKit
end
section
open Go.RowKit Go.Shelf
attribute [local go_sem] Oper.semAt_some
def TermRoom(W:World)(lo hi:Nat)(a:Option Addr)(n:Nat):Prop:=∃g cs,a=some ⟨g,0,none⟩/\Blk W g cs 38/\n*2≤cs.length/\lo≤g/\g<hi
theorem TermRoom.set{W:World}{lo hi:Nat}{a:Option Addr}{n:Nat}(h:TermRoom W lo hi a n){g:Nat}(i:Nat)(v:Value):TermRoom (W.setCell ⟨g,i,none⟩ v) lo hi a n:=by
 obtain⟨g',cs',e,hb,h1,h2⟩:=h;by_cases hg:g'=g
 ·subst hg;exact⟨g',_,e,hb.set i v,by rw [List.length_set];exact h1,h2⟩
 ·exact⟨g',cs',e,hb.other hg v,h1,h2⟩
structure SpoilS(W:World)(lo hi gL n i:Nat)(ia:Option Addr)(hn:Nat):Prop where
 lit:∃cs,Blk W gL cs 40/\n*8≤cs.length/\∀j,i≤j->j<n->∃a m c,cs[j*8+2]?=some (.slice a m c)/\m≤1048576/\TermRoom W lo hi a m
 head:TermRoom W lo hi ia hn
 at_:lo≤gL/\gL<hi
theorem aJx:40≠38:=by decide
theorem SpoilS.term{W:World}{lo hi gL n i hn:Nat}{ia:Option Addr}(h:SpoilS W lo hi gL n i ia hn){g:Nat}{cs:List Value}(hg:Blk W g cs 38)(k:Nat)(v:Value):SpoilS (W.setCell ⟨g,k,none⟩ v) lo hi gL n i ia hn:=by obtain⟨⟨cl,h1,h2,h3⟩,h4,h5⟩:=h;have hne:gL≠g:=fun e=>aJx (by rw [e]at h1;exact bX h1 hg);exact⟨⟨cl,h1.other hne v,h2,fun j h6 h7=>by obtain⟨a,m,c,h8,h9,h10⟩:=h3 j h6 h7;exact⟨a,m,c,h8,h9,h10.set k v⟩⟩,h4.set k v,h5⟩
theorem fT{W:World}{g:Nat}{cs:List Value}{e:TypeId}(h:Blk W g cs e){k:Nat}(hk:k<cs.length):∃u,W.cell? ⟨g,k,none⟩=some u:=⟨cs[k],by rw [h.cell',qG hk]⟩
def aL9(w1:World)(lo hi gL n:Nat)(ia:Option Addr)(hn:Nat)(gb:Nat)(cs:List Value)(iv:Value)(W:World):Prop:=
 ∃i:Nat,i≤n/\iv= .int .i64 i/\Hid (Kp (fun k=>lo≤k/\k<hi) w1 W)/\Hid (SpoilS W lo hi gL n i ia hn)/\Hid (Blk W gb cs 27)
def aMa(w1:World)(lo hi gL n i m:Nat)(a:Option Addr)(c:Nat)(ia:Option Addr)(hn:Nat)(gb:Nat)(cs:List Value)(kv:Value)(W:World):Prop:=
 ∃k:Nat,k≤m/\kv= .int .i64 k/\Hid (Kp (fun k=>lo≤k/\k<hi) w1 W)/\Hid (SpoilS W lo hi gL n i ia hn)/\Hid (Blk W gb cs 27)/\Hid (W.cell? ⟨gL,i*8+2,none⟩=some (.slice a m c))
def aMb(w1:World)(lo hi:Nat)(ia:Option Addr)(hn:Nat)(gb:Nat)(cs:List Value)(kv:Value)(W:World):Prop:=
 ∃k:Nat,k≤hn/\kv= .int .i64 k/\Hid (Kp (fun k=>lo≤k/\k<hi) w1 W)/\Hid (TermRoom W lo hi ia hn)/\Hid (Blk W gb cs 27)
theorem TermRoom.kp{W W':World}{lo hi:Nat}{a:Option Addr}{n:Nat}{F:Nat->Prop}(h:TermRoom W lo hi a n)(hk:Kp F W W')(hF:∀k,lo≤k->k<hi->¬F k):TermRoom W' lo hi a n:=by obtain⟨g,cs,e,hb,h1,h2,h3⟩:=h;exact⟨g,cs,e,hb.kp hk (hF g h2 h3),h1,h2,h3⟩
theorem SpoilS.kp{W W':World}{lo hi gL n i hn:Nat}{ia:Option Addr}{F:Nat->Prop}(h:SpoilS W lo hi gL n i ia hn)(hk:Kp F W W')(hF:∀k,lo≤k->k<hi->¬F k):SpoilS W' lo hi gL n i ia hn:=by obtain⟨⟨cl,h1,h2,h3⟩,h4,h5⟩:=h;exact⟨⟨cl,h1.kp hk (hF gL h5.1 h5.2),h2,fun j h6 h7=>by obtain⟨a,m,c,h8,h9,h10⟩:=h3 j h6 h7;exact⟨a,m,c,h8,h9,h10.kp hk hF⟩⟩,h4.kp hk hF,h5⟩
theorem aHm{w0 W:World}{hs:List aE}{ls:List aJ}{ia ib:Option Addr}{hn ic n ibc:Nat}(h:RuleK w0 W hs ls ia hn ic ib n ibc)(hnl:∀l∈ls,(aA l).length≤1048576):∃gL,ib=some ⟨gL,0,none⟩/\SpoilS W w0.heap.size W.heap.size gL n 0 ia hn:=by
 have room:∀{a:Option Addr} {m c:Nat} {ts:List aE},TermsK w0 W a m c ts->TermRoom W w0.heap.size W.heap.size a m:=fun{a m c ts} ht=>by
  obtain⟨g,rest,e,h1,h2,h3,h4,h5⟩:=ht;refine⟨g,_,e,h5,?_,h4,h5.lt⟩;have h6:(iT (ts++ [aMj])).length=(ts.length+1)*2:=by
   have:∀l:List aE,(iT l).length=l.length*2:=fun l=>by
    induction l with
    |nil=>rfl
    |cons t l ih=>unfold iT at ih ⊢;rw [List.flatMap_cons,List.length_append,ih,List.length_cons];show 2+_=_;omega
   rw [this,List.length_append];rfl
  rw [List.length_append,h6];omega
 obtain⟨gL,e,h1,h2,h3,h4⟩:=h.mark;obtain⟨hH,g,rest,vs,e',a1,a2,a3,a4,a5,hB,hx⟩:=h;rw [e]at e';cases e';have hfl:((ls.zip vs).flatMap gI).length=n*8:=by rw [iP gI 8 iN,List.length_zip,a5,Nat.min_self,a1]
 refine⟨gL,e,⟨_,hB,by rw [List.length_append,hfl];omega,fun j _ hj=>?_⟩,room hH,a4,hB.lt⟩;obtain⟨l,hl⟩:∃l,ls[j]?=some l:=⟨_,qG (by omega)⟩;obtain⟨v,hv⟩:∃v,vs[j]?=some v:=⟨_,qG (by omega)⟩;have hz:(ls.zip vs)[j]?=some (l,v):=by rw [List.getElem?_zip_eq_some];exact⟨hl,hv⟩
 refine⟨v.1,(aA l).length,v.2,?_,hnl l (List.mem_of_getElem? hl),room (hx (l,v) (List.mem_of_getElem? hz))⟩;rw [List.getElem?_append_left (by rw [hfl];omega)];have h6:=flat_get gI 8 iN (ls.zip vs) j (l,v) 2 hz (by decide);rw [h6];rfl
set_option maxHeartbeats 16000000 in
theorem aBr{w:World}{p:ByteArray}{lo hi gL hn ic n ibc:Nat}{ia:Option Addr}(hS:SpoilS w lo hi gL n 0 ia hn)(hhi:hi≤w.heap.size)(hhl:hn≤1048576)(hl:n≤1048576):
 Calls Tryz.prog 44 #[dS p ia hn ic (some ⟨gL,0,none⟩) n ibc] w (RetF (fun k=>lo≤k/\k<hi) w fun w' v=>True):=by
 obtain⟨gb,egb⟩:=nm w.heap.size;rw [egb]at hhi;obtain⟨w1,e1⟩:=nm (w.alloc (.cells #[.string p,.slice ia hn ic,.slice (some ⟨gL,0,none⟩) n ibc] 27));have x1:Ext w w1:=xAX e1;have hB1:=bNX egb e1;have room:∀{a:Option Addr} {m:Nat},TermRoom w lo hi a m->TermRoom w1 lo hi a m:=fun{a m} h=>by obtain⟨g,cs,e,hb,h1⟩:=h;exact⟨g,cs,e,hb.ext x1,h1⟩
 have H1:=qH (show Ext w w1/\Blk w1 gb [.string p,.slice ia hn ic,.slice (some ⟨gL,0,none⟩) n ibc] 27/\SpoilS w1 lo hi gL n 0 ia hn from⟨x1,hB1,by obtain⟨⟨cs,h1,h2,h3⟩,h4,h5⟩:=hS;exact⟨⟨cs,h1.ext x1,h2,fun j h6 h7=>by obtain⟨a,m,c,h8,h9,h10⟩:=h3 j h6 h7;exact⟨a,m,c,h8,h9,room h10⟩⟩,room h4,h5⟩⟩);clear hS x1 hB1 room;go_enter Tryz.func44,Tryz.ntmps44;go_wp2;clear e1;go_loopw [2] (fun iv wr=>aL9 w1 lo hi gL n ia hn gb [.string p,.slice ia hn ic,.slice (some ⟨gL,0,none⟩) n ibc] iv wr) (fun iv _=>n- (intOf iv).toNat)
 case atStart=>exact⟨0,Nat.zero_le _,rfl,qH (Kp.refl _),qH H1.out.2.2,qH H1.out.2.1⟩
 case round=>
  obtain⟨i,hi',rfl,hkp,hS,hbk⟩:=hrel;have r2:=hbk.out.c2;by_cases hlt:i<n
  ·obtain⟨⟨cl,hcl,hcn,hct⟩,hhd,hat⟩:=hS.out;obtain⟨a,m,c,hc2,hm,-⟩:=hct i (Nat.le_refl _) hlt;have hcc:wr.cell? ⟨gL,i*8+2,none⟩=some (.slice a m c):=by rw [hcl.cell'];exact hc2
   obtain⟨w5,ew5⟩:=nm wr;rw [ew5]at hkp hS hbk r2 hcc ⊢;clear hcl hcn hct hhd hat hc2 cl ew5;go_wp2;go_loopw [3] (fun kv wr=>aMa w1 lo hi gL n i m a c ia hn gb [.string p,.slice ia hn ic,.slice (some ⟨gL,0,none⟩) n ibc] kv wr) (fun kv _=>m- (intOf kv).toNat)
   case atStart=>exact⟨0,Nat.zero_le _,rfl,hkp,hS,hbk,qH hcc⟩
   case round=>
    obtain⟨k,hk,rfl,hkp,hS,hbk,hcc⟩:=hrel;have r2:=hbk.out.c2;have r3:=hcc.out;by_cases hkm:k<m
    ·obtain⟨⟨cl,hcl,hcn,hct⟩,hhd,hat⟩:=hS.out;obtain⟨a',m',c',hc2,hm',hrm⟩:=hct i (Nat.le_refl _) hlt;have he:some (Value.slice a' m' c')=some (.slice a m c):=by rw [<-hc2,<-hcl.cell'];exact hcc.out
     cases he;obtain⟨g,cs,rfl,hb,hlen,hg1,hg2⟩:=hrm;have f0:=hb.free (k*2);obtain⟨u0,g0⟩:=fT hb (k:=k*2) (by omega);have hb1:=hb.set (k*2) (.int .i64 3);have f1:=hb1.free (k*2+1);obtain⟨u1,g1⟩:=fT hb1 (k:=k*2+1) (by rw [List.length_set];omega);have hne:gL≠g:=fun e=>aJx (by rw [e]at hcl;exact bX hcl hb);have HF:=qH (show Kp (fun k=>lo≤k/\k<hi) w1 ((wr.setCell ⟨g,k*2,none⟩ (.int .i64 3)).setCell ⟨g,k*2+1,none⟩ (.string ⟨#[115,112,111,105,108,116]⟩))/\SpoilS ((wr.setCell ⟨g,k*2,none⟩ (.int .i64 3)).setCell ⟨g,k*2+1,none⟩ (.string ⟨#[115,112,111,105,108,116]⟩)) lo hi gL n i ia hn/\Blk ((wr.setCell ⟨g,k*2,none⟩ (.int .i64 3)).setCell ⟨g,k*2+1,none⟩ (.string ⟨#[115,112,111,105,108,116]⟩)) gb [.string p,.slice ia hn ic,.slice (some ⟨gL,0,none⟩) n ibc] 27/\((wr.setCell ⟨g,k*2,none⟩ (.int .i64 3)).setCell ⟨g,k*2+1,none⟩ (.string ⟨#[115,112,111,105,108,116]⟩)).cell? ⟨gL,i*8+2,none⟩=some (.slice (some ⟨g,0,none⟩) m c)from
      ⟨hkp.out.trans (Kp.setCell (F:=fun k=>lo≤k/\k<hi) (p:=⟨g,k*2+1,none⟩) (Kp.setCell (F:=fun k=>lo≤k/\k<hi) (p:=⟨g,k*2,none⟩) (Kp.refl _) (fun _=>⟨hg1,hg2⟩) _) (fun _=>⟨hg1,hg2⟩) _),(hS.out.term hb (k*2) _).term hb1 (k*2+1) _,(hbk.out.other (by show gb≠g;omega) _).other (by show gb≠g;omega) _,by rw [((hcl.other (p:=⟨g,k*2,none⟩) hne _).other (p:=⟨g,k*2+1,none⟩) hne _).cell'];exact hc2⟩)
     clear hb hb1 hcl hct hhd hat hc2 hcn hm' hlen hg1 hg2 hne hS hbk hkp;go_wp2;go_roundw
     case rel=>exact⟨k+1,by omega,nMX,qH HF.out.1,qH HF.out.2.1,qH HF.out.2.2.1,qH HF.out.2.2.2⟩
     case measure=>simp [intOf];omega
    ·obtain rfl:k=m:=by omega
     obtain⟨⟨cl,hb0,hcn,hct⟩,hhd,hat⟩:=hS.out;have f0:=hb0.free (i*8);obtain⟨u0,g0⟩:=fT hb0 (k:=i*8) (by omega);have hb1:=hb0.set (i*8) (.int .i64 1);have f1:=hb1.free (i*8+1);obtain⟨u1,g1⟩:=fT hb1 (k:=i*8+1) (by simp only [List.length_set];omega);have hb2:=hb1.set (i*8+1) (.string ⟨#[115,112,111,105,108,116]⟩);have f2:=hb2.free (i*8+2);obtain⟨u2,g2⟩:=fT hb2 (k:=i*8+2) (by simp only [List.length_set];omega);have hb3:=hb2.set (i*8+2) (.slice none 0 0);have f3:=hb3.free (i*8+3);obtain⟨u3,g3⟩:=fT hb3 (k:=i*8+3) (by simp only [List.length_set];omega);have hb4:=hb3.set (i*8+3) (.int .i64 0);have f4:=hb4.free (i*8+4);obtain⟨u4,g4⟩:=fT hb4 (k:=i*8+4) (by simp only [List.length_set];omega);have hb5:=hb4.set (i*8+4) (.int .i64 0);have f5:=hb5.free (i*8+5);obtain⟨u5,g5⟩:=fT hb5 (k:=i*8+5) (by simp only [List.length_set];omega);have hb6:=hb5.set (i*8+5) (.string ⟨#[]⟩);have f6:=hb6.free (i*8+6);obtain⟨u6,g6⟩:=fT hb6 (k:=i*8+6) (by simp only [List.length_set];omega);have hb7:=hb6.set (i*8+6) (.int .i64 0);have f7:=hb7.free (i*8+7);obtain⟨u7,g7⟩:=fT hb7 (k:=i*8+7) (by simp only [List.length_set];omega);have hb8:=hb7.set (i*8+7) (.string ⟨#[]⟩);have HF:=qH (nIX hb8 (nIX hkp.out (nIX hbk.out (nIX hcn (nIX hct (nIX hhd hat))))));clear hb0 hb1 hb2 hb3 hb4 hb5 hb6 hb7 hb8 hcn hct hhd hat hkp hS hbk;go_wp2;go_roundw
     case rel=>
      have hne:gb≠gL:=by have:=HF.out.2.2.2.2.2.2.2;omega
      refine⟨i+1,by omega,nMX,qH (Kp.setCell (F:=fun k=>lo≤k/\k<hi) (p:=⟨gL,i*8+7,none⟩) (Kp.setCell (F:=fun k=>lo≤k/\k<hi) (p:=⟨gL,i*8+6,none⟩) (Kp.setCell (F:=fun k=>lo≤k/\k<hi) (p:=⟨gL,i*8+5,none⟩) (Kp.setCell (F:=fun k=>lo≤k/\k<hi) (p:=⟨gL,i*8+4,none⟩) (Kp.setCell (F:=fun k=>lo≤k/\k<hi) (p:=⟨gL,i*8+3,none⟩) (Kp.setCell (F:=fun k=>lo≤k/\k<hi) (p:=⟨gL,i*8+2,none⟩) (Kp.setCell (F:=fun k=>lo≤k/\k<hi) (p:=⟨gL,i*8+1,none⟩) (Kp.setCell (F:=fun k=>lo≤k/\k<hi) (p:=⟨gL,i*8,none⟩) (HF.out.2.1) (fun _=>HF.out.2.2.2.2.2.2) _) (fun _=>HF.out.2.2.2.2.2.2) _) (fun _=>HF.out.2.2.2.2.2.2) _) (fun _=>HF.out.2.2.2.2.2.2) _) (fun _=>HF.out.2.2.2.2.2.2) _) (fun _=>HF.out.2.2.2.2.2.2) _) (fun _=>HF.out.2.2.2.2.2.2) _) (fun _=>HF.out.2.2.2.2.2.2) _),qH ⟨⟨_,HF.out.1,by simp only [List.length_set];exact HF.out.2.2.2.1,fun j hj hjn=>?_⟩,((((((((HF.out.2.2.2.2.2.1).set (g:=gL) (i*8) _).set (g:=gL) (i*8+1) _).set (g:=gL) (i*8+2) _).set (g:=gL) (i*8+3) _).set (g:=gL) (i*8+4) _).set (g:=gL) (i*8+5) _).set (g:=gL) (i*8+6) _).set (g:=gL) (i*8+7) _,HF.out.2.2.2.2.2.2⟩,qH (((((((((HF.out.2.2.1).other (p:=⟨gL,i*8,none⟩) hne _).other (p:=⟨gL,i*8+1,none⟩) hne _).other (p:=⟨gL,i*8+2,none⟩) hne _).other (p:=⟨gL,i*8+3,none⟩) hne _).other (p:=⟨gL,i*8+4,none⟩) hne _).other (p:=⟨gL,i*8+5,none⟩) hne _).other (p:=⟨gL,i*8+6,none⟩) hne _).other (p:=⟨gL,i*8+7,none⟩) hne _)⟩;obtain⟨a,m,c,h8,h9,h10⟩:=HF.out.2.2.2.2.1 j (by omega) hjn;refine⟨a,m,c,?_,h9,((((((((h10).set (g:=gL) (i*8) _).set (g:=gL) (i*8+1) _).set (g:=gL) (i*8+2) _).set (g:=gL) (i*8+3) _).set (g:=gL) (i*8+4) _).set (g:=gL) (i*8+5) _).set (g:=gL) (i*8+6) _).set (g:=gL) (i*8+7) _⟩;rw [List.getElem?_set_ne (by omega),List.getElem?_set_ne (by omega),List.getElem?_set_ne (by omega),List.getElem?_set_ne (by omega),List.getElem?_set_ne (by omega),List.getElem?_set_ne (by omega),List.getElem?_set_ne (by omega),List.getElem?_set_ne (by omega)];exact h8
     case measure=>simp [intOf];omega
  ·obtain rfl:n=i:=by omega
   obtain⟨w6,ew6⟩:=nm wr;rw [ew6]at hkp hS hbk r2 ⊢;clear ew6;go_wp2;go_loopw [4] (fun kv wr=>aMb w1 lo hi ia hn gb [.string p,.slice ia hn ic,.slice (some ⟨gL,0,none⟩) n ibc] kv wr) (fun kv _=>hn- (intOf kv).toNat)
   case atStart=>exact⟨0,Nat.zero_le _,rfl,hkp,qH hS.out.head,hbk⟩
   case round=>
    obtain⟨k,hk,rfl,hkp,hR,hbk⟩:=hrel;have r1:=hbk.out.c1;by_cases hkm:k<hn
    ·obtain⟨g,cs,rfl,hb,hlen,hg1,hg2⟩:=hR.out;have f0:=hb.free (k*2);obtain⟨u0,g0⟩:=fT hb (k:=k*2) (by omega);have hb1:=hb.set (k*2) (.int .i64 2);have f1:=hb1.free (k*2+1);obtain⟨u1,g1⟩:=fT hb1 (k:=k*2+1) (by rw [List.length_set];omega);have HF:=qH (show Kp (fun k=>lo≤k/\k<hi) w1 ((wr.setCell ⟨g,k*2,none⟩ (.int .i64 2)).setCell ⟨g,k*2+1,none⟩ (.string ⟨#[]⟩))/\TermRoom ((wr.setCell ⟨g,k*2,none⟩ (.int .i64 2)).setCell ⟨g,k*2+1,none⟩ (.string ⟨#[]⟩)) lo hi (some ⟨g,0,none⟩) hn/\Blk ((wr.setCell ⟨g,k*2,none⟩ (.int .i64 2)).setCell ⟨g,k*2+1,none⟩ (.string ⟨#[]⟩)) gb [.string p,.slice (some ⟨g,0,none⟩) hn ic,.slice (some ⟨gL,0,none⟩) n ibc] 27 from
      ⟨hkp.out.trans (Kp.setCell (F:=fun k=>lo≤k/\k<hi) (p:=⟨g,k*2+1,none⟩) (Kp.setCell (F:=fun k=>lo≤k/\k<hi) (p:=⟨g,k*2,none⟩) (Kp.refl _) (fun _=>⟨hg1,hg2⟩) _) (fun _=>⟨hg1,hg2⟩) _),(hR.out.set (g:=g) (k*2) _).set (g:=g) (k*2+1) _,(hbk.out.other (by show gb≠g;omega) _).other (by show gb≠g;omega) _⟩)
     clear hb hb1 hlen hg1 hg2 hR hbk hkp;go_wp2;go_roundw
     case rel=>exact⟨k+1,by omega,nMX,qH HF.out.1,qH HF.out.2.1,qH HF.out.2.2⟩
     case measure=>simp [intOf];omega
    ·obtain rfl:k=hn:=by omega
     go_wp2;refine bodyPost_end (results_none rfl _ _ _) rfl ?_;exact RetF.mk ((Ext.kp H1.out.1).trans hkp.out) trivial
end
section
open Go.RowKit Go.Shelf
section
variable {z:Prop}{S S':Nat->Prop}{w w':World}{b:Nat}{iv:Value}{arity:Nat}{LL:List (List ByteArray)}
theorem RowsAt.openS(h:RowsAt S w b iv arity LL)(hst:Strict aB LL){x:gK}{ss:List ByteArray}(hx:RowIn w x ss)(ho:fX x (eY b iv)):
 ∃con zs,(∀x ss,ReadsAs w x ss->con x=ss)/\SetAtRow Tryz.prog (iW S x) w b (.func (Fn.func 124) #[] #[]) iv [.int .i64 arity] 135 (tZ (iW S x) w) (fun x y=>aB (con x) (con y)) zs/\zs.map con=LL/\
  tZ (iW S x) w x/\con x=ss/\Strict (fun x y=>aB (con x) (con y)) zs/\aX (fun x y=>aB (con x) (con y)) zs x=aX aB LL ss/\∀z∈zs,tZ S w z:=by
 obtain⟨con,zs,hc,hs,hl⟩:=h;have ex:=hc x ss hx.1;refine⟨con,zs,hc,⟨hs.blk,hs.row,hs.apart,fun k hk=>?_,fun k hk hs'=>?_,jP hc,fun z hz=>?_,hs.len⟩,hl,⟨ss,hx.1,hx.2.1,fun a e hne=> .inr ⟨a,e,hne,rfl⟩⟩,ex,?_,?_,hs.all⟩
 ·rcases hk with hk|⟨a,e,hne,rfl⟩
  ·exact hs.inS k hk
  ·exact hx.2.2 a e hne
 ·rcases hs' with hs'|⟨a,e,hne,rfl⟩
  ·exact hs.notS k hk hs'
  ·exact ho a e hne hk
 ·obtain⟨sz,h1,h2,h3⟩:=hs.all z hz;exact⟨sz,h1,h2,fun a e hne=> .inl (h3 a e hne)⟩
 ·rw [<-hl]at hst;exact List.pairwise_map.1 hst
 ·rw [<-hl,<-ex];simp [aX,List.any_map,Function.comp_def]
theorem RowsAt.of_set'{S':Nat->Prop}{w1 w2:World}{con:gK->List ByteArray}{zs:List gK}{D:gK->Prop}(hc:∀x ss,ReadsAs w1 x ss->con x=ss)(hsame:Same S w1 w2)(hSS:∀k,S k->S' k)
 (h:SetAtRow Tryz.prog S' w2 b (.func (Fn.func 124) #[] #[]) iv [.int .i64 arity] 135 D (fun x y=>aB (con x) (con y)) zs)(hall:∀z∈zs,tZ S w1 z):RowsAt S w2 b iv arity (zs.map con):=by
 obtain⟨con',hc'⟩:=xE w2;have all:∀z∈zs,tZ S w2 z/\con' z=con z:=fun z hz=>by obtain⟨ss,h1,h2,h3⟩:=hall z hz;have h1':=h1.same hsame h3;exact⟨⟨ss,h1',h2,h3⟩,by rw [hc' z ss h1',hc z ss h1]⟩
 exact⟨con',zs,hc',⟨h.blk,h.row,h.apart,fun k hk=>h.inS k (hSS k hk),fun k ho hk=>h.notS k ho (hSS k hk),jP hc',fun z hz=>(all z hz).1,h.len⟩,List.map_congr_left fun z hz=>(all z hz).2⟩
theorem aEp(h:RowsQ z S w b iv arity LL)(hst:Strict aB LL){ao:Option Addr}{n cap:Nat}{ss:List ByteArray}(hx:RowIn w (ao,n,cap) ss)(ho:fX (ao,n,cap) (eY b iv)):
 Calls Tryz.prog 90 #[.pointer (some ⟨b,0,none⟩),.slice ao n cap] w (RetF (eY b iv) w fun w' v=>v= .tuple #[.bool (dJ arity LL ss).1,.int .i64 ((dJ arity LL ss).2:Nat)]/\
  ∃iv',RowsQ z S w' b iv' arity (bJ arity LL ss)/\iv'.ownBlock=iv.ownBlock):=by
 have hn:n=ss.length:=hx.1.1;have c2:=h.ar;by_cases h1:n=arity
 ·have q1:((n:Int) !=(arity:Int))=false:=by simp [h1]
  have HS:=qH (oF h);clear h;have HX:=qH (nIX hst (nIX hx ho));clear hst hx ho;have HN:=qH (show ss.length=arity by omega);clear hn h1;go_enter Tryz.func90,Tryz.ntmps90;go_wp2_with fail
  refine HS.out.mono ?_;rintro e w1 ⟨v,rfl,hk,rfl,h1⟩;have hx1:=HX.out.2.1.kp hk (fun a e hne hf=>HX.out.2.2 a e hne (.inl hf.2));obtain⟨con,zs,hc,hs,hl,hd,ex,hz,e1,hall⟩:=h1.openS HX.out.1 hx1 HX.out.2.2;have HF:=qH (uQ (dV con) (ao,n,cap) hd hz hs);rw [e1]at HF;have HC:=qH (nIX hc (nIX hl (nIX ex (nIX hs hall))));have HK:=qH (nIX hk h1);clear hc hs hl hd ex hz e1 hall hk h1 hx1 q1 c2;go_wp2_with fail
  refine HF.out.mono ?_;rintro e w2 ⟨v,rfl,hk2,rfl,iv',hs2,hiv⟩;have HK2:=qH (nIX hk2 (nIX hs2 hiv));clear hk2 hs2 hiv;go_wp2;go_ret2;obtain⟨hc,hl,ex,hs,hall⟩:=HC.out;have hsame:Same S w1 w2:=HK2.out.1.same HK.out.2.inS fun k h1 h2=>HK.out.2.notS k h2 h1;have hrows:=RowsAt.of_set' hc hsame (fun k h=>Or.inl h) HK2.out.2.1 fun z hz=>hall z (yY hz);rw [<-aI3 con zs (ao,n,cap),hl,ex]at hrows;refine RetF.mk ((HK.out.1.mono fun k _ h=>FQ.owns k h).trans HK2.out.1) ⟨?_,iv',.inl ?_,HK2.out.2.2⟩
  ·unfold dJ;rw [if_neg (by rw [HN.out];simp)];rfl
  ·unfold bJ;rw [if_neg (by rw [HN.out];simp)];exact hrows
 ·have q1:((n:Int) !=(arity:Int))=true:=by rw [bne_iff_ne];omega
  have H:=qH h;clear h;have HN:=qH (show ss.length≠arity by omega);clear hst hx ho hn h1;go_enter Tryz.func90,Tryz.ntmps90;go_wp2;go_ret2;refine RetF.mk (Kp.refl _) ⟨?_,iv,?_,rfl⟩
  ·unfold dJ;rw [if_pos HN.out];rfl
  ·unfold bJ;rw [if_pos HN.out];exact H.out
end
end
section
open Go.RowKit
def zU(C:List bA)(s:ByteArray)(row:List ByteArray):Bool×Nat:=if bM s=false then(false,32)else match bU C s with
 |some v=>dJ v.1 v.2 row
 |none=>(false,0)
def tD(C:List bA)(s:ByteArray)(row:List ByteArray):List bA:=if bM s=false then C else match bU C s with
 |some v=>iV C s (v.1,bJ v.1 v.2 row)
 |none=>C
theorem rX{α:Type}{c:α->α->Int}(L:List α)(x:α):(iZ c L x).length+(if aX c L x=true then 1 else 0)=L.length:=by
 unfold iZ;cases hi:aX c L x with
 |false=>simp
 |true=>
  have hb:below c L x<L.length:=by
   unfold below;rw [List.length_filter_lt_length_iff_exists];unfold aX at hi;obtain⟨y,hy,h0⟩:=List.any_eq_true.1 hi;have h0':c y x=0:=by simpa using h0
   exact⟨y,hy,by simp [h0']⟩
  simp only [if_true,List.length_append,List.length_take,List.length_drop];omega
theorem aLv{C:List bA}(h:BaseOk C)(s:ByteArray)(row:List ByteArray):BaseOk (tD C s row):=by
 unfold tD;split
 ·exact h
 ·cases hg:bU C s with
  |none=>exact h
  |some v=>
   show BaseOk (iV C s (v.1,bJ v.1 v.2 row));have hp:=h.all _ ((fP h.nodup).1 hg);have hle:(bJ v.1 v.2 row).length≤v.2.length:=by
    unfold bJ;split
    ·exact Nat.le_refl _
    ·have:=rX (c:=aB) v.2 row;omega
   have hmem:∀r∈bJ v.1 v.2 row,r∈v.2:=fun r hr=>by
    unfold bJ at hr;split at hr
    ·exact hr
    ·exact yY hr
   refine⟨yU h.nodup _ _,fun p hp'=>?_,?_⟩
   ·rcases aGw hp' with rfl|hp'
    ·refine⟨hp.name,hp.ar,?_,fun r hr=>hp.len r (hmem r hr),fun r hr=>hp.txt r (hmem r hr),Nat.le_trans hle hp.few⟩;show Strict aB (bJ v.1 v.2 row);unfold bJ;split
     ·exact hp.strict
     ·exact hp.strict.drop dU row
    ·exact h.all p hp'
   ·have h1:=kS h.nodup (s:=s) (v:=(v.1,bJ v.1 v.2 row));rw [fA hg]at h1;have h2:(v.1,bJ v.1 v.2 row).2.length≤v.2.length:=hle;have:=h.few;omega
section
variable {S:Nat->Prop}{w w3:World}{bb r:Nat}{E:List Ent}{s:ByteArray}{ss:List ByteArray}{e:Ent}{iv':Value}
def aD6(S:Nat->Prop)(bb r:Nat)(E:List Ent)(s:ByteArray)(ss:List ByteArray)(w':World)(v:Value):Prop:=
 v= .tuple #[.bool (zU (aT E) s ss).1,.int .i64 ((zU (aT E) s ss).2:Nat)]/\∃E',BaseAt S w' bb r E'/\aT E'=tD (aT E) s ss/\∀k,eJ bb r E' k->eJ bb r E k
theorem oZ(h:BaseAt S w bb r E)(he:bS E s=some e)(hn:bM s=true)(hk:Kp e.own w w3)(hr:RowsAt S w3 e.b iv' e.ar (bJ e.ar e.LL ss))(hiv:iv'.ownBlock=e.iv.ownBlock){n:Nat}{W:World}(hW:Kp (fun k=>k=bb) w3 W)
 (hB:Blk W bb [.map (some r),.int .i64 (n:Nat)] 129)(en:n+(if(dJ e.ar e.LL ss).1=true then 1 else 0)=aV (aT E)):
 ∃E',BaseAt S W bb r E'/\aT E'=tD (aT E) s ss/\∀k,eJ bb r E' k->eJ bb r E k:=by
 obtain⟨g1,g2⟩:=dP he;have hnd:=h.ok.nodup;have hmap:=(h.map.kp hk fun ho=>(h.off e (cJ he).1 r ho).2 rfl).kp hW fun e2=>h.ne e2.symm;obtain⟨pre,post,rfl⟩:=iQ he;have hset:=xI he hnd iv' (bJ e.ar e.LL ss);have hC:tD (aT (pre++e::post)) s ss=aT (pre++{e with iv:=iv',LL:=bJ e.ar e.LL ss}::post):=by unfold tD;rw [if_neg (by rw [hn];simp),g1];exact hset
 have htot:n=aV (aT (pre++{e with iv:=iv',LL:=bJ e.ar e.LL ss}::post)):=by
  have h1:=kS hnd (s:=s) (v:=(e.ar,bJ e.ar e.LL ss));rw [hset,g2]at h1;have h2:(bJ e.ar e.LL ss).length+(if(dJ e.ar e.LL ss).1=true then 1 else 0)=e.LL.length:=by
   unfold bJ dJ;split
   ·simp
   ·exact rX (c:=aB) e.LL ss
  have h3:(e.ar,bJ e.ar e.LL ss).2.length=(bJ e.ar e.LL ss).length:=rfl;omega
 refine⟨_,h.turn hk (fun _ x=>x) (fun _ x=> .inl x) hr (fun k hk'=> .inl (by rw [<-hiv];exact hk')) (hW.mono fun k _ ho=> .inl ho) hmap hB htot (by rw [<-hC];exact aLv h.ok s ss),hC.symm,fun k ho=>?_⟩;rcases ho with h1|h1|⟨f,hf,ho⟩
 ·exact .inl h1
 ·exact .inr (.inl h1)
 ·rcases List.mem_append.1 hf with hf|hf
  ·exact .inr (.inr ⟨f,List.mem_append_left _ hf,ho⟩)
  ·rcases List.mem_cons.1 hf with rfl|hf
   ·refine .inr (.inr ⟨e,List.mem_append_right _ List.mem_cons_self,?_⟩);rcases ho with ho|ho
    ·exact .inl ho
    ·exact .inr (by rw [<-hiv];exact ho)
   ·exact .inr (.inr ⟨f,List.mem_append_right _ (List.mem_cons_of_mem _ hf),ho⟩)
set_option maxHeartbeats 2000000 in
theorem aA9(h:BaseAt S w bb r E)(s:ByteArray){ao:Option Addr}{k cap:Nat}{ss:List ByteArray}(hx:RowIn w (ao,k,cap) ss)(ho:fX (ao,k,cap) (eJ bb r E)):
 Calls Tryz.prog 43 #[.pointer (some ⟨bb,0,none⟩),.string s,.slice ao k cap] w (RetF (eJ bb r E) w (aD6 S bb r E s ss)):=by
 have c0:=h.blk.c0;have hlk:=gO (P:=Tryz.prog) Tryz.underlying127 Tryz.underlying9 (z:= .pointer none) (by kernel_rfl) h.map s;rw [lH]at hlk;have hnm:=rR s w;rw [show decide (1≤s.size/\s.size≤4096)=bM s from rfl]at hnm;obtain⟨n,en⟩:=nm (aV (aT E));have hnl:n≤262144:=by rw [<-en];exact h.ok.few
 have H:=qH (nIX h en);have HX:=qH (nIX hx ho);clear h hx ho en;cases hn:bM s with
 |false=>
  rw [hn]at hnm;have HN:=qH hnm;have HNM:=qH hn;clear hn hlk c0 hnm;go_enter Tryz.func43,Tryz.ntmps43;go_wp2_with fail
  refine HN.out.mono ?_;rintro e w' ⟨rfl,rfl⟩;go_wp2;go_ret2;exact RetF.mk (Kp.refl _) ⟨by unfold zU;rw [if_pos HNM.out];rfl,E,H.out.1,by unfold tD;rw [if_pos HNM.out],fun _ h=>h⟩
 |true=>
  rw [hn]at hnm;have HN:=qH hnm;have HNM:=qH hn;clear hn hnm;cases he:bS E s with
  |none=>
   rw [he]at hlk;have hlk':(Instr.lookup 127 (.map (some r)) (.string s) false).run Tryz.prog w= .ok (.pointer none) w:=hlk;have HE:=qH (eT he).1;clear he hlk;go_enter Tryz.func43,Tryz.ntmps43;go_wp2_with fail
   refine HN.out.mono ?_;rintro e w' ⟨rfl,rfl⟩;go_wp2;go_ret2;exact RetF.mk (Kp.refl _) ⟨by unfold zU;rw [if_neg (by rw [HNM.out];simp),HE.out];rfl,E,H.out.1,by unfold tD;rw [if_neg (by rw [HNM.out];simp),HE.out],fun _ h=>h⟩
  |some e0=>
   rw [he]at hlk;have HE:=qH he;obtain⟨hem,hes⟩:=cJ he;obtain⟨b0,eb0⟩:=nm e0.b;have hlk':(Instr.lookup 127 (.map (some r)) (.string s) false).run Tryz.prog w= .ok (.pointer (some ⟨b0,0,none⟩)) w:=by rw [<-eb0];exact hlk
   have hdr:=aEp (z:=False) (H.out.1.rows e0 hem).q (H.out.1.strict hem) (ao:=ao) (n:=k) (cap:=cap) (ss:=ss) HX.out.1 fun a e hne hown=>HX.out.2 a e hne (.inr (.inr ⟨e0,hem,hown⟩));rw [eb0]at hdr;have hg:=(dP he).1;have HG:=qH (nIX hg (nIX hem eb0));have HDr:=qH hdr;clear he hlk hem hes hdr eb0 hg;go_enter Tryz.func43,Tryz.ntmps43;go_wp2_with fail
   refine HN.out.mono ?_;rintro e w' ⟨rfl,rfl⟩;go_wp2_with fail
   refine HDr.out.mono ?_;rintro e w3 ⟨v,rfl,hk3,rfl,iv',hr3,hiv⟩;have hr3':RowsAt S w3 e0.b iv' e0.ar (bJ e0.ar e0.LL ss):=by
    rw [HG.out.2.2];rcases hr3 with h1|⟨h1,_⟩
    ·exact h1
    ·exact h1.elim
   rw [<-HG.out.2.2]at hk3;have hb3:=gG H.out.1 HE.out (Kp.refl w) hk3;rw [H.out.2]at hb3;have hR:zU (aT E) s ss=dJ e0.ar e0.LL ss:=by unfold zU;rw [if_neg (by rw [HNM.out];simp),HG.out.1]
   have HR:=qH (nIX hk3 (nIX hr3' (nIX hiv (nIX hb3 hR))));have cb:=hb3.cell 1 (by simp);have fb:=hb3.free 1;simp only [List.getElem_cons_succ,List.getElem_cons_zero]at cb;clear hr3 hr3' hk3 hiv hb3 hR c0 hlk';obtain⟨d,ed⟩:=nm ((dJ e0.ar e0.LL ss).2);rw [ed];cases hwas:(dJ e0.ar e0.LL ss).1 with
   |false=>
    have HW:=qH (nIX hwas ed);clear hwas ed;go_wp2;go_ret2;refine RetF.mk (HR.out.1.mono fun k _ ho=> .inr (.inr ⟨e0,HG.out.2.1,ho⟩)) ⟨by rw [HR.out.2.2.2.2,HW.out.1,HW.out.2];rfl,?_⟩;exact oZ H.out.1 HE.out HNM.out HR.out.1 HR.out.2.1 HR.out.2.2.1 (Kp.refl _) HR.out.2.2.2.1 (by rw [HW.out.1,H.out.2];simp)
   |true=>
    have hpos:1≤n:=by
     have h1:=kS H.out.1.ok.nodup (s:=s) (v:=(e0.ar,([]:List (List ByteArray))));rw [fA HG.out.1,H.out.2]at h1;have h2:1≤e0.LL.length:=by
      unfold dJ at hwas;split at hwas
      ·cases hwas
      ·have:=rX (c:=aB) e0.LL ss;rw [if_pos hwas]at this;omega
     have h3:(e0.ar,e0.LL).2.length=e0.LL.length:=rfl;have h4:(e0.ar,([]:List (List ByteArray))).2.length=0:=rfl;omega
    have HW:=qH (nIX hwas ed);clear hwas ed;obtain⟨n',rfl⟩:∃n',n=n'+1:=⟨n-1,by omega⟩;go_wp2;go_ret2;have hbn:=HR.out.2.2.2.1.set 1 (.int .i64 (n':Nat));refine RetF.mk ((HR.out.1.mono fun k _ ho=> .inr (.inr ⟨e0,HG.out.2.1,ho⟩)).trans (Kp.setCell (F:=eJ bb r E) (Kp.refl w3) (p:=⟨bb,1,none⟩) (fun _=> .inl rfl) _)) ⟨by rw [HR.out.2.2.2.2,HW.out.1,HW.out.2];rfl,?_⟩;exact oZ H.out.1 HE.out HNM.out HR.out.1 HR.out.2.1 HR.out.2.2.1 (Kp.setCell (F:=fun k=>k=bb) (Kp.refl w3) (p:=⟨bb,1,none⟩) (fun _=>rfl) _) hbn (by rw [HW.out.1,H.out.2];simp)
end
end
section
open Go.RowKit Go.Shelf
attribute [local go_sem] Oper.semAt_some
theorem wV:cL Tryz.prog 69 34 1 24 (.slice none 0 0):=⟨by kernel_rfl,by kernel_rfl,rfl,by decide⟩
def zZ(x:XB):Value:= .slice x.1.1 x.1.2.1 x.1.2.2
def GotRow(W:World)(M:Nat->Prop)(x:XB):Prop:=x.1.2=(x.2.length,x.2.length)/\((x.1.1=none/\x.2= [])\/∃g rest,x.1.1=some ⟨g,0,none⟩/\Blk W g (strs x.2++rest) 9/\M g)
theorem GotRow.kp{W W':World}{M F M':Nat->Prop}{x:XB}(h:GotRow W M x)(hk:Kp F W W')(hF:∀g cs,Blk W g cs 9->M g->¬F g)(hM:∀g,g<W.heap.size->M g->M' g):GotRow W' M' x:=by
 obtain⟨h1,h2|⟨g,rest,h2,h3,h4⟩⟩:=h
 ·exact⟨h1,.inl h2⟩
 ·exact⟨h1,.inr ⟨g,rest,h2,h3.kp hk (hF g _ h3 h4),hM g h3.lt h4⟩⟩
structure GotI(w8:World)(b:Nat)(T:Nat->Prop)(pre:List XB)(W:World):Prop where
 kp:Kp (fun k=>k=b) w8 W
 ge:∀k,T k->w8.heap.size≤k
 val:∃v,Blk W b [v] 69/\Row W 34 1 v pre.length (pre.map zZ) (fun g=>w8.heap.size≤g/\¬T g)
 rows:∀x∈pre,GotRow W (fun g=>w8.heap.size≤g/\¬T g) x
section
variable {w8 W1 W:World}{b:Nat}{T T':Nat->Prop}{pre:List XB}
theorem GotI.step(h:GotI w8 b T pre W1)(hb:b<w8.heap.size)(hk:Kp T W1 W)(hT:∀k,T' k->xP T W1 W k):GotI w8 b T' pre W:=by
 obtain⟨h1,h2,⟨v,h3,h4⟩,hr⟩:=h;have hs1:=h1.size;have hM:∀g,g<W1.heap.size->(w8.heap.size≤g/\¬T g)->w8.heap.size≤g/\¬T' g:=fun g hg hm=>⟨hm.1,fun ht=>by
  rcases hT g ht with h|h
  ·exact hm.2 h
  ·omega⟩
 refine⟨h1.trans' hk fun i hi hf=>absurd (h2 i hf) (by omega),fun k hk'=>?_,⟨v,h3.kp hk fun hf=>by have:=h2 b hf;omega,?_⟩,fun x hx=>(hr x hx).kp hk (fun g _ _ hm=>hm.2) hM⟩
 ·rcases hT k hk' with h|h
  ·exact h2 k h
  ·omega
 ·have h5:=h4.kp' hk fun g hg hM hf=>hM.2 hf;obtain⟨q1,q2|⟨g,cap,rest,a,hm,c,d⟩⟩:=h4
  ·obtain⟨q3,q4⟩:=q2;exact⟨q1,.inl ⟨q3,q4⟩⟩
  ·obtain⟨r1,⟨r2,_⟩|⟨g',cap',rest',a',hm',c',d'⟩⟩:=h5
   ·rw [a]at r2;cases r2
   ·have hgg:g'=g:=by rw [a]at a';cases a';rfl
    exact⟨r1,.inr ⟨g',cap',rest',a',hM g' (by rw [hgg];exact c.lt) hm',c',d'⟩⟩
theorem GotI.put(h:GotI w8 b T pre W)(hb:b<w8.heap.size){l:Nat}{o o':Obj}(hl:w8.heap.size≤l)(ho:W.heap[l]?=some o)(hc:o.isCells=false):GotI w8 b T pre (W.putObj l o'):=by
 obtain⟨h1,h2,⟨v,h3,h4⟩,hr⟩:=h;have hk:Kp (fun k=>k=l) W (W.putObj l o'):=Kp.putF (F:=fun k=>k=l) rfl _;have hne:∀g cs e,Blk W g cs e->¬g=l:=fun g cs e hb' e'=>by unfold Blk at hb';rw [e',ho]at hb';cases hb';cases hc
 refine⟨h1.trans' hk fun i hi hf=>by have e:i=l:=hf;omega,h2,⟨v,h3.kp hk fun e=>by have e':b=l:=e;omega,h4.kp' hk fun g hg _ e=>?_⟩,fun x hx=>(hr x hx).kp hk (fun g cs hb' _=>hne g cs _ hb') fun _ _ h=>h⟩;obtain⟨cs,hb'⟩:=aQ h4 hg;exact hne g cs _ hb' e
theorem GotI.start(h:Blk w8 b [.slice none 0 0] 69):GotI w8 b (fun _=>False) [] w8:=
 ⟨Kp.refl _,fun k h=>h.elim,⟨_,h,Row.nil _ _ _ _⟩,fun x hx=>by simp at hx⟩
theorem GotI.round{v v':Value}{X:World}{x:XB}{Z:Nat->Prop}(h:GotI w8 b T pre W)(hb:b<w8.heap.size)(hTlt:∀k,T k->k<W.heap.size)(hZ:∀k,Z k->b<k/\k<w8.heap.size)(hv:Blk W b [v] 69)(hx:GotRow W (fun g=>w8.heap.size≤g/\¬T g) x)(hk:Kp (fun k=>k=b\/v.ownBlock=some k) W X)(hB:Blk X b [v'] 69)(hr:Row X 34 1 v' (pre.length+1) (pre.map zZ++ [zZ x]) (fun g=>v.ownBlock=some g\/W.heap.size≤g)):
 KeepsFrom w8.heap.size W X/\Kp (fun k=>¬fI Z T k) W X/\GotI w8 b T (pre++ [x]) X:=by
 obtain⟨h1,h2,⟨v0,h3,h4⟩,hro⟩:=h;have e0:v0=v:=by unfold Blk at h3 hv;rw [h3]at hv;cases hv;rfl
 subst e0;have hsz:=h1.size;have hno:∀k,(k=b\/v0.ownBlock=some k)->¬T k/\(k=b\/w8.heap.size≤k):=fun k hk=>by
  rcases hk with h|h
  ·exact⟨fun ht=>by have:=h2 k ht;omega,.inl h⟩
  ·exact⟨(h4.block k h).2,.inr (h4.block k h).1⟩
 have hns:∀g cs,Blk W g cs 9->¬(g=b\/v0.ownBlock=some g):=fun g cs hg e=>by
  rcases e with e|e
  ·rw [e]at hg;exact absurd (aP hg h3) (by decide)
  ·obtain⟨cs2,hb2⟩:=aQ h4 e;exact absurd (aP hg hb2) (by decide)
 refine⟨⟨hk.size,fun k o hB2 hk2 ho=>(hk.block k (lt_of_block hk2) fun hf=>?_).trans hk2⟩,hk.mono fun k hk2 hf hz=>?_,⟨h1.trans' hk fun k hk2 hf=>?_,h2,⟨v',hB,?_⟩,fun y hy=>?_⟩⟩
 ·rcases hf with e|e
  ·unfold Blk at h3;rw [e,h3]at hk2;cases hk2;cases ho
  ·obtain⟨cs,hb'⟩:=aQ h4 e;unfold Blk at hb';rw [hb']at hk2;cases hk2;cases ho
 ·rcases hz with hz|hz
  ·exact(hno k hf).1 hz
  ·have:=hZ k hz;rcases(hno k hf).2 with h|h<;>omega
 ·rcases(hno k hf).2 with h|h
  ·exact h
  ·omega
 ·rw [List.length_append,List.length_singleton,List.map_append];refine hr.mono fun g hg=>?_;rcases hg with hg|hg
  ·exact h4.block g hg
  ·exact⟨by omega,fun ht=>by have:=hTlt g ht;omega⟩
 ·rcases List.mem_append.1 hy with hy|hy
  ·exact(hro y hy).kp hk (fun g cs hb' _=>hns g cs hb') fun _ _ h=>h
  ·obtain rfl:=List.mem_singleton.1 hy;exact hx.kp hk (fun g cs hb' _=>hns g cs hb') fun _ _ h=>h
theorem GotI.rowsIn(h:GotI w8 b (fun _=>False) pre W)(hl:∀x∈pre,x.2.length≤1048576):∃v ao cap,v= .slice ao pre.length cap/\Blk W b [v] 69/\RowsIn (fun _=>True) W ao (pre.map (·.2)):=by
 obtain⟨h1,h2,⟨v,h3,h4⟩,hr⟩:=h;obtain⟨ao,cap,ev,hc,_⟩:=h4.shape;subst ev;refine⟨_,ao,cap,rfl,h3,pre,rfl,hc,fun _ _=>trivial,fun x hx=>⟨?_,by have:=hl x hx;omega,fun _ _=>trivial⟩⟩;obtain⟨q1,q2⟩:=hr x hx;have e2:x.1.2.1=x.2.length:=by rw [q1]
 refine⟨e2,?_⟩;rcases q2 with⟨_,q3⟩|⟨g,rest,q3,q4,_⟩
 ·rw [q3];exact CellsAt.nil _ _
 ·rw [q3];exact CellsAt.pre q4
end
theorem GvRow.got{w8 W1 W:World}{T':Nat->Prop}{x:XB}(h:GvRow W1 T' W x)(hs:w8.heap.size≤W1.heap.size):GotRow W (fun g=>w8.heap.size≤g/\¬T' g) x:=by
 obtain⟨h1,h2|⟨g,rest,h2,h3,h4,h5⟩⟩:=h
 ·exact⟨h1,.inl h2⟩
 ·exact⟨h1,.inr ⟨g,rest,h2,h3,by omega,h5⟩⟩
end
end Go.Proofs.YtinnmeiphbdogaaGreat
