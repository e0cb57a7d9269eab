/- Texts joined for a claim (RefBaseAdd, RefBaseFrom, JBases, RefSize, JFacts). -/
import Derived.Test.YtinnmeiphbdogaaGreatJf9
import Derived.StillTailTactics
import Derived.OwnWalk
set_option linter.unusedVariables false
set_option linter.unusedSimpArgs false
set_option maxRecDepth 100000
namespace Go.Proofs.YtinnmeiphbdogaaGreat
section
open Go.RowKit
structure RefOk(G:List REnt):Prop where
 ok:BaseOk (bC G)
 names:Strict mP (G.map REnt.name)
theorem aHk(G:List REnt):(bC G).map (·.1)=G.map REnt.name:=by unfold bC;rw [List.map_map];rfl
theorem kL{G:List REnt}{s:ByteArray}(h:dW G s=none):bL (bC G) s=none/\s∉G.map REnt.name:=by
 have h1:bL (bC G) s=none:=by rw [qT,h];rfl
 exact⟨h1,by rw [<-aHk];exact jI.1 h1⟩
theorem qU{G:List REnt}{s:ByteArray}{g:REnt}(h:dW G s=some g):bL (bC G) s=some (g.ar,g.LL)/\bG (bC G) s=g.LL:=by
 have h1:bL (bC G) s=some (g.ar,g.LL):=by rw [qT,h];rfl
 exact⟨h1,iG h1⟩
section
variable {S S':Nat->Prop}{w w1 w2 w3:World}{cb:Nat}{G:List REnt}{s:ByteArray}{ss:List ByteArray}
def RefBTo(S:Nat->Prop)(w:World)(cb:Nat)(G:List REnt)(C':List aZ)(w':World):Prop:=
 ∃S' G',Grows w S S'/\RefB S' w' cb G'/\RefOk G'/\SameC (bC G') C'/\G'.length≤G.length+1/\∀k,sQ cb G' k->sQ cb G k\/w.heap.size≤k
theorem RefBTo.same{C':List aZ}(h:RefB S w cb G)(ho:RefOk G)(hk:Ext w w1)(hc:C'=bC G):RefBTo S w cb G C' w1:=
 ⟨S,G,Grows.refl _ _,h.ext hk,ho,by rw [hc];exact SameC.refl _,Nat.le_succ _,fun k h=> .inl h⟩
theorem RefB.turn{pre post:List REnt}{g:REnt}(h:RefB S w cb (pre++g::post)){LL':List (List ByteArray)}(hk:Kp (fun k=>k=g.c) w w1)(hS:Grows w S S')(hr:RefRows S' w1 g.c g.ar LL'):
 RefB S' w1 cb (pre++{g with LL:=LL'}::post):=by
 have hg:g∈pre++g::post:=by simp
 have hgc:=h.off g hg;have hgS:=(h.rows g hg).notS;have hlt:=(h.rows g hg).lt;obtain⟨na,nc,aa,ac,h1,h2,h3,h4,h5,h6⟩:=h.blk;have hF:∀k,k=g.c->¬S k:=fun k e hs=>by subst e;exact hgS hs
 have en:(pre++{g with LL:=LL'}::post).map REnt.name=(pre++g::post).map REnt.name:=by simp
 have ep:(pre++{g with LL:=LL'}::post).map REnt.ptr=(pre++g::post).map REnt.ptr:=by simp [REnt.ptr]
 have el:(pre++{g with LL:=LL'}::post).length=(pre++g::post).length:=by simp
 have hap:=h.apart;have hoff:∀x∈pre++g::post,x=g\/x.c≠g.c:=fun x hx=>by
  rw [List.pairwise_append]at hap;obtain⟨_,p2,p3⟩:=hap;rw [List.pairwise_cons]at p2;rcases List.mem_append.1 hx with hx|hx
  ·exact .inr (p3 x hx g (List.mem_cons_self ..))
  ·rcases List.mem_cons.1 hx with rfl|hx
   ·exact .inl rfl
   ·exact .inr fun e=>p2.1 x hx e.symm
 have hmem:∀x∈pre++{g with LL:=LL'}::post,x={g with LL:=LL'}\/ (x∈pre++g::post/\x.c≠g.c):=fun x hx=>by
  rw [List.pairwise_append]at hap;obtain⟨_,p2,p3⟩:=hap;rw [List.pairwise_cons]at p2;rcases List.mem_append.1 hx with hx|hx
  ·exact .inr ⟨by simp [hx],p3 x hx g (List.mem_cons_self ..)⟩
  ·rcases List.mem_cons.1 hx with rfl|hx
   ·exact .inl rfl
   ·exact .inr ⟨by simp [hx],fun e=>p2.1 x hx e.symm⟩
 have hS':=hr.inS;refine⟨⟨na,nc,aa,ac,?_,?_,?_,fun a e=>hS.1 _ (h4 a e),fun a e=>hS.1 _ (h5 a e),?_⟩,fun x hx=>?_,?_,?_,fun x hx=>?_,hS',?_⟩
 ·rw [el];exact h1.kp hk fun e=>hgc e.symm
 ·rw [en];exact h2.kp hk fun a e=>hF _|>fun f e2=>f e2 (h4 a e)
 ·rw [ep];exact h3.kp hk fun a e=>hF _|>fun f e2=>f e2 (h5 a e)
 ·rw [el];exact h6
 ·rcases hmem x hx with rfl|⟨hx,hne⟩
  ·exact hr
  ·refine((h.rows x hx).kp hk hne hF).wide hS.1 (fun h9=>?_) hS';rcases hS.2 _ h9 with h9|h9
   ·exact(h.rows x hx).notS h9
   ·have:=(h.rows x hx).lt;omega
 ·have:=hap;rw [List.pairwise_append,List.pairwise_cons]at this ⊢;obtain⟨p1,⟨p2,p3⟩,p4⟩:=this;refine⟨p1,⟨p2,p3⟩,fun a ha b hb=>?_⟩;rcases List.mem_cons.1 hb with rfl|hb
  ·exact p4 a ha g (List.mem_cons_self ..)
  ·exact p4 a ha b (List.mem_cons_of_mem _ hb)
 ·intro h9;rcases hS.2 _ h9 with h9|h9
  ·exact h.notS h9
  ·have:=h1.lt;omega
 ·rcases hmem x hx with rfl|⟨hx,hne⟩
  ·exact hgc
  ·exact h.off x hx
 ·rw [el];exact h.len
theorem aCi{g:REnt}(h:dW G s=some g):∃pre post,G=pre++g::post:=List.append_of_mem (kK h).1
theorem aMu{pre post:List REnt}{g:REnt}(hn:((bC (pre++g::post)).map (·.1)).Nodup)(LL':List (List ByteArray)):jB (bC (pre++g::post)) g.name (g.ar,LL')=bC (pre++{g with LL:=LL'}::post):=by
 have hg:bL (bC (pre++g::post)) g.name=some (g.ar,g.LL):=(dT hn).2 (List.mem_map.2 ⟨g,by simp,rfl⟩);unfold jB;rw [hg];simp only [Option.isSome_some,if_true];have e1:bC (pre++g::post)=bC pre++g.cnt::bC post:=by simp [bC]
 have e2:bC (pre++{g with LL:=LL'}::post)=bC pre++(g.name,g.ar,LL')::bC post:=by simp [bC,REnt.cnt]
 rw [e1]at hn ⊢;rw [e2];rw [List.map_append,List.map_cons,List.nodup_append,List.nodup_cons]at hn;obtain⟨_,⟨p2,_⟩,p4⟩:=hn;rw [List.map_append,List.map_cons]
 congr 1
 ·conv=>rhs;rw [<-List.map_id (bC pre)]
  apply List.map_congr_left;intro x hx;rw [if_neg]
  ·rfl
  ·exact p4 x.1 (List.mem_map.2 ⟨x,hx,rfl⟩) g.name (List.mem_cons_self ..)
 ·rw [if_pos (show(REnt.cnt g).1=g.name from rfl)]
  congr 1
  conv=>rhs;rw [<-List.map_id (bC post)]
  apply List.map_congr_left;intro x hx;rw [if_neg]
  ·rfl
  ·intro e;exact p2 (by rw [show(REnt.cnt g).1=g.name from rfl,<-e];exact List.mem_map.2 ⟨x,hx,rfl⟩)
theorem zC(hn:(bC G).map (·.1)|>.Nodup){g:REnt}(h:g.name∉G.map REnt.name):(bC (eS REnt.name G g)).Perm (bC G++ [g.cnt]):=by unfold bC;have:=(fK REnt.name G g).map REnt.cnt;simpa using this
theorem RefOk.ins(h:RefOk G){g:REnt}(hn:g.name∉G.map REnt.name)(hb:BaseOk (bC G++ [g.cnt])):RefOk (eS REnt.name G g)/\SameC (bC (eS REnt.name G g)) (bC G++ [g.cnt]):=
 have hp:=zC h.ok.nodup hn
 ⟨⟨aH6 hp.symm hb,uR REnt.name h.names hn⟩,(aAt hp.symm hb.nodup).symm⟩
theorem rM{c n:Nat}{LL:List (List ByteArray)}(h:RefRows S w c n LL):w.cell? ⟨c,0,none⟩=some (.int .i64 n)/\∃lo lc,w.cell? ⟨c,1,none⟩=some (.slice lo LL.length lc):=by obtain⟨ao,cap,h1,_⟩:=h;exact⟨by rw [h1.cell'];rfl,ao,cap,by rw [h1.cell'];rfl⟩
theorem xC{k c:Nat}(h:RefB S w cb G)(ho:RefOk G)(hn:bZ s=true)(he:dW G s=none)(hk:k≤64)(hx:Ext w w1)(hc:w.heap.size≤c)(hr:RefRows S w1 c k [])(w2:World)(hk2:Kp (fun k=>k=cb) w1 w2)(hg:Grows w1 S S')
 (hb:RefB S' w2 cb (eS REnt.name G ⟨s,c,k,[]⟩)):Kp (fun k=>k=cb) w w2/\Grows w S S'/\RefOk (eS REnt.name G ⟨s,c,k,[]⟩)/\SameC (bC (eS REnt.name G ⟨s,c,k,[]⟩)) (bC G++ [(s,k,[])])/\(eS REnt.name G ⟨s,c,k,[]⟩).length≤G.length+1/\∀q,sQ cb (eS REnt.name G ⟨s,c,k,[]⟩) q->sQ cb G q\/w.heap.size≤q:=by
 obtain⟨g1,g2⟩:=kL he;have hd:dC (bC G) s (k:Int)=0:=qY hn (by omega) g1;have hC:cV (bC G) s (k:Int)=bC G++ [(s,k,[])]:=by unfold cV;rw [if_pos ⟨hd,g1⟩];rfl
 have hbo:BaseOk (bC G++ [(s,k,[])]):=by rw [<-hC];exact mI ho.ok s _
 obtain⟨i1,i2⟩:=ho.ins (g:=⟨s,c,k,[]⟩) g2 hbo;refine⟨(Ext.kp hx).trans hk2,(Grows.refl w S).trans hg hx.size,i1,i2,by rw [(fK REnt.name G _).length_eq];simp,fun q hq=>?_⟩;rcases hq with rfl|⟨x,hx,rfl⟩
 ·exact .inl (.inl rfl)
 ·rcases List.mem_append.1 ((fK REnt.name G _).mem_iff.1 hx)with hx|hx
  ·exact .inl (.inr ⟨x,hx,rfl⟩)
  ·obtain rfl:=List.mem_singleton.1 hx;exact .inr hc
set_option maxHeartbeats 4000000 in
theorem aB8(h:RefB S w cb G)(ho:RefOk G)(s:ByteArray)(a:Int)(hl:G.length<4194304):
 Calls Tryz.prog 113 #[.pointer (some ⟨cb,0,none⟩),.string s,.int .i64 a] w (RetF (fun k=>k=cb) w fun w' v=>v= .int .i64 ((dC (bC G) s a:Nat):Int)/\RefBTo S w cb G (cV (bC G) s a) w'):=by
 have H:=qH (nIX h (nIX ho hl));have HN:=qH (rN s w);clear h ho hl;cases hn:bZ s with
 |false=>
  rw [hn]at HN;have HNM:=qH hn;clear hn;go_enter Tryz.func113,Tryz.ntmps113;go_wp2_with fail
  refine HN.out.mono ?_;rintro e w' ⟨rfl,rfl⟩;go_wp2;go_ret;have e2:=qZ (C:=bC G) a HNM.out;exact RetF.mk (Kp.refl _) ⟨by rw [e2];rfl,RefBTo.same H.out.1 H.out.2.1 (Kp.refl _) (pM (by rw [e2];decide))⟩
 |true=>
  rw [hn]at HN;have HNM:=qH hn;clear hn;by_cases ha:a<0\/64<a
  ·have HNB:=qH (xB a w ha);have HAB:=qH ha;clear ha;go_enter Tryz.func113,Tryz.ntmps113;go_wp2_with fail
   refine HN.out.mono ?_;rintro e w' ⟨rfl,rfl⟩;go_wp2_with fail
   refine HNB.out.mono ?_;rintro e w' ⟨rfl,rfl⟩;go_wp2;go_ret;have e2:=aBo (s:=s) (C:=bC G) HNM.out HAB.out;exact RetF.mk (Kp.refl _) ⟨by rw [e2];rfl,RefBTo.same H.out.1 H.out.2.1 (Kp.refl _) (pM (by rw [e2];decide))⟩
  ·obtain⟨k,rfl⟩:=Int.eq_ofNat_of_zero_le (show 0≤a by omega);have hk64:k≤64:=by omega
   have HNR:=qH (oA S w k hk64 H.out.1.inS);have HAN:=qH ha;clear ha;cases he:dW G s with
   |none=>
    have HE:=qH he;clear he;go_enter Tryz.func113,Tryz.ntmps113;go_wp2_with fail
    refine HN.out.mono ?_;rintro e w' ⟨rfl,rfl⟩;go_wp2_with fail
    refine HNR.out.mono ?_;rintro e w1 ⟨v,rfl,hk1,rfl,hrows⟩;have HK1:=qH (nIX hk1 hrows);clear hk1 hrows;go_wp2_with fail
    refine(gS (H.out.1.ext HK1.out.1) s).mono ?_;rintro e w2 ⟨v,rfl,hk2,hv⟩;rw [HE.out]at hv;replace hv:v= .pointer none:=hv;subst hv;have HK2:=qH (nIX hk2 (HK1.out.1.trans hk2));clear hk2;go_wp2_with fail
    obtain⟨gc,egc⟩:=nm w.heap.size;have HP:=qH (uC (H.out.1.ext HK2.out.2) H.out.2.1.names ⟨s,w.heap.size,k,[]⟩ (HK1.out.2.ext HK2.out.1) (fun x hx e=>by have:=(H.out.1.rows x hx).lt;simp only at e;omega) (fun e=>by obtain⟨na,nc,aa,ac,hB,_⟩:=H.out.1.blk;have:=hB.lt;simp only at e;omega) H.out.2.2);refine HP.out.mono ?_;rintro e w4 ⟨v,rfl,hk4,S',hS',hb⟩;have HM4:=qH (nIX hk4 (nIX hS' hb));clear hk4 hS' hb;go_wp2;go_ret;obtain⟨g1,g2⟩:=kL HE.out;have hd:dC (bC G) s (k:Int)=0:=qY HNM.out (by omega) g1;obtain⟨f1,f2,f3,f4,f5,f6⟩:=xC H.out.1 H.out.2.1 HNM.out HE.out hk64 HK2.out.2 (Nat.le_refl _) (HK1.out.2.ext HK2.out.1) w4 HM4.out.1 HM4.out.2.1 HM4.out.2.2;refine RetF.mk f1 ⟨by rw [hd];rfl,S',_,f2,HM4.out.2.2,f3,?_,f5,f6⟩;have hC:cV (bC G) s (k:Int)=bC G++ [(s,k,[])]:=by unfold cV;rw [if_pos ⟨hd,g1⟩];rfl
    rw [hC];exact f4
   |some g=>
    have HE:=qH he;obtain⟨c,ec⟩:=nm g.c;obtain⟨ar,ear⟩:=nm g.ar;have hcell:=(rM (H.out.1.rows g (kK he).1)).1;rw [ec,ear]at hcell;have hg:=(qU he).1;have hR:=yU (C:=bC G) HNM.out HAN.out hg;rw [ear]at hR;have HR:=qH (nIX hR (nIX (yV (C:=bC G) (a:=(k:Int)) hg) ec));clear he ec ear hg hR;by_cases hq:ar=k
    all_goals
     have HQ:=qH hq;first
      |have q1:((ar:Int) !=(k:Int))=false:=by simp [hq]
      |have q1:((ar:Int) !=(k:Int))=true:=by rw [bne_iff_ne];omega
     clear hq;go_enter Tryz.func113,Tryz.ntmps113;go_wp2_with fail
     refine HN.out.mono ?_;rintro e w' ⟨rfl,rfl⟩;go_wp2_with fail
     refine HNR.out.mono ?_;rintro e w1 ⟨v,rfl,hk1,rfl,hrows⟩;have HK1:=qH hk1;clear hk1 hrows;go_wp2_with fail
     refine(gS (H.out.1.ext HK1.out) s).mono ?_;rintro e w2 ⟨v,rfl,hk2,hv⟩;rw [HE.out]at hv;replace hv:v= .pointer (some ⟨g.c,0,none⟩):=hv;rw [HR.out.2.2]at hv;subst hv;have HK2:=qH (HK1.out.trans hk2);have d1:=HK2.out.cell hcell id;clear hk2 hcell;go_wp2;go_ret;refine RetF.mk (Ext.kp HK2.out) ⟨?_,RefBTo.same H.out.1 H.out.2.1 HK2.out HR.out.2.1⟩;rw [HR.out.1];first
      |rw [if_pos (by rw [HQ.out])];rfl
      |rw [if_neg (fun q=>HQ.out (by omega))];rfl
theorem dE(h:RefB S w cb G)(ho:RefOk G)(hk:Ext w w1){n:Nat}(hR:dD (bC G) s ss=(false,n))(hn:n≠0):
 RetF (sQ cb G) w (fun w' v=>v= .tuple #[.bool (dD (bC G) s ss).1,.int .i64 ((dD (bC G) s ss).2:Nat)]/\RefBTo S w cb G (fN (bC G) s ss) w') (.returned (.tuple #[.bool false,.int .i64 (n:Nat)])) w1:=
 RetF.mk (Ext.kp hk) ⟨by rw [hR],RefBTo.same h ho hk (zG (by rw [hR];exact hn))⟩
theorem qL{n:Nat}{LL:List (List ByteArray)}(h1:ss.length=n)(h2:bP ss=true)(h3:¬(65536≤LL.length/\bD aC LL ss=false)):aI n LL ss=(!bD aC LL ss,0)/\aP n LL ss=bT aC LL ss:=by
 have e:aI n LL ss=(!bD aC LL ss,0):=by unfold aI;rw [if_neg (by simp [h1]),if_neg (by simp [h2]),if_neg h3]
 exact⟨e,by unfold aP;rw [e,if_pos rfl]⟩
theorem uE{g:REnt}(h:RefB S w cb G)(ho:RefOk G)(hf:dW G s=some g)(hR:dD (bC G) s ss=(!bD aC g.LL ss,0))(har:g.ar=ss.length)(hx:Ext w w2)(hk:Kp (fun k=>k=g.c) w2 w3)(hS:Grows w2 S S')(hr:RefRows S' w3 g.c g.ar (bT aC g.LL ss)):
 RetF (sQ cb G) w (fun w' v=>v= .tuple #[.bool (dD (bC G) s ss).1,.int .i64 ((dD (bC G) s ss).2:Nat)]/\RefBTo S w cb G (fN (bC G) s ss) w') (.returned (.tuple #[.bool (!bD aC g.LL ss),.int .i64 0])) w3:=by
 obtain⟨g1,g2⟩:=qU hf;obtain⟨hm,hn⟩:=kK hf;obtain⟨pre,post,e⟩:=aCi hf;have hC:fN (bC G) s ss=jB (bC G) s (g.ar,bT aC g.LL ss):=by unfold fN;rw [hR,if_pos rfl,g2,har]
 have hbo:=oC ho.ok s ss;rw [hC]at hbo ⊢;have hx2:=(h.ext hx);subst e;have hs:=aMu ho.ok.nodup (bT aC g.LL ss);rw [<-hn,hs]at hbo ⊢;have en:(pre++{g with LL:=bT aC g.LL ss}::post).map REnt.name=(pre++g::post).map REnt.name:=by simp
 refine RetF.mk ((Ext.kp hx).trans (hk.mono fun k _ e=> .inr ⟨g,hm,e⟩)) ⟨by rw [hn,hR];rfl,S',_,(Grows.refl w S).trans hS hx.size,hx2.turn hk hS hr,⟨hbo,by rw [en];exact ho.names⟩,SameC.refl _,by simp,?_⟩;rintro k (e|⟨x,hx,e⟩)
 ·exact .inl (.inl e)
 ·rcases List.mem_append.1 hx with hx|hx
  ·exact .inl (.inr ⟨x,by simp [hx],e⟩)
  ·rcases List.mem_cons.1 hx with rfl|hx
   ·exact .inl (.inr ⟨g,hm,e⟩)
   ·exact .inl (.inr ⟨x,by simp [hx],e⟩)
theorem aDp{S2:Nat->Prop}{c:Nat}(h:RefB S w cb G)(ho:RefOk G)(hf:dW G s=none)(hn:bZ s=true)(hl:ss.length≤64)(hR:dD (bC G) s ss=(true,0))(hx:Ext w w1)(hc:w.heap.size≤c)(hr1:RefRows S w1 c ss.length [])(hk2:Kp (fun k=>k=cb) w1 w2)(hS2:Grows w1 S S2)(hb:RefB S2 w2 cb (eS REnt.name G ⟨s,c,ss.length,[]⟩))
 (hk:Kp (fun k=>k=c) w2 w3)(hS:Grows w2 S2 S')(hr:RefRows S' w3 c ss.length (bT aC [] ss)):
 RetF (sQ cb G) w (fun w' v=>v= .tuple #[.bool (dD (bC G) s ss).1,.int .i64 ((dD (bC G) s ss).2:Nat)]/\RefBTo S w cb G (fN (bC G) s ss) w') (.returned (.tuple #[.bool true,.int .i64 0])) w3:=by
 obtain⟨g1,g2⟩:=kL hf;obtain⟨f1,f2,f3,f4,f5,f6⟩:=xC h ho hn hf hl hx hc hr1 w2 hk2 hS2 hb;have hC:fN (bC G) s ss=jB (bC G) s (ss.length,bT aC [] ss):=by unfold fN;rw [hR,if_pos rfl,gI g1]
 have hsame:SameC (bC (eS REnt.name G ⟨s,c,ss.length,bT aC [] ss⟩)) (fN (bC G) s ss):=by
  have hp:=zC ho.ok.nodup (g:=⟨s,c,ss.length,bT aC [] ss⟩) g2;rw [hC];have e:jB (bC G) s (ss.length,bT aC [] ss)=bC G++ [(s,ss.length,bT aC [] ss)]:=by unfold jB;rw [g1];rfl
  have hbo:=oC ho.ok s ss;rw [hC,e]at hbo;rw [e];exact(aAt hp.symm hbo.nodup).symm
 have hbo:=oC ho.ok s ss;have hbo2:BaseOk (bC (eS REnt.name G ⟨s,c,ss.length,bT aC [] ss⟩)):=by
  have hp:=zC ho.ok.nodup (g:=⟨s,c,ss.length,bT aC [] ss⟩) g2;refine aH6 hp.symm ?_;have e:jB (bC G) s (ss.length,bT aC [] ss)=bC G++ [(s,ss.length,bT aC [] ss)]:=by unfold jB;rw [g1];rfl
  rw [hC,e]at hbo;exact hbo
 have hturn:RefB S' w3 cb (eS REnt.name G ⟨s,c,ss.length,bT aC [] ss⟩):=by unfold eS at hb ⊢;exact hb.turn hk hS hr
 refine RetF.mk ((f1.mono fun k _ e=> .inl e).trans' hk fun k hk e=>by omega) ⟨by rw [hR];rfl,S',_,f2.trans hS f1.size,hturn,⟨hbo2,?_⟩,hsame,?_,?_⟩
 ·exact uR REnt.name ho.names g2
 ·have:=(fK REnt.name G ⟨s,c,ss.length,bT aC [] ss⟩).length_eq;rw [this];simp
 ·rintro k (e|⟨x,hx,e⟩)
  ·exact .inl (.inl e)
  ·rcases List.mem_append.1 ((fK REnt.name G _).mem_iff.1 hx)with hx|hx
   ·exact .inl (.inr ⟨x,hx,e⟩)
   ·obtain rfl:=List.mem_singleton.1 hx;rw [e];exact .inr hc
set_option maxHeartbeats 4000000 in
theorem aB9(h:RefB S w cb G)(ho:RefOk G)(s:ByteArray){xo:Option Addr}{m xc:Nat}{ss:List ByteArray}(hm:m=ss.length)(hx:CellsAt w xo (strs ss))(hss:ss.length≤8796093021952)(hxo:ss≠ []->Off (fun k=>k=cb) xo)(hl:G.length<4194304):
 Calls Tryz.prog 114 #[.pointer (some ⟨cb,0,none⟩),.string s,.slice xo m xc] w (RetF (sQ cb G) w fun w' v=>v= .tuple #[.bool (dD (bC G) s ss).1,.int .i64 ((dD (bC G) s ss).2:Nat)]/\RefBTo S w cb G (fN (bC G) s ss) w'):=by
 have H:=qH (nIX h (nIX ho hl));have HN:=qH (rN s w);have HX:=qH (nIX hm (nIX hx (nIX hss hxo)));have HT:=qH (fun W (hW:Ext w W)=>rL ss xo m xc W hm (hx.ext hW) (by omega));have hm8:m≤8796093021952:=by omega
 clear h ho hl hm hx hss hxo;cases hn:bZ s with
 |false=>
  rw [hn]at HN;have HNM:=qH hn;clear hn;go_enter Tryz.func114,Tryz.ntmps114;go_wp2_with fail
  refine HN.out.mono ?_;rintro e w' ⟨rfl,rfl⟩;go_wp2;go_ret2;exact dE H.out.1 H.out.2.1 (Kp.refl _) (aBs ss HNM.out) (by decide)
 |true=>
  rw [hn]at HN;have HNM:=qH hn;clear hn;cases hf:dW G s with
  |some g=>
   obtain⟨hmem,hname⟩:=kK hf;obtain⟨hget,hrows⟩:=qU hf;have hrr:=H.out.1.rows g hmem;have hok:=H.out.2.1.ok.all g.cnt (List.mem_map.2 ⟨g,hmem,rfl⟩);have har64:g.ar≤64:=hok.ar;have hst:Strict aC g.LL:=hok.strict;have hfew:g.LL.length≤65536:=hok.few;obtain⟨d0,lo,lc,d1⟩:=rM hrr;have HF:=qH (nIX hf (nIX hget (nIX hrows (nIX hrr hst))));have HB:=qH (gS H.out.1 s);have HFind:=qH (fun W (hW:Ext w W)=>nZ (hrr.ext hW) hst (xc:=xc) HX.out.1 (HX.out.2.1.ext hW) HX.out.2.2.1);have HAdd:=qH (fun W (hW:Ext w W)=>qM (hrr.ext hW) hst (xc:=xc) HX.out.1 (HX.out.2.1.ext hW) HX.out.2.2.1 (by omega));have HLen:=qH (fun W (hW:Ext w W)=>uD (H.out.1.ext hW) (by have:=H.out.2.1.ok.few;omega));obtain⟨c,ec⟩:=nm g.c;obtain⟨ar,ear⟩:=nm g.ar;obtain⟨ln,eln⟩:=nm g.LL.length;have hB2:Calls Tryz.prog 115 #[.pointer (some ⟨cb,0,none⟩),.string s] w (RetN w fun w' v=>v= .pointer (some ⟨c,0,none⟩)):=by rw [<-ec];have:=HB.out;rw [hf]at this;exact this
   have HB2:=qH hB2;rw [ec]at d0 d1 HFind HAdd;rw [ear]at d0 har64;rw [eln]at d1 hfew;have HE:=qH (nIX ec (nIX ear eln));clear hf hmem hname hget hrows hrr hok hst HB hB2 ec ear eln;by_cases h64:m≤64
   ·by_cases har:ar=m
    ·have q1:((ar:Int) !=(m:Int))=false:=by simp [har]
     have t1:decide ((m:Int)>64)=false:=by simp;omega
     have t2:decide (64< (m:Int))=false:=by simp;omega
     have HAr:=qH har;have hlen:ss.length=g.ar:=by rw [HE.out.2.1,HAr.out,HX.out.1]
     have hao:oX (bC G) s ss=true:=pO HF.out.2.1 hlen.symm;have HAo:=qH (nIX hlen hao);clear har hlen hao h64 hm8 har64;cases ht:bP ss with
     |false=>
      have HT2:=qH ht;rw [ht]at HT;clear ht;go_enter Tryz.func114,Tryz.ntmps114;go_wp2_with fail
      refine HN.out.mono ?_;rintro e w' ⟨rfl,rfl⟩;go_wp2_with fail
      refine HB2.out.mono ?_;rintro e w1 ⟨v,rfl,hk1,rfl⟩;have d01:=hk1.cell d0 id;have HK1:=qH hk1;clear hk1 d0 d1;go_wp2_with fail
      refine(HT.out w1 HK1.out).mono ?_;rintro e w' ⟨rfl,rfl⟩;go_wp2;go_ret2;exact dE H.out.1 H.out.2.1 HK1.out (pQ HNM.out HAo.out.2 HT2.out) (by decide)
     |true=>
      have HT2:=qH ht;rw [ht]at HT;clear ht;cases hin:bD aC g.LL ss with
      |true=>
       have hRR:=iM (C:=bC G) (row:=ss) HNM.out HAo.out.2 HT2.out (by rw [HF.out.2.2.1,hin];simp);rw [HF.out.2.2.1,hin,if_neg (by simp)]at hRR;have hadd:=qL (n:=g.ar) (LL:=g.LL) (ss:=ss) HAo.out.1 HT2.out (by rw [hin];simp);have ef:lN g.LL ss=(below aC g.LL ss:Nat):=by unfold lN;rw [if_pos hin]
       rw [ef]at HFind;obtain⟨bl,ebl⟩:=nm (below aC g.LL ss);rw [ebl]at HFind;have HIn:=qH (nIX hRR (nIX hadd hin));have t1':decide ((bl:Int)<0)=false:=by simp
       clear hRR hadd hin ef ebl;go_enter Tryz.func114,Tryz.ntmps114;go_wp2_with fail
       refine HN.out.mono ?_;rintro e w' ⟨rfl,rfl⟩;go_wp2_with fail
       refine HB2.out.mono ?_;rintro e w1 ⟨v,rfl,hk1,rfl⟩;have d01:=hk1.cell d0 id;have HK1:=qH hk1;clear hk1 d0 d1;go_wp2_with fail
       refine(HT.out w1 HK1.out).mono ?_;rintro e w' ⟨rfl,rfl⟩;go_wp2_with fail
       refine(HFind.out w1 HK1.out).mono ?_;rintro e w2 ⟨v,rfl,hk2,rfl⟩;have HK2:=qH (HK1.out.trans hk2);clear hk2;go_wp2_with fail
       refine(HAdd.out w2 HK2.out).mono ?_;rintro e w3 ⟨v,rfl,hk3,hv,S',hS',hr3⟩;rw [HIn.out.2.1.1,HIn.out.2.2]at hv;subst hv;have HK3:=qH (nIX hk3 (nIX hS' hr3));clear hk3 hS' hr3;go_wp2;go_ret2;have hfin:=uE (ss:=ss) H.out.1 H.out.2.1 HF.out.1 (by rw [HIn.out.1,HIn.out.2.2]) HAo.out.1.symm HK2.out (by rw [HE.out.1];exact HK3.out.1) HK3.out.2.1 (by rw [HE.out.1];rw [<-HIn.out.2.1.2];exact HK3.out.2.2);rw [HIn.out.2.2]at hfin;exact hfin
      |false=>
       have ef:lN g.LL ss= -1:=by unfold lN;rw [if_neg (by simp [hin])]
       rw [ef]at HFind;have hir:bD aC (bG (bC G) s) ss=false:=by rw [HF.out.2.2.1];exact hin
       obtain⟨tot,etot⟩:=nm (aX (bC G));rw [etot]at HLen;by_cases hmany:262144≤tot
       ·have t3:decide ((tot:Int)≥262144)=true:=by simp;omega
        have t4:decide ((262144:Int)≤(tot:Int))=true:=by simp;omega
        have hR:=pR (C:=bC G) HNM.out HAo.out.2 HT2.out (by rw [etot];exact hmany) hir;have HR:=qH hR;clear hin ef hir etot hmany hR;go_enter Tryz.func114,Tryz.ntmps114;go_wp2_with fail
        refine HN.out.mono ?_;rintro e w' ⟨rfl,rfl⟩;go_wp2_with fail
        refine HB2.out.mono ?_;rintro e w1 ⟨v,rfl,hk1,rfl⟩;have d01:=hk1.cell d0 id;have HK1:=qH hk1;clear hk1 d0 d1;go_wp2_with fail
        refine(HT.out w1 HK1.out).mono ?_;rintro e w' ⟨rfl,rfl⟩;go_wp2_with fail
        refine(HFind.out w1 HK1.out).mono ?_;rintro e w2 ⟨v,rfl,hk2,rfl⟩;have HK2:=qH (HK1.out.trans hk2);clear hk2;go_wp2_with fail
        refine(HLen.out w2 HK2.out).mono ?_;rintro e w3 ⟨v,rfl,hk3,rfl⟩;have HK3:=qH (HK2.out.trans hk3);clear hk3;go_wp2;go_ret2;exact dE H.out.1 H.out.2.1 HK3.out HR.out (by decide)
       ·have t3:decide ((tot:Int)≥262144)=false:=by simp;omega
        have t4:decide ((262144:Int)≤(tot:Int))=false:=by simp;omega
        have hRR:=iM (C:=bC G) (row:=ss) HNM.out HAo.out.2 HT2.out (by rw [etot];omega);rw [HF.out.2.2.1,hin]at hRR;by_cases hfull:65536≤ln
        ·have t5:decide ((ln:Int)≥65536)=true:=by simp;omega
         have t6:decide ((65536:Int)≤(ln:Int))=true:=by simp;omega
         rw [if_pos ⟨by rw [HE.out.2.2];exact hfull,rfl⟩]at hRR;have HR:=qH hRR;clear hin ef hir etot hmany hRR hfull hfew;go_enter Tryz.func114,Tryz.ntmps114;go_wp2_with fail
         refine HN.out.mono ?_;rintro e w' ⟨rfl,rfl⟩;go_wp2_with fail
         refine HB2.out.mono ?_;rintro e w1 ⟨v,rfl,hk1,rfl⟩;have d01:=hk1.cell d0 id;have HK1:=qH hk1;clear hk1 d0;go_wp2_with fail
         refine(HT.out w1 HK1.out).mono ?_;rintro e w' ⟨rfl,rfl⟩;go_wp2_with fail
         refine(HFind.out w1 HK1.out).mono ?_;rintro e w2 ⟨v,rfl,hk2,rfl⟩;have HK2:=qH (HK1.out.trans hk2);clear hk2;go_wp2_with fail
         refine(HLen.out w2 HK2.out).mono ?_;rintro e w3 ⟨v,rfl,hk3,rfl⟩;have HK3:=qH (HK2.out.trans hk3);have d13:=HK3.out.cell d1 id;clear hk3 d1;go_wp2;go_ret2;exact dE H.out.1 H.out.2.1 HK3.out HR.out (by decide)
        ·have t5:decide ((ln:Int)≥65536)=false:=by simp;omega
         have t6:decide ((65536:Int)≤(ln:Int))=false:=by simp;omega
         rw [if_neg (fun h=>hfull (by rw [<-HE.out.2.2];exact h.1))]at hRR;have hadd:=qL (n:=g.ar) (LL:=g.LL) (ss:=ss) HAo.out.1 HT2.out (fun h=>hfull (by rw [<-HE.out.2.2];exact h.1));have HIn:=qH (nIX hRR (nIX hadd hin));clear hin ef hir etot hmany hRR hfull hfew hadd;go_enter Tryz.func114,Tryz.ntmps114;go_wp2_with fail
         refine HN.out.mono ?_;rintro e w' ⟨rfl,rfl⟩;go_wp2_with fail
         refine HB2.out.mono ?_;rintro e w1 ⟨v,rfl,hk1,rfl⟩;have d01:=hk1.cell d0 id;have HK1:=qH hk1;clear hk1 d0;go_wp2_with fail
         refine(HT.out w1 HK1.out).mono ?_;rintro e w' ⟨rfl,rfl⟩;go_wp2_with fail
         refine(HFind.out w1 HK1.out).mono ?_;rintro e w2 ⟨v,rfl,hk2,rfl⟩;have HK2:=qH (HK1.out.trans hk2);clear hk2;go_wp2_with fail
         refine(HLen.out w2 HK2.out).mono ?_;rintro e w3 ⟨v,rfl,hk3,rfl⟩;have HK3:=qH (HK2.out.trans hk3);have d13:=HK3.out.cell d1 id;clear hk3 d1;go_wp2_with fail
         refine(HAdd.out w3 HK3.out).mono ?_;rintro e w4 ⟨v,rfl,hk4,hv,S',hS',hr4⟩;rw [HIn.out.2.1.1,HIn.out.2.2]at hv;subst hv;have HK4:=qH (nIX hk4 (nIX hS' hr4));clear hk4 hS' hr4;go_wp2;go_ret2;have hfin:=uE (ss:=ss) H.out.1 H.out.2.1 HF.out.1 (by rw [HIn.out.1,HIn.out.2.2]) HAo.out.1.symm HK3.out (by rw [HE.out.1];exact HK4.out.1) HK4.out.2.1 (by rw [HE.out.1];rw [<-HIn.out.2.1.2];exact HK4.out.2.2);rw [HIn.out.2.2]at hfin;exact hfin
    ·have q1:((ar:Int) !=(m:Int))=true:=by rw [bne_iff_ne];omega
     have t1:decide ((m:Int)>64)=false:=by simp;omega
     have t2:decide (64< (m:Int))=false:=by simp;omega
     have hR:=rA (row:=ss) HNM.out HF.out.2.1 (by rw [<-HX.out.1];show g.ar≠m;rw [HE.out.2.1];exact har);have HR:=qH hR;clear har hR h64 hm8 har64 d1;go_enter Tryz.func114,Tryz.ntmps114;go_wp2_with fail
     refine HN.out.mono ?_;rintro e w' ⟨rfl,rfl⟩;go_wp2_with fail
     refine HB2.out.mono ?_;rintro e w1 ⟨v,rfl,hk1,rfl⟩;have d01:=hk1.cell d0 id;have HK1:=qH hk1;clear hk1 d0;go_wp2;go_ret2;exact dE H.out.1 H.out.2.1 HK1.out HR.out (by decide)
   ·have t1:decide ((m:Int)>64)=true:=by simp;omega
    have t2:decide (64< (m:Int))=true:=by simp;omega
    have hR:=rA (row:=ss) HNM.out HF.out.2.1 (by rw [<-HX.out.1];show g.ar≠m;rw [HE.out.2.1];omega);have HR:=qH hR;clear hR h64 hm8 har64 d0 d1;go_enter Tryz.func114,Tryz.ntmps114;go_wp2_with fail
    refine HN.out.mono ?_;rintro e w' ⟨rfl,rfl⟩;go_wp2_with fail
    refine HB2.out.mono ?_;rintro e w1 ⟨v,rfl,hk1,rfl⟩;have HK1:=qH hk1;clear hk1;go_wp2;go_ret2;exact dE H.out.1 H.out.2.1 HK1.out HR.out (by decide)
  |none=>
   obtain⟨hget,hno⟩:=kL hf;have HB:=qH (gS H.out.1 s);rw [hf]at HB;have HB2:=qH (show Calls Tryz.prog 115 #[.pointer (some ⟨cb,0,none⟩),.string s] w (RetN w fun w' v=>v= .pointer none)from HB.out);have HLen:=qH (fun W (hW:Ext w W)=>uD (H.out.1.ext hW) (by have:=H.out.2.1.ok.few;omega));have HF:=qH (nIX hf (nIX hget hno));clear hf hget hno HB;by_cases h64:m≤64
   ·have t1:decide ((m:Int)>64)=false:=by simp;omega
    have t2:decide (64< (m:Int))=false:=by simp;omega
    have hss:ss.length≤64:=by rw [<-HX.out.1];exact h64
    have hao:oX (bC G) s ss=true:=vZ HF.out.2.1 hss;have HAo:=qH (nIX hss hao);clear hss hao h64 hm8;cases ht:bP ss with
    |false=>
     have HT2:=qH ht;rw [ht]at HT;clear ht;go_enter Tryz.func114,Tryz.ntmps114;go_wp2_with fail
     refine HN.out.mono ?_;rintro e w' ⟨rfl,rfl⟩;go_wp2_with fail
     refine HB2.out.mono ?_;rintro e w1 ⟨v,rfl,hk1,rfl⟩;have HK1:=qH hk1;clear hk1;go_wp2_with fail
     refine(HT.out w1 HK1.out).mono ?_;rintro e w' ⟨rfl,rfl⟩;go_wp2;go_ret2;exact dE H.out.1 H.out.2.1 HK1.out (pQ HNM.out HAo.out.2 HT2.out) (by decide)
    |true=>
     have HT2:=qH ht;rw [ht]at HT;clear ht;have hir:bD aC (bG (bC G) s) ss=false:=by rw [gI HF.out.2.1];rfl
     obtain⟨tot,etot⟩:=nm (aX (bC G));rw [etot]at HLen;by_cases hmany:262144≤tot
     ·have t3:decide ((tot:Int)≥262144)=true:=by simp;omega
      have t4:decide ((262144:Int)≤(tot:Int))=true:=by simp;omega
      have HR:=qH (pR (C:=bC G) HNM.out HAo.out.2 HT2.out (by rw [etot];exact hmany) hir);clear hir etot hmany;go_enter Tryz.func114,Tryz.ntmps114;go_wp2_with fail
      refine HN.out.mono ?_;rintro e w' ⟨rfl,rfl⟩;go_wp2_with fail
      refine HB2.out.mono ?_;rintro e w1 ⟨v,rfl,hk1,rfl⟩;have HK1:=qH hk1;clear hk1;go_wp2_with fail
      refine(HT.out w1 HK1.out).mono ?_;rintro e w' ⟨rfl,rfl⟩;go_wp2_with fail
      refine(nY _ w1).mono ?_;rintro e w' ⟨rfl,rfl⟩;go_wp2_with fail
      refine(HLen.out w1 HK1.out).mono ?_;rintro e w3 ⟨v,rfl,hk3,rfl⟩;have HK3:=qH (HK1.out.trans hk3);clear hk3;go_wp2;go_ret2;exact dE H.out.1 H.out.2.1 HK3.out HR.out (by decide)
     ·have t3:decide ((tot:Int)≥262144)=false:=by simp;omega
      have t4:decide ((262144:Int)≤(tot:Int))=false:=by simp;omega
      have hRR:=iM (C:=bC G) (row:=ss) HNM.out HAo.out.2 HT2.out (by rw [etot];omega);rw [gI HF.out.2.1,if_neg (by simp)]at hRR;have hadd:=qL (n:=ss.length) (LL:= []) (ss:=ss) rfl HT2.out (by simp);have HIn:=qH (nIX hRR hadd);clear hir etot hmany hRR hadd;have hcb:cb<w.heap.size:=by obtain⟨na,nc,aa,ac,hB,_⟩:=H.out.1.blk;exact hB.lt
      have HCb:=qH hcb;clear hcb;go_enter Tryz.func114,Tryz.ntmps114;go_wp2_with fail
      refine HN.out.mono ?_;rintro e w' ⟨rfl,rfl⟩;go_wp2_with fail
      refine HB2.out.mono ?_;rintro e w1 ⟨v,rfl,hk1,rfl⟩;have HK1:=qH hk1;clear hk1;go_wp2_with fail
      refine(HT.out w1 HK1.out).mono ?_;rintro e w' ⟨rfl,rfl⟩;go_wp2_with fail
      refine(nY _ w1).mono ?_;rintro e w' ⟨rfl,rfl⟩;go_wp2_with fail
      refine(HLen.out w1 HK1.out).mono ?_;rintro e w3 ⟨v,rfl,hk3,rfl⟩;have HK3:=qH (HK1.out.trans hk3);clear hk3;go_wp2_with fail
      obtain⟨gc,egc⟩:=nm w3.heap.size;obtain⟨w4,ew4⟩:=nm (w3.alloc (.cells #[.int .i64 m,.slice none 0 0] 149));rw [egc,ew4];have hz3:=HK3.out.size;have hB4:Blk w4 gc [.int .i64 m,.slice none 0 0] 149:=by rw [<-ew4,<-egc];exact Blk.new w3 [_,_] _
      have hk4:Ext w w4:=by rw [<-ew4];exact HK3.out.alloc _
      have hr4:RefRows S w4 gc m []:=⟨none,0,hB4,RowsIn.nil _ _,⟨Nat.le_refl _,by decide,.inl ⟨rfl,rfl⟩⟩,fun h=>by have:=H.out.1.inS _ h;omega,fun k h=>Nat.lt_of_lt_of_le (H.out.1.inS k h) hk4.size,by simp⟩;have HK4:=qH (nIX hk4 (nIX hr4 (show w.heap.size≤gc by omega)));have HP:=qH (uC (H.out.1.ext hk4) H.out.2.1.names ⟨s,gc,m,[]⟩ hr4 (fun x hx e=>by have:=(H.out.1.rows x hx).lt;simp only at e;omega) (fun e=>by have:=HCb.out;simp only at e;omega) H.out.2.2);clear hB4 hk4 hr4 ew4 egc hz3;refine HP.out.mono ?_;rintro e w5 ⟨v,rfl,hk5,S2,hS2,hb5⟩;have hgm:(⟨s,gc,m,[]⟩:REnt)∈eS REnt.name G ⟨s,gc,m,[]⟩:=(fK REnt.name G _).mem_iff.2 (by simp);have hr5:RefRows S2 w5 gc m []:=hb5.rows _ hgm;have hx5:CellsAt w5 xo (strs ss):=by
       by_cases e0:ss= []
       ·rw [e0];exact CellsAt.nil _ _
       ·exact(HX.out.2.1.ext HK4.out.1).kp hk5 fun a e f=>HX.out.2.2.2 e0 a e f
      have HK5:=qH (nIX hk5 (nIX hS2 (nIX hb5 (nIX hr5 hx5))));clear hk5 hS2 hb5 hr5 hx5 hgm;go_wp2_with fail
      refine(qM HK5.out.2.2.2.1 gD (xc:=xc) HX.out.1 HK5.out.2.2.2.2 HX.out.2.2.1 (by simp)).mono ?_;rintro e w6 ⟨v,rfl,hk6,hv,S',hS',hr6⟩;have hm2:=HX.out.1;rw [hm2,HIn.out.2.1]at hv;subst hv;have HK6:=qH (nIX hk6 (nIX hS' hr6));clear hk6 hS' hr6 hm2;go_wp2;go_ret2;have hm2:=HX.out.1;have hr6:=HK6.out.2.2;have hb5:=HK5.out.2.2.1;have hr4:=HK4.out.2.1;rw [hm2]at hr4 hb5 hr6;rw [HIn.out.2.2]at hr6;exact aDp H.out.1 H.out.2.1 HF.out.1 HNM.out HAo.out.1 HIn.out.1 HK4.out.1 HK4.out.2.2 hr4 HK5.out.1 HK5.out.2.1 hb5 HK6.out.1 HK6.out.2.1 hr6
   ·have t1:decide ((m:Int)>64)=true:=by simp;omega
    have t2:decide (64< (m:Int))=true:=by simp;omega
    have HR:=qH (aBt (row:=ss) HNM.out HF.out.2.1 (by rw [<-HX.out.1];omega));clear h64 hm8;go_enter Tryz.func114,Tryz.ntmps114;go_wp2_with fail
    refine HN.out.mono ?_;rintro e w' ⟨rfl,rfl⟩;go_wp2_with fail
    refine HB2.out.mono ?_;rintro e w1 ⟨v,rfl,hk1,rfl⟩;have HK1:=qH hk1;clear hk1;go_wp2;go_ret2;exact dE H.out.1 H.out.2.1 HK1.out HR.out (by decide)
end
theorem aJa{C D:List aZ}(hC:(C.map (·.1)).Nodup)(hD:(D.map (·.1)).Nodup)(h:SameC C D):C.length=D.length:=by have h1:=(gE C).length_eq;have h2:=(gE D).length_eq;rw [qP hC hD h]at h1;rw [List.length_map]at h1 h2;omega
theorem aJ1(C:List aZ)(s:ByteArray)(a:Int):(cV C s a).length≤C.length+1:=by
 unfold cV;split
 ·simp
 ·omega
theorem aMb{C:List aZ}{s:ByteArray}(row:List ByteArray)(h:∃v,bL C s=some v):(fN C s row).length=C.length/\∃v,bL (fN C s row) s=some v:=by
 obtain⟨v,hv⟩:=h;unfold fN;split
 ·refine⟨?_,(row.length,bT aC (bG C s) row),by rw [oM,if_pos rfl]⟩;unfold jB;rw [hv];simp
 ·exact⟨rfl,v,hv⟩
theorem aMv(G:List REnt):(bC G).length=G.length:=by unfold bC;simp
def aFe(w:World)(L:List eJ)(w':World)(v:Value):Prop:=
 ((bX [] L).2=0->∃cb S G,v= .tuple #[.pointer (some ⟨cb,0,none⟩),.int .i64 0]/\RefB S w' cb G/\RefOk G/\SameC (bC G) (bX [] L).1/\G.length≤L.length/\(∀k,S k->w.heap.size≤k)/\∀k,sQ cb G k->w.heap.size≤k)/\
 ((bX [] L).2≠0->v= .tuple #[.pointer none,.int .i64 (((bX [] L).2:Nat):Int)])
structure MyRef(w0:World)(S:Nat->Prop)(w:World)(cb:Nat)(G:List REnt)(C:List aZ):Prop where
 base:RefB S w cb G
 ok:RefOk G
 same:SameC (bC G) C
 okC:BaseOk C
 ext:Ext w0 w
 pool:∀k,S k->w0.heap.size≤k
 own:∀k,sQ cb G k->w0.heap.size≤k
theorem MyRef.len{w0 w:World}{S:Nat->Prop}{cb:Nat}{G:List REnt}{C:List aZ}(h:MyRef w0 S w cb G C):G.length=C.length:=by rw [<-aMv,aJa h.ok.ok.nodup h.okC.nodup h.same]
theorem MyRef.drew{w0 w w':World}{S:Nat->Prop}{cb:Nat}{G:List REnt}{C:List aZ}(h:MyRef w0 S w cb G C)(hk:Ext w w'):MyRef w0 S w' cb G C:=
 ⟨h.base.ext hk,h.ok,h.same,h.okC,h.ext.trans hk,h.pool,h.own⟩
theorem MyRef.next{w0 w w':World}{S:Nat->Prop}{cb:Nat}{G:List REnt}{C D C':List aZ}{F:Nat->Prop}(h:MyRef w0 S w cb G C)(hk:Kp F w w')(hF:∀k,F k->sQ cb G k)(ht:RefBTo S w cb G C' w')(hs:SameC C' D)(hD:BaseOk D):∃S' G',MyRef w0 S' w' cb G' D:=by
 obtain⟨S',G',h1,h2,h3,h4,h5,h6⟩:=ht;have hz:=h.ext.size;refine⟨S',G',h2,h3,h4.trans hs,hD,h.ext.trans' hk fun k hk f=>absurd (h.own k (hF k f)) (by omega),fun k hk=>?_,fun k hk=>?_⟩
 ·rcases h1.2 k hk with h|h'
  ·exact MyRef.pool ‹_› k h
  ·omega
 ·rcases h6 k hk with h'|h'
  ·exact h.own k h'
  ·omega
def aLc(w0:World)(cb:Nat)(L:List eJ)(n:Nat)(iv:Value)(w:World):Prop:=∃i:Nat,i≤n/\iv= .int .i64 i/\Hid (∃S G C,MyRef w0 S w cb G C/\C.length≤i/\bX C (L.drop i)=bX [] L)
def aLd(w0:World)(cb:Nat)(q:eJ)(R:List aZ×Nat)(i m:Nat)(jv:Value)(w:World):Prop:=∃j:Nat,j≤m/\jv= .int .i64 j/\Hid (∃S G C,MyRef w0 S w cb G C/\C.length≤i+1/\(∃v,bL C q.1=some v)/\dA C q.1 (q.2.2.1.drop j)=R)
set_option maxHeartbeats 4000000 in
theorem aDn(L:List eJ)(ao:Option Addr)(n cap:Nat)(w:World)(S0:Nat->Prop)(hn:n=L.length)(hL:RelsIn S0 w ao L)(hl:n≤2097152)(hr:∀q∈L,q.2.2.1.length≤1048576):
 Calls Tryz.prog 77 #[.slice ao n cap] w (RetN w (aFe w L)):=by
 have HN:=qH hn;have HL:=qH hL;have HR:=qH hr;clear hn hL hr;go_enter Tryz.func77,Tryz.ntmps77;go_wp2_with fail
 refine(aDo (fun _=>False) w (fun _ x=>x.elim)).mono ?_;rintro e w1 ⟨v,rfl,hk1,rfl,hB⟩;obtain⟨cb,ecb⟩:=nm w.heap.size;have HM0:=qH (show MyRef w (fun _=>False) w1 cb [] []from
  {base:=by rw [<-ecb];exact hB
   ok:=⟨qO,List.Pairwise.nil⟩
   same:=SameC.refl _
   okC:=qO
   ext:=hk1,pool:=fun _ x=>x.elim
   own:=fun k hk=>by
    rcases hk with rfl|⟨e,he,_⟩
    ·omega
    ·simp at he})
 rw [ecb];clear hB hk1 ecb;go_wp2;go_loopw [5] (fun iv wr=>aLc w cb L n iv wr) (fun iv _=>n- (intOf iv).toNat)
 case atStart=>exact⟨0,Nat.zero_le _,rfl,_,[],[],HM0.out,Nat.le_refl _,rfl⟩
 case round=>
  clear HM0;obtain⟨i,hi,rfl,hin⟩:=hrel;obtain⟨S,G,C,hM,hlen,hF⟩:=hin.out;have HM:=qH hM;have HF:=qH (nIX hF hlen);clear hin hM hF hlen;by_cases hlt:i<n
  ·obtain⟨q,hq⟩:∃q,L[i]?=some q:=⟨_,qG (by rw [<-HN.out];exact hlt)⟩;obtain⟨b,off,ra,rcap,eao,hSb,c0,c1,c2,hrl,hrm,hrows⟩:=HL.out i q hq;subst eao;obtain⟨s,es⟩:=nm q.1;obtain⟨a,ea⟩:=nm q.2.1;obtain⟨m,em⟩:=nm q.2.2.1.length;rw [es]at c0;rw [ea]at c1;rw [em]at c2 hrl;have hm1:m≤1048576:=by rw [<-em];exact HR.out q (List.mem_of_getElem? hq)
   have HQ:=qH (nIX hq (nIX es (nIX ea em)));have HRows:=qH hrows;have HC:=qH (fun W (hW:Ext w W)=>(⟨hW.cell c0 id,hW.cell c1 id,hW.cell c2 id⟩:W.cell? ⟨b,off+i*3,none⟩=some (.string s)/\W.cell? ⟨b,off+i*3+1,none⟩=some (.int .i64 a)/\W.cell? ⟨b,off+i*3+2,none⟩=some (.slice ra m rcap)));clear hq es ea em hrows hSb c0 c1 c2;obtain⟨c0,c1,c2⟩:=HC.out wr HM.out.ext;go_wp2;go_still_tail 11,(by kernel_rfl)
   go_wp2_with fail
   obtain⟨wd,ewd⟩:=nm wr.drew;rw [ewd];have HMd:=qH (show MyRef w S wd cb G C by rw [<-ewd];exact HM.out.drew (Kp.refl wr).drew);clear ewd;refine(aB8 HMd.out.base HMd.out.ok s a (by rw [HMd.out.len];have:=HF.out.2;omega)).mono ?_;rintro e w2 ⟨v,rfl,hk2,rfl,hT2⟩;obtain⟨S1,G1,hM1⟩:=HMd.out.next hk2 (fun k e=> .inl e) hT2 (aFv HMd.out.same s a) (mI HMd.out.okC s a)
   have HM1:=qH hM1;clear hk2 hT2 hM1 c0 c1 c2;rw [wQ HMd.out.same];obtain⟨d,ed⟩:=nm (dC C s a);rw [ed];have ED:=qH ed;clear ed;by_cases hd:d=0
   ·have q1:((d:Int) !=0)=false:=by simp [hd]
    have HD:=qH hd;clear hd;have hdr:(L.drop i)=q::L.drop (i+1):=drop_at HQ.out.1;have HDr:=qH hdr;clear hdr;go_wp2;clear q1;generalize hw5:w2=w5 at*;clear hw5;go_loopw [7] (fun jv wk=>aLd w cb q (dA (cV C s a) s q.2.2.1) i m jv wk) (fun jv _=>m- (intOf jv).toNat)
    case atStart=>
     have h0:=aIk (C:=C) (s:=s) (a:=a) (by rw [ED.out];exact HD.out);exact⟨0,Nat.zero_le _,rfl,S1,G1,_,HM1.out,by have:=aJ1 C s a;have:=HF.out.2;omega,by obtain⟨LL,e,_⟩:=h0;exact⟨_,by rw [HQ.out.2.1];exact e⟩,by rw [HQ.out.2.1];rfl⟩
    case round=>
     clear HM1 HM HMd;obtain⟨j,hj,rfl,hin⟩:=hrel;obtain⟨S2,G2,C2,hM2,hl2,hv2,hA2⟩:=hin.out;have HM2:=qH (nIX hM2 (nIX hl2 (nIX hv2 hA2)));clear hin hM2 hl2 hv2 hA2;obtain⟨c0,c1,c2⟩:=HC.out wr HM2.out.1.ext;by_cases hlt2:j<m
     ·obtain⟨ss,hss⟩:∃ss,q.2.2.1[j]?=some ss:=⟨_,qG (by rw [HQ.out.2.2.2];exact hlt2)⟩;obtain⟨g,o,xa,xcap,era,d0,d1,d2,d3⟩:=HRows.out.get hss;subst era;obtain⟨k,ek⟩:=nm ss.length;rw [ek]at d0;have d0w:=d0;replace d0:=HM2.out.1.ext.cell d0 id;obtain⟨c0w,_,c2w⟩:=HC.out w (Kp.refl w);have HMd:=qH (HM2.out.1.drew (Kp.refl wr).drew);have HSS:=qH (nIX hss ek);have HRow:=qH (nIX d1 (nIX d2 d3));clear hss ek d1 d2 d3;go_wp2;have HCd:=qH (fun W (hW:Ext w W)=>(⟨hW.cell c0w id,hW.cell c2w id,hW.cell d0w id⟩:W.cell? ⟨b,off+i*3,none⟩=some (.string s)/\W.cell? ⟨b,off+i*3+2,none⟩=some (.slice (some ⟨g,o,none⟩) m rcap)/\W.cell? ⟨g,o+j,none⟩=some (.slice xa k xcap)));clear c0w c2w d0w;refine aT (fun w':World=>w'.cell? ⟨b,off+i*3,none⟩=some (.string s)/\w'.cell? ⟨b,off+i*3+2,none⟩=some (.slice (some ⟨g,o,none⟩) m rcap)/\w'.cell? ⟨g,o+j,none⟩=some (.slice xa k xcap)) [] (by kernel_rfl) (HCd.out _ (HM2.out.1.ext.drew)) (fun hHeld=>?_);refine eFX 0 ?_;refine eFX 1 ?_;refine eFX 2 ?_;refine eIX 3 ?_;refine eFX 4 ?_;refine eIX 5 ?_;refine eFX 6 ?_;refine eFX 7 ?_;refine eIX 8 ?_;refine eFX 9 ?_;refine eIX 10 ?_;refine eFX 11 ?_;refine eIX 12 ?_;refine eIX 13 ?_;refine eTX 14 fun K hK=>?_;go_simp
      (refine(aB9 HMd.out.base HMd.out.ok s (xo:=xa) (m:=k) (xc:=xcap) (ss:=ss) HSS.out.2.symm (HRow.out.1.ext HMd.out.ext) HRow.out.2.1 (fun hne a e ho=>by have h1:=HMd.out.own _ (.inl ho);have h2:=cells_lt HRow.out.1 hne a e;omega) (by rw [HMd.out.len];have:=HM2.out.2.1;omega)).mono ?_;rintro e w3 ⟨v,rfl,hk3,rfl,hT3⟩;obtain⟨S3,G3,hM3⟩:=HMd.out.next hk3 (fun k e=>e) hT3 (aJb HMd.out.ok.ok HMd.out.okC HMd.out.same s ss) (oC HMd.out.okC s ss);have HM3:=qH hM3;clear hk3 hT3 hM3;rw [aAl HMd.out.ok.ok HMd.out.okC HMd.out.same];obtain⟨x1,ex1⟩:=nm ((dD C2 s ss).1);obtain⟨x2,ex2⟩:=nm ((dD C2 s ss).2);rw [ex1,ex2];have EX:=qH ex2;clear ex1 ex2)
      go_wp2_with fail
      refine hK.out _ _ (HCd.out _ HM3.out.ext) fun hHeld=>?_;clear hK K;refine eFX 15 ?_;refine eFX 16 ?_;refine eFX 17 ?_;refine eFX 18 ?_;refine eFX 19 ?_;refine aK (by kernel_rfl) ?_ _;clear hHeld;have hdj:q.2.2.1.drop j=ss::q.2.2.1.drop (j+1):=drop_at HSS.out.1;have HDj:=qH hdj;clear hdj;by_cases hx:x2=0
      ·have q1:((x2:Int) !=0)=false:=by simp [hx]
       have HX:=qH hx;clear hx;go_wp2;go_roundw
       case rel=>
        have hla:=aMb (C:=C2) (s:=s) ss (by rw [<-HQ.out.2.1];exact HM2.out.2.2.1);refine⟨j+1,by omega,nMX,S3,G3,_,HM3.out,by rw [hla.1];exact HM2.out.2.1,by rw [HQ.out.2.1];exact hla.2,?_⟩;rw [<-HM2.out.2.2.2,HDj.out,HQ.out.2.1];exact(aBu (by rw [EX.out];exact HX.out)).symm
       case measure=>simp [intOf];omega
      ·have q1:((x2:Int) !=0)=true:=by simp;omega
       have HX:=qH hx;clear hx;go_wp2;go_ret2;have hall:=HM2.out.2.2.2;rw [HDj.out,HQ.out.2.1,zH (by rw [EX.out];exact HX.out),EX.out]at hall;have hfr:bX [] L=(C2,x2):=by rw [<-HF.out.1,HDr.out,aEh (by rw [HQ.out.2.1,HQ.out.2.2.1,ED.out];exact HD.out) (by rw [HQ.out.2.1,HQ.out.2.2.1,<-hall];exact HX.out),HQ.out.2.1,HQ.out.2.2.1,<-hall]
       exact RetN.mk HM3.out.ext ⟨fun h0=>by rw [hfr]at h0;exact absurd h0 HX.out,fun _=>by rw [hfr];rfl⟩
     ·obtain rfl:j=m:=by omega
      have hall:=HM2.out.2.2.2;rw [List.drop_of_length_le (by rw [HQ.out.2.2.2];exact Nat.le_refl _)]at hall;have hall':dA (cV C s a) s q.2.2.1=(C2,0):=hall.symm;have HAll:=qH hall';clear hall hall';go_wp2;go_roundw
      case rel=>
       refine⟨i+1,by omega,nMX,S2,G2,C2,HM2.out.1,HM2.out.2.1,?_⟩;rw [<-HF.out.1,HDr.out,aIj (by rw [HQ.out.2.1,HQ.out.2.2.1,ED.out];exact HD.out) (by rw [HQ.out.2.1,HQ.out.2.2.1,HAll.out]),HQ.out.2.1,HQ.out.2.2.1,HAll.out]
      case measure=>simp [intOf];omega
   ·have q1:((d:Int) !=0)=true:=by simp;omega
    have HD:=qH hd;clear hd;go_wp2;go_ret2;have hfr:bX [] L=(C,d):=by rw [<-HF.out.1,drop_at HQ.out.1,aEi (by rw [HQ.out.2.1,HQ.out.2.2.1,ED.out];exact HD.out),HQ.out.2.1,HQ.out.2.2.1,ED.out]
    exact RetN.mk HM1.out.ext ⟨fun h0=>by rw [hfr]at h0;exact absurd h0 HD.out,fun _=>by rw [hfr];rfl⟩
  ·obtain rfl:i=n:=by omega
   have hfr:bX [] L=(C,0):=by rw [<-HF.out.1,List.drop_of_length_le (by rw [<-HN.out];exact Nat.le_refl _)];rfl
   have HFr:=qH hfr;clear hfr;go_wp2;go_ret2;exact RetN.mk HM.out.ext ⟨fun _=>⟨cb,S,G,rfl,HM.out.base,HM.out.ok,by rw [HFr.out];exact HM.out.same,by rw [HM.out.len,<-HN.out];exact HF.out.2,HM.out.pool,HM.out.own⟩,fun h0=>absurd (by rw [HFr.out]) h0⟩
end
section
open Go.RowKit Go.Shelf
attribute [local go_sem] Oper.semAt_some
theorem aDh{P:Program}{t e:TypeId}{bytes:Nat}{z:Value}(E:cW P t e 1 bytes z){lo:Nat}{v x:Value}{n:Nat}{xs:List Value}{w1:World}{ops:Array Oper}{rest:List Oper}{o:Oper}{a:Act}{Q:Exit->Act->World->Prop}
 (h:Row w1 e 1 v n xs fun g=>lo≤g)(hlo:lo≤w1.heap.size)(hgd:o.guard=none)(s y:Operand)
 (ho:o.op= .call {callee:= .builtin .append,args:=#[s,y],argTypes:=#[t,t]})(hs:a.eval s=v)(hy:a.eval y= .slice (some ⟨w1.heap.size,0,none⟩) 1 1)(hx:x.oneCell'=true)(hb:(n+1)*bytes≤140737488355328)(hn:n≤1048576*1048576)
 (H:∀v' w',(∃ao cap,v'= .slice ao (n+1) cap)->Row w' e 1 v' (n+1) (xs++ [x]) (fun g=>lo≤g)->Kp (fun g=>v.ownBlock=some g) w1 w'->(∀g,v'.ownBlock=some g->v.ownBlock=some g\/w1.heap.size≤g)->wpList P ops Q rest (a.put o.dst v') w'):
 wpList P ops Q (o::rest) a (w1.alloc (.cells #[x] e)):=by
 have hex:Ext w1 (w1.alloc (.cells #[x] e)):=(Kp.refl w1).alloc _;have h2:=h.ext hex;refine sR E hgd s y ho (Kp.refl (F:=fun g=>v.ownBlock=some g) _) (M:=fun g=>v.ownBlock=some g\/ (w1.alloc (.cells #[x] e)).heap.size≤g) (fun g h h'=>by rcases h with h|h;exact h;omega) (fun g h=> .inr h) hs
  (Row.mono h2.own fun g h=> .inl h) hy (m:=1) (news:= [x]) rfl (CellsAt.one w1 _ _) (by simp [hx]) hb (by unfold maxLen;omega) ?_
 intro v' w' hr' hk' _ _;obtain⟨ao,cap,ev,_⟩:=hr'.shape;have hnew:=hr'.block;exact H v' w' ⟨ao,cap,ev⟩ (hr'.mono fun g hg=>by
  rcases hg with hg|hg
  ·exact h2.block g hg
  ·exact Nat.le_trans hlo (Nat.le_trans hex.size hg)) (hex.kp.trans hk') fun g hg=>(hnew g hg).imp id fun h=>Nat.le_trans hex.size h
def RelsLL(w:World)(ao:Option Addr)(Ls:List (List eJ)):Prop:=∀(i:Nat) (L:List eJ),Ls[i]?=some L->∃b off la lc,ao=some ⟨b,off,none⟩/\w.cell? ⟨b,off+i,none⟩=some (.slice la L.length lc)/\RelsIn TT w la L
theorem RelsLL.ext{w w':World}{ao:Option Addr}{Ls:List (List eJ)}(h:RelsLL w ao Ls)(hx:Ext w w'):RelsLL w' ao Ls:=fun i L hL=>by obtain⟨b,off,la,lc,e,h1,h2⟩:=h i L hL;exact⟨b,off,la,lc,e,hx.cell h1 id,h2.ext hx⟩
abbrev aBw:=(Value×Value×Nat×Nat)×List eJ
structure BothAt(W:World)(p:aBw):Prop where
 own:∃bb r S E,p.1.1= .pointer (some ⟨bb,0,none⟩)/\BaseAt S W bb r E/\aS E=(bX [] p.2).1/\(∀k,S k->p.1.2.2.1≤k/\k<p.1.2.2.2)/\∀k,iA bb r E k->p.1.2.2.1≤k/\k<p.1.2.2.2
 ref:∃cb S G,p.1.2.1= .pointer (some ⟨cb,0,none⟩)/\RefB S W cb G/\SameC (bC G) (bX [] p.2).1/\(∀k,S k->p.1.2.2.1≤k/\k<p.1.2.2.2)/\∀k,sQ cb G k->p.1.2.2.1≤k/\k<p.1.2.2.2
 ok:(bX [] p.2).2=0
theorem BothAt.kp{W W':World}{p:aBw}{F:Nat->Prop}(h:BothAt W p)(hk:Kp F W W')(hF:∀k,F k->¬(p.1.2.2.1≤k/\k<p.1.2.2.2)):BothAt W' p:=by obtain⟨⟨bb,r,S,E,e1,h1,h2,h3,h4⟩,⟨cb,U,G,e2,g1,g2,g3,g4⟩,h5⟩:=h;exact⟨⟨bb,r,S,E,e1,h1.kp hk (fun k hf ho=>hF k hf (h4 k ho)) (fun k hf ho=>hF k hf (h3 k ho)),h2,h3,h4⟩,⟨cb,U,G,e2,g1.kp hk (fun k hf ho=>hF k hf (g4 k ho)) (fun k hf ho=>hF k hf (g3 k ho)),g2,g3,g4⟩,h5⟩
structure BothsAt(w0 W:World)(Ls:List (List eJ))(ps:List aBw)(av bv:Value):Prop where
 of:ps.map (·.2)=Ls
 one:∀p∈ps,BothAt W p/\w0.heap.size≤p.1.2.2.1/\p.1.2.2.2≤W.heap.size
 apart:ps.Pairwise fun p q=>p.1.2.2.2≤q.1.2.2.1
 la:Row W 29 1 av ps.length (ps.map (·.1.1)) fun g=>w0.heap.size≤g
 lb:Row W 84 1 bv ps.length (ps.map (·.1.2.1)) fun g=>w0.heap.size≤g
 offA:∀g,av.ownBlock=some g->∀p∈ps,¬(p.1.2.2.1≤g/\g<p.1.2.2.2)
 offB:∀g,bv.ownBlock=some g->∀p∈ps,¬(p.1.2.2.1≤g/\g<p.1.2.2.2)
theorem BothsAt.ext{w0 W W':World}{Ls:List (List eJ)}{ps:List aBw}{av bv:Value}(h:BothsAt w0 W Ls ps av bv)(hx:Ext W W'):BothsAt w0 W' Ls ps av bv:=
 ⟨h.of,fun p hp=>⟨(h.one p hp).1.kp hx fun _ h=>h.elim,(h.one p hp).2.1,Nat.le_trans (h.one p hp).2.2 hx.size⟩,h.apart,h.la.ext hx,h.lb.ext hx,h.offA,h.offB⟩
theorem aLy{S:Nat->Prop}{w:World}{cb:Nat}{G:List REnt}(h:RefB S w cb G):∀k,sQ cb G k->k<w.heap.size:=by
 rintro k (rfl|⟨g,hg,rfl⟩)
 ·obtain⟨_,_,_,_,h1,_⟩:=h.blk;exact h1.lt
 ·exact(h.rows g hg).lt
def aPb(w:World)(Ls:List (List eJ))(w':World)(v:Value):Prop:=
 ((∃L∈Ls,(bX [] L).2≠0)/\v= .tuple #[.slice none 0 0,.slice none 0 0,.bool false])\/
 ∃ps av bv,v= .tuple #[av,bv,.bool true]/\BothsAt w w' Ls ps av bv
def aN4(w:World)(Ls:List (List eJ))(n:Nat)(av bv iv:Value)(W:World):Prop:=
 ∃i:Nat,i≤n/\iv= .int .i64 i/\Hid (Ext w W)/\∃ps,Hid (BothsAt w W (Ls.take i) ps av bv)
theorem aHz:29≠84:=by decide
set_option maxHeartbeats 8000000 in
theorem aK1(Ls:List (List eJ))(ao:Option Addr)(n cap:Nat)(w:World)(hn:n=Ls.length)(hL:RelsLL w ao Ls)(hl:n≤1048576)(hq:∀L∈Ls,L.length≤1048576/\∀q∈L,q.2.2.1.length≤1048576):
 Calls Tryz.prog 36 #[.slice ao n cap] w (RetN w (aPb w Ls)):=by
 have HN:=qH (nIX hn (nIX hL hq));clear hn hL hq;go_enter Tryz.func36,Tryz.ntmps36;go_wp2;go_loopw [5,6,7] (fun av bv iv wr=>aN4 w Ls n av bv iv wr) (fun _ _ iv _=>n- (intOf iv).toNat)
 case atStart=>exact⟨0,Nat.zero_le _,rfl,qH (Kp.refl w),[],qH ⟨rfl,fun p hp=>(by simp at hp),List.Pairwise.nil,Row.nil _ _ _ _,Row.nil _ _ _ _,fun g h=>(by cases h),fun g h=>(by cases h)⟩⟩
 case round=>
  obtain⟨i,hi,rfl,hex,ps,hP⟩:=hrel;have hpl:ps.length=i:=by have h:=congrArg List.length hP.out.of;rw [List.length_map,List.length_take]at h;have:=HN.out.1;omega
  obtain⟨aa,ac,eav,_⟩:=hP.out.la.shape;subst eav;obtain⟨ba,bc,ebv,_⟩:=hP.out.lb.shape;subst ebv;have HA0:=qH (show(∀g,(Value.slice aa ps.length ac).ownBlock=some g->g<wr.heap.size)/\∀g,(Value.slice ba ps.length bc).ownBlock=some g->g<wr.heap.size from⟨fun g hg=>hP.out.la.ltB hg,fun g hg=>hP.out.lb.ltB hg⟩);rw [hpl];by_cases hlt:i<n
  ·obtain⟨L,hLi⟩:∃L,Ls[i]?=some L:=⟨_,qG (by rw [<-HN.out.1];exact hlt)⟩;obtain⟨b,off,la,lc,eao,c0,hLr⟩:=(HN.out.2.1.ext hex.out) i L hLi;subst eao;have hLq:=HN.out.2.2 L (List.mem_of_getElem? hLi);have HF:=qH (aEj L la L.length lc wr TT rfl hLr (by omega) hLq.2);have HG:=qH (fun W (hW:Ext wr W)=>aDn L la L.length lc W TT rfl (hLr.ext hW) (by omega) hLq.2);have HLi:=qH hLi;clear hLr hLi hLq;go_wp2_with fail
   refine HF.out.mono ?_;rintro e w2 ⟨v2,rfl,hk2,hv2⟩;have d0:=hk2.cell c0 id;by_cases hc:(bX [] L).2=0
   ·obtain⟨bb,r,S,E,rfl,hb,hC,h1,h2⟩:=hv2.1 hc;have H2:=qH (nIX hk2 (nIX hb (nIX hC (nIX h1 h2))));have HC:=qH hc;clear hv2 hk2 hb hC h1 h2 hc c0;go_wp2_with fail
    refine(HG.out w2 H2.out.1).mono ?_;rintro e w3 ⟨v3,rfl,hk3,hv3⟩;obtain⟨cb,U,G,rfl,gb,-,gC,-,g1,g2⟩:=hv3.1 HC.out;have H3:=qH (nIX hk3 (nIX gb (nIX gC (nIX g1 g2))));clear hv3 hk3 gb gC g1 g2 d0;go_wp2_with fail
    refine(lD 0 w3).mono ?_;rintro e w4 ⟨v4,rfl,hk4,rfl⟩;have H4:=qH (show Ext w wr/\Ext wr w4/\BothAt w4 ((.pointer (some ⟨bb,0,none⟩),.pointer (some ⟨cb,0,none⟩),wr.heap.size,w4.heap.size),L)from⟨hex.out,H2.out.1.trans (H3.out.1.trans hk4),⟨bb,r,S,E,rfl,H2.out.2.1.ext (H3.out.1.trans hk4),H2.out.2.2.1,fun k hk=>⟨H2.out.2.2.2.1 k hk,Nat.lt_of_lt_of_le (H2.out.2.1.inS k hk) (H3.out.1.trans hk4).size⟩,fun k hk=>⟨H2.out.2.2.2.2 k hk,Nat.lt_of_lt_of_le (H2.out.2.1.ownLt k hk) (H3.out.1.trans hk4).size⟩⟩,⟨cb,U,G,rfl,H3.out.2.1.ext hk4,H3.out.2.2.1,fun k hk=>⟨Nat.le_trans H2.out.1.size (H3.out.2.2.2.1 k hk),Nat.lt_of_lt_of_le (H3.out.2.1.inS k hk) hk4.size⟩,fun k hk=>⟨Nat.le_trans H2.out.1.size (H3.out.2.2.2.2 k hk),Nat.lt_of_lt_of_le (aLy H3.out.2.1 k hk) hk4.size⟩⟩,HC.out⟩);have HP4:=qH (hP.out.ext (H4.out.2.1));have HI0:=qH (show ∀p∈ps,p.1.2.2.2≤wr.heap.size from fun p hp=>(hP.out.one p hp).2.2);have hsz:=H4.out.2.1.size;have hsw:=H4.out.1.size;clear hk4 hP;go_wp2_with (first|(at_builtin;refine Halted.out ?_))
    refine Halted.mk (aDh pL (n:=i) (by have h:=HP4.out.la;rw [hpl]at h;exact h) (Nat.le_trans hsw hsz) rfl _ _ rfl rfl rfl rfl (by omega) (by omega) ?_);rintro v5 w5 ⟨a5,c5,rfl⟩ hr5 hk5 hn5;have H5:=qH (nIX hr5 (nIX hk5 hn5));clear hr5 hk5 hn5;have HB5:=qH (show Row w5 84 1 (.slice ba i bc) i (ps.map (·.1.2.1)) (fun g=>w.heap.size≤g)from by have h:=HP4.out.lb;rw [hpl]at h;exact h.kp' H5.out.2.1 fun g hg _ e=>by obtain⟨_,h1⟩:=h.blkOf hg;obtain⟨_,h2⟩:=HP4.out.la.blkOf (by rw [hpl];exact e);exact aHz (cF h2 h1));have hs5:=H5.out.2.1.size;go_wp2_with (first|(at_builtin;refine Halted.out ?_))
    refine Halted.mk (aDh qX (n:=i) HB5.out (by omega) rfl _ _ rfl rfl rfl rfl (by omega) (by omega) ?_);rintro v6 w6 ⟨a6,c6,rfl⟩ hr6 hk6 hn6;have HE:=qH (show Ext w w6/\BothsAt w w6 (Ls.take (i+1)) (ps++ [((.pointer (some ⟨bb,0,none⟩),.pointer (some ⟨cb,0,none⟩),wr.heap.size,w4.heap.size),L)]) (.slice a5 (i+1) c5) (.slice a6 (i+1) c6)from by
     have ha4:=HP4.out.la;rw [hpl]at ha4;have hb5:=HB5.out;have hoA:=HP4.out.offA;have hoB:=HP4.out.offB;have hA0:=HA0.out;rw [hpl]at hoA hoB hA0;have keep:∀p:aBw,BothAt w4 p->(∀g,(Value.slice aa i ac).ownBlock=some g->¬(p.1.2.2.1≤g/\g<p.1.2.2.2))->(∀g,(Value.slice ba i bc).ownBlock=some g->¬(p.1.2.2.1≤g/\g<p.1.2.2.2))->BothAt w6 p:=fun p hp h1 h2=>(hp.kp H5.out.2.1 h1).kp hk6 h2;have hs6:=hk6.size;refine⟨((H4.out.1.trans H4.out.2.1).trans' H5.out.2.1 fun k hk e=>absurd (ha4.block k e) (by omega)).trans' hk6 fun k hk e=>absurd (hb5.block k e) (by omega),?_,fun p hp=>?_,?_,?_,?_,fun g hg p hp hq=>?_,fun g hg p hp hq=>?_⟩
     ·rw [List.map_append,HP4.out.of,List.take_add_one,HLi.out];rfl
     ·rcases List.mem_append.1 hp with hp|hp
      ·obtain⟨h1,h2,h3⟩:=HP4.out.one p hp;exact⟨keep p h1 (fun g hg=>hoA g hg p hp) (fun g hg=>hoB g hg p hp),h2,by omega⟩
      ·obtain rfl:=List.mem_singleton.1 hp;exact⟨keep _ H4.out.2.2 (fun g hg h=>by have:=hA0.1 g hg;have h1:wr.heap.size≤g:=h.1;omega) (fun g hg h=>by have:=hA0.2 g hg;have h1:wr.heap.size≤g:=h.1;omega),hsw,by show w4.heap.size≤_;omega⟩
     ·refine List.pairwise_append.2 ⟨HP4.out.apart,List.pairwise_singleton _ _,fun p hp q hq=>?_⟩;obtain rfl:=List.mem_singleton.1 hq;exact HI0.out p hp
     ·have e1:(ps++ [((Value.pointer (some ⟨bb,0,none⟩),Value.pointer (some ⟨cb,0,none⟩),wr.heap.size,w4.heap.size),L)]).length=i+1:=by rw [List.length_append,hpl];rfl
      rw [e1,List.map_append];exact H5.out.1.kp' hk6 fun g hg _ e=>by obtain⟨_,h1⟩:=H5.out.1.blkOf hg;obtain⟨_,h2⟩:=hb5.blkOf e;exact aHz (cF h1 h2)
     ·have e1:(ps++ [((Value.pointer (some ⟨bb,0,none⟩),Value.pointer (some ⟨cb,0,none⟩),wr.heap.size,w4.heap.size),L)]).length=i+1:=by rw [List.length_append,hpl];rfl
      rw [e1,List.map_append];exact hr6
     ·rcases List.mem_append.1 hp with hp|hp
      ·rcases H5.out.2.2 g hg with h|h
       ·exact hoA g h p hp hq
       ·have:=(HP4.out.one p hp).2.2;have:=HI0.out p hp;omega
      ·obtain rfl:=List.mem_singleton.1 hp;rcases H5.out.2.2 g hg with h|h
       ·have:=hA0.1 g h;have h1:wr.heap.size≤g:=hq.1;omega
       ·have h1:g<w4.heap.size:=hq.2;omega
     ·rcases List.mem_append.1 hp with hp|hp
      ·rcases hn6 g hg with h|h
       ·exact hoB g h p hp hq
       ·have:=HI0.out p hp;omega
      ·obtain rfl:=List.mem_singleton.1 hp;rcases hn6 g hg with h|h
       ·have:=hA0.2 g h;have h1:wr.heap.size≤g:=hq.1;omega
       ·have h1:g<w4.heap.size:=hq.2;omega)
    clear hr6 hk6 hn6;go_wp2;go_roundw
    case rel=>exact⟨i+1,by omega,nMX,qH HE.out.1,_,qH HE.out.2⟩
    case measure=>simp [intOf];omega
   ·have hv:=hv2.2 hc;subst hv;have HB:=qH (show ∃L∈Ls,(bX [] L).2≠0 from⟨L,List.mem_of_getElem? HLi.out,hc⟩);obtain⟨z,ez⟩:=nm ((bX [] L).2);have HG2:=qH (show ∀W w' v,aFe W L w' v->v= .tuple #[.pointer none,.int .i64 (z:Nat)]from fun W w' v h=>by rw [h.2 hc,ez]);have hz:((z:Int)==0)=false:=by simp;omega
    have hz2:((z:Int) !=0)=true:=by simp;omega
    rw [ez];have H2:=qH hk2;clear hv2 hk2 hc ez c0;go_wp2_with fail
    refine(HG.out w2 H2.out).mono ?_;rintro e w3 ⟨v3,rfl,hk3,hv3⟩;obtain rfl:=HG2.out _ _ _ hv3;have H3:=qH hk3;clear hv3 hk3 d0;go_wp2_with fail
    refine(lD z w3).mono ?_;rintro e w4 ⟨v4,rfl,hk4,rfl⟩;have H4:=qH hk4;clear hk4;go_wp2;go_ret3;exact RetN.mk (hex.out.trans (H2.out.trans (H3.out.trans H4.out))) (.inl ⟨HB.out,rfl⟩)
  ·obtain rfl:n=i:=by omega
   go_wp2;go_ret3;refine RetN.mk hex.out (.inr ⟨ps,_,_,rfl,?_⟩);have h:=hP.out
   rwa [hpl,List.take_of_length_le (by rw [<-HN.out.1];exact Nat.le_refl _)]at h
def aOu(w0:World)(R:Nat->aD)(ls:List aL)(most n:Nat)(g0:Nat)(cs:List Value)(nv iv:Value)(W:World):Prop:=∃i m:Nat,i≤n/\iv= .int .i64 i/\nv= .int .i64 m/\m≤most/\Hid (Ext w0 W)/\Hid (Blk W g0 cs 27)/\Hid (iP R most (ls.take i) 0 1=some m)
theorem aFt{R:Nat->aD}{most i m:Nat}{ls:List aL}{l:aL}(h:iP R most (ls.take i) 0 1=some m)(hl:ls[i]?=some l):iP R most (ls.take (i+1)) 0 1=iP R most [l] i m:=by have hi:=(List.getElem?_eq_some_iff.1 hl).1;rw [List.take_add_one,hl];show iP R most (ls.take i++ [l]) 0 1=_;rw [tA,h,List.length_take,Nat.min_eq_left (by omega),Nat.zero_add];rfl
set_option maxHeartbeats 8000000 in
theorem aDi{w:World}{p:ByteArray}{ls:List aL}{ha ba bo:Option Addr}{hn hcap n bcap m bc most:Nat}{R:Nat->aD}(hI:WIn w ls R ba n bcap bo m bc)(h1:1≤most)(hm:most≤1048576):
 Calls Tryz.prog 37 #[cI p ha hn hcap ba n bcap,.slice bo m bc,.int .i64 most] w (RetN w fun w' v=>∃k:Nat,v= .int .i64 k/\(k<most->iP R most ls 0 1=some k)):=by
 obtain⟨bvs,hbc,hbl,hbs⟩:=hI.bvs;obtain⟨Gm,hGm⟩:=hI.gm;have hln:=hI.len;have hnf:=hI.few;have hmf:=hI.mfew;have HBs:=qH (fun(X:World) (hX:Ext w X) (j:Nat) (hj:j≤1048576)=>kY bvs bo m bc j X hbl (hbc.ext hX) hmf hj);have HRo:=qH (fun(X:World) (hX:Ext w X) (j:Nat) (l:aL) (hj:ls[j]?=some l) (a2:Option Addr) (tn cap2:Nat) (ht:tn=(aA l).length)=>show Calls Tryz.prog 78 #[.agg #[.string (bJ l),.slice a2 tn cap2],bvs.getD j (.pointer none)] X (RetN X fun w' v=>aIw X w' v (bR (aA l) (R j)))from by obtain⟨S,G,hB,eR⟩:=hbs j l hj;rw [eR];exact nX (hB.ext hX) (bJ l) (aA l) a2 tn cap2 ht);have HL:=qH (nIX hln hGm);obtain⟨gb,egb⟩:=nm w.heap.size;obtain⟨w1,e1⟩:=nm (w.alloc (.cells #[.string p,.slice ha hn hcap,.slice ba n bcap] 27));have x1:Ext w w1:=xAX e1;have hB1:=bNX egb e1;have H1:=qH (nIX x1 hB1);clear hI hbc hbl hbs hGm hmf x1 hB1 hln;go_enter Tryz.func37,Tryz.ntmps37;go_wp2;clear e1 egb;go_loopw [7,8] (fun nv iv wr=>aOu w R ls most n gb [.string p,.slice ha hn hcap,.slice ba n bcap] nv iv wr) (fun _ iv _=>n- (intOf iv).toNat)
 case atStart=>exact⟨0,1,Nat.zero_le _,rfl,rfl,h1,qH H1.out.1,qH H1.out.2,qH rfl⟩
 case round=>
  obtain⟨j,k,hj,rfl,rfl,hkm,hex,hbk,hsz⟩:=hrel;have r2:=hbk.out.c2;by_cases hlt:j<n
  ·obtain⟨l,hl⟩:∃l,ls[j]?=some l:=⟨_,qG (by have:=HL.out.1;omega)⟩;obtain⟨b,off,a2,cap2,eao,hG,hb,hL,c0,c1,d2',-⟩:=gU (HL.out.2.ext hex.out) hl;subst eao;have HT:=qH (aFt hsz.out hl);by_cases hk1:l.1=1
   ·rw [hk1]at c0;have HS:=qH (show iP R most [l] j k=if most<k*(1+(bR (aA l) (R j)).length)then none else some (k*(1+(bR (aA l) (R j)).length))from by
     show(if l.1=1 then _ else _)=_;rw [if_pos hk1];rfl)
    obtain⟨lp,elp⟩:=nm (bJ l);obtain⟨tn,etn⟩:=nm ((aA l).length);obtain⟨bv,ebv⟩:=nm (bvs.getD j (.pointer none));obtain⟨RA,eRA⟩:=nm (bR (aA l) (R j));have HCa:=qH (fun X (hX:Ext wr X)=>HRo.out X (hex.out.trans hX) j l hl a2 tn cap2 etn.symm);have HCb:=qH (fun X (hX:Ext wr X)=>HBs.out X (hex.out.trans hX) j (by omega));rw [elp]at c1 HCa;rw [etn]at d2';rw [ebv]at HCa HCb;rw [eRA]at HCa HS;have HJ:=qH (show ∀X,Ext wr X->(fun X:World=>X.cell? ⟨gb,2,none⟩=some (.slice (some ⟨b,off,none⟩) n bcap)/\X.cell? ⟨b,off+j*8+1,none⟩=some (.string lp)/\X.cell? ⟨b,off+j*8+2,none⟩=some (.slice a2 tn cap2)) X from fun X hX=>⟨hX.cell r2 id,hX.cell c1 id,hX.cell d2' id⟩);clear hl hL hG hb hk1 elp etn ebv eRA hsz;go_wp2;refine aT (fun X:World=>X.cell? ⟨gb,2,none⟩=some (.slice (some ⟨b,off,none⟩) n bcap)/\X.cell? ⟨b,off+j*8+1,none⟩=some (.string lp)/\X.cell? ⟨b,off+j*8+2,none⟩=some (.slice a2 tn cap2)) [] (by kernel_rfl) (HJ.out _ (Kp.refl wr).drew) (fun hHeld=>?_);refine eFX 0 ?_;refine eFX 1 ?_;refine eIX 2 ?_;refine eFX 3 ?_;refine eIX 4 ?_;refine eFX 5 ?_;refine eIX 6 ?_;refine eFX 7 ?_;refine eFX 8 ?_;refine eTX 9 fun K hK=>?_;go_simp
    (refine(HCb.out _ (Kp.refl wr).drew).mono ?_;rintro e w5 ⟨rfl,rfl⟩)
    go_wp2_with fail
    refine hK.out _ _ (HJ.out _ (Kp.refl wr).drew) fun hHeld=>?_;clear hK K;refine eTX 10 fun K hK=>?_;go_simp
    (refine(HCa.out _ (Kp.refl wr).drew).mono ?_;rintro e w6 ⟨v6,rfl,hk6,qo,qc,rfl,hR6,hRl⟩;have X6:=qH (show Ext wr w6 from(Kp.refl wr).drew.trans hk6);obtain⟨z,ez⟩:=nm RA.length;rw [ez]at HS hRl ⊢;obtain⟨kz,ekz⟩:=nm (k*(1+z));rw [ekz]at HS;have hkz:kz≤1048576*(1+1048576*1048576):=(by rw [<-ekz];exact Nat.mul_le_mul (by omega) (by omega));have u0:IntKind.i64.wrap (1+(z:Int))=1+(z:Int):=IntWalk.i64_in _ (by omega);have u1:(k:Int)*(1+(z:Int))=(kz:Int):=(by rw [<-ekz,Int.natCast_mul,Int.natCast_add];rfl);have u2:IntKind.i64.wrap ((k:Int)*(1+(z:Int)))=(kz:Int):=(by rw [u1];exact IntWalk.i64_in _ (by omega));clear u1 hk6 hR6 ez ekz)
    go_wp2_with fail
    refine hK.out _ _ (HJ.out _ X6.out) fun hHeld=>?_;clear hK K;refine eIX 11 ?_;refine eFX 12 ?_;refine eFX 13 ?_;refine eFX 14 ?_;refine aK (by kernel_rfl) ?_ _;clear hHeld;by_cases hmz:most<kz
    ·have q1:decide ((kz:Int)>(most:Int))=true:=by simp;omega
     go_wp2;go_ret;exact RetN.mk (hex.out.trans X6.out) ⟨most,rfl,fun h=>absurd h (Nat.lt_irrefl _)⟩
    ·have q1:decide ((kz:Int)>(most:Int))=false:=by simp;omega
     rw [if_neg hmz]at HS;go_wp2;go_roundw
     case rel=>exact⟨j+1,kz,by omega,nMX,rfl,by omega,qH (hex.out.trans X6.out),qH (hbk.out.ext X6.out),qH (HT.out.trans HS.out)⟩
     case measure=>simp [intOf];omega
   ·have HS:=qH (show iP R most [l] j k=some k from by
     show(if l.1=1 then _ else _)=_;rw [if_neg hk1];rfl)
    obtain⟨kd,ekd⟩:=nm l.1;rw [ekd]at c0 hk1;have t1:(kd==1)=false:=by simp [hk1]
    clear hl hL hG hb hk1 ekd c1 d2' hsz;go_wp2;go_roundw
    case rel=>exact⟨j+1,k,by omega,nMX,rfl,hkm,hex,hbk,qH (HT.out.trans HS.out)⟩
    case measure=>simp [intOf];omega
  ·obtain rfl:j=n:=by omega
   have HZ:=qH (show iP R most ls 0 1=some k from by rw [<-hsz.out,List.take_of_length_le (by rw [<-HL.out.1];exact Nat.le_refl _)]);go_wp2;go_ret;exact RetN.mk hex.out ⟨k,rfl,fun _=>HZ.out⟩
theorem qV(r:cG)(L:aD):(gY r true L).1≠0:=by
 unfold gY;by_cases hc:aU r≠0
 ·rw [if_pos hc];exact hc
 ·rw [if_neg hc];split
  ·decide
  ·rw [if_pos rfl];exact Nat.one_ne_zero
theorem aJc{E1 E2:List Ent}(h1:BaseOk (aS E1))(h2:BaseOk (aS E2))(h:SameC (aS E1) (aS E2)):nP E1 E2=true:=by
 have hl:E1.length=E2.length:=by have a:=(gE (aS E1)).length_eq;have b:=(gE (aS E2)).length_eq;rw [qP h1.nodup h2.nodup h]at a;rw [a]at b;simpa [aS]using b
 unfold nP;rw [decide_eq_true hl,Bool.true_and,List.all_eq_true];intro e he;have hg:bL (aS E1) e.name=some (e.ar,e.LL):=(dT h1.nodup).2 (lE he);rw [h e.name,oS]at hg;unfold oI;cases hf:bS E2 e.name with
 |none=>rw [hf]at hg;cases hg
 |some f=>
  rw [hf]at hg;have hg':(f.ar,f.LL)=(e.ar,e.LL):=by simpa using hg
  injection hg' with h3 h4
  exact decide_eq_true ⟨h3.symm,h4.symm⟩
theorem aKf{L:List eJ}(h:(bX [] L).2=0):(bX [] L).1.length≤L.length:=by
 have ho:=aIa (L:=L) qO;obtain⟨_,_,_,r4⟩:=aEg qO h;have h1:=aAv (U:=L.map (·.1)) ho.nodup fun s hs=>by
  obtain⟨v,hv⟩:∃v,bL (bX [] L).1 s=some v:=by
   cases hg:bL (bX [] L).1 s with
   |none=>exact absurd hs (jI.1 hg)
   |some v=>exact⟨v,rfl⟩
  rcases r4 s v hv with⟨u,hu⟩|⟨r,hr,e⟩
  ·cases hu
  ·exact List.mem_map.2 ⟨r,hr,e⟩
 rwa [List.length_map,List.length_map]at h1
theorem aG9(r:cG)(b:Bool)(L:aD):(gY r b L).2.length≤65536:=by
 unfold gY;split
 ·exact Nat.zero_le _
 ·split
  ·exact Nat.zero_le _
  ·split
   ·exact Nat.zero_le _
   ·exact kG _ _ _ (Nat.zero_le _)
theorem aFs{r:cG}{C:List aZ}{most k:Nat}(h:iP (wT C r.2.1) most r.2.1 0 1=some k):(cY r C).length≤k:=by
 unfold cY;split
 ·have h1:=qK (all:=r.2.1) r.2.1 0 1 k ([],[]) h;unfold aIn;omega
 ·exact Nat.zero_le _
theorem aKx{w0 W:World}{L:List eJ}{ps:List aBw}{av bv:Value}(h:BothsAt w0 W [L] ps av bv):∃(b1 m1:Nat) (S1:Nat->Prop) (E1:List Ent) (cb:Nat) (U:Nat->Prop) (G1:List REnt) (ab ao ac bb bo bc:Nat),
 av= .slice (some ⟨ab,ao,none⟩) 1 ac/\bv= .slice (some ⟨bb,bo,none⟩) 1 bc/\W.cell? ⟨ab,ao,none⟩=some (.pointer (some ⟨b1,0,none⟩))/\W.cell? ⟨bb,bo,none⟩=some (.pointer (some ⟨cb,0,none⟩))/\BaseAt S1 W b1 m1 E1/\aS E1=(bX [] L).1/\RefB U W cb G1/\SameC (bC G1) (bX [] L).1/\(bX [] L).2=0:=by
 obtain⟨h1,h2,-,h4,h5,-,-⟩:=h;obtain⟨x,hps⟩:∃x,ps= [x]:=by
  have hl:=congrArg List.length h1;rw [List.length_map]at hl
  match ps,hl with
  | [x],_=>exact⟨x,rfl⟩
 subst hps;have hx:x.2=L:=by simpa using h1
 subst hx;obtain⟨⟨⟨b1,m1,S1,E1,e1,hA,hC,-,-⟩,⟨cb,U,G1,e2,hB,hD,-,-⟩,h0⟩,-,-⟩:=h2 x (List.mem_singleton.2 rfl);obtain⟨aa,ac,ea,ha,-⟩:=h4.shape;obtain⟨ba,bc,eb,hb,-⟩:=h5.shape;obtain⟨ab,ao,rfl,ca⟩:=ha 0 x.1.1 rfl;obtain⟨bb,bo,rfl,cb'⟩:=hb 0 x.1.2.1 rfl;rw [e1]at ca;rw [e2]at cb';exact⟨b1,m1,S1,E1,cb,U,G1,ab,ao,ac,bb,bo,bc,ea,eb,ca,cb',hA,hC,hB,hD,h0⟩
theorem aN8{w w0 W:World}{G:Nat->Prop}{hs:List aE}{ls:List aL}{ha ba ia ib:Option Addr}{hn ic n ibc:Nat}{P:Prop}(h:aO w G ha hs/\hn=hs.length/\hn≤1048576/\n=ls.length/\bW w G ba ls/\P)(hM:RuleK w0 W hs ls ia hn ic ib n ibc):aO W (New w0) ia hs/\bW W (New w0) ib ls:=
 ⟨hM.terms (sX h.1),hM.lits (xR h.2.2.2.2.1)⟩
set_option maxHeartbeats 16000000 in
theorem zT{w:World}{p:ByteArray}{hs:List aE}{ls:List aL}{ha ba la:Option Addr}{hn hcap n bcap ln lc:Nat}{G:Nat->Prop}{L1:List eJ}(hhn:hn=hs.length)(hh:aO w G ha hs)(hhl:hn≤1048576)(hbn:n=ls.length)(h:bW w G ba ls)(hf:Fit ls)(hnv:(aB ls).length≤1048576)
 (hl:n≤1048576)(hln:ln=L1.length)(hL1:RelsIn TT w la L1)(hll:ln≤1048576)(hr1:∀q∈L1,q.2.2.1.length≤1048576)(ht:∀l∈ls,(aB ls).length+(aA l).length≤1048576):
 Calls Tryz.prog 8 #[cI p ha hn hcap ba n bcap,.slice la ln lc] w (RetN w fun w' v=>v= .bool true):=by
 obtain⟨R0,eR0⟩:∃r:cG,((p,hs,()),ls,())=r:=⟨_,rfl⟩;have HHH:=qH (nIX hh (nIX hhn (nIX hhl (nIX hbn (nIX h (nIX hf (nIX hnv (nIX hl (nIX ht eR0)))))))));have HLl:=qH (show L1.length≤1048576 by omega);have HLe:=qH (fun(W:World) (hW:Ext w W)=>aGq p hs ls ha hn hcap ba n bcap W G hhn (hh.ext hW) hhl hbn (h.ext hW) hf);have HBa:=qH (fun(W:World) (hW:Ext w W) (g:Nat) (hg:W.cell? ⟨g,0,none⟩=some (.slice la ln lc))=>aK1 [L1] (some ⟨g,0,none⟩) 1 1 W rfl (fun i L hL=>by
  match i,hL with
  |0,hL=>cases hL;exact⟨g,0,la,lc,rfl,by rw [<-hln];exact hg,hL1.ext hW⟩) (by decide) (fun L hL=>by
  obtain rfl:=List.mem_singleton.1 hL;exact⟨by omega,hr1⟩))
 obtain⟨g0,eg0⟩:=nm w.heap.size;obtain⟨w1,e1⟩:=nm (w.alloc (.cells #[.string p,.slice ha hn hcap,.slice ba n bcap] 27));have hB1:=bNX eg0 e1;have hx1:Ext w w1:=xAX e1;obtain⟨gl,egl⟩:=nm w1.heap.size;obtain⟨wl,el⟩:=nm (w1.alloc (.cells #[.slice la ln lc] 28));have hBl:=bNX egl el;have hxl:Ext w1 wl:=xAX el;have H1:=qH (show Ext w wl/\Blk wl g0 [.string p,.slice ha hn hcap,.slice ba n bcap] 27/\wl.cell? ⟨gl,0,none⟩=some (.slice la ln lc)from⟨hx1.trans hxl,hB1.ext hxl,by rw [hBl.cell'];rfl⟩);clear hB1 hx1 hBl hxl hhn hh hhl hbn h hf hnv hln hL1 hll hr1 ht hl eR0;refine callsIn_wide.1 (callsIn_of_wp_marks (n:=4) Tryz.func8 rfl trivial ?_ rfl);refine wpIn_wide.2 ?_;obtain⟨Q,eQ⟩:∃Q,Q=bodyPostM Fence.wide 4 Tryz.prog Tryz.f8 (RetN w fun _ v=>v= .bool true):=⟨_,rfl⟩;rw [<-eQ];have EQ:=qH eQ;clear eQ;have HRet:=qH (show ∀(W:World) (t:Array Value),Ext w W->t.getD 4 undef= .bool true->Q .ret {tmps:=t,defers:= []} W from fun W t hW ht=>by rw [EQ.out];exact uT (Marks.nil _ _) hW hW.size ht);simp only [Tryz.ntmps8,List.size_toArray,List.length_cons,List.length_nil,Nat.reduceAdd,Nat.reduceSub,Array.replicate_succ,Array.replicate_zero,List.push_toArray,List.append_toArray,List.nil_append,List.cons_append];go_wp2_with fail
 clear e1 eg0 el egl;refine(HBa.out wl H1.out.1 gl H1.out.2.2).mono ?_;rintro e w3 ⟨v3,rfl,hk3,hv3⟩;rcases hv3 with⟨-,rfl⟩|⟨ps,av,bv,rfl,hps⟩
 ·have H3:=qH (H1.out.1.trans hk3);clear hk3;go_wp2_with fail
  refine(kR w3).mono ?_;rintro e w4 ⟨v,rfl,hk4,rfl⟩;have X4:=qH (H3.out.trans hk4);clear hk4;go_wp2_with fail
  exact HRet.out _ _ X4.out rfl
 obtain⟨b1,m1,S1,E1,cb,U,G1,ab,ao,ac,bb,bo,bc,rfl,rfl,ca,cbb,hA1,hC1,hB1,hD1,h01⟩:=aKx hps;have H3:=qH (show Ext w w3/\Blk w3 g0 [.string p,.slice ha hn hcap,.slice ba n bcap] 27/\BaseAt S1 w3 b1 m1 E1/\RefB U w3 cb G1/\SameC (bC G1) (aS E1)/\E1.length≤1048576 from⟨H1.out.1.trans hk3,H1.out.2.1.ext hk3,hA1,hB1,by rw [hC1];exact hD1,by have h1:=aKf h01;rw [<-hC1]at h1;unfold aS at h1;rw [List.length_map]at h1;have:=HLl.out;omega⟩);clear hps hk3 hA1 hC1 hB1 hD1 h01;have HSz:=qH (fun(W:World) (hW:Ext w3 W) (bo:Option Addr) (bc:Nat) (hr:CellsAt W bo (List.replicate n (.pointer (some ⟨cb,0,none⟩))))=>aDi (p:=p) (ha:=ha) (hn:=hn) (hcap:=hcap) (most:=4000) (WIn.one (bcap:=bcap) (bo:=bo) (bc:=bc) (C:=aS E1) HHH.out.2.2.2.1 HHH.out.2.2.2.2.2.2.2.1 (HHH.out.2.2.2.2.1.ext (H3.out.1.trans hW)) (.inr ⟨cb,rfl,H3.out.2.2.2.1.ext hW⟩) H3.out.2.2.2.2.1 hr HHH.out.2.2.2.2.2.2.2.2.1 HHH.out.2.2.2.2.2.2.1) (by decide) (by decide));have hln:=HHH.out.2.2.2.2.2.2.2.1;go_wp2_with fail
 go_loopw [8,9] (fun ov iv wr=>RepR w3 g0 [.string p,.slice ha hn hcap,.slice ba n bcap] (.pointer (some ⟨cb,0,none⟩)) n ov iv wr) (fun _ iv _=>n- (intOf iv).toNat)
 case atStart=>exact⟨0,Nat.zero_le _,rfl,qH (Kp.refl _),qH (Row.nil _ _ _ _),qH H3.out.2.1⟩
 case round=>
  obtain⟨i,hi,rfl,hex,hro,hbk⟩:=hrel;obtain⟨oa,oc,eov,hoc,_⟩:=hro.out.shape;subst eov;have r2:=hbk.out.c2;have cb2:=hex.out.cell cbb id;by_cases hlt:i<n
  ·clear hoc;go_wp2_with (first|(at_builtin;refine Halted.out ?_))
   refine Halted.mk (bO (m:=1) (n:=i) qX rfl _ _ rfl (hex.out.alloc _) rfl (hro.out.alloc _) rfl (CellsAt.one wr (.pointer (some ⟨cb,0,none⟩)) 84) (by rfl) (by simp [Value.oneCell']) (by omega) (by unfold maxLen;omega) ?_);intro v6 w6 hr6 hk6 hk6b _;have hb6:=(hbk.out.alloc (.cells #[.pointer (some ⟨cb,0,none⟩)] 84)).kp hk6b fun hg=>by obtain⟨cs,hb⟩:=aV hro.out hg;exact absurd (aQ hb hbk.out) (by decide)
   have HF:=qH (show Ext w3 w6/\Row w6 84 1 v6 (i+1) (List.replicate (i+1) (.pointer (some ⟨cb,0,none⟩))) (New w3)/\Blk w6 g0 [.string p,.slice ha hn hcap,.slice ba n bcap] 27 from⟨hk6,by rw [List.replicate_succ'];exact hr6,hb6⟩);obtain⟨la,lcap,elv,_,_⟩:=hr6.shape;subst elv;clear hr6 hk6 hk6b hb6;go_wp2;go_roundw
   case rel=>exact⟨i+1,by omega,nMX,qH HF.out.1,qH HF.out.2.1,qH HF.out.2.2⟩
   case measure=>simp [intOf];omega
  ·obtain rfl:n=i:=by omega
   have q0:=hbk.out.c0;have q1:=hbk.out.c1;have HC:=qH (HSz.out wr hex.out oa oc hoc);have H4:=qH (show Ext w3 wr/\Blk wr g0 [.string p,.slice ha hn hcap,.slice ba n bcap] 27 from⟨hex.out,hbk.out⟩);clear hoc hro hbk hex;go_wp2_with fail
   refine HC.out.mono ?_;rintro e w5 ⟨v5,rfl,hk5,k,rfl,hk⟩;have H5:=qH (show Ext w3 w5/\Blk w5 g0 [.string p,.slice ha hn hcap,.slice ba n bcap] 27/\(k<4000->(cY R0 (aS E1)).length≤k)from⟨H4.out.1.trans hk5,H4.out.2.ext hk5,fun h0=>by have h1:=hk h0;rw [<-HHH.out.2.2.2.2.2.2.2.2.2];exact aFs (r:=((p,hs,()),ls,())) h1⟩);have s0:=hk5.cell q0 id;have s1:=hk5.cell q1 id;have s2:=hk5.cell r2 id;clear hk5 hk q0 q1 r2;by_cases h4000:4000≤k
   ·have i4:decide ((k:Int)≥4000)=true:=by simp;omega
    have X5:=qH (H3.out.1.trans H5.out.1);clear h4000;go_wp2_with fail
    refine(kR w5).mono ?_;rintro e w6 ⟨v,rfl,hk6,rfl⟩;have X6:=qH (X5.out.trans hk6);clear hk6;go_wp2_with fail
    exact HRet.out _ _ X6.out rfl
   have i4:decide ((k:Int)≥4000)=false:=by simp;omega
   have HBl:=qH (show(cY R0 (aS E1)).length≤4000 from Nat.le_trans (H5.out.2.2 (by omega)) (by omega));clear h4000;go_wp2_with fail
   refine(HLe.out w5 (H3.out.1.trans H5.out.1)).mono ?_;rintro e w6 ⟨v6,rfl,hk6,ia,ic,ib,ibc,rfl,hM⟩;obtain⟨gi,egi⟩:=nm w6.heap.size;obtain⟨wi,ei⟩:=nm (w6.alloc (.cells #[.string p,.slice ia hn ic,.slice ib n ibc] 27));have hBi:=bNX egi ei;have hxi:Ext w6 wi:=xAX ei;have HI:=qH (show Ext w3 wi/\Blk wi g0 [.string p,.slice ha hn hcap,.slice ba n bcap] 27/\Blk wi gi [.string p,.slice ia hn ic,.slice ib n ibc] 27/\RuleK w5 wi hs ls ia hn ic ib n ibc from⟨H5.out.1.trans (hk6.trans hxi),H5.out.2.1.ext (hk6.trans hxi),hBi,hM.ext hxi⟩);have HCp:=qH (aCp (H3.out.2.2.1.ext HI.out.1) H3.out.2.2.2.2.2);have ca2:=HI.out.1.cell ca id;clear hk6 hM hBi hxi s0 s1 s2;go_wp2_with fail
   clear ei egi;refine HCp.out.mono ?_;rintro e w7 ⟨v7,rfl,hk7,b3,r3,E3,rfl,hA3,hP3,hO3⟩;have HSm:=qH (show ∀X,Ext w7 X->Calls Tryz.prog 47 #[.pointer (some ⟨b1,0,none⟩),.pointer (some ⟨b3,0,none⟩)] X (RetN X fun _ v=>v= .bool true)from fun X hX=>by
    have h1:=((H3.out.2.2.1.ext HI.out.1).ext hk7).ext hX;have hE3:E3.length≤1048576:=by have h1:=hP3.length_eq;unfold aS at h1;rw [List.length_map,List.length_map]at h1;have:=H3.out.2.2.2.2.2;omega
    refine(aCl h1 (hA3.ext hX) (fun e he f hf k ho ho2=>?_) H3.out.2.2.2.2.2 hE3).mono ?_
    ·have q1:=hO3 k (.inr (.inr ⟨f,hf,ho2⟩));have q2:=RowsQ.ownLt (z:=False) ((H3.out.2.2.1.ext HI.out.1).rows e he).q k ho;omega
    ·rintro e w' ⟨v,rfl,hk,rfl⟩;exact RetN.mk hk (by rw [aJc h1.ok (hA3.ext hX).ok (fun s=>(aI9 hP3 h1.ok s).symm)]))
   obtain⟨gg,egg⟩:=nm w7.heap.size;obtain⟨w8,e8⟩:=nm (w7.alloc (.cells #[.slice none 0 0] 69));have hb8:=bNX egg e8;have x8:Ext w7 w8:=xAX e8;have H7:=qH (show Ext w3 w7/\Ext w7 w8/\Blk w8 gg [.slice none 0 0] 69/\w7.heap.size≤gg/\Ext wi w7 from⟨HI.out.1.trans hk7,x8,hb8,by omega,hk7⟩);have hcin:=aN8 HHH.out HI.out.2.2.2;have HEa:=qH (fun(X:World) (hX:Ext wi X)=>yS (w:=X) (p:=p) (hs:=hs) (ls:=ls) (ha:=ia) (ba:=ib) (hn:=hn) (hcap:=ic) (n:=n) (bcap:=ibc) HHH.out.2.1 (hcin.1.ext hX) HHH.out.2.2.1 HHH.out.2.2.2.1 (hcin.2.ext hX) HHH.out.2.2.2.2.2.1 HHH.out.2.2.2.2.2.2.1 HHH.out.2.2.2.2.2.2.2.1 (.full b1 m1 E1 ((H3.out.2.2.1.ext HI.out.1).ext hX)) (kC ((p,hs,()),ls,()) E1));have HKn:=qH (vD (kC ((p,hs,()),ls,()) E1) (aAu (BaseV.full b1 m1 E1 H3.out.2.2.1)));rw [HHH.out.2.2.2.2.2.2.2.2.2]at HEa HKn;obtain⟨L,eL⟩:=nm (cY R0 (aS E1));simp only [eL]at HEa HKn HBl;have HEL:=qH eL;have HJ:=qH (show ∀X,Ext w8 X->(fun X:World=>X.cell? ⟨gi,0,none⟩=some (.string p)/\X.cell? ⟨gi,1,none⟩=some (.slice ia hn ic)/\X.cell? ⟨gi,2,none⟩=some (.slice ib n ibc)/\X.cell? ⟨ab,ao,none⟩=some (.pointer (some ⟨b1,0,none⟩))) X from fun X hX=>by have hb:=HI.out.2.2.1.ext (H7.out.2.2.2.2.trans (x8.trans hX));exact⟨by rw [hb.cell'];rfl,by rw [hb.cell'];rfl,by rw [hb.cell'];rfl,(H7.out.2.2.2.2.trans (x8.trans hX)).cell ca2 id⟩);clear hk7 hA3 hP3 hO3 hb8 x8 eL hcin ca2;go_wp2_with fail
   clear e8 egg;refine lT ?_;refine aT (fun X:World=>X.cell? ⟨gi,0,none⟩=some (.string p)/\X.cell? ⟨gi,1,none⟩=some (.slice ia hn ic)/\X.cell? ⟨gi,2,none⟩=some (.slice ib n ibc)/\X.cell? ⟨ab,ao,none⟩=some (.pointer (some ⟨b1,0,none⟩))) [] (by kernel_rfl) (HJ.out _ (Kp.refl w8).drew) (fun hHeld=>?_);refine eIX 0 ?_;refine eFX 1 ?_;refine eIX 2 ?_;refine eIX 3 ?_;refine eTX 4 fun K hK=>?_;go_simp
   (refine(HEa.out w8.drew (H7.out.2.2.2.2.trans (H7.out.2.1.drew))).mono ?_;rintro e w9 ⟨v9,rfl,hk9,xb,lo,hlo,rfl,hseq⟩;have X9:=qH (show Ext w8 w9/\w8.heap.size≤lo from⟨(Kp.refl w8).drew.trans hk9,hlo⟩);have HS:=qH (show tV Fence.wide 3 Tryz.prog 82 #[.pointer (some ⟨xb,0,none⟩)] (fun x:XB=>#[.slice x.1.1 x.1.2.1 x.1.2.2]) (fun k=>lo≤k/\k<w9.heap.size) GvRow (fun xs=>xs.map Prod.snd=L) (fun pre=>pre.map Prod.snd<+:L) w9 from hseq 3);clear hk9 hlo hseq)
   go_wp2_with fail
   refine hK.out _ _ (HJ.out _ X9.out.1) fun hHeld=>?_;clear hK K;refine eFX 5 ?_;refine aK (by kernel_rfl) ?_ _;clear hHeld;refine gT ?_;have hq0:∀w:World,(binOp .eql 72 (.func (Fn.func 82) #[] #[.pointer (some ⟨xb,0,none⟩)]) .nilFunc).run Tryz.prog w= .ok (.bool false) w:=fun w=>by kernel_rfl
   go_wp2_with fail
   rename_i K0 hK0;have HK0:=qH hK0;have H9:=qH (show Blk w9 gg [.slice none 0 0] 69/\Ext w7 w9/\gg<lo from⟨H7.out.2.2.1.ext X9.out.1,H7.out.2.1.trans X9.out.1,Nat.lt_of_lt_of_le H7.out.2.2.1.lt X9.out.2⟩);have hb9:gg<w9.heap.size:=H9.out.1.lt;clear hK0 hq0;refine' wpIn_wide.1 (kS (F:=Fence.wide) (n:=4) (w0:=w9) rfl (by omega) (gf:=82) (lb:=#[.pointer (some ⟨xb,0,none⟩)]) rfl trivial (enters_of Tryz.func82 (by kernel_rfl) rfl)
    HS.out (Kp.refl _) (fun k h=>h.2) (fun _=>rfl) GvRow.put (GotI w9 gg) (fun _ _ _ _=>False)
    (fun T s W l o o' h _ hl ho hc=>h.put hb9 hl ho hc) (fun c T s W l o o' h _ hl ho hc=>h.elim)
    (fun W o h=>h.step hb9 ((Kp.refl W).alloc o) (fun k hk=>hk.elim)) (GotI.start H9.out.1) _ ?assign ?body ?done ?stop)
   case assign=>
    intro l x W K hK;gi_wp2;exact hK
   case body=>
    rintro l T T' pre ⟨⟨xa,xn,xc⟩,V⟩ W1 W hI hT hk hsub hgv hpre;have hI2:=hI.step hb9 hk hsub;have hTlt:∀k,T' k->k<W.heap.size:=fun k hk'=>by
     rcases hsub k hk' with h|h
     ·exact Nat.lt_of_lt_of_le (hT k h) hk.size
     ·exact h.2
    obtain⟨hx1,hxc⟩:=hgv.cells;have hxn:xn=V.length:=hx1.1;have hxc2:xc=V.length:=hx1.2;subst hxn hxc2;have hgot:=hgv.got hI.kp.size;have hpl:pre.length<L.length:=by have h:=hpre.length_le;rw [List.length_map,List.length_append,List.length_singleton]at h;omega
    have hBL:=HBl.out;obtain⟨v,hv,hrv⟩:=hI2.val;refine wpIn_mono (Q:=fU (fun X'=>KeepsFrom w9.heap.size W X'/\Kp (fun k=>¬fY (fun k=>lo≤k/\k<w9.heap.size) T' k) W X'/\GotI w9 gg T' (pre++ [((xa,V.length,V.length),V)]) X') (fun _=>False)) ?_ ?_
    ·show Code.wpIn _ _ _ yO _ _ _;refine aG6 (N:=pre.length) (v:=v) (vals:=pre.map aIm) (V:=V) hv hrv (by omega) rfl rfl rfl ?_;intro X' v' hk' hv' hr';exact hI2.round hb9 hTlt (fun k hk=>⟨by have:=H9.out.2.2;have:=hk.1;omega,hk.2⟩) hv hgot hk' hv' hr'
    ·intro e a W' h;cases e<;>first|exact h|exact h.elim
   case done=>
    rintro D T xs W1 W hD hxs hI hT hk hd;have hI2:=hI.step (T':=fun _=>False) hb9 hk (fun k hk'=>hk'.elim);have hxs':xs.map Prod.snd=L:=hxs;have hxl:xs.length=L.length:=by rw [<-hxs',List.length_map]
    obtain⟨v,ga,gc,rfl,hv,hrows⟩:=hI2.rowsIn (fun x hx=>by have h1:=(HKn.out x.2 (by rw [<-hxs'];exact List.mem_map_of_mem (f:=Prod.snd) hx)).2.1;have h2:=HHH.out.2.2.2.2.2.2.1;have h3:=congrArg (fun r:cG=>(aB r.2.1).length) HHH.out.2.2.2.2.2.2.2.2.2;have h3':(aB ls).length=(aB R0.2.1).length:=h3;omega);have hrows':RowsIn (fun _=>True) W ga L:=by rw [<-hxs'];exact hrows
    have hm1:Marks w9.heap.size W [{target:= .collected D,args:=#[]}]:=Marks.push (Marks.nil w9.heap.size w9) (fun k o h ho=>(hI2.kp.block k (lt_of_block h) (fun e=>by have e':k=gg:=e;have h8:=H9.out.1;unfold Blk at h8;rw [e',h8]at h;cases h;cases ho)).trans h) hD hD hd;have xW:Ext w7 W:=H9.out.2.1.trans' hI2.kp fun i hi hf=>by have e:i=gg:=hf;have:=H7.out.2.2.2.1;omega
    have x3:Ext w3 W:=H7.out.1.trans xW;have x0:Ext w W:=H3.out.1.trans x3;have hlen:=HBl.out;obtain⟨hh,hhn,hhl,hbn,h,hf,hnv,hl,ht,eR0⟩:=HHH.out;have eL:=HEL.out;have hMW:=HI.out.2.2.2.ext (H7.out.2.2.2.2.trans xW);have hin:=aN8 HHH.out hMW;refine HK0.out _ _ ?_;show Code.wp _ aBf _ _ _;refine aG8 (W:=W) (gb:=g0) (gi:=gi) (gg:=gg) (p:=p) (ha:=ha) (ba:=ba) (ia:=ia) (ib:=ib) (ga:=ga) (hn:=hn) (hcap:=hcap) (n:=n) (bcap:=bcap) (ic:=ic) (ibc:=ibc) (N:=xs.length) (A:=(gY R0 false L).2) (er:=(gY R0 false L).1) (e2:=(gY R0 true (cY R0 [])).1) (BL:=L) (b1:=b1) (cb:=cb) (ab:=ab) (ao:=ao) (bb:=bb) (bo:=bo) (ac:=ac) (bc:=bc) (gc:=gc)
     (HI.out.2.1.ext (H7.out.2.2.2.2.trans xW)) (HI.out.2.2.1.ext (H7.out.2.2.2.2.trans xW)) hv hxl (by omega) hrows' (aG9 _ _ _) (qV _ _) (x3.cell ca id) (x3.cell cbb id) (fun X hX=>?rf) (fun X hX=>?pf) (fun X hX=>?re) (fun X hX=>?ke) (fun X hX=>HSm.out X (xW.trans hX)) (fun X hX=>?pn) (fun X hX=>?rn) rfl rfl rfl rfl rfl rfl rfl (fun X t' hX ht4=>?ret)
    case rf=>
     have h1:=rO (p:=p) (hcap:=hcap) (bcap:=bcap) (C:=aS E1) hhn (hh.ext (x0.trans hX)) hhl hbn hl (h.ext (x0.trans hX)) hf (.inr ⟨cb,rfl,H3.out.2.2.2.1.ext (x3.trans hX)⟩) H3.out.2.2.2.2.1 ht hnv (fun _=>by rw [eR0,eL];omega);rw [eR0,eL]at h1;exact h1
    case pf=>
     have h1:=aBe (w:=X) (p:=p) (hs:=hs) (ls:=ls) (ha:=ia) (ba:=ib) (hn:=hn) (hcap:=ic) (n:=n) (bcap:=ibc) hhn (hin.1.ext hX) hhl hbn (hin.2.ext hX) hf hnv hl (.full b1 m1 E1 (H3.out.2.2.1.ext (x3.trans hX))) (kC ((p,hs,()),ls,()) E1);rw [eR0,eL]at h1;refine h1.mono ?_;rintro e w' ⟨v,rfl,hk,ho⟩;have h2:=ho.to;rw [show R0.1.2.1.length=hn from by rw [<-eR0,hhn]]at h2;exact RetN.mk hk h2
    case re=>
     have h1:=uB (p:=p) (hcap:=hcap) (bcap:=bcap) (C:=aS E1) hhn (hh.ext (x0.trans hX)) hhl hbn hl (h.ext (x0.trans hX)) hf (.inr ⟨cb,rfl,H3.out.2.2.2.1.ext (x3.trans hX)⟩) H3.out.2.2.2.2.1 ht hnv (by rw [eR0,eL];omega);rw [eR0,eL]at h1;exact h1
    case ke=>exact aGs p hs ls w5 ia ha hn ic hcap ib ba n ibc bcap X G hhn (hh.ext (x0.trans hX)) hhl hbn (h.ext (x0.trans hX)) hf (hMW.ext hX)
    case pn=>
     have h1:=aBe (w:=X) (p:=p) (hs:=hs) (ls:=ls) (ha:=ia) (ba:=ib) (hn:=hn) (hcap:=ic) (n:=n) (bcap:=ibc) hhn (hin.1.ext hX) hhl hbn (hin.2.ext hX) hf hnv hl (S:=fun _=>False) (o:=none) (E:= []) .nil (kC ((p,hs,()),ls,()) []);rw [eR0]at h1;refine h1.mono ?_;rintro e w' ⟨v,rfl,hk,ho⟩;rcases ho.to with⟨_,h2⟩|⟨h2,_⟩
     ·exact RetN.mk hk h2
     ·exact absurd h2 (qV _ _)
    case rn=>
     have h1:=rO (p:=p) (hcap:=hcap) (bcap:=bcap) (S:=fun _=>False) (o:=none) (Gr:= []) (C:= []) hhn (hh.ext (x0.trans hX)) hhl hbn hl (h.ext (x0.trans hX)) hf (.inl ⟨rfl,rfl⟩) (fun _=>rfl) ht hnv (fun h=>by cases h);rw [eR0]at h1;refine h1.mono ?_;rintro e w' ⟨v,rfl,hk,ho⟩;rcases ho with⟨_,h2⟩|⟨h2,_⟩
     ·exact RetN.mk hk h2
     ·exact absurd h2 (qV _ _)
    case ret=>
     rw [EQ.out];exact uT (hm1.kp hX fun _ h=>h.elim) (x0.trans hX) (Nat.le_trans H3.out.1.size (Nat.le_trans H7.out.1.size H9.out.2.1.size)) ht4
   case stop=>
    rintro D c T pre W1 W hD hpre hX hT hk hd;exact hX.elim
end
end Go.Proofs.YtinnmeiphbdogaaGreat
