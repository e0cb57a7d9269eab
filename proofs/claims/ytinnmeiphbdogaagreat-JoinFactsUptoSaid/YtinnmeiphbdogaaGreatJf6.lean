/- Texts joined for a claim (TrieBuild, MatSt, MatAdd, MatPut, MatchPlain, MatchSt, Match, AllWalk, Over, Each, JoinHead, HeadWalk, FactsAux, FactsPlain). -/
import Derived.Test.YtinnmeiphbdogaaGreatJf5
set_option linter.unusedVariables false
set_option linter.unusedSimpArgs false
set_option maxRecDepth 100000
namespace Go.Proofs.YtinnmeiphbdogaaGreat
section
open Go.RowKit Go.Shelf
attribute [local go_sem] Oper.semAt_some
theorem aB4(tb:Nat)(w:World):(binOp .eql 88 (.pointer (some ⟨tb,0,none⟩)) (.pointer none)).run Tryz.prog w= .ok (.bool false) w:=by kernel_rfl
def iC(n:Nat):List Value:=ints ((List.range n).map fun(v:Nat)=>(v:Int))
theorem aAw{n i:Nat}(hi:i<n):(iC n)[i]?=some (.int .i64 i):=by unfold iC ints;rw [List.map_map,List.getElem?_map,List.getElem?_range hi];rfl
theorem aCj{w:World}{oa:Option Addr}{i c n:Nat}(h:CellsAt w oa (iC n))(hi:i≤n)(hn:n≤1048576):Calls Tryz.prog 176 #[.slice oa i c,.int .i64 i] w (RetN w fun w' v=>v= .bool false):=by
 have HI:=qH (show Calls Tryz.prog 198 #[.slice oa i c,.int .i64 i] w (RetN w fun w' v=>v= .int .i64 (-1))from by
  have HE:=qH h;clear h;go_enter Tryz.func198,Tryz.ntmps198;go_wp2;go_loopw [8] (fun jv wr=>∃j:Nat,j≤i/\jv= .int .i64 j/\Hid (Ext w wr)) (fun jv _=>i- (intOf jv).toNat)
  case atStart=>exact⟨0,Nat.zero_le _,rfl,qH (Kp.refl w)⟩
  case round=>
   obtain⟨j,hj,rfl,hex⟩:=hrel;by_cases hlt:j<i
   ·obtain⟨b,off,eao,hc0⟩:=(HE.out.ext hex.out) j (.int .i64 j) (aAw (by omega));subst eao;have hb:((i:Int)==(j:Int))=false:=by simp;omega
    go_wp2;go_roundw
    case rel=>exact⟨j+1,by omega,nMX,hex⟩
    case measure=>simp [intOf];omega
   ·go_wp2;go_ret;exact RetN.mk hex.out rfl)
 clear h;go_enter Tryz.func176,Tryz.ntmps176;go_wp2_with fail
 refine HI.out.mono ?_;rintro e w1 ⟨v,rfl,hk,rfl⟩;go_wp2;go_ret;exact RetN.mk hk rfl
theorem aLi{S:Nat->Prop}{w W:World}{ao:Option Addr}{LL:aD}{n:Nat}{ss:List ByteArray}(h:RowsIn S w ao LL)(hx:Ext w W)(hn:LL[n]?=some ss):∃b off xa xc,ao=some ⟨b,off,none⟩/\W.cell? ⟨b,off+n,none⟩=some (.slice xa ss.length xc)/\CellsAt W xa (strs ss):=by
 obtain⟨ps,rfl,hc,-,hall⟩:=h;rw [List.getElem?_map]at hn;cases hp:ps[n]? with
 |none=>rw [hp]at hn;cases hn
 |some p=>
  rw [hp]at hn;cases hn;obtain⟨b,off,e,c⟩:=hc n (.slice p.1.1 p.1.2.1 p.1.2.2) (by unfold cJ;rw [List.getElem?_map,hp];rfl);obtain⟨⟨h1,h2⟩,-⟩:=hall p (List.mem_of_getElem? hp);rw [h1]at c;exact⟨b,off,_,_,e,hx.cell c id,h2.ext hx⟩
def aOs(w0:World)(tb lb m nL:Nat)(LL:aD)(jv:Value)(W:World):Prop:=∃(n:Nat) (kv fv:Nat->Value),n≤nL/\jv= .int .i64 n/\Hid (LevSt w0 W tb lb m nL (fun i=>cB LL m i n) (fun i=>cL LL m i n) kv fv)
def EndTo(w0:World)(tb lb m nL:Nat)(LL:aD)(jv:Value)(W:World):Prop:=∃(i:Nat) (kv fv:Nat->Value),i≤m/\jv= .int .i64 i/\
 Hid (LevSt w0 W tb lb m nL (fun j=>cB LL m j nL) (fun j=>cL LL m j nL++if j<i then [(aR LL m (j+1) nL:Int)]else []) kv fv)
def WayIn(w0:World)(tb lb m nL n:Nat)(LL:aD)(bv jv:Value)(W:World):Prop:=∃(i:Nat) (kv fv:Nat->Value),i≤m/\jv= .int .i64 i/\bv= .bool (dS LL i n)/\
 Hid (LevSt w0 W tb lb m nL (fun j=>cB LL m j (if j<i then n+1 else n)) (fun j=>cL LL m j (if j<i then n+1 else n)) kv fv)
theorem aMa(v:Value)(d:Nat):List.replicate (d*2) v=lI (fun _=>v) (fun _=>v) d:=by
 induction d with
 |zero=>rfl
 |succ d ih=>
  rw [jH,<-ih,show(d+1)*2=d*2+2 by omega,<-List.replicate_append_replicate];rfl
theorem aJ5(W:aD)(d i:Nat):cB W d i 0= []:=by unfold cB bA;split<;>rfl
theorem aKe(W:aD)(d i:Nat):cL W d i 0= []:=by unfold cL bA;split<;>rfl
theorem aJy{w0 w:World}{tb lb d n:Nat}{W:aD}(hB:Blk w lb (List.replicate (d*2) (.slice none 0 0)) 244)(hT:Blk w tb [.slice (some ⟨lb,0,none⟩) d d,.int .i64 n,.bool true] 241)(hk:Ext w0 w)(h1:w0.heap.size≤tb)(h2:w0.heap.size≤lb):
 LevSt w0 w tb lb d n (fun i=>cB W d i 0) (fun i=>cL W d i 0) (fun _=> .slice none 0 0) (fun _=> .slice none 0 0):=
 ⟨hT,by rw [aMa]at hB;exact hB,fun i hi=>by rw [aJ5];exact Row.nil _ _ _ _,fun i hi=>by rw [aKe];exact Row.nil _ _ _ _,fun _ _ _ _ _ g h=>(by cases h),fun _ _ _ _ _ g h=>(by cases h),⟨h1,h2⟩,hk⟩
theorem aHg:cW Tryz.prog 239 244 2 48 (.agg #[.slice none 0 0,.slice none 0 0]):=⟨by kernel_rfl,by kernel_rfl,rfl,by decide⟩
set_option maxHeartbeats 4000000 in
theorem aKv{S:Nat->Prop}{w:World}{rb m oc:Nat}{iv:Value}{oa:Option Addr}{LL:aD}(hR:RowsAt S w rb iv m LL)(hst:Strict aC LL)(hlen:∀x∈LL,x.length=m)(ho:CellsAt w oa (iC m))(hm:m≤64)(hoc:m≤oc)(hn:LL.length≤65536):
 Calls Tryz.prog 151 #[.pointer (some ⟨rb,0,none⟩),.slice oa m oc] w (RetN w fun w' v=>∃tb,v= .tuple #[.pointer (some ⟨tb,0,none⟩),.int .i64 0]/\w.heap.size≤tb/\Fast w.heap.size w'.heap.size w' fun X=>TrieAt X tb LL m):=by
 have HAr:=qH (fun W (hW:Ext w W)=>uA (z:=False) (hR.ext hW).q);have HPr:=qH (fun W (hW:Ext w W)=>zR (oc:=oc) (hR.ext hW) hst hlen (ho.ext hW) hm hn);have HCo:=qH (fun W (hW:Ext w W) (i c:Nat) (hi:i≤m)=>aCj (c:=c) (ho.ext hW) hi (by omega));have HO:=qH ho;have HL:=qH (nIX hst (nIX hlen hn));have hnl:=aB4 rb w;clear hR hst hlen ho hn;go_enter Tryz.func151,Tryz.ntmps151;go_wp2;clear hnl;go_loopw [21] (fun jv wr=>∃j:Nat,j≤m/\jv= .int .i64 j/\Hid (Ext w wr)) (fun jv _=>m- (intOf jv).toNat)
 case atStart=>exact⟨0,Nat.zero_le _,rfl,qH (Kp.refl w)⟩
 case round=>
  obtain⟨j,hj,rfl,hex⟩:=hrel;by_cases hlt:j<m
  ·obtain⟨b,off,eao,hc0⟩:=(HO.out.ext hex.out) j (.int .i64 j) (aAw hlt);subst eao;have i1:(j:Int)< (m:Int):=by omega
   have i0:¬(j:Int)<0:=by omega
   have i2:(j:Int)≤(oc:Int):=by omega
   have hjm:j≤m:=hj;clear hj;go_wp2_with fail
   refine(HAr.out wr hex.out).mono ?_;rintro e w' ⟨rfl,rfl⟩;have i3:¬m≤j:=by omega
   go_wp2_with fail
   refine(HCo.out wr hex.out j oc hjm).mono ?_;rintro e w2 ⟨v,rfl,hk,rfl⟩;have HX:=qH (hex.out.trans hk);clear hk hc0;go_wp2;go_roundw
   case rel=>exact⟨j+1,by omega,nMX,HX⟩
   case measure=>simp [intOf];omega
  ·obtain rfl:m=j:=by omega
   have hmj:=hj;clear hj hlt;go_wp2_with fail
   refine(HPr.out wr hex.out).mono ?_;rintro e w3 ⟨v3,rfl,hk3,hO3⟩;have H3:=qH (nIX (hex.out.trans hk3) (nIX hex.out.size hO3));obtain⟨nL,enL⟩:=nm LL.length;obtain⟨ao,cap,ev,hrows⟩:=hO3.shape;rw [enL]at ev;subst ev;have hmk:=jU (P:=Tryz.prog) aHg (c:= .slice none 0 0) rfl m (by omega) (by unfold maxLen;omega) w3;clear hk3 hO3 hex hmj;have HN:=qH enL;have HRI:=qH hrows;clear hrows enL;go_wp2;clear hmk;obtain⟨lb,elb⟩:=nm w3.heap.size;obtain⟨X1,eX1⟩:=nm (w3.alloc (.cells (Array.replicate (m*2) (.slice none 0 0)) 244));rw [elb,eX1];obtain⟨X2,eX2⟩:=nm (X1.alloc (.cells #[.slice (some ⟨lb,0,none⟩) m m,.int .i64 nL,.bool true] 241));rw [eX2];have x1:Ext w3 X1:=xAX eX1;have x2:Ext X1 X2:=xAX eX2;have hs1:X1.heap.size=lb+1:=by rw [<-eX1,aJ,elb]
   have hB1:Blk X1 lb (List.replicate (m*2) (.slice none 0 0)) 244:=by have h:=Blk.new w3 (List.replicate (m*2) (.slice none 0 0)) 244;rw [List.toArray_replicate,eX1,elb]at h;exact h
   have hB2:Blk X2 (lb+1) [.slice (some ⟨lb,0,none⟩) m m,.int .i64 nL,.bool true] 241:=by have h:=Blk.new X1 [.slice (some ⟨lb,0,none⟩) m m,.int .i64 nL,.bool true] 241;rw [hs1]at h;rw [<-eX2];exact h
   have HL2:=qH (show LevSt w3 X2 (lb+1) lb m nL (fun i=>cB LL m i 0) (fun i=>cL LL m i 0) (fun _=> .slice none 0 0) (fun _=> .slice none 0 0)from aJy (hB1.ext x2) hB2 (x1.trans x2) (by rw [<-elb];omega) (by rw [<-elb];exact Nat.le_refl _));obtain⟨tb,etb⟩:=nm (lb+1);rw [etb]at HL2 ⊢;have HG:=qH (nIX elb etb);clear elb etb eX1 eX2 x1 x2 hs1 hB1 hB2;go_loopw [54] (fun jv wk=>aOs w3 tb lb m nL LL jv wk) (fun jv _=>nL- (intOf jv).toNat)
   case atStart=>exact⟨0,_,_,Nat.zero_le _,rfl,HL2⟩
   case round=>
    obtain⟨n,kv,fv,hn,rfl,hLv⟩:=hrel;by_cases hltn:n<nL
    ·obtain⟨ss,hss⟩:∃ss,LL[n]?=some ss:=⟨_,qG (by rw [HN.out];exact hltn)⟩;have hsl:ss.length=m:=HL.out.2.1 ss (List.mem_of_getElem? hss);obtain⟨wb,wo,xa,xc,eao,wc3,hxs⟩:=aLi HRI.out (Kp.refl w3) hss;subst eao;rw [hsl]at wc3;have wc:=hLv.out.kp.cell wc3 id;have HSS:=qH (nIX hss hsl);have HXS:=qH hxs;have HBZ:=qH (show Value.bool (((n:Int))==0)= .bool (dS LL 0 n)from by rw [aGb];congr 1;cases n<;>simp<;>omega);clear hss hsl hxs hn;generalize hwk:wr=W at*;clear hwk;go_wp2;rw [HBZ.out];go_loopw [12,63] (fun bv jv wk=>WayIn w3 tb lb m nL n LL bv jv wk) (fun _ jv _=>m- (intOf jv).toNat)
     case atStart=>exact⟨0,kv,fv,Nat.zero_le _,rfl,rfl,qH (hLv.out.congr (fun i hi=>by rw [if_neg (by omega)]) (fun i hi=>by rw [if_neg (by omega)]))⟩
     case round=>
      obtain⟨i,kv2,fv2,hi,rfl,rfl,hL2⟩:=hrel;by_cases hlti:i<m
      ·obtain⟨x,hx⟩:∃x,ss[i]?=some x:=⟨_,qG (by rw [HSS.out.2];exact hlti)⟩;obtain⟨xb,xo,exa,xc0⟩:=(HXS.out.ext hL2.out.kp) i (.string x) (by simp [strs,hx]);subst exa;have HXI:=qH hx;clear hx hi;cases hp:dS LL i n
       ·have hn0:0<n:=by
         rcases Nat.eq_zero_or_pos n with h|h
         ·rw [h,aDw]at hp;cases hp
         ·exact h
        obtain⟨k,ek⟩:∃k,k=n-1:=⟨_,rfl⟩;have hkn:k<nL:=by omega
        obtain⟨pp,hpp⟩:∃pp,LL[k]?=some pp:=⟨_,qG (by rw [HN.out];exact hkn)⟩;have hpl:pp.length=m:=HL.out.2.1 pp (List.mem_of_getElem? hpp);obtain⟨pb,po,pa,pc,epo,pc0,hps⟩:=aLi HRI.out hL2.out.kp hpp;cases epo;rw [hpl]at pc0;obtain⟨y,hy⟩:∃y,pp[i]?=some y:=⟨_,qG (by rw [hpl];exact hlti)⟩;obtain⟨yb,yo,eya,yc0⟩:=hps i (.string y) (by simp [strs,hy]);subst eya;have hnext:dS LL (i+1) n=decide (y≠x):=by
         have h1:i<pp.length:=by rw [hpl];exact hlti
         have h2:i<ss.length:=by rw [HSS.out.2];exact hlti
         rw [aGc hn0 (by rw [<-ek];exact hpp) HSS.out.1 h1 h2,hp,Bool.false_or];have e1:pp[i]=y:=by rw [qG h1]at hy;exact Option.some.inj hy
         have e2:ss[i]=x:=by have h:=HXI.out;rw [qG h2]at h;exact Option.some.inj h
         rw [e1,e2]
        have hwk:IntKind.i64.wrap ((n:Int)-1)=(k:Int):=by rw [IntWalk.i64_in _ (by have:=HN.out;have:=HL.out.2.2;omega)];omega
        have hkn2:(k:Int)< (nL:Int):=by omega
        have hkn3:(0:Int)≤(k:Int):=by omega
        have hkn4:((k:Int)).toNat=k:=by omega
        have HK:=qH (nIX ek hn0);clear ek hn0 hpp hpl hps hy;by_cases hq:y=x
        ·have HPF:=qH (show dS LL (i+1) n=false from by rw [hnext];simp [hq]);subst hq;have hb:=str_eq y;clear hnext;go_wp2;go_roundw
         case rel=>exact⟨i+1,kv2,fv2,by omega,nMX,by rw [HPF.out],qH (hL2.out.congr (fun j hj=>by
          by_cases e:j=i
          ·subst e;rw [if_neg (Nat.lt_irrefl j),if_pos (by omega),tJ hlti HSS.out.1 HXI.out,if_neg (by rw [HPF.out];simp),List.append_nil]
          ·by_cases h:j<i
           ·rw [if_pos h,if_pos (by omega)]
           ·rw [if_neg h,if_neg (by omega)]) (fun j hj=>by
          by_cases e:j=i
          ·subst e;rw [if_neg (Nat.lt_irrefl j),if_pos (by omega),tM hlti,if_neg (by rw [HPF.out];simp),List.append_nil]
          ·by_cases h:j<i
           ·rw [if_pos h,if_pos (by omega)]
           ·rw [if_neg h,if_neg (by omega)]))⟩
         case measure=>simp [intOf];omega
        ·have HPT:=qH (show dS LL (i+1) n=true from by rw [hnext];simp [hq]);have hb:=kU hq;clear hnext hq;have hli:=hlti;have hwi:IntKind.i64.wrap ((i:Int)+1)=(i:Int)+1:=IntWalk.i64_in _ (by omega);obtain⟨ka,kc,ekv,kcs,hkc⟩:=(hL2.out.keys i hlti).shape;obtain⟨fa,fc,efv,fcs,hfc⟩:=(hL2.out.froms i hlti).shape;obtain⟨kn,ekn⟩:=nm ((cB LL m i (if i<i then n+1 else n)).length);obtain⟨fn,efn⟩:=nm ((cL LL m i (if i<i then n+1 else n)).length);have hknb:kn≤n:=by rw [<-ekn,if_neg (Nat.lt_irrefl i),fV];exact dV _ _ _ _
         have hfnb:fn≤n:=by rw [<-efn,if_neg (Nat.lt_irrefl i),iS];exact dV _ _ _ _
         have hn16:n<65536:=by have:=HN.out;have:=HL.out.2.2;omega
         rw [ekn]at ekv;rw [efn]at efv;have HKR:=qH (show Row wr 9 1 (.slice ka kn kc) kn (strs (cB LL m i (if i<i then n+1 else n))) (New w3)from by have h:=hL2.out.keys i hlti;rw [ekv,ekn]at h;exact h);have t0:=hL2.out.tri.c0;have k0:wr.cell? ⟨lb,i*2,none⟩=some (.slice ka kn kc):=by rw [hL2.out.blk.cell',(dM kv2 fv2 hlti).1,ekv]
         have HEK:=qH (nIX ekv (nIX efv (nIX ekn efn)));clear kcs fcs hkc hfc ekv efv ekn efn;go_wp2_with (first|(at_builtin;refine Halted.out ?_))
         refine Halted.mk (iN dZ rfl _ _ rfl rfl (HKR.out.alloc _) rfl (CellsAt.one wr (.string x) 9) (by rfl) (by simp;rfl) (by omega) (by unfold maxLen;omega) ?_);intro v4 w4 hr4 hk4;obtain⟨la4,lc4,ev4,_,_⟩:=hr4.shape;subst ev4;have hkw:Kp (fun g=>(kv2 i).ownBlock=some g) wr w4:=by rw [HEK.out.1];exact(Ext.kp ((Kp.refl wr).alloc _)).trans hk4
         have hL5:=qH (hL2.out.putK (x:=x) hlti (v':= .slice la4 (kn+1) lc4) (by rw [HEK.out.2.2.1,HEK.out.1];exact hr4.mono fun g hg=>hg.imp id (fun h=>Nat.le_trans ((Kp.refl wr).alloc (F:=fun _=>False) _).size h)) hkw);have hb4:Blk w4 lb (lI kv2 fv2 m) 244:=hL2.out.blk.kp hkw fun hg=>by obtain⟨cs,hb⟩:=aV (hL2.out.keys i hlti) hg;exact tY.2.2.2.1 (aQ hL2.out.blk hb)
         have k1:w4.cell? ⟨lb,i*2,none⟩=some (.slice ka kn kc):=by rw [hb4.cell',(dM kv2 fv2 hlti).1,HEK.out.1]
         have kf:=hb4.free (i*2);obtain⟨w5,e5⟩:=nm (w4.setCell ⟨lb,i*2,none⟩ (.slice la4 (kn+1) lc4));rw [e5]at hL5;clear hr4 hk4 hkw hb4 t0 k0;go_wp2;clear e5 k1 kf;have HWd:=qH (show ∀W',Ext w5 W'->Calls Tryz.prog 178 #[.pointer (some ⟨tb,0,none⟩),.int .i64 ((i:Int)+1),.int .i64 n] W' (RetN W' fun _ v=>v= .int .i64 (aR LL m (i+1) n:Nat))from fun W' hW'=>by
          have ei:((i+1:Nat):Int)=(i:Int)+1:=by omega
          have hLx:=hL5.out.ext hW';have tx:=hLx.tri.c0;rw [<-ei];by_cases h1:i+1<m
          ·have hr:=hLx.keys (i+1) h1;rw [aH _ _ (by omega:i+1≠i),aH _ _ (by omega:i+1≠i),if_neg (by omega),fV]at hr;obtain⟨kx,cx2,ex,_,_⟩:=hr.shape;have hc:=(dM (dQ kv2 i (.slice la4 (kn+1) lc4)) fv2 h1).1;rw [aH _ _ (by omega:i+1≠i),ex]at hc;exact wC (off:=0) tx h1 (by rw [hLx.blk.cell',Nat.zero_add];exact hc)
          ·have e:aR LL m (i+1) n=n:=by rw [show i+1=m by omega];exact qI
           rw [e];exact sT tx h1)
         obtain⟨wd,ewd⟩:=nm (aR LL m (i+1) n);rw [ewd]at HWd;have HED:=qH ewd;have HFR:=qH (show Row w5 3 1 (.slice fa fn fc) fn (ints (cL LL m i (if i<i then n+1 else n))) (New w3)from by have h:=hL5.out.froms i hlti;rw [HEK.out.2.1,HEK.out.2.2.2]at h;exact h);have HJ:=qH (show ∀w',Ext w5 w'->(fun w':World=>w'.cell? ⟨tb,0,none⟩=some (.slice (some ⟨lb,0,none⟩) m m)/\w'.cell? ⟨lb,i*2+1,none⟩=some (.slice fa fn fc)) w' from fun w' hw'=>⟨by rw [(hL5.out.tri.ext hw').cell'];rfl,by rw [(hL5.out.blk.ext hw').cell',(dM _ fv2 hlti).2,HEK.out.2.1]⟩);clear ewd;refine aT (fun w':World=>w'.cell? ⟨tb,0,none⟩=some (.slice (some ⟨lb,0,none⟩) m m)/\w'.cell? ⟨lb,i*2+1,none⟩=some (.slice fa fn fc)) [11,12,13,14] (by kernel_rfl) (HJ.out _ (Kp.refl w5).drew) (fun hHeld=>?_);refine eFX 0 ?_;refine eFX 1 ?_;refine eFX 2 ?_;refine eFX 3 ?_;refine eIX 4 ?_;refine eFX 5 ?_;refine eFX 6 ?_;refine eFX 7 ?_;refine eFX 8 ?_;refine eTX 9 fun K hK=>?_;go_simp
         (refine(HWd.out _ (Kp.refl w5).drew).mono ?_;rintro e w6 ⟨v6,rfl,hk6,rfl⟩;have X1:=qH (show Ext w5 w6 from((Kp.refl w5).drew).trans hk6);clear hk6)
         go_wp2_with fail
         refine hK.out _ _ (HJ.out _ X1.out) fun hHeld=>?_;clear hK K;refine eTX 10 fun K hK=>?_;go_simp;refine hK.out _ _ (HJ.out _ (X1.out.alloc _)) fun hHeld=>?_;clear hK K;refine eLX 11 fun K hK=>?_;refine jD (m:=1) (n:=fn) jK rfl _ _ rfl rfl ((HFR.out.ext X1.out).alloc _) rfl (CellsAt.one w6 _ _) (by rfl) (by simp;rfl) (by omega) (by unfold maxLen;omega) ?_;intro v7 w7 hr7 hk7;obtain⟨la7,lc7,ev7,_,_⟩:=hr7.shape;subst ev7;have X2:=qH (nIX (show Row w7 3 1 (.slice la7 (fn+1) lc7) (fn+1) (ints (cL LL m i (if i<i then n+1 else n))++ [.int .i64 (wd:Nat)]) (fun g=>(Value.slice fa fn fc).ownBlock=some g\/ (w6.alloc (.cells #[.int .i64 (wd:Nat)] 3)).heap.size≤g)from hr7) (show Kp (fun g=>(Value.slice fa fn fc).ownBlock=some g) (w6.alloc (.cells #[.int .i64 (wd:Nat)] 3)) w7 from hk7));clear hr7 hk7;have X3:=qH (hL5.out.blk.kp ((Ext.kp (X1.out.alloc (.cells #[.int .i64 (wd:Nat)] 3))).trans X2.out.2) fun hg=>(by obtain⟨cs,hb⟩:=aV HFR.out hg;exact tY.2.2.2.2.1 (aQ hL5.out.blk hb)));have f1:w7.cell? ⟨lb,i*2+1,none⟩=some (.slice fa fn fc):=by{rw [X3.out.cell',(dM _ fv2 hlti).2,HEK.out.2.1]};have ff:=X3.out.free (i*2+1)
         refine hK.out _ _ ?_;clear hK K;refine eLX 12 fun K hK=>?_;go_simp;refine hK.out _ _ ?_;clear hK K;refine eLX 13 fun K hK=>?_;go_simp;refine hK.out _ _ ?_;clear hK K;refine eLX 14 fun K hK=>?_;go_simp;refine hK.out _ _ ?_;clear hK K;refine aK (by kernel_rfl) ?_ _;clear hHeld;have HP2:=qH (hL5.out.putF (w':=w7) (x:=(wd:Nat)) hlti (v':= .slice la7 (fn+1) lc7) (by rw [HEK.out.2.2.2,HEK.out.2.1];exact X2.out.1.mono fun g hg=>hg.imp id (fun h=>Nat.le_trans (X1.out.alloc (.cells #[.int .i64 (wd:Nat)] 3)).size h)) (by rw [HEK.out.2.1];exact(Ext.kp (X1.out.alloc _)).trans X2.out.2));obtain⟨w8,e8⟩:=nm (w7.setCell ⟨lb,i*2+1,none⟩ (.slice la7 (fn+1) lc7));rw [e8]at HP2 ⊢;clear e8 f1 ff;go_wp2;go_roundw
         case rel=>exact⟨i+1,_,_,by omega,nMX,by rw [HPT.out],qH (HP2.out.congr (fun j hj=>by
          by_cases e:j=i
          ·subst e;rw [upd_same,if_neg (Nat.lt_irrefl j),if_pos (by omega),tJ hlti HSS.out.1 HXI.out,if_pos HPT.out]
          ·rw [aH _ _ e];by_cases h:j<i
           ·rw [if_pos h,if_pos (by omega)]
           ·rw [if_neg h,if_neg (by omega)]) (fun j hj=>by
          by_cases e:j=i
          ·subst e;rw [upd_same,if_neg (Nat.lt_irrefl j),if_pos (by omega),tM hlti,if_pos HPT.out,HED.out]
          ·rw [aH _ _ e];by_cases h:j<i
           ·rw [if_pos h,if_pos (by omega)]
           ·rw [if_neg h,if_neg (by omega)]))⟩
         case measure=>simp [intOf];omega
       ·have HPT:=qH (show dS LL (i+1) n=true from by
         rcases fI.1 hp with h|h
         ·exact fI.2 (.inl h)
         ·refine fI.2 (.inr fun e=>h ?_);have h2:=congrArg (List.take i) e
          rwa [List.take_take,List.take_take,Nat.min_eq_left (Nat.le_succ i)]at h2)
        have hli:=hlti;have hwi:IntKind.i64.wrap ((i:Int)+1)=(i:Int)+1:=IntWalk.i64_in _ (by omega);obtain⟨ka,kc,ekv,kcs,hkc⟩:=(hL2.out.keys i hlti).shape;obtain⟨fa,fc,efv,fcs,hfc⟩:=(hL2.out.froms i hlti).shape;obtain⟨kn,ekn⟩:=nm ((cB LL m i (if i<i then n+1 else n)).length);obtain⟨fn,efn⟩:=nm ((cL LL m i (if i<i then n+1 else n)).length);have hknb:kn≤n:=by rw [<-ekn,if_neg (Nat.lt_irrefl i),fV];exact dV _ _ _ _
        have hfnb:fn≤n:=by rw [<-efn,if_neg (Nat.lt_irrefl i),iS];exact dV _ _ _ _
        have hn16:n<65536:=by have:=HN.out;have:=HL.out.2.2;omega
        rw [ekn]at ekv;rw [efn]at efv;have HKR:=qH (show Row wr 9 1 (.slice ka kn kc) kn (strs (cB LL m i (if i<i then n+1 else n))) (New w3)from by have h:=hL2.out.keys i hlti;rw [ekv,ekn]at h;exact h);have t0:=hL2.out.tri.c0;have k0:wr.cell? ⟨lb,i*2,none⟩=some (.slice ka kn kc):=by rw [hL2.out.blk.cell',(dM kv2 fv2 hlti).1,ekv]
        have HEK:=qH (nIX ekv (nIX efv (nIX ekn efn)));clear kcs fcs hkc hfc ekv efv ekn efn;go_wp2_with (first|(at_builtin;refine Halted.out ?_))
        refine Halted.mk (iN dZ rfl _ _ rfl rfl (HKR.out.alloc _) rfl (CellsAt.one wr (.string x) 9) (by rfl) (by simp;rfl) (by omega) (by unfold maxLen;omega) ?_);intro v4 w4 hr4 hk4;obtain⟨la4,lc4,ev4,_,_⟩:=hr4.shape;subst ev4;have hkw:Kp (fun g=>(kv2 i).ownBlock=some g) wr w4:=by rw [HEK.out.1];exact(Ext.kp ((Kp.refl wr).alloc _)).trans hk4
        have hL5:=qH (hL2.out.putK (x:=x) hlti (v':= .slice la4 (kn+1) lc4) (by rw [HEK.out.2.2.1,HEK.out.1];exact hr4.mono fun g hg=>hg.imp id (fun h=>Nat.le_trans ((Kp.refl wr).alloc (F:=fun _=>False) _).size h)) hkw);have hb4:Blk w4 lb (lI kv2 fv2 m) 244:=hL2.out.blk.kp hkw fun hg=>by obtain⟨cs,hb⟩:=aV (hL2.out.keys i hlti) hg;exact tY.2.2.2.1 (aQ hL2.out.blk hb)
        have k1:w4.cell? ⟨lb,i*2,none⟩=some (.slice ka kn kc):=by rw [hb4.cell',(dM kv2 fv2 hlti).1,HEK.out.1]
        have kf:=hb4.free (i*2);obtain⟨w5,e5⟩:=nm (w4.setCell ⟨lb,i*2,none⟩ (.slice la4 (kn+1) lc4));rw [e5]at hL5;clear hr4 hk4 hkw hb4 t0 k0;go_wp2;clear e5 k1 kf;have HWd:=qH (show ∀W',Ext w5 W'->Calls Tryz.prog 178 #[.pointer (some ⟨tb,0,none⟩),.int .i64 ((i:Int)+1),.int .i64 n] W' (RetN W' fun _ v=>v= .int .i64 (aR LL m (i+1) n:Nat))from fun W' hW'=>by
         have ei:((i+1:Nat):Int)=(i:Int)+1:=by omega
         have hLx:=hL5.out.ext hW';have tx:=hLx.tri.c0;rw [<-ei];by_cases h1:i+1<m
         ·have hr:=hLx.keys (i+1) h1;rw [aH _ _ (by omega:i+1≠i),aH _ _ (by omega:i+1≠i),if_neg (by omega),fV]at hr;obtain⟨kx,cx2,ex,_,_⟩:=hr.shape;have hc:=(dM (dQ kv2 i (.slice la4 (kn+1) lc4)) fv2 h1).1;rw [aH _ _ (by omega:i+1≠i),ex]at hc;exact wC (off:=0) tx h1 (by rw [hLx.blk.cell',Nat.zero_add];exact hc)
         ·have e:aR LL m (i+1) n=n:=by rw [show i+1=m by omega];exact qI
          rw [e];exact sT tx h1)
        obtain⟨wd,ewd⟩:=nm (aR LL m (i+1) n);rw [ewd]at HWd;have HED:=qH ewd;have HFR:=qH (show Row w5 3 1 (.slice fa fn fc) fn (ints (cL LL m i (if i<i then n+1 else n))) (New w3)from by have h:=hL5.out.froms i hlti;rw [HEK.out.2.1,HEK.out.2.2.2]at h;exact h);have HJ:=qH (show ∀w',Ext w5 w'->(fun w':World=>w'.cell? ⟨tb,0,none⟩=some (.slice (some ⟨lb,0,none⟩) m m)/\w'.cell? ⟨lb,i*2+1,none⟩=some (.slice fa fn fc)) w' from fun w' hw'=>⟨by rw [(hL5.out.tri.ext hw').cell'];rfl,by rw [(hL5.out.blk.ext hw').cell',(dM _ fv2 hlti).2,HEK.out.2.1]⟩);clear ewd;refine aT (fun w':World=>w'.cell? ⟨tb,0,none⟩=some (.slice (some ⟨lb,0,none⟩) m m)/\w'.cell? ⟨lb,i*2+1,none⟩=some (.slice fa fn fc)) [11,12,13,14] (by kernel_rfl) (HJ.out _ (Kp.refl w5).drew) (fun hHeld=>?_);refine eFX 0 ?_;refine eFX 1 ?_;refine eFX 2 ?_;refine eFX 3 ?_;refine eIX 4 ?_;refine eFX 5 ?_;refine eFX 6 ?_;refine eFX 7 ?_;refine eFX 8 ?_;refine eTX 9 fun K hK=>?_;go_simp
        (refine(HWd.out _ (Kp.refl w5).drew).mono ?_;rintro e w6 ⟨v6,rfl,hk6,rfl⟩;have X1:=qH (show Ext w5 w6 from((Kp.refl w5).drew).trans hk6);clear hk6)
        go_wp2_with fail
        refine hK.out _ _ (HJ.out _ X1.out) fun hHeld=>?_;clear hK K;refine eTX 10 fun K hK=>?_;go_simp;refine hK.out _ _ (HJ.out _ (X1.out.alloc _)) fun hHeld=>?_;clear hK K;refine eLX 11 fun K hK=>?_;refine jD (m:=1) (n:=fn) jK rfl _ _ rfl rfl ((HFR.out.ext X1.out).alloc _) rfl (CellsAt.one w6 _ _) (by rfl) (by simp;rfl) (by omega) (by unfold maxLen;omega) ?_;intro v7 w7 hr7 hk7;obtain⟨la7,lc7,ev7,_,_⟩:=hr7.shape;subst ev7;have X2:=qH (nIX (show Row w7 3 1 (.slice la7 (fn+1) lc7) (fn+1) (ints (cL LL m i (if i<i then n+1 else n))++ [.int .i64 (wd:Nat)]) (fun g=>(Value.slice fa fn fc).ownBlock=some g\/ (w6.alloc (.cells #[.int .i64 (wd:Nat)] 3)).heap.size≤g)from hr7) (show Kp (fun g=>(Value.slice fa fn fc).ownBlock=some g) (w6.alloc (.cells #[.int .i64 (wd:Nat)] 3)) w7 from hk7));clear hr7 hk7;have X3:=qH (hL5.out.blk.kp ((Ext.kp (X1.out.alloc (.cells #[.int .i64 (wd:Nat)] 3))).trans X2.out.2) fun hg=>(by obtain⟨cs,hb⟩:=aV HFR.out hg;exact tY.2.2.2.2.1 (aQ hL5.out.blk hb)));have f1:w7.cell? ⟨lb,i*2+1,none⟩=some (.slice fa fn fc):=by{rw [X3.out.cell',(dM _ fv2 hlti).2,HEK.out.2.1]};have ff:=X3.out.free (i*2+1)
        refine hK.out _ _ ?_;clear hK K;refine eLX 12 fun K hK=>?_;go_simp;refine hK.out _ _ ?_;clear hK K;refine eLX 13 fun K hK=>?_;go_simp;refine hK.out _ _ ?_;clear hK K;refine eLX 14 fun K hK=>?_;go_simp;refine hK.out _ _ ?_;clear hK K;refine aK (by kernel_rfl) ?_ _;clear hHeld;have HP2:=qH (hL5.out.putF (w':=w7) (x:=(wd:Nat)) hlti (v':= .slice la7 (fn+1) lc7) (by rw [HEK.out.2.2.2,HEK.out.2.1];exact X2.out.1.mono fun g hg=>hg.imp id (fun h=>Nat.le_trans (X1.out.alloc (.cells #[.int .i64 (wd:Nat)] 3)).size h)) (by rw [HEK.out.2.1];exact(Ext.kp (X1.out.alloc _)).trans X2.out.2));obtain⟨w8,e8⟩:=nm (w7.setCell ⟨lb,i*2+1,none⟩ (.slice la7 (fn+1) lc7));rw [e8]at HP2 ⊢;clear e8 f1 ff;go_wp2;go_roundw
        case rel=>exact⟨i+1,_,_,by omega,nMX,by rw [HPT.out],qH (HP2.out.congr (fun j hj=>by
         by_cases e:j=i
         ·subst e;rw [upd_same,if_neg (Nat.lt_irrefl j),if_pos (by omega),tJ hlti HSS.out.1 HXI.out,if_pos HPT.out]
         ·rw [aH _ _ e];by_cases h:j<i
          ·rw [if_pos h,if_pos (by omega)]
          ·rw [if_neg h,if_neg (by omega)]) (fun j hj=>by
         by_cases e:j=i
         ·subst e;rw [upd_same,if_neg (Nat.lt_irrefl j),if_pos (by omega),tM hlti,if_pos HPT.out,HED.out]
         ·rw [aH _ _ e];by_cases h:j<i
          ·rw [if_pos h,if_pos (by omega)]
          ·rw [if_neg h,if_neg (by omega)]))⟩
        case measure=>simp [intOf];omega
      ·obtain rfl:m=i:=by omega
       have hnb:n<65536:=by have:=HN.out;have:=HL.out.2.2;omega
       have HNX:=qH (hL2.out.congr (ks':=fun i=>cB LL m i (n+1)) (fs':=fun i=>cL LL m i (n+1)) (fun j hj=>by rw [if_pos hj]) (fun j hj=>by rw [if_pos hj]));clear hL2;go_wp2;go_roundw
       case rel=>exact⟨n+1,kv2,fv2,by omega,nMX,HNX⟩
       case measure=>simp [intOf];omega
    ·obtain rfl:nL=n:=by omega
     have hn16:nL≤65536:=by have:=HN.out;have:=HL.out.2.2;omega
     have HL0:=qH (hLv.out.congr (ks':=fun i=>cB LL m i nL) (fs':=fun i=>cL LL m i nL++if i<0 then [(aR LL m (i+1) nL:Int)]else []) (fun j hj=>rfl) (fun j hj=>by rw [if_neg (by omega),List.append_nil]));have t0:=hLv.out.tri.c0;clear hLv hn hltn;go_wp2;clear t0;go_loopw [119] (fun jv wk=>EndTo w3 tb lb m nL LL jv wk) (fun jv _=>m- (intOf jv).toNat)
     case atStart=>exact⟨0,kv,fv,Nat.zero_le _,rfl,HL0⟩
     case round=>
      obtain⟨i,kv2,fv2,hi,rfl,hL2⟩:=hrel;by_cases hlti:i<m
      ·have hwi:IntKind.i64.wrap ((i:Int)+1)=(i:Int)+1:=IntWalk.i64_in _ (by omega);have hlti2:(i:Int)< (m:Int):=by omega
       obtain⟨fa,fc,efv,fcs,hfc⟩:=(hL2.out.froms i hlti).shape;obtain⟨fn,efn⟩:=nm ((cL LL m i nL++if i<i then [(aR LL m (i+1) nL:Int)]else []).length);have hfnb:fn≤nL:=by rw [<-efn,if_neg (Nat.lt_irrefl i),List.append_nil,iS];exact dV _ _ _ _
       rw [efn]at efv;have HEK:=qH (nIX efv efn);clear fcs hfc efv efn hi;have HWd:=qH (show ∀W',Ext wr W'->Calls Tryz.prog 178 #[.pointer (some ⟨tb,0,none⟩),.int .i64 ((i:Int)+1),.int .i64 nL] W' (RetN W' fun _ v=>v= .int .i64 (aR LL m (i+1) nL:Nat))from fun W' hW'=>by
        have ei:((i+1:Nat):Int)=(i:Int)+1:=by omega
        have hLx:=hL2.out.ext hW';have tx:=hLx.tri.c0;rw [<-ei];by_cases h1:i+1<m
        ·have hr:=hLx.keys (i+1) h1;rw [fV]at hr;obtain⟨kx,cx2,ex,_,_⟩:=hr.shape;have hc:=(dM kv2 fv2 h1).1;rw [ex]at hc;exact wC (off:=0) tx h1 (by rw [hLx.blk.cell',Nat.zero_add];exact hc)
        ·have e:aR LL m (i+1) nL=nL:=by rw [show i+1=m by omega];exact qI
         rw [e];exact sT tx h1)
       obtain⟨wd,ewd⟩:=nm (aR LL m (i+1) nL);rw [ewd]at HWd;have HED:=qH ewd;have HFR:=qH (show Row wr 3 1 (.slice fa fn fc) fn (ints (cL LL m i nL++if i<i then [(aR LL m (i+1) nL:Int)]else [])) (New w3)from by have h:=hL2.out.froms i hlti;rw [HEK.out.1,HEK.out.2]at h;exact h);have HJ:=qH (show ∀w',Ext wr w'->(fun w':World=>w'.cell? ⟨tb,0,none⟩=some (.slice (some ⟨lb,0,none⟩) m m)/\w'.cell? ⟨lb,i*2+1,none⟩=some (.slice fa fn fc)) w' from fun w' hw'=>⟨by rw [(hL2.out.tri.ext hw').cell'];rfl,by rw [(hL2.out.blk.ext hw').cell',(dM _ fv2 hlti).2,HEK.out.1]⟩);clear ewd;go_wp2;refine aT (fun w':World=>w'.cell? ⟨tb,0,none⟩=some (.slice (some ⟨lb,0,none⟩) m m)/\w'.cell? ⟨lb,i*2+1,none⟩=some (.slice fa fn fc)) [21,22,23] (by kernel_rfl) (HJ.out _ (Kp.refl wr).drew) (fun hHeld=>?_);refine eFX 0 ?_;refine eFX 1 ?_;refine eFX 2 ?_;refine eIX 3 ?_;refine eFX 4 ?_;refine eFX 5 ?_;refine eFX 6 ?_;refine eFX 7 ?_;refine eIX 8 ?_;refine eFX 9 ?_;refine eIX 10 ?_;refine eFX 11 ?_;refine eIX 12 ?_;refine eFX 13 ?_;refine eFX 14 ?_;refine eFX 15 ?_;refine eFX 16 ?_;refine eIX 17 ?_;refine eTX 18 fun K hK=>?_;go_simp
       (refine(HWd.out _ (Kp.refl wr).drew).mono ?_;rintro e w6 ⟨v6,rfl,hk6,rfl⟩;have X1:=qH (show Ext wr w6 from((Kp.refl wr).drew).trans hk6);clear hk6)
       go_wp2_with fail
       refine hK.out _ _ (HJ.out _ X1.out) fun hHeld=>?_;clear hK K;refine eTX 19 fun K hK=>?_;go_simp;refine hK.out _ _ (HJ.out _ (X1.out.alloc _)) fun hHeld=>?_;clear hK K;refine eTX 20 fun K hK=>?_;refine jD (m:=1) (n:=fn) jK rfl _ _ rfl rfl ((HFR.out.ext X1.out).alloc _) rfl (CellsAt.one w6 _ _) (by rfl) (by simp;rfl) (by omega) (by unfold maxLen;omega) ?_;intro v7 w7 hr7 hk7;obtain⟨la7,lc7,ev7,_,_⟩:=hr7.shape;subst ev7;have X2:=qH (nIX (show Row w7 3 1 (.slice la7 (fn+1) lc7) (fn+1) (ints (cL LL m i nL++if i<i then [(aR LL m (i+1) nL:Int)]else [])++ [.int .i64 (wd:Nat)]) (fun g=>(Value.slice fa fn fc).ownBlock=some g\/ (w6.alloc (.cells #[.int .i64 (wd:Nat)] 3)).heap.size≤g)from hr7) (show Kp (fun g=>(Value.slice fa fn fc).ownBlock=some g) (w6.alloc (.cells #[.int .i64 (wd:Nat)] 3)) w7 from hk7));clear hr7 hk7;have X3:=qH (hL2.out.blk.kp ((Ext.kp (X1.out.alloc (.cells #[.int .i64 (wd:Nat)] 3))).trans X2.out.2) fun hg=>(by obtain⟨cs,hb⟩:=aV HFR.out hg;exact tY.2.2.2.2.1 (aQ hL2.out.blk hb)));have X4:=qH (hL2.out.tri.kp ((Ext.kp (X1.out.alloc (.cells #[.int .i64 (wd:Nat)] 3))).trans X2.out.2) fun hg=>(by obtain⟨cs,hb⟩:=aV HFR.out hg;exact tY.2.2.1 (aQ hL2.out.tri hb)));have f1:w7.cell? ⟨lb,i*2+1,none⟩=some (.slice fa fn fc):=by{rw [X3.out.cell',(dM _ fv2 hlti).2,HEK.out.1]};have ff:=X3.out.free (i*2+1)
       refine hK.out _ _ (by exact⟨by rw [X4.out.cell'];rfl,f1⟩) fun hHeld=>?_;clear hK K;refine eLX 21 fun K hK=>?_;go_simp;refine hK.out _ _ ?_;clear hK K;refine eLX 22 fun K hK=>?_;go_simp;refine hK.out _ _ ?_;clear hK K;refine eLX 23 fun K hK=>?_;go_simp;refine hK.out _ _ ?_;clear hK K;refine aK (by kernel_rfl) ?_ _;clear hHeld;have HP2:=qH (hL2.out.putF (w':=w7) (x:=(wd:Nat)) hlti (v':= .slice la7 (fn+1) lc7) (by rw [HEK.out.2,HEK.out.1];exact X2.out.1.mono fun g hg=>hg.imp id (fun h=>Nat.le_trans (X1.out.alloc (.cells #[.int .i64 (wd:Nat)] 3)).size h)) (by rw [HEK.out.1];exact(Ext.kp (X1.out.alloc _)).trans X2.out.2));obtain⟨w8,e8⟩:=nm (w7.setCell ⟨lb,i*2+1,none⟩ (.slice la7 (fn+1) lc7));rw [e8]at HP2 ⊢;clear e8 f1 ff;go_wp2;go_roundw
       case rel=>exact⟨i+1,_,_,by omega,nMX,qH (HP2.out.congr (fun j hj=>rfl) (fun j hj=>by
        by_cases e:j=i
        ·subst e;rw [upd_same,if_neg (Nat.lt_irrefl j),if_pos (by omega),List.append_nil,HED.out]
        ·rw [aH _ _ e];by_cases h:j<i
         ·rw [if_pos h,if_pos (by omega)]
         ·rw [if_neg h,if_neg (by omega)]))⟩
       case measure=>simp [intOf];omega
      ·obtain rfl:m=i:=by omega
       have HD:=qH (hL2.out.done (W:=LL) HN.out.symm hm HL.out.2.2 (fun j hj=>by rw [HN.out]) (fun j hj=>by rw [if_pos hj,HN.out]));go_wp2;go_ret2;have hx:Ext w wr:=H3.out.1.trans hL2.out.kp;exact RetN.mk hx ⟨tb,rfl,Nat.le_trans H3.out.1.size hL2.out.new.1,HD.out.mono H3.out.1.size (Nat.le_refl _)⟩
def aAb(mb ab sb nv:Nat)(tv:Value)(av sv:Nat->Value)(k:Nat):Prop:=k=mb\/k=ab\/k=sb\/tv.ownBlock=some k\/ (∃v,v<nv/\(av v).ownBlock=some k)\/∃j,j<nv+1/\(sv j).ownBlock=some k
def iD(E:Nat->Prop)(mb ab sb nv:Nat)(tv:Value)(av sv:Nat->Value)(k:Nat):Prop:=aAb mb ab sb nv tv av sv k\/E k
def HeldF(lo:Nat)(own:Nat->Prop)(w:World)(P:World->Prop):Prop:=∃a b,lo≤a/\b≤w.heap.size/\Fast a b w P/\∀k,own k->¬(a≤k/\k<b)
theorem HeldF.turn{lo:Nat}{own own':Nat->Prop}{w w':World}{P:World->Prop}{F:Nat->Prop}(h:HeldF lo own w P)(hk:Kp F w w')(hF:∀k,F k->k<w.heap.size->own k)(ho:∀k,own' k->own k\/w.heap.size≤k):HeldF lo own' w' P:=by
 obtain⟨a,b,h1,h2,h3,h4⟩:=h;refine⟨a,b,h1,Nat.le_trans h2 hk.size,h3.kp (G:=F) hk fun k hf hab=>h4 k (hF k hf (by omega)) hab,fun k hk' hab=>?_⟩;rcases ho k hk' with h|h
 ·exact h4 k h hab
 ·omega
theorem HeldF.here{lo:Nat}{own:Nat->Prop}{w:World}{P:World->Prop}(h:HeldF lo own w P):Fast lo w.heap.size w P:=by obtain⟨a,b,h1,h2,h3,h4⟩:=h;exact h3.mono h1 h2
theorem rP(f:Nat->Value){n v:Nat}(hv:v<n)(x:Value):((List.range n).map f).set v x=(List.range n).map (dQ f v x):=by
 refine List.ext_getElem (by simp) fun i h1 h2=>?_;have hi:i<n:=by simpa using h2
 rw [List.getElem_set];simp only [List.getElem_map,List.getElem_range];by_cases e:v=i
 ·rw [if_pos e,<-e,upd_same]
 ·rw [if_neg e,aH _ _ fun e2=>e e2.symm]
theorem fH(f:Nat->Value){n v:Nat}(hv:v<n):((List.range n).map f)[v]?=some (f v):=by rw [List.getElem?_map,List.getElem?_range hv];rfl
theorem cC{F:Nat->Prop}{w w':World}{g:Nat}{cs:List Value}{e e':TypeId}(h:Blk w g cs e')(hk:Kp F w w')(hF:∀k,F k->∃cs,Blk w k cs e)(hne:e≠e'):Blk w' g cs e':=h.kp hk fun hf=>by obtain⟨cs,hb⟩:=hF _ hf;exact hne (aQ hb h)
theorem cT{F:Nat->Prop}{w w':World}{e e':TypeId}{k n:Nat}{v:Value}{xs:List Value}{M:Nat->Prop}(h:Row w e' k v n xs M)(hk:Kp F w w')(hF:∀k,F k->∃cs,Blk w k cs e)(hne:e≠e'):Row w' e' k v n xs M:=h.kp' hk fun g hg _ hf=>by obtain⟨cs,hb⟩:=hF _ hf;obtain⟨cs2,hb2⟩:=aV h hg;exact hne (aQ hb hb2)
def aGi(l:List Nat):List Value:=ints (l.map fun(j:Nat)=>(j:Int))
theorem aJq(l:List Nat)(x:Nat):aGi (l++ [x])=aGi l++ [.int .i64 (x:Nat)]:=by unfold aGi ints;simp
structure MatSt(E:Nat->Prop)(lo:Nat)(w0 w:World)(mb ab sb nv:Nat)(na:Option Addr)(nc:Nat)(Ts:List TrieZ)(ats:Nat->List Nat)(tests:Nat->List TestZ)(tv:Value)(av sv:Nat->Value):Prop where
 box:Blk w mb [.slice na nv nc,tv,.slice (some ⟨ab,0,none⟩) nv nv,.slice (some ⟨sb,0,none⟩) (nv+1) (nv+1)] 172
 ptrs:Row w 187 1 tv Ts.length (Ts.map lW) (fun g=>lo≤g)
 atB:Blk w ab ((List.range nv).map av) 173
 slB:Blk w sb ((List.range (nv+1)).map sv) 214
 atR:∀v,v<nv->Row w 3 1 (av v) (ats v).length (aGi (ats v)) (fun g=>lo≤g)
 slR:∀k,k<nv+1->Row w 180 2 (sv k) (tests k).length ((tests k).flatMap mU) (fun g=>lo≤g)
 afar:∀i j,i<nv->j<nv->i≠j->∀g,(av i).ownBlock=some g->(av j).ownBlock≠some g
 sfar:∀i j,i<nv+1->j<nv+1->i≠j->∀g,(sv i).ownBlock=some g->(sv j).ownBlock≠some g
 tries:∀t∈Ts,HeldF lo (iD E mb ab sb nv tv av sv) w fun W=>TrieAt W t.tb t.W t.vs.length
 tells:∀k,k<nv+1->∀t∈tests k,HeldF lo (iD E mb ab sb nv tv av sv) w fun W=>TestOk W nv t
 new:lo≤mb/\lo≤ab/\lo≤sb
 low:w0.heap.size≤lo
 kp:Ext w0 w
theorem iY:172≠187/\172≠173/\172≠214/\172≠3/\172≠180/\187≠173/\187≠214/\187≠3/\187≠180/\
 173≠214/\173≠3/\173≠180/\214≠3/\214≠180/\3≠180:=by decide
section
variable {E:Nat->Prop}{lo:Nat}{w0 w w':World}{mb ab sb nv nc:Nat}{na:Option Addr}{Ts:List TrieZ}{ats:Nat->List Nat}{tests:Nat->List TestZ}{tv:Value}{av sv:Nat->Value}
theorem MatSt.ext(h:MatSt E lo w0 w mb ab sb nv na nc Ts ats tests tv av sv)(hk:Ext w w'):MatSt E lo w0 w' mb ab sb nv na nc Ts ats tests tv av sv:=
 ⟨h.box.ext hk,h.ptrs.ext hk,h.atB.ext hk,h.slB.ext hk,fun v hv=>(h.atR v hv).ext hk,fun v hv=>(h.slR v hv).ext hk,h.afar,h.sfar,fun t ht=>(h.tries t ht).turn hk (fun _ h=>h.elim) fun k hk=> .inl hk,fun k hk' t ht=>(h.tells k hk' t ht).turn hk (fun _ h=>h.elim) fun k hk=> .inl hk,h.new,h.low,h.kp.trans hk⟩
theorem MatSt.congr{ats':Nat->List Nat}{tests':Nat->List TestZ}(h:MatSt E lo w0 w mb ab sb nv na nc Ts ats tests tv av sv)(h1:∀i,i<nv->ats i=ats' i)(h2:∀i,i<nv+1->tests i=tests' i):MatSt E lo w0 w mb ab sb nv na nc Ts ats' tests' tv av sv:=
 ⟨h.box,h.ptrs,h.atB,h.slB,fun v hv=>by rw [<-h1 v hv];exact h.atR v hv,fun v hv=>by rw [<-h2 v hv];exact h.slR v hv,h.afar,h.sfar,h.tries,fun k hk t ht=>h.tells k hk t (by rw [h2 k hk];exact ht),h.new,h.low,h.kp⟩
theorem MatSt.lt(h:MatSt E lo w0 w mb ab sb nv na nc Ts ats tests tv av sv):∀k,aAb mb ab sb nv tv av sv k->k<w.heap.size:=fun k hk=>by
 rcases hk with rfl|rfl|rfl|hk|⟨v,hv,hk⟩|⟨v,hv,hk⟩
 ·exact h.box.lt
 ·exact h.atB.lt
 ·exact h.slB.lt
 ·exact h.ptrs.lt k hk
 ·exact(h.atR v hv).lt k hk
 ·exact(h.slR v hv).lt k hk
theorem MatSt.beside{E':Nat->Prop}(h:MatSt E lo w0 w mb ab sb nv na nc Ts ats tests tv av sv)(hE:∀k,E' k->E k\/w.heap.size≤k):MatSt E' lo w0 w mb ab sb nv na nc Ts ats tests tv av sv:=
 ⟨h.box,h.ptrs,h.atB,h.slB,h.atR,h.slR,h.afar,h.sfar,fun t ht=>(h.tries t ht).turn (Kp.refl (F:=fun _=>False) _) (fun _ h=>h.elim) fun k hk=>hk.elim (fun h=> .inl (.inl h)) fun h=>(hE k h).imp .inr id,fun k hk' t ht=>(h.tells k hk' t ht).turn (Kp.refl (F:=fun _=>False) _) (fun _ h=>h.elim) fun k hk=>hk.elim (fun h=> .inl (.inl h)) fun h=>(hE k h).imp .inr id,h.new,h.low,h.kp⟩
theorem MatSt.wrote{F:Nat->Prop}(h:MatSt E lo w0 w mb ab sb nv na nc Ts ats tests tv av sv)(hk:Kp F w w')(hF:∀k,F k->E k/\¬aAb mb ab sb nv tv av sv k/\w0.heap.size≤k):MatSt E lo w0 w' mb ab sb nv na nc Ts ats tests tv av sv:=
 ⟨h.box.kp hk fun hf=>(hF _ hf).2.1 (.inl rfl),h.ptrs.kp' hk fun g hg _ hf=>(hF _ hf).2.1 (.inr (.inr (.inr (.inl hg)))),h.atB.kp hk fun hf=>(hF _ hf).2.1 (.inr (.inl rfl)),h.slB.kp hk fun hf=>(hF _ hf).2.1 (.inr (.inr (.inl rfl))),
  fun v hv=>(h.atR v hv).kp' hk fun g hg _ hf=>(hF _ hf).2.1 (.inr (.inr (.inr (.inr (.inl ⟨v,hv,hg⟩))))),fun v hv=>(h.slR v hv).kp' hk fun g hg _ hf=>(hF _ hf).2.1 (.inr (.inr (.inr (.inr (.inr ⟨v,hv,hg⟩))))),h.afar,h.sfar,
  fun t ht=>(h.tries t ht).turn hk (fun k hf _=> .inr (hF k hf).1) fun k hk=> .inl hk,fun k hk' t ht=>(h.tells k hk' t ht).turn hk (fun k hf _=> .inr (hF k hf).1) fun k hk=> .inl hk,h.new,h.low,h.kp.trans' hk fun i hi hf=>by have:=(hF i hf).2.2;omega⟩
theorem MatSt.putAt(h:MatSt E lo w0 w mb ab sb nv na nc Ts ats tests tv av sv){v:Nat}(hv:v<nv){x:Nat}{v':Value}(hr:Row w' 3 1 v' ((ats v).length+1) (aGi (ats v)++ [.int .i64 (x:Nat)]) (fun g=>(av v).ownBlock=some g\/w.heap.size≤g))(hk:Kp (fun g=>(av v).ownBlock=some g) w w'):
 MatSt E lo w0 (w'.setCell ⟨ab,v,none⟩ v') mb ab sb nv na nc Ts (dQ ats v (ats v++ [x])) tests tv (dQ av v v') sv:=by
 obtain⟨t1,t2,t3,t4,t5,t6,t7,t8,t9,t10,t11,t12,t13,t14,t15⟩:=iY;have ks:Kp (fun k=>k=ab) w' (w'.setCell ⟨ab,v,none⟩ v'):=kSa;have own:∀g,(av v).ownBlock=some g->∃cs,Blk w g cs 3:=fun g hg=>aV (h.atR v hv) hg;have hatB:Blk w' ab ((List.range nv).map av) 173:=cC h.atB hk own (Ne.symm t11);have own2:∀g,g=ab->∃cs,Blk w' g cs 173:=fun g e=>by rw [e];exact⟨_,hatB⟩
 have hkp:Ext w0 w':=h.kp.trans' hk fun g hg e=>by have h2:lo≤g:=(h.atR v hv).block g e;have:=h.low;omega
 have hsz:=hk.size;have lowsz:lo≤w.heap.size:=Nat.le_trans h.new.1 (Nat.le_of_lt h.box.lt);have ho:∀k,aAb mb ab sb nv tv (dQ av v v') sv k->aAb mb ab sb nv tv av sv k\/w.heap.size≤k:=fun k hk'=>by
  rcases hk' with e|e|e|e|⟨u,hu,e⟩|e
  ·exact .inl (.inl e)
  ·exact .inl (.inr (.inl e))
  ·exact .inl (.inr (.inr (.inl e)))
  ·exact .inl (.inr (.inr (.inr (.inl e))))
  ·by_cases e2:u=v
   ·subst e2;rw [upd_same]at e;rcases hr.block k e with h3|h3
    ·exact .inl (.inr (.inr (.inr (.inr (.inl ⟨u,hu,h3⟩)))))
    ·exact .inr h3
   ·rw [aH _ _ e2]at e;exact .inl (.inr (.inr (.inr (.inr (.inl ⟨u,hu,e⟩)))))
  ·exact .inl (.inr (.inr (.inr (.inr (.inr e)))))
 have hkk:Kp (fun k=>(av v).ownBlock=some k\/k=ab) w (w'.setCell ⟨ab,v,none⟩ v'):=(hk.mono fun k _ h=>Or.inl h).trans (ks.mono fun k _ h=>Or.inr h);have turn:∀{P:World->Prop},HeldF lo (iD E mb ab sb nv tv av sv) w P->HeldF lo (iD E mb ab sb nv tv (dQ av v v') sv) (w'.setCell ⟨ab,v,none⟩ v') P:=fun{P} hP=>
  hP.turn hkk (fun k hf _=>by
   rcases hf with hf|hf
   ·exact .inl (.inr (.inr (.inr (.inr (.inl ⟨v,hv,hf⟩)))))
   ·exact .inl (.inr (.inl hf))) fun k hk=>hk.elim (fun h=>(ho k h).imp .inl id) fun h=> .inl (.inr h)
 refine⟨cC (cC h.box hk own (Ne.symm t4)) ks own2 (Ne.symm t2),cT (cT h.ptrs hk own (Ne.symm t8)) ks own2 (Ne.symm t6),by rw [<-rP av hv];exact hatB.set _ _,cC (cC h.slB hk own (Ne.symm t13)) ks own2 t10,fun u hu=>?_,fun k hk'=>cT (cT (h.slR k hk') hk own t15) ks own2 t12,fun i j hi hj hne g h1 h2=>?_,h.sfar,fun t ht=>turn (h.tries t ht),fun k hk' t ht=>turn (h.tells k hk' t ht),h.new,h.low,hkp.trans' ks fun g hg e=>by have e':g=ab:=e;have:=h.new.2.1;have:=h.low;omega⟩
 ·by_cases e:u=v
  ·subst e;rw [upd_same,upd_same,List.length_append,List.length_singleton,aJq];refine(cT hr ks own2 t11).mono fun g hg=>?_;rcases hg with hg|hg
   ·exact(h.atR u hu).block g hg
   ·omega
  ·rw [aH _ _ e,aH _ _ e];exact cT ((h.atR u hu).kp' hk fun g hg _ hf=>h.afar v u hv hu (fun e2=>e e2.symm) g hf hg) ks own2 t11
 ·by_cases e1:i=v
  ·subst e1;rw [upd_same]at h1;rw [aH _ _ (fun e=>hne e.symm)]at h2;rcases hr.block g h1 with h3|h3
   ·exact h.afar i j hi hj hne g h3 h2
   ·have:=(h.atR j hj).lt g h2;omega
  ·rw [aH _ _ e1]at h1;by_cases e2:j=v
   ·subst e2;rw [upd_same]at h2;rcases hr.block g h2 with h3|h3
    ·exact h.afar i j hi hj hne g h1 h3
    ·have:=(h.atR i hi).lt g h1;omega
   ·rw [aH _ _ e2]at h2;exact h.afar i j hi hj hne g h1 h2
theorem MatSt.putSl(h:MatSt E lo w0 w mb ab sb nv na nc Ts ats tests tv av sv){v:Nat}(hv:v<nv+1){x:TestZ}(hx:HeldF lo (iD E mb ab sb nv tv av sv) w fun W=>TestOk W nv x){v':Value}(hr:Row w' 180 2 v' ((tests v).length+1) ((tests v).flatMap mU++mU x) (fun g=>(sv v).ownBlock=some g\/w.heap.size≤g))(hk:Kp (fun g=>(sv v).ownBlock=some g) w w'):
 MatSt E lo w0 (w'.setCell ⟨sb,v,none⟩ v') mb ab sb nv na nc Ts ats (dQ tests v (tests v++ [x])) tv av (dQ sv v v'):=by
 obtain⟨t1,t2,t3,t4,t5,t6,t7,t8,t9,t10,t11,t12,t13,t14,t15⟩:=iY;have ks:Kp (fun k=>k=sb) w' (w'.setCell ⟨sb,v,none⟩ v'):=kSa;have own:∀g,(sv v).ownBlock=some g->∃cs,Blk w g cs 180:=fun g hg=>aV (h.slR v hv) hg;have hslB:Blk w' sb ((List.range (nv+1)).map sv) 214:=cC h.slB hk own (Ne.symm t14);have own2:∀g,g=sb->∃cs,Blk w' g cs 214:=fun g e=>by rw [e];exact⟨_,hslB⟩
 have hkp:Ext w0 w':=h.kp.trans' hk fun g hg e=>by have h2:lo≤g:=(h.slR v hv).block g e;have:=h.low;omega
 have hsz:=hk.size;have lowsz:lo≤w.heap.size:=Nat.le_trans h.new.1 (Nat.le_of_lt h.box.lt);have ho:∀k,aAb mb ab sb nv tv av (dQ sv v v') k->aAb mb ab sb nv tv av sv k\/w.heap.size≤k:=fun k hk'=>by
  rcases hk' with e|e|e|e|e|⟨u,hu,e⟩
  ·exact .inl (.inl e)
  ·exact .inl (.inr (.inl e))
  ·exact .inl (.inr (.inr (.inl e)))
  ·exact .inl (.inr (.inr (.inr (.inl e))))
  ·exact .inl (.inr (.inr (.inr (.inr (.inl e)))))
  ·by_cases e2:u=v
   ·subst e2;rw [upd_same]at e;rcases hr.block k e with h3|h3
    ·exact .inl (.inr (.inr (.inr (.inr (.inr ⟨u,hu,h3⟩)))))
    ·exact .inr h3
   ·rw [aH _ _ e2]at e;exact .inl (.inr (.inr (.inr (.inr (.inr ⟨u,hu,e⟩)))))
 have hkk:Kp (fun k=>(sv v).ownBlock=some k\/k=sb) w (w'.setCell ⟨sb,v,none⟩ v'):=(hk.mono fun k _ h=>Or.inl h).trans (ks.mono fun k _ h=>Or.inr h);have turn:∀{P:World->Prop},HeldF lo (iD E mb ab sb nv tv av sv) w P->HeldF lo (iD E mb ab sb nv tv av (dQ sv v v')) (w'.setCell ⟨sb,v,none⟩ v') P:=fun{P} hP=>
  hP.turn hkk (fun k hf _=>by
   rcases hf with hf|hf
   ·exact .inl (.inr (.inr (.inr (.inr (.inr ⟨v,hv,hf⟩)))))
   ·exact .inl (.inr (.inr (.inl hf)))) fun k hk=>hk.elim (fun h=>(ho k h).imp .inl id) fun h=> .inl (.inr h)
 refine⟨cC (cC h.box hk own (Ne.symm t5)) ks own2 (Ne.symm t3),cT (cT h.ptrs hk own (Ne.symm t9)) ks own2 (Ne.symm t7),cC (cC h.atB hk own (Ne.symm t12)) ks own2 (Ne.symm t10),by rw [<-rP sv hv];exact hslB.set _ _,fun u hu=>cT (cT (h.atR u hu) hk own (Ne.symm t15)) ks own2 t13,fun u hu=>?_,h.afar,fun i j hi hj hne g h1 h2=>?_,fun t ht=>turn (h.tries t ht),fun k hk' t ht=>?_,h.new,h.low,hkp.trans' ks fun g hg e=>by have e':g=sb:=e;have:=h.new.2.2;have:=h.low;omega⟩
 ·by_cases e:u=v
  ·subst e;rw [upd_same,upd_same,List.length_append,List.length_singleton,List.flatMap_append,List.flatMap_singleton];refine(cT hr ks own2 t14).mono fun g hg=>?_;rcases hg with hg|hg
   ·exact(h.slR u hu).block g hg
   ·omega
  ·rw [aH _ _ e,aH _ _ e];exact cT ((h.slR u hu).kp' hk fun g hg _ hf=>h.sfar v u hv hu (fun e2=>e e2.symm) g hf hg) ks own2 t14
 ·by_cases e1:i=v
  ·subst e1;rw [upd_same]at h1;rw [aH _ _ (fun e=>hne e.symm)]at h2;rcases hr.block g h1 with h3|h3
   ·exact h.sfar i j hi hj hne g h3 h2
   ·have:=(h.slR j hj).lt g h2;omega
  ·rw [aH _ _ e1]at h1;by_cases e2:j=v
   ·subst e2;rw [upd_same]at h2;rcases hr.block g h2 with h3|h3
    ·exact h.sfar i j hi hj hne g h1 h3
    ·have:=(h.slR i hi).lt g h1;omega
   ·rw [aH _ _ e2]at h2;exact h.sfar i j hi hj hne g h1 h2
 ·by_cases e:k=v
  ·subst e;rw [upd_same]at ht;rcases List.mem_append.1 ht with ht|ht
   ·exact turn (h.tells k hk' t ht)
   ·rw [List.mem_singleton]at ht;rw [ht];exact turn hx
  ·rw [aH _ _ e]at ht;exact turn (h.tells k hk' t ht)
theorem MatSt.putTr(h:MatSt E lo w0 w mb ab sb nv na nc Ts ats tests tv av sv){x:TrieZ}(hx:HeldF lo (iD E mb ab sb nv tv av sv) w fun W=>TrieAt W x.tb x.W x.vs.length){v':Value}(hr:Row w' 187 1 v' (Ts.length+1) (Ts.map lW++ [lW x]) (fun g=>tv.ownBlock=some g\/w.heap.size≤g))(hk:Kp (fun g=>tv.ownBlock=some g) w w'):
 MatSt E lo w0 (w'.setCell ⟨mb,1,none⟩ v') mb ab sb nv na nc (Ts++ [x]) ats tests v' av sv:=by
 obtain⟨t1,t2,t3,t4,t5,t6,t7,t8,t9,t10,t11,t12,t13,t14,t15⟩:=iY;have ks:Kp (fun k=>k=mb) w' (w'.setCell ⟨mb,1,none⟩ v'):=kSa;have own:∀g,tv.ownBlock=some g->∃cs,Blk w g cs 187:=fun g hg=>aV h.ptrs hg;have hbox:=cC h.box hk own (Ne.symm t1);have own2:∀g,g=mb->∃cs,Blk w' g cs 172:=fun g e=>by rw [e];exact⟨_,hbox⟩
 have hkp:Ext w0 w':=h.kp.trans' hk fun g hg e=>by have h2:lo≤g:=h.ptrs.block g e;have:=h.low;omega
 have hsz:=hk.size;have lowsz:lo≤w.heap.size:=Nat.le_trans h.new.1 (Nat.le_of_lt h.box.lt);have ho:∀k,aAb mb ab sb nv v' av sv k->aAb mb ab sb nv tv av sv k\/w.heap.size≤k:=fun k hk'=>by
  rcases hk' with e|e|e|e|e|e
  ·exact .inl (.inl e)
  ·exact .inl (.inr (.inl e))
  ·exact .inl (.inr (.inr (.inl e)))
  ·rcases hr.block k e with h3|h3
   ·exact .inl (.inr (.inr (.inr (.inl h3))))
   ·exact .inr h3
  ·exact .inl (.inr (.inr (.inr (.inr (.inl e)))))
  ·exact .inl (.inr (.inr (.inr (.inr (.inr e)))))
 have hkk:Kp (fun k=>tv.ownBlock=some k\/k=mb) w (w'.setCell ⟨mb,1,none⟩ v'):=(hk.mono fun k _ h=>Or.inl h).trans (ks.mono fun k _ h=>Or.inr h);have turn:∀{P:World->Prop},HeldF lo (iD E mb ab sb nv tv av sv) w P->HeldF lo (iD E mb ab sb nv v' av sv) (w'.setCell ⟨mb,1,none⟩ v') P:=fun{P} hP=>
  hP.turn hkk (fun k hf _=>by
   rcases hf with hf|hf
   ·exact .inl (.inr (.inr (.inr (.inl hf))))
   ·exact .inl (.inl hf)) fun k hk=>hk.elim (fun h=>(ho k h).imp .inl id) fun h=> .inl (.inr h)
 refine⟨hbox.set 1 _,?_,cC (cC h.atB hk own t6) ks own2 t2,cC (cC h.slB hk own t7) ks own2 t3,fun u hu=>cT (cT (h.atR u hu) hk own t8) ks own2 t4,fun u hu=>cT (cT (h.slR u hu) hk own t9) ks own2 t5,h.afar,h.sfar,fun t ht=>?_,fun k hk' t ht=>turn (h.tells k hk' t ht),h.new,h.low,hkp.trans' ks fun g hg e=>by have e':g=mb:=e;have:=h.new.1;have:=h.low;omega⟩
 ·rw [List.length_append,List.length_singleton,List.map_append,List.map_singleton];refine(cT hr ks own2 t1).mono fun g hg=>?_;rcases hg with hg|hg
  ·exact h.ptrs.block g hg
  ·omega
 ·rcases List.mem_append.1 ht with ht|ht
  ·exact turn (h.tries t ht)
  ·rw [List.mem_singleton]at ht;rw [ht];exact turn hx
end
theorem aKm:cW Tryz.prog 214 180 2 16 (.agg #[.int .i64 0,.nilFunc]):=⟨by kernel_rfl,by kernel_rfl,rfl,by decide⟩
theorem aHe:cW Tryz.prog 168 187 1 8 (.pointer none):=⟨by kernel_rfl,by kernel_rfl,rfl,by decide⟩
set_option maxHeartbeats 4000000 in
theorem aIr{E:Nat->Prop}{lo:Nat}{w0 w:World}{mb ab sb nv nc k:Nat}{na:Option Addr}{Ts:List TrieZ}{ats:Nat->List Nat}{tests:Nat->List TestZ}{tv:Value}{av sv:Nat->Value}{t:TestZ}{L:Int}(h:MatSt E lo w0 w mb ab sb nv na nc Ts ats tests tv av sv)(hL:t.last=L)(hLk:L+1=(k:Int))(hk:k<nv+1)(hnv:nv≤1048576)
 (hx:HeldF lo (iD E mb ab sb nv tv av sv) w fun W=>TestOk W nv t)(hfew:(tests k).length≤1048576):
 Calls Tryz.prog 119 #[.pointer (some ⟨mb,0,none⟩),.agg #[.int .i64 L,t.val]] w fun e w'=>e= .returned (.tuple #[])/\∃sv',MatSt E lo w0 w' mb ab sb nv na nc Ts ats (dQ tests k (tests k++ [t])) tv av sv':=by
 obtain⟨u,eu⟩:=nm t.val;rw [eu];obtain⟨gb,egb⟩:=nm w.heap.size;obtain⟨w1,e1⟩:=nm (w.alloc (.cells #[.int .i64 L,u] 180));have x1:Ext w w1:=xAX e1;have hB1:=bNX egb e1;have H1:=qH (h.ext x1);have HB:=qH hB1;have hsv:=h.slR k hk;obtain⟨ya,yc,esv,_,_⟩:=hsv.shape;obtain⟨n,en⟩:=nm ((tests k).length);rw [en]at esv hsv hfew;obtain⟨n1,en1⟩:=nm (nv+1);rw [esv]at hsv;have HRow:=qH (hsv.ext x1);have hge:∀g,(sv k).ownBlock=some g->g<gb:=fun g hg=>by rw [<-egb];exact(h.slR k hk).lt g hg
 have HJ:=qH (show ∀w',Kp (fun g=>(sv k).ownBlock=some g) w1 w'->(fun w':World=>w'.cell? ⟨mb,3,none⟩=some (.slice (some ⟨sb,0,none⟩) n1 n1)/\w'.cell? ⟨gb,0,none⟩=some (.int .i64 L)/\w'.cell? ⟨gb,1,none⟩=some u/\w'.cell? ⟨sb,k,none⟩=some (.slice ya n yc)) w' from fun w' hw'=>by
  have own:∀g,(sv k).ownBlock=some g->∃cs,Blk w1 g cs 180:=fun g hg=>aV ((h.slR k hk).ext x1) hg;have b1:=cC (h.box.ext x1) hw' own (Ne.symm iY.2.2.2.2.1);have b2:=cC (h.slB.ext x1) hw' own (Ne.symm iY.2.2.2.2.2.2.2.2.2.2.2.2.2.1);have b3:=hB1.kp hw' fun e=>by have:=hge gb e;omega
  exact⟨by rw [b1.cell',<-en1];rfl,by rw [b3.cell'];rfl,by rw [b3.cell'];rfl,by rw [b2.cell',fH sv hk,esv]⟩)
 have HH:=qH (nIX hx (nIX x1 (nIX hL (nIX eu (nIX esv (nIX en (nIX hk en1)))))));have hwk:IntKind.i64.wrap (L+1)=(k:Int):=by rw [IntWalk.i64_in _ (by omega)];exact hLk
 have hu1:u.oneCell'=true:=by rw [<-HH.out.2.2.2.1];rfl
 have hk1:k<n1:=by omega
 have hk2:(k:Int)< (n1:Int):=by omega
 clear h hx x1 hB1 hsv esv en hge hL eu hLk hk;go_enter Tryz.func119,Tryz.ntmps119;go_wp2;clear e1 egb;refine aT (fun w':World=>w'.cell? ⟨mb,3,none⟩=some (.slice (some ⟨sb,0,none⟩) n1 n1)/\w'.cell? ⟨gb,0,none⟩=some (.int .i64 L)/\w'.cell? ⟨gb,1,none⟩=some u/\w'.cell? ⟨sb,k,none⟩=some (.slice ya n yc)) [19,20] (by kernel_rfl) (HJ.out _ ((Ext.kp (Kp.refl w1)).drew)) (fun hHeld=>?_);refine eFX 0 ?_;refine eFX 1 ?_;refine eFX 2 ?_;refine eIX 3 ?_;refine eFX 4 ?_;refine eIX 5 ?_;refine eFX 6 ?_;refine eFX 7 ?_;refine eFX 8 ?_;refine eFX 9 ?_;refine eIX 10 ?_;refine eFX 11 ?_;refine eIX 12 ?_;refine eFX 13 ?_;refine eIX 14 ?_;refine eIX 15 ?_;refine eIX 16 ?_;refine eTX 17 fun K hK=>?_;go_simp;refine hK.out _ _ (HJ.out _ (((Ext.kp (Kp.refl w1)).drew).alloc _)) fun hHeld=>?_;clear hK K;refine eTX 18 fun K hK=>?_;refine jD (m:=1) (n:=n) aKm rfl _ _ rfl rfl ((HRow.out.ext ((Kp.refl w1).drew)).alloc _) rfl (CellsAt.two w1.drew (.int .i64 L) u 180) (by rfl) (fun x hx=>(by rcases List.mem_cons.1 hx with e|hx;exact e▸rfl;exact(List.mem_singleton.1 hx)▸hu1)) (by omega) (by unfold maxLen;omega) ?_;intro v7 w7 hr7 hk7;obtain⟨la7,lc7,ev7,_,_⟩:=hr7.shape;subst ev7;have X2:=qH (nIX (show Row w7 180 2 (.slice la7 (n+1) lc7) (n+1) ((tests k).flatMap mU++ [.int .i64 L,u]) (fun g=>(Value.slice ya n yc).ownBlock=some g\/ (w1.drew.alloc (.cells #[.int .i64 L,u] 180)).heap.size≤g)from hr7) (show Kp (fun g=>(sv k).ownBlock=some g) w1 w7 from(by rw [HH.out.2.2.2.2.1];exact(Ext.kp (((Kp.refl w1).drew).alloc _)).trans hk7)));clear hr7 hk7;have X3:=qH (cC H1.out.slB X2.out.2 (fun g hg=>aV (H1.out.slR k HH.out.2.2.2.2.2.2.1) hg) (Ne.symm iY.2.2.2.2.2.2.2.2.2.2.2.2.2.1));have f1:w7.cell? ⟨sb,k,none⟩=some (.slice ya n yc):=by{rw [X3.out.cell',fH sv HH.out.2.2.2.2.2.2.1,HH.out.2.2.2.2.1]};have ff:=X3.out.free k
 refine hK.out _ _ (HJ.out _ X2.out.2) fun hHeld=>?_;clear hK K;refine eLX 19 fun K hK=>?_;go_simp;refine hK.out _ _ ?_;clear hK K;refine eLX 20 fun K hK=>?_;go_simp;refine hK.out _ _ ?_;clear hK K;refine aK (by kernel_rfl) ?_ _;clear hHeld;obtain⟨hx,x1,hL,eu,esv,en,hk,en1⟩:=HH.out;have HP:=qH (H1.out.putSl hk (hx.turn x1 (fun _ h=>h.elim) fun k hk=> .inl hk) (w':=w7) (v':= .slice la7 (n+1) lc7) (by
  have e:mU t= [.int .i64 L,u]:=by unfold mU;rw [hL,eu]
  rw [en,esv,e];exact X2.out.1.mono fun g hg=>hg.imp id (fun h=>Nat.le_trans (((Kp.refl (F:=fun _=>False) w1).drew).alloc _).size h)) X2.out.2)
 clear hx x1 hL eu esv en hk en1;go_wp2
 go_end0
 exact⟨rfl,_,HP.out⟩
def vQ(vs:List Nat)(i nT:Nat)(ats:Nat->List Nat)(v:Nat):List Nat:=if v∈vs.take i then ats v++ [nT]else ats v
theorem aK2{vs:List Nat}{i nT x:Nat}{ats:Nat->List Nat}(hx:vs[i]?=some x)(hnd:vs.Nodup)(v:Nat):dQ (vQ vs i nT ats) x (vQ vs i nT ats x++ [nT]) v=vQ vs (i+1) nT ats v:=by
 have hn:x∉vs.take i:=fun hm=>by
  obtain⟨j,hj⟩:=List.getElem?_of_mem hm;have hji:j<i:=by have:=(List.getElem?_eq_some_iff.1 hj).1;rw [List.length_take]at this;omega
  rw [List.getElem?_take,if_pos hji]at hj;have:=(List.getElem?_inj (List.getElem?_eq_some_iff.1 hj).1 hnd).1 (hj.trans hx.symm);omega
 unfold vQ;rw [List.take_add_one,hx];by_cases e:v=x
 ·subst e;rw [upd_same,if_neg hn,if_pos (by simp)]
 ·rw [aH _ _ e];by_cases h:v∈vs.take i
  ·rw [if_pos h,if_pos (by simp [h])]
  ·rw [if_neg h,if_neg (by simp [h,e])]
theorem HeldF.beside{lo:Nat}{own own':Nat->Prop}{w:World}{P:World->Prop}(h:HeldF lo own w P)(ho:∀k,own' k->own k\/w.heap.size≤k):HeldF lo own' w P:=h.turn (Kp.refl (F:=fun _=>False) _) (fun _ h=>h.elim) ho
def aOd(P:World->Prop)(E:Nat->Prop)(lo:Nat)(w0:World)(mb ab sb nv:Nat)(na:Option Addr)(nc:Nat)(Ts:List TrieZ)(ats:Nat->List Nat)(tests:Nat->List TestZ)(tv:Value)(sv:Nat->Value)(va:Option Addr)(n vc rb gb ob:Nat)(vs:List Nat)(iv:Value)(W:World):Prop:=
 ∃(i:Nat) (av:Nat->Value),i≤n/\iv= .int .i64 i/\Hid (MatSt (fun k=>E k\/k=ob) lo w0 W mb ab sb nv na nc Ts (vQ vs i Ts.length ats) tests tv av sv)/\Hid (HeldF lo (iD (fun k=>E k\/k=ob) mb ab sb nv tv av sv) W P)/\
  Hid (Blk W ob (iC i++List.replicate (n-i) (.int .i64 0)) 3/\(∀v,v<nv->(av v).ownBlock≠some ob)/\Blk W gb [.slice va n vc,.pointer (some ⟨rb,0,none⟩)] 175)
set_option maxHeartbeats 4000000 in
theorem aH5{E:Nat->Prop}{S:Nat->Prop}{lo:Nat}{w0 w:World}{mb ab sb nv nc n vc rb:Nat}{iv:Value}{na va:Option Addr}{Ts:List TrieZ}{ats:Nat->List Nat}{tests:Nat->List TestZ}{tv:Value}{av sv:Nat->Value}{vs:List Nat}{LL:aD}(h:MatSt E lo w0 w mb ab sb nv na nc Ts ats tests tv av sv)
 (hT:HeldF lo (iD E mb ab sb nv tv av sv) w fun W=>TableAt S W va rb iv vs LL)(hE:∀k,E k->k<w.heap.size)(hn:n=vs.length)(h0:0<n)(hn64:n≤64)(hvs:∀v∈vs,v<nv)(hnd:vs.Nodup)(hlen:∀x∈LL,x.length=n)(hLL:LL.length≤65536)(hnv:nv≤1048576)(hTs:Ts.length≤1048576)(hats:∀v,(ats v).length≤1048576):
 Calls Tryz.prog 118 #[.pointer (some ⟨mb,0,none⟩),.agg #[.slice va n vc,.pointer (some ⟨rb,0,none⟩)]] w fun e w'=>e= .returned (.tuple #[])/\∃tb tv' av',MatSt E lo w0 w' mb ab sb nv na nc (Ts++ [⟨tb,vs,LL⟩]) (fun v=>if v∈vs then ats v++ [Ts.length]else ats v) tests tv' av' sv:=by
 obtain⟨gb,egb⟩:=nm w.heap.size;obtain⟨w1,e1⟩:=nm (w.alloc (.cells #[.slice va n vc,.pointer (some ⟨rb,0,none⟩)] 175));have x1:Ext w w1:=xAX e1;have hB1:=bNX egb e1;have hs1:w1.heap.size=gb+1:=by rw [<-e1,aJ,egb]
 have b0:=hB1.c0;have b1:∀o,(w1.alloc o).cell? ⟨gb,0,none⟩=some (.slice va n vc):=fun o=>by rw [(hB1.alloc o).cell'];rfl
 have HB:=qH hB1;have H:=qH (nIX (h.ext x1) (nIX (hT.turn x1 (fun _ h=>h.elim) fun k hk=> .inl hk) (nIX hE (nIX hn (nIX hvs (nIX hnd (nIX hlen (nIX hLL (nIX hats h.lt)))))))));have HS:=qH (nIX egb hs1);have hmk:=jU (P:=Tryz.prog) jK (c:= .int .i64 0) rfl n (by omega) (by unfold maxLen;omega) w1;rw [Nat.mul_one]at hmk;have hn0:((n:Int)==0)=false:=by simp;omega
 clear h hT hE hn hvs hnd hlen hLL hats x1 hB1 hs1;go_enter Tryz.func118,Tryz.ntmps118;go_wp2;clear e1 egb hmk b0 b1;obtain⟨ob,eob⟩:=nm w1.heap.size;obtain⟨w2,e2⟩:=nm (w1.alloc (.cells (Array.replicate n (.int .i64 0)) 3));have hB2:Blk w2 ob (List.replicate n (.int .i64 0)) 3:=by have h:=Blk.new w1 (List.replicate n (.int .i64 0)) 3;rw [List.toArray_replicate,e2,eob]at h;exact h
 have x2:Ext w1 w2:=xAX e2;rw [eob,e2];have hob:ob=gb+1:=by rw [<-eob];exact HS.out.2
 have HPut:=qH (show aOd (fun W=>TableAt S W va rb iv vs LL) E lo w0 mb ab sb nv na nc Ts ats tests tv sv va n vc rb gb ob vs (.int .i64 0) w2 from
  ⟨0,av,Nat.zero_le _,rfl,qH (((H.out.1.beside (E':=fun k=>E k\/k=ob) fun k hk=>hk.imp id fun e=>by rw [e,<-eob];exact Nat.le_refl _).ext x2).congr (fun i hi=>by unfold vQ;rw [if_neg (by simp)]) (fun i hi=>rfl)),
   qH ((H.out.2.1.beside (own':=iD (fun k=>E k\/k=ob) mb ab sb nv tv av sv) fun k hk=>hk.elim (fun h=> .inl (.inl h)) fun h=>h.elim (fun h=> .inl (.inr h)) fun e=> .inr (by rw [e,<-eob];exact Nat.le_refl _)).turn x2 (fun _ h=>h.elim) fun k hk=> .inl hk),
   qH ⟨by simpa [iC,ints]using hB2,fun v hv e=>by have h1:=H.out.2.2.2.2.2.2.2.2.2 ob (.inr (.inr (.inr (.inr (.inl ⟨v,hv,e⟩)))));have:=HS.out.1;omega,HB.out.ext x2⟩⟩)
 have HO:=qH (nIX hob x2);clear eob e2 hB2 x2 hob;go_loopw [20] (fun jv wk=>aOd (fun W=>TableAt S W va rb iv vs LL) E lo w0 mb ab sb nv na nc Ts ats tests tv sv va n vc rb gb ob vs jv wk) (fun jv _=>n- (intOf jv).toNat)
 case atStart=>exact HPut.out
 case round=>
  clear HPut;obtain⟨i,av2,hi,rfl,hM,hTb,hBs⟩:=hrel;by_cases hlt:i<n
  ·obtain⟨x,hx⟩:∃x,vs[i]?=some x:=⟨_,qG (by rw [<-H.out.2.2.2.1];exact hlt)⟩;have hxn:x<nv:=H.out.2.2.2.2.1 x (List.mem_of_getElem? hx);obtain⟨vb,vo,eva,vc0⟩:=hTb.out.here.here.vars i (.int .i64 x) (by unfold ints;rw [List.map_map,List.getElem?_map,hx];rfl);subst eva;have HX:=qH hx;clear hx;have y0:wr.cell? ⟨ob,i,none⟩=some (.int .i64 0):=by
    have hl:(iC i).length=i:=by unfold iC;rw [aEd,List.length_map,List.length_range]
    rw [hBs.out.1.cell',List.getElem?_append_right (by omega),hl,Nat.sub_self,List.getElem?_replicate,if_pos (by omega)]
   have yf:=hBs.out.1.free i;obtain⟨W1,eW1⟩:=nm (wr.setCell ⟨ob,i,none⟩ (.int .i64 i));have kW:Kp (fun k=>k=ob) wr W1:=by rw [<-eW1];exact kSa
   have hnO:¬aAb mb ab sb nv tv av2 sv ob:=by
    rintro(e|e|e|e|⟨v,hv,e⟩|⟨v,hv,e⟩)
    ·exact absurd (aQ (e▸hBs.out.1) hM.out.box) (Ne.symm iY.2.2.2.1)
    ·exact absurd (aQ (e▸hBs.out.1) hM.out.atB) (Ne.symm iY.2.2.2.2.2.2.2.2.2.2.1)
    ·exact absurd (aQ (e▸hBs.out.1) hM.out.slB) (Ne.symm iY.2.2.2.2.2.2.2.2.2.2.2.2.1)
    ·obtain⟨cs,hb⟩:=aV hM.out.ptrs e;exact absurd (aQ hb hBs.out.1) iY.2.2.2.2.2.2.2.1
    ·exact hBs.out.2.1 v hv e
    ·obtain⟨cs,hb⟩:=aV (hM.out.slR v hv) e;exact absurd (aQ hb hBs.out.1) (Ne.symm iY.2.2.2.2.2.2.2.2.2.2.2.2.2.2)
   have hlo:w0.heap.size≤ob:=by have h1:=H.out.1.kp.size;have h2:=HO.out.1;have h3:=HS.out;have h4:=HO.out.2.size;omega
   have hM1:=qH (hM.out.wrote kW fun k e=>by have e':k=ob:=e;rw [e'];exact⟨.inr rfl,hnO,hlo⟩);have hT1:=qH (hTb.out.turn kW (fun k e _=> .inr (.inr e)) fun k hk=> .inl hk);have hB1:=qH (show Blk W1 ob (iC (i+1)++List.replicate (n- (i+1)) (.int .i64 0)) 3/\Blk W1 gb [.slice (some ⟨vb,vo,none⟩) n vc,.pointer (some ⟨rb,0,none⟩)] 175 from by
    refine⟨?_,hBs.out.2.2.kp kW fun e=>by have:=HO.out.1;omega⟩;have h5:=hBs.out.1.set i (.int .i64 (i:Nat));have hl:(iC i).length=i:=by unfold iC;rw [aEd,List.length_map,List.length_range]
    have e5:(iC i++List.replicate (n-i) (Value.int .i64 0)).set i (.int .i64 (i:Nat))=iC (i+1)++List.replicate (n- (i+1)) (.int .i64 0):=by
     rw [List.set_append_right _ _ (by omega),hl,Nat.sub_self,show n-i=(n- (i+1))+1 from by omega,List.replicate_succ,List.set_cons_zero];have e6:iC (i+1)=iC i++ [.int .i64 (i:Nat)]:=by unfold iC ints;rw [List.range_succ];simp
     rw [e6,List.append_assoc];rfl
    rw [e5,eW1]at h5;exact h5)
   have HBN:=qH hBs.out.2.1;clear hM hTb hBs kW hnO hlo;have i1:(x:Int)< (nv:Int):=by omega
   have i2:(i:Int)< (n:Int):=by omega
   go_wp2;clear eW1 y0 yf vc0;obtain⟨ia,ic,eav,_,_⟩:=(hM1.out.atR x hxn).shape;obtain⟨nA,enA⟩:=nm ((vQ vs i Ts.length ats x).length);have hnA:nA≤1048577:=by rw [<-enA];unfold vQ;have:=H.out.2.2.2.2.2.2.2.2.1 x;split<;>simp<;>omega
   obtain⟨ta,tc,etv,_,_⟩:=hM1.out.ptrs.shape;obtain⟨nT,enT⟩:=nm Ts.length;rw [enA]at eav;rw [enT]at etv;have HRow:=qH (show Row W1 3 1 (.slice ia nA ic) nA (aGi (vQ vs i Ts.length ats x)) (fun g=>lo≤g)from by have h:=hM1.out.atR x hxn;rw [enA,eav]at h;exact h);have HE:=qH (nIX eav (nIX enA (nIX etv enT)));have hown:∀g,(av2 x).ownBlock=some g->∃cs,Blk W1 g cs 3:=fun g hg=>aV (hM1.out.atR x hxn) hg;have HOwn:=qH hown;have HJ:=qH (show ∀w',Kp (fun g=>(av2 x).ownBlock=some g) W1 w'->(fun w':World=>w'.cell? ⟨mb,2,none⟩=some (.slice (some ⟨ab,0,none⟩) nv nv)/\w'.cell? ⟨mb,1,none⟩=some (.slice ta nT tc)/\w'.cell? ⟨ab,x,none⟩=some (.slice ia nA ic)) w' from fun w' hw'=>by have b1:=cC hM1.out.box hw' hown (Ne.symm iY.2.2.2.1);have b2:=cC hM1.out.atB hw' hown (Ne.symm iY.2.2.2.2.2.2.2.2.2.2.1);exact⟨by rw [b1.cell'];rfl,by rw [b1.cell',etv];rfl,by rw [b2.cell',fH av2 hxn,eav]⟩);clear hown eav enA etv enT;refine aT (fun w':World=>w'.cell? ⟨mb,2,none⟩=some (.slice (some ⟨ab,0,none⟩) nv nv)/\w'.cell? ⟨mb,1,none⟩=some (.slice ta nT tc)/\w'.cell? ⟨ab,x,none⟩=some (.slice ia nA ic)) [19,20] (by kernel_rfl) (HJ.out _ ((Ext.kp (Kp.refl W1)).drew)) (fun hHeld=>?_);refine eFX 0 ?_;refine eFX 1 ?_;refine eFX 2 ?_;refine eIX 3 ?_;refine eFX 4 ?_;refine eFX 5 ?_;refine eFX 6 ?_;refine eFX 7 ?_;refine eIX 8 ?_;refine eFX 9 ?_;refine eIX 10 ?_;refine eIX 11 ?_;refine eFX 12 ?_;refine eFX 13 ?_;refine eFX 14 ?_;refine eIX 15 ?_;refine eIX 16 ?_;refine eTX 17 fun K hK=>?_;go_simp;refine hK.out _ _ (HJ.out _ (((Ext.kp (Kp.refl W1)).drew).alloc _)) fun hHeld=>?_;clear hK K;refine eTX 18 fun K hK=>?_;refine jD (m:=1) (n:=nA) jK rfl _ _ rfl rfl ((HRow.out.ext ((Kp.refl W1).drew)).alloc _) rfl (CellsAt.one W1.drew (.int .i64 (nT:Nat)) 3) (by rfl) (by simp;rfl) (by omega) (by unfold maxLen;omega) ?_;intro v7 w7 hr7 hk7;obtain⟨la7,lc7,ev7,_,_⟩:=hr7.shape;subst ev7;have X2:=qH (nIX (show Row w7 3 1 (.slice la7 (nA+1) lc7) (nA+1) (aGi (vQ vs i Ts.length ats x)++ [.int .i64 (nT:Nat)]) (fun g=>(Value.slice ia nA ic).ownBlock=some g\/ (W1.drew.alloc (.cells #[.int .i64 (nT:Nat)] 3)).heap.size≤g)from hr7) (show Kp (fun g=>(av2 x).ownBlock=some g) W1 w7 from(by rw [HE.out.1];exact(Ext.kp (((Kp.refl W1).drew).alloc _)).trans hk7)));clear hr7 hk7;have X3:=qH (cC hM1.out.atB X2.out.2 HOwn.out (Ne.symm iY.2.2.2.2.2.2.2.2.2.2.1));have f1:w7.cell? ⟨ab,x,none⟩=some (.slice ia nA ic):=by{rw [X3.out.cell',fH av2 hxn,HE.out.1]};have ff:=X3.out.free x
   refine hK.out _ _ (HJ.out _ X2.out.2) fun hHeld=>?_;clear hK K;refine eLX 19 fun K hK=>?_;go_simp;refine hK.out _ _ ?_;clear hK K;refine eLX 20 fun K hK=>?_;go_simp;refine hK.out _ _ ?_;clear hK K;refine aK (by kernel_rfl) ?_ _;clear hHeld;have hP:=hM1.out.putAt hxn (x:=Ts.length) (w':=w7) (v':= .slice la7 (nA+1) lc7) (by rw [HE.out.2.1,HE.out.1];have h2:=X2.out.1.mono (M':=fun g=>(Value.slice ia nA ic).ownBlock=some g\/W1.heap.size≤g) fun g hg=>hg.imp id (fun h=>Nat.le_trans (((Kp.refl (F:=fun _=>False) W1).drew).alloc (.cells #[.int .i64 (nT:Nat)] 3)).size h);rw [<-HE.out.2.2.2]at h2;exact h2) X2.out.2;have HP:=qH (hP.congr (ats':=vQ vs (i+1) Ts.length ats) (fun j _=>aK2 HX.out H.out.2.2.2.2.2.1 j) (fun _ _=>rfl));obtain⟨w8,e8⟩:=nm (w7.setCell ⟨ab,x,none⟩ (.slice la7 (nA+1) lc7));have k78:Kp (fun k=>k=ab) w7 w8:=by rw [<-e8];exact kSa
   have k18:Kp (fun k=>(av2 x).ownBlock=some k\/k=ab) W1 w8:=(X2.out.2.mono fun k _ h=>Or.inl h).trans (k78.mono fun k _ h=>Or.inr h);have HT2:=qH (hT1.out.turn (own':=iD (fun k=>E k\/k=ob) mb ab sb nv tv (dQ av2 x (.slice la7 (nA+1) lc7)) sv) k18 (fun k hf _=>by
    rcases hf with hf|hf
    ·exact .inl (.inr (.inr (.inr (.inr (.inl ⟨x,hxn,hf⟩)))))
    ·exact .inl (.inr (.inl hf))) fun k hk=>by
    rcases hk with(e|e|e|e|⟨u,hu,e⟩|e)|e
    ·exact .inl (.inl (.inl e))
    ·exact .inl (.inl (.inr (.inl e)))
    ·exact .inl (.inl (.inr (.inr (.inl e))))
    ·exact .inl (.inl (.inr (.inr (.inr (.inl e)))))
    ·by_cases e2:u=x
     ·subst e2;rw [upd_same]at e;rcases X2.out.1.block k e with h3|h3
      ·exact .inl (.inl (.inr (.inr (.inr (.inr (.inl ⟨u,hu,by rw [HE.out.1];exact h3⟩))))))
      ·exact .inr (Nat.le_trans (((Kp.refl (F:=fun _=>False) W1).drew).alloc _).size h3)
     ·rw [aH _ _ e2]at e;exact .inl (.inl (.inr (.inr (.inr (.inr (.inl ⟨u,hu,e⟩))))))
    ·exact .inl (.inl (.inr (.inr (.inr (.inr (.inr e))))))
    ·exact .inl (.inr e))
   have HBx:=qH (show Blk w8 ob (iC (i+1)++List.replicate (n- (i+1)) (.int .i64 0)) 3/\(∀v,v<nv->(dQ av2 x (.slice la7 (nA+1) lc7) v).ownBlock≠some ob)/\Blk w8 gb [.slice (some ⟨vb,vo,none⟩) n vc,.pointer (some ⟨rb,0,none⟩)] 175 from by
    have hobl:=hB1.out.1.lt;refine⟨(hB1.out.1.kp X2.out.2 fun e=>HBN.out x hxn e).kp k78 fun e=>absurd (aQ (e▸hB1.out.1) hM1.out.atB) (Ne.symm iY.2.2.2.2.2.2.2.2.2.2.1),fun v hv e=>?_,(hB1.out.2.kp X2.out.2 fun e=>?_).kp k78 fun e=>absurd (aQ (e▸hB1.out.2) hM1.out.atB) (by decide)⟩
    ·by_cases e2:v=x
     ·subst e2;rw [upd_same]at e;rcases X2.out.1.block ob e with h3|h3
      ·exact HBN.out v hv (by rw [HE.out.1];exact h3)
      ·have:=(((Kp.refl (F:=fun _=>False) W1).drew).alloc (.cells #[.int .i64 (nT:Nat)] 3)).size;omega
     ·rw [aH _ _ e2]at e;exact HBN.out v hv e
    ·obtain⟨cs,hb⟩:=HOwn.out _ e;exact absurd (aQ hb hB1.out.2) (by decide))
   rw [e8]at HP ⊢;clear e8 k78 k18 f1 ff hP;go_wp2;go_roundw
   case rel=>exact⟨i+1,_,by omega,nMX,HP,HT2,HBx⟩
   case measure=>simp [intOf];omega
  ·obtain rfl:n=i:=by omega
   have hordB:=hBs.out.1;rw [Nat.sub_self,List.replicate_zero,List.append_nil]at hordB;have hord:CellsAt wr (some ⟨ob,0,none⟩) (iC n):=CellsAt.pre (rest:= []) (by rw [List.append_nil];exact hordB);have hTab:=hTb.out.here.here;have hrow:=hTab.rows;rw [<-H.out.2.2.2.1]at hrow;have HBd:=qH (aKv (oc:=n) hrow hTab.rise H.out.2.2.2.2.2.2.1 hord hn64 (Nat.le_refl _) H.out.2.2.2.2.2.2.2.1);have HM:=qH (hM.out.congr (ats':=fun v=>if v∈vs then ats v++ [Ts.length]else ats v) (fun j _=>by unfold vQ;rw [List.take_of_length_le (by rw [<-H.out.2.2.2.1];exact Nat.le_refl _)]) (fun _ _=>rfl));have r1:=hBs.out.2.2.c1;have hobl:=hordB.lt;have HOB:=qH hobl;clear hM hTb hBs hordB hord hTab hrow hobl hi hlt;go_wp2_with fail
   refine HBd.out.mono ?_;rintro e w3 ⟨v3,rfl,hk3,tb,rfl,htb,hF⟩;have HM3:=qH (HM.out.ext hk3);have HF:=qH (show HeldF lo (iD (fun k=>E k\/k=ob) mb ab sb nv tv av2 sv) w3 fun W=>TrieAt W tb LL n from
    ⟨wr.heap.size,w3.heap.size,by have h1:=HM.out.new.1;have h2:=HM.out.box.lt;omega,Nat.le_refl _,hF,fun k hk hab=>by
     rcases hk with hk|hk|hk
     ·have:=HM.out.lt k hk;omega
     ·have h1:=H.out.2.2.1 k hk;have h2:=HS.out.1;have h3:=HOB.out;have h4:=HO.out.1;omega
     ·have:=HOB.out;omega⟩)
   obtain⟨ta,tc,etv,_,_⟩:=HM3.out.ptrs.shape;obtain⟨nT,enT⟩:=nm Ts.length;rw [enT]at etv hTs;have HRow:=qH (show Row w3 187 1 (.slice ta nT tc) nT (Ts.map lW) (fun g=>lo≤g)from by have h:=HM3.out.ptrs;rw [enT,etv]at h;exact h);have HE:=qH (nIX etv enT);have m1:w3.cell? ⟨mb,1,none⟩=some (.slice ta nT tc):=by rw [HM3.out.box.cell',etv];rfl
   clear hk3 hF htb etv enT r1;go_wp2_with (first|(at_builtin;refine Halted.out ?_))
   refine Halted.mk (iN aHe rfl _ _ rfl rfl (HRow.out.alloc _) rfl (CellsAt.one w3 (.pointer (some ⟨tb,0,none⟩)) 187) (by rfl) (by simp;rfl) (by omega) (by unfold maxLen;omega) ?_);intro v4 w4 hr4 hk4;obtain⟨la4,lc4,ev4,_,_⟩:=hr4.shape;subst ev4;have hkw:Kp (fun g=>tv.ownBlock=some g) w3 w4:=by rw [HE.out.1];exact(Ext.kp ((Kp.refl w3).alloc _)).trans hk4
   have HP:=qH ((HM3.out.putTr (x:=⟨tb,vs,LL⟩) (by
    have h:=HF.out;rw [H.out.2.2.2.1]at h;exact h) (w':=w4) (v':= .slice la4 (nT+1) lc4) (by
    rw [HE.out.1];have h2:=hr4.mono (M':=fun g=>(Value.slice ta nT tc).ownBlock=some g\/w3.heap.size≤g) fun g hg=>hg.imp id (fun h=>Nat.le_trans ((Kp.refl (F:=fun _=>False) w3).alloc (.cells #[.pointer (some ⟨tb,0,none⟩)] 187)).size h);rw [<-HE.out.2]at h2;rw [<-HE.out.2];exact h2) hkw).beside (E':=E) fun k hk=> .inl (.inl hk))
   have hb4:=cC HM3.out.box hkw (fun g hg=>aV HM3.out.ptrs hg) (Ne.symm iY.1);have m2:w4.cell? ⟨mb,1,none⟩=some (.slice ta nT tc):=by rw [hb4.cell',HE.out.1];rfl
   have mf:=hb4.free 1;clear hr4 hk4 hkw hb4 m1;go_wp2
   go_end0
   exact⟨rfl,tb,_,_,HP.out⟩
end
section
open Go.RowKit
structure MatIs(N:List ByteArray)(ls:List aL)(R:Nat->aD)(i:Nat)(Ts:List TrieZ)(tests:Nat->List TestZ):Prop where
 from_:∀t∈Ts,∃(j:Nat) (l:aL),j<i/\ls[j]?=some l/\l.1=1/\t.vs=aY N (aA l)/\t.vs≠ []/\t.W=dU N (aA l) (R j)/\0<t.W.length
 has:∀(j:Nat) (l:aL),j<i->ls[j]?=some l->l.1=1->(aY N (aA l)= []/\0< (dU N (aA l) (R j)).length)\/∃t∈Ts,t.vs=aY N (aA l)/\t.W=dU N (aA l) (R j)
 tfrom:∀k,k≤N.length->∀t∈tests k,∃(j:Nat) (l:aL),j<i/\ls[j]?=some l/\l.1≠1/\jV N l< (k:Int)/\∀V:List ByteArray,V.length=N.length->(t.ask V=true↔kD N V (R j) l)
 thas:∀(j:Nat) (l:aL),j<i->ls[j]?=some l->l.1≠1->∃k,k≤N.length/\∃t∈tests k,∀V:List ByteArray,V.length=N.length->(t.ask V=true↔kD N V (R j) l)
section
variable {N:List ByteArray}{ls:List aL}{R:Nat->aD}{i:Nat}{Ts:List TrieZ}{tests:Nat->List TestZ}
theorem MatIs.zero:MatIs N ls R 0 [] (fun _=> []):=⟨fun t h=>by simp at h,fun j l h=>by omega,fun k _ t h=>by simp at h,fun j l h=>by omega⟩
theorem MatIs.none(h:MatIs N ls R i Ts tests){l:aL}(hl:ls[i]?=some l)(h1:l.1=1)(hv:aY N (aA l)= [])(hT:0< (dU N (aA l) (R i)).length):MatIs N ls R (i+1) Ts tests:=by
 refine⟨fun t ht=>?_,fun j m hj hm hk=>?_,fun k hk t ht=>?_,fun j m hj hm hk=>?_⟩
 ·obtain⟨j,m,h2,h3⟩:=h.from_ t ht
  exact⟨j,m,by omega,h3⟩
 ·rcases Nat.lt_or_eq_of_le (Nat.le_of_lt_succ hj)with h2|rfl
  ·exact h.has j m h2 hm hk
  ·rw [hl]at hm;cases hm;exact .inl ⟨hv,hT⟩
 ·obtain⟨j,m,h2,h3⟩:=h.tfrom k hk t ht;exact⟨j,m,by omega,h3⟩
 ·rcases Nat.lt_or_eq_of_le (Nat.le_of_lt_succ hj)with h2|rfl
  ·exact h.thas j m h2 hm hk
  ·rw [hl]at hm;cases hm;exact absurd h1 hk
theorem MatIs.put(h:MatIs N ls R i Ts tests){l:aL}(hl:ls[i]?=some l)(h1:l.1=1)(hv:aY N (aA l)≠ [])(hT:0< (dU N (aA l) (R i)).length){t:TrieZ}(e1:t.vs=aY N (aA l))(e2:t.W=dU N (aA l) (R i)):MatIs N ls R (i+1) (Ts++ [t]) tests:=by
 refine⟨fun u hu=>?_,fun j m hj hm hk=>?_,fun k hk t ht=>?_,fun j m hj hm hk=>?_⟩
 ·rcases List.mem_append.1 hu with hu|hu
  ·obtain⟨j,m,h2,h3⟩:=h.from_ u hu
   exact⟨j,m,by omega,h3⟩
  ·rw [List.mem_singleton]at hu;subst hu;exact⟨i,l,by omega,hl,h1,e1,by rw [e1];exact hv,e2,by rw [e2];exact hT⟩
 ·rcases Nat.lt_or_eq_of_le (Nat.le_of_lt_succ hj)with h2|rfl
  ·rcases h.has j m h2 hm hk with h3|⟨u,hu,h3⟩
   ·exact .inl h3
   ·exact .inr ⟨u,List.mem_append_left _ hu,h3⟩
  ·rw [hl]at hm;cases hm;exact .inr ⟨t,by simp,e1,e2⟩
 ·obtain⟨j,m,h2,h3⟩:=h.tfrom k hk t ht;exact⟨j,m,by omega,h3⟩
 ·rcases Nat.lt_or_eq_of_le (Nat.le_of_lt_succ hj)with h2|rfl
  ·exact h.thas j m h2 hm hk
  ·rw [hl]at hm;cases hm;exact absurd h1 hk
theorem MatIs.add(h:MatIs N ls R i Ts tests){l:aL}(hl:ls[i]?=some l)(h1:l.1≠1){t:TestZ}{k:Nat}(hk:k≤N.length)(hlast:jV N l< (k:Int))(hask:∀V:List ByteArray,V.length=N.length->(t.ask V=true↔kD N V (R i) l)):MatIs N ls R (i+1) Ts (dQ tests k (tests k++ [t])):=by
 refine⟨fun u hu=>?_,fun j m hj hm hk=>?_,fun k' hk' u hu=>?_,fun j m hj hm hkm=>?_⟩
 ·obtain⟨j,m,h2,h3⟩:=h.from_ u hu
  exact⟨j,m,by omega,h3⟩
 ·rcases Nat.lt_or_eq_of_le (Nat.le_of_lt_succ hj)with h2|rfl
  ·exact h.has j m h2 hm hk
  ·rw [hl]at hm;cases hm;exact absurd hk h1
 ·by_cases e:k'=k
  ·subst e;rw [upd_same]at hu;rcases List.mem_append.1 hu with hu|hu
   ·obtain⟨j,m,h2,h3⟩:=h.tfrom k' hk' u hu;exact⟨j,m,by omega,h3⟩
   ·rw [List.mem_singleton]at hu;subst hu;exact⟨i,l,by omega,hl,h1,hlast,hask⟩
  ·rw [aH _ _ e]at hu;obtain⟨j,m,h2,h3⟩:=h.tfrom k' hk' u hu;exact⟨j,m,by omega,h3⟩
 ·rcases Nat.lt_or_eq_of_le (Nat.le_of_lt_succ hj)with h2|rfl
  ·obtain⟨k',hk',u,hu,h3⟩:=h.thas j m h2 hm hkm;refine⟨k',hk',u,?_,h3⟩;by_cases e:k'=k
   ·subst e;rw [upd_same];exact List.mem_append_left _ hu
   ·rw [aH _ _ e];exact hu
  ·rw [hl]at hm;cases hm;exact⟨k,hk,t,by rw [upd_same];simp,hask⟩
end
theorem xV{r:cG}(h:aU r=0){l:aL}(hl:l∈r.2.1):l.1=1\/l.1=2\/l.1=3:=by
 unfold aU at h;split at h
 ·rename_i hp;unfold cU at hp;rw [Bool.and_eq_true]at hp;have h1:=List.all_eq_true.1 hp.2 l hl;unfold fC at h1;split at h1
  ·rename_i h2;rcases h2 with h2|h2
   ·exact .inl h2
   ·exact .inr (.inl h2)
  ·split at h1
   ·rename_i h2;exact .inr (.inr h2)
   ·cases h1
 ·cases h
theorem aGp{r:cG}(h:aU r=0){R:Nat->aD}{Ts:List TrieZ}{tests:Nat->List TestZ}(hM:MatIs (aB r.2.1) r.2.1 R r.2.1.length Ts tests):
 MatchOk ⟨aB r.2.1,Ts,tests⟩/\∀V,mX ⟨aB r.2.1,Ts,tests⟩ V↔dN r.2.1 R V:=by
 refine⟨⟨fun t ht=>?_,fun v hv=>?_,fun k hk t ht V V' hV hV' he=>?_⟩,fun V=>?_⟩
 ·obtain⟨j,l,hj,hl,h1,e1,e2,e3,e4⟩:=hM.from_ t ht
  refine⟨⟨fun x hx=>?_,by rw [e3];exact wJ _ _ _⟩,by rw [e1];exact aAc _ _,e2,fun x hx=>?_,e4⟩
  ·rw [e3]at hx;rw [vS hx,e1]
  ·rw [e1]at hx;exact(eD.1 hx).1
 ·obtain⟨l,hl,h1,hvl⟩:=oD hv;obtain⟨j,hj⟩:=List.mem_iff_getElem?.1 hl;rcases hM.has j l (List.getElem?_eq_some_iff.1 hj).1 hj h1 with h2|⟨t,ht,e1,e2⟩
  ·rw [h2.1]at hvl;simp at hvl
  ·exact⟨t,ht,by rw [e1];exact hvl⟩
 ·obtain⟨j,l,hj,hl,h1,h2,h3⟩:=hM.tfrom k hk t ht;have hm:=List.mem_of_getElem? hl;have h4:=aK3 (R:=R j) he h1 h2 (fun hk2 hv=>by
   rcases xV h hm with h5|h5|h5
   ·exact absurd h5 h1
   ·exact absurd h5 hk2
   ·rcases rG h hm h5 _ (.inl rfl)with h6|h6
    ·exact h6.2
    ·omega) (fun hk2 hv=>by
   rcases xV h hm with h5|h5|h5
   ·exact absurd h5 h1
   ·exact absurd h5 hk2
   ·rcases rG h hm h5 _ (.inr rfl)with h6|h6
    ·exact h6.2
    ·omega)
  rw [Bool.eq_iff_iff,h3 V hV,h3 V' hV',h4]
 ·rw [zF h];refine and_congr_right fun hV=>⟨fun⟨h1,h2⟩ i l hl=>?_,fun hA=>⟨fun t ht=>?_,fun k hk t ht=>?_⟩⟩
  ·have hi:=(List.getElem?_eq_some_iff.1 hl).1;by_cases hk:l.1=1
   ·unfold kD;rw [if_pos hk];rcases hM.has i l hi hl hk with⟨e,hT⟩|⟨t,ht,e1,e2⟩
    ·rw [e];obtain⟨x,hx⟩:=List.exists_mem_of_length_pos hT;have hx0:=vS hx;rw [e]at hx0;have:x= []:=List.eq_nil_of_length_eq_zero hx0;rw [this]at hx;exact hx
    ·have:=h1 t ht
     rwa [e1,e2]at this
   ·obtain⟨k,hkn,t,ht,h3⟩:=hM.thas i l hi hl hk;exact(h3 V hV).1 (h2 k hkn t ht)
  ·obtain⟨j,l,hj,hl,hk,e1,e2,e3,e4⟩:=hM.from_ t ht
   have:=hA j l hl;unfold kD at this;rw [if_pos hk]at this;rw [e1,e3];exact this
  ·obtain⟨j,l,hj,hl,h1,h2,h3⟩:=hM.tfrom k hk t ht;exact(h3 V hV).2 (hA j l hl)
theorem tG(N:List ByteArray)(t:aE):dR N t.1 t.2.1=sF N t:=by
 unfold dR sF dH;by_cases h1:t.1=1
 ·rw [if_pos h1];have e:N.any (fun s=>decide (s=t.2.1))=gN N t.2.1:=rfl;by_cases h2:gN N t.2.1=true
  ·rw [if_pos (e.trans h2),if_pos ⟨h1,h2⟩]
  ·rw [if_neg (by rw [e];exact h2),if_neg (fun h=>h2 h.2)]
 ·rw [if_neg h1,if_neg (fun h=>h1 h.1)]
theorem aDu{N V:List ByteArray}{t:aE}(h:t.1=1/\t.2.1∈N\/t.1=3):fT V (dR N t.1 t.2.1) t.2.1=mZ N V t:=by
 rw [tG];rcases h with⟨h1,h2⟩|h1
 ·have e:sF N t=((N.findIdx fun s=>decide (s=t.2.1):Nat):Int):=by unfold sF;rw [if_pos ⟨h1,dB.2 h2⟩]
  rw [e];unfold fT mZ;rw [if_neg (by omega),if_pos h1,Int.toNat_natCast]
 ·have e:sF N t= -1:=by unfold sF;rw [if_neg (fun h=>by have:=h.1;omega)]
  rw [e];unfold fT mZ;rw [if_pos (by decide),if_neg (by omega)]
end
section
open Go.RowKit Go.Shelf
theorem aE8(Ts:List TrieZ)(t:TrieZ)(v:Nat):atL (Ts++ [t]) v=if v∈t.vs then atL Ts v++ [Ts.length]else atL Ts v:=by
 unfold atL;rw [List.length_append,List.length_singleton,List.range_succ,List.filter_append];have e1:(List.range Ts.length).filter (fun j=>((Ts++ [t]).getD j noT).vs.contains v)=(List.range Ts.length).filter fun j=>(Ts.getD j noT).vs.contains v:=by refine List.filter_congr fun j hj=>?_;have hj':=List.mem_range.1 hj;rw [List.getD_eq_getElem?_getD,List.getElem?_append_left hj',<-List.getD_eq_getElem?_getD]
 rw [e1];have e2:(Ts++ [t]).getD Ts.length noT=t:=by rw [List.getD_eq_getElem?_getD,List.getElem?_append_right (Nat.le_refl _),Nat.sub_self];rfl
 by_cases h:v∈t.vs
 ·rw [if_pos h,List.filter_cons,e2,if_pos (List.contains_iff_mem.2 h)];rfl
 ·rw [if_neg h,List.filter_cons,e2,if_neg (fun e=>h (List.contains_iff_mem.1 e))];simp
theorem aIo(Ts:List TrieZ)(v:Nat):(atL Ts v).length≤Ts.length:=by
 unfold atL;have:=List.length_filter_le (fun j=>(Ts.getD j noT).vs.contains v) (List.range Ts.length)
 rwa [List.length_range]at this
theorem uF(v:Value)(n:Nat):List.replicate n v=(List.range n).map fun _=>v:=by refine List.ext_getElem (by simp) fun i h1 h2=>?_;simp
theorem MatSt.start{E:Nat->Prop}{w0 w:World}{mb ab sb nv nc:Nat}{na:Option Addr}{lo:Nat}(hB:Blk w mb [.slice na nv nc,.slice none 0 0,.slice (some ⟨ab,0,none⟩) nv nv,.slice (some ⟨sb,0,none⟩) (nv+1) (nv+1)] 172)(hA:Blk w ab (List.replicate nv (.slice none 0 0)) 173)(hS:Blk w sb (List.replicate (nv+1) (.slice none 0 0)) 214)
 (hnew:lo≤mb/\lo≤ab/\lo≤sb)(hlow:w0.heap.size≤lo)(hk:Ext w0 w):MatSt E lo w0 w mb ab sb nv na nc [] (atL []) (fun _=> []) (.slice none 0 0) (fun _=> .slice none 0 0) (fun _=> .slice none 0 0):=
 ⟨hB,Row.nil _ _ _ _,by rw [uF]at hA;exact hA,by rw [uF]at hS;exact hS,fun v _=>Row.nil _ _ _ _,fun v _=>Row.nil _ _ _ _,fun _ _ _ _ _ g h=>(by cases h),fun _ _ _ _ _ g h=>(by cases h),fun t h=>by simp at h,fun k _ t h=>by simp at h,hnew,hlow,hk⟩
theorem MatSt.done{E:Nat->Prop}{w0 w:World}{mb ab sb nc:Nat}{na:Option Addr}{lo:Nat}{N:List ByteArray}{Ts:List TrieZ}{tests:Nat->List TestZ}{tv:Value}{av sv:Nat->Value}(h:MatSt E lo w0 w mb ab sb N.length na nc Ts (atL Ts) tests tv av sv)(hN:N.length≤1048576)(hT:Ts.length≤1048576)(ht:∀k,(tests k).length≤1048576):
 ∃A,Fast lo w.heap.size w fun W=>MatchAt W mb ⟨N,Ts,tests⟩ A:=by
 have hp:=h.ptrs.shape;obtain⟨ta,tc,etv,_,_⟩:=hp;have hav:∀v,∃ao cap,v<N.length->av v= .slice ao (atL Ts v).length cap:=fun v=>by
  by_cases hv:v<N.length
  ·obtain⟨ao,cap,e,_,_⟩:=(h.atR v hv).shape;exact⟨ao,cap,fun _=>e⟩
  ·exact⟨none,0,fun h=>absurd h hv⟩
 have hsv:∀k,∃ao cap,k<N.length+1->sv k= .slice ao (tests k).length cap:=fun v=>by
  by_cases hv:v<N.length+1
  ·obtain⟨ao,cap,e,_,_⟩:=(h.slR v hv).shape;exact⟨ao,cap,fun _=>e⟩
  ·exact⟨none,0,fun h=>absurd h hv⟩
 refine⟨⟨na,nc,ta,tc,some ⟨ab,0,none⟩,N.length,some ⟨sb,0,none⟩,N.length+1,fun v=>(hav v).choose,fun v=>(hav v).choose_spec.choose,fun v=>(hsv v).choose,fun v=>(hsv v).choose_spec.choose⟩,fun X hX=>?_⟩;have noF:∀k,lo≤k->k<w.heap.size->¬¬(lo≤k/\k<w.heap.size):=fun k h1 h2 h3=>h3 ⟨h1,h2⟩;have hbox:=h.box.kp hX (noF _ h.new.1 h.box.lt);have hat:=h.atB.kp hX (noF _ h.new.2.1 h.atB.lt);have hsl:=h.slB.kp hX (noF _ h.new.2.2 h.slB.lt);have hptr:=h.ptrs.kp' hX fun g _ hM=>noF g hM (by assumption|>fun hg=>h.ptrs.lt g hg);refine⟨by rw [hbox.cell'];rfl,by rw [hbox.cell',etv];rfl,by rw [hbox.cell'];rfl,by rw [hbox.cell'];rfl,?_,fun v hv=>?_,fun k hk=>?_,fun t ht'=>(h.tries t ht').here X hX,fun k hk t ht'=>(h.tells k (by have:k≤N.length:=hk;omega) t ht').here X hX,hN,hT,fun k _=>ht k⟩
 ·obtain⟨ao,cap,e,hc,_⟩:=hptr.shape;rw [etv]at e;cases e;exact hc
 ·have hv':v<N.length:=hv;have hr:=(h.atR v hv').kp' hX fun g hg hM=>noF g hM ((h.atR v hv').lt g hg);obtain⟨ao,cap,e,hc,_⟩:=hr.shape;have e2:=(hav v).choose_spec.choose_spec hv';refine⟨ab,0,rfl,by rw [hat.cell',Nat.zero_add,fH av hv',e2],?_⟩;rw [e2]at e;cases e;exact hc
 ·have hk':k<N.length+1:=by have:k≤N.length:=hk;omega
  have hr:=(h.slR k hk').kp' hX fun g hg hM=>noF g hM ((h.slR k hk').lt g hg);obtain⟨ao,cap,e,hc,_⟩:=hr.shape;have e2:=(hsv k).choose_spec.choose_spec hk';refine⟨sb,0,rfl,by rw [hsl.cell',Nat.zero_add,fH sv hk',e2],?_⟩;rw [e2]at e;cases e;exact hc
end
section
open Go.RowKit Go.Shelf
attribute [local go_sem] Oper.semAt_some
theorem aKo:cW Tryz.prog 169 173 1 24 (.slice none 0 0):=⟨by kernel_rfl,by kernel_rfl,rfl,by decide⟩
theorem aKn:cW Tryz.prog 170 214 1 24 (.slice none 0 0):=⟨by kernel_rfl,by kernel_rfl,rfl,by decide⟩
def cP(Es:Nat->List Ent)(ls:List aL)(j:Nat):aD:=iB (bS (Es j) ((ls[j]?.map bJ).getD ByteArray.empty))
theorem aIh{N:List ByteArray}{l:aL}: -1≤jV N l:=by
 have hi:∀t,-1≤sF N t:=fun t=>by unfold sF;split<;>omega
 unfold jV;split
 ·split<;>omega
 ·have:=hi (leftOf l);have:=hi (aN l);omega
theorem aN7{r:cG}(h:aU r=0){l:aL}(hl:l∈r.2.1)(hk:l.1=1\/l.1=2):(aA l).length≤64:=by
 unfold aU at h;split at h
 ·rename_i hp;unfold cU at hp;rw [Bool.and_eq_true]at hp;have h1:=List.all_eq_true.1 hp.2 l hl;unfold fC at h1;rw [if_pos hk,Bool.and_eq_true]at h1;exact of_decide_eq_true h1.1
 ·cases h
def aN1(w0:World)(mb ab sb:Nat)(na:Option Addr)(nc:Nat)(ls:List aL)(Es:Nat->List Ent)(n:Nat)(jv:Value)(W:World):Prop:=
 ∃(i:Nat) (Ts:List TrieZ) (tests:Nat->List TestZ) (tv:Value) (av sv:Nat->Value),i≤n/\jv= .int .i64 i/\Hid (MatSt (fun _=>False) w0.heap.size w0 W mb ab sb (aB ls).length na nc Ts (atL Ts) tests tv av sv)/\Hid (MatIs (aB ls) ls (cP Es ls) i Ts tests)/\Hid (Ts.length≤i/\∀k,(tests k).length≤i)
theorem xN{lo:Nat}{w0 W W2:World}{mb ab sb nv nv' nc:Nat}{na:Option Addr}{Ts:List TrieZ}{ats:Nat->List Nat}{tests:Nat->List TestZ}{tv:Value}{av sv:Nat->Value}{P:Nat->World->Prop}(h:MatSt (fun _=>False) lo w0 W mb ab sb nv na nc Ts ats tests tv av sv)(hx:Ext W W2)(hf:Fast W.drew.heap.size W2.heap.size W2 (P nv'))(e:nv=nv')(hsz:W.drew.heap.size≤W2.heap.size):
 HeldF lo (iD (fun _=>False) mb ab sb nv tv av sv) W2 (P nv):=by
 subst e;have hd:W.heap.size≤W.drew.heap.size:=((Kp.refl (F:=fun _=>False) W).drew).size;refine⟨W.drew.heap.size,W2.heap.size,?_,Nat.le_refl _,hf,fun k hk hab=>?_⟩
 ·have h1:=h.new.1;have h2:=h.box.lt;omega
 ·rcases hk with hk|hk
  ·have:=h.lt k hk;omega
  ·exact hk
theorem xP{W1 w4:World}{P:World->Prop}{a:Nat}{x y:Value}(hx:Ext W1 w4)(hf:Fast a w4.heap.size w4 P)(ha:W1.heap.size≤a)(ha2:a≤w4.heap.size):
 ∃a,W1.heap.size≤a/\a≤(w4.alloc (.cells #[x,y] 175)).heap.size/\Ext W1 (w4.alloc (.cells #[x,y] 175))/\Blk (w4.alloc (.cells #[x,y] 175)) w4.heap.size [x,y] 175/\Fast a (w4.alloc (.cells #[x,y] 175)).heap.size (w4.alloc (.cells #[x,y] 175)) P:=by
 have h1:Ext w4 (w4.alloc (.cells #[x,y] 175)):=(Kp.refl w4).alloc _;exact⟨a,ha,Nat.le_trans ha2 h1.size,hx.trans h1,Blk.new w4 _ _,(hf.ext h1).mono (Nat.le_refl _) h1.size⟩
theorem xO{W1 w4:World}{P:World->Prop}{a g:Nat}{u v x y:Value}(hB:Blk w4 g [u,v] 175)(hx:Ext W1 w4)(hf:Fast a w4.heap.size w4 P)(hg:W1.heap.size≤g)(hga:g<a)(ha2:a≤w4.heap.size):
 ∃a,W1.heap.size≤a/\a≤((w4.setCell ⟨g,0,none⟩ x).setCell ⟨g,1,none⟩ y).heap.size/\Ext W1 ((w4.setCell ⟨g,0,none⟩ x).setCell ⟨g,1,none⟩ y)/\Blk ((w4.setCell ⟨g,0,none⟩ x).setCell ⟨g,1,none⟩ y) g [x,y] 175/\Fast a ((w4.setCell ⟨g,0,none⟩ x).setCell ⟨g,1,none⟩ y).heap.size ((w4.setCell ⟨g,0,none⟩ x).setCell ⟨g,1,none⟩ y) P:=by
 have h1:Kp (fun k=>k=g) w4 ((w4.setCell ⟨g,0,none⟩ x).setCell ⟨g,1,none⟩ y):=kSb;refine⟨a,by omega,Nat.le_trans ha2 h1.size,hx.trans' h1 fun i hi e=>by have e':i=g:=e;omega,(hB.set 0 x).set 1 y,(hf.kp h1 fun k e=>by have e':k=g:=e;omega).mono (Nat.le_refl _) h1.size⟩
theorem uN{lo:Nat}{w0 W W2:World}{mb ab sb nv nc a:Nat}{na:Option Addr}{Ts:List TrieZ}{ats:Nat->List Nat}{tests:Nat->List TestZ}{tv:Value}{av sv:Nat->Value}{P:World->Prop}(h:MatSt (fun _=>False) lo w0 W mb ab sb nv na nc Ts ats tests tv av sv)(ha:W.heap.size≤a)(hf:Fast a W2.heap.size W2 P):
 HeldF lo (iD (fun _=>False) mb ab sb nv tv av sv) W2 P:=by
 refine⟨a,W2.heap.size,?_,Nat.le_refl _,hf,fun k hk hab=>?_⟩
 ·have h1:=h.new.1;have h2:=h.box.lt;omega
 ·rcases hk with hk|hk
  ·have:=h.lt k hk;omega
  ·exact hk
theorem aDq{w:World}{mb rb vc:Nat}{va:Option Addr}:Calls Tryz.prog 118 #[.pointer (some ⟨mb,0,none⟩),.agg #[.slice va 0 vc,.pointer (some ⟨rb,0,none⟩)]] w fun e w'=>e= .returned (.tuple #[])/\Ext w w':=by
 obtain⟨gb,egb⟩:=nm w.heap.size;obtain⟨w1,e1⟩:=nm (w.alloc (.cells #[.slice va 0 vc,.pointer (some ⟨rb,0,none⟩)] 175));have b0:w1.cell? ⟨gb,0,none⟩=some (.slice va 0 vc):=by rw [<-e1,<-egb,(Blk.new w [.slice va 0 vc,.pointer (some ⟨rb,0,none⟩)] 175).cell'];rfl
 have x1:=qH (show Ext w w1 from xAX e1);go_enter Tryz.func118,Tryz.ntmps118;go_wp2;refine bodyPost_ret (results_none rfl _ _ _) rfl ?_;exact⟨rfl,x1.out⟩
def aHu(w0 w:World)(r:cG)(Es:Nat->List Ent)(v:Value):Prop:=
 (v= .pointer none/\(aU r≠0\/∀V,¬dN r.2.1 (cP Es r.2.1) V))\/
 ∃mb Ts tests A,v= .pointer (some ⟨mb,0,none⟩)/\aU r=0/\MatIs (aB r.2.1) r.2.1 (cP Es r.2.1) r.2.1.length Ts tests/\Fast w0.heap.size w.heap.size w fun W=>MatchAt W mb ⟨aB r.2.1,Ts,tests⟩ A
set_option maxHeartbeats 4000000 in
theorem aJt{w:World}{p:ByteArray}{hs:List aE}{ls:List aL}{ha ba bsa:Option Addr}{hn hcap n bcap nb bsc:Nat}{G:Nat->Prop}{bvs:List Value}{Es:Nat->List Ent}(hhn:hn=hs.length)(hh:aO w G ha hs)(hhl:hn≤1048576)(hbn:n=ls.length)(h:bW w G ba ls)(hf:Fit ls)(hnv:(aB ls).length≤1048576)(hn16:n≤1048576)
 (hnb:nb=bvs.length)(hbs:CellsAt w bsa bvs)(hB:∀j,∃S,BaseV S w (bvs.getD j (.pointer none)) (Es j)):
 Calls Tryz.prog 81 #[cI p ha hn hcap ba n bcap,.slice bsa nb bsc] w (RetN w fun w' v=>aHu w w' ((p,hs,()),ls,()) Es v):=by
 have HCh:=qH (fun W (hW:Ext w W)=>tS p hs ls ha hn hcap ba n bcap W G hhn (hh.ext hW) hhl hbn (h.ext hW) hf);have HVa:=qH (fun W (hW:Ext w W)=>wD p ha hn hcap ls ba n bcap W G hbn (h.ext hW) hf);have HL:=qH (nIX hbn (nIX h hf));have HBs:=qH (nIX hnb (nIX hbs hB));obtain⟨cR,ecR⟩:=nm (aU ((p,hs,()),ls,()));rw [ecR]at HCh;have HC:=qH ecR;obtain⟨gb,egb⟩:=nm w.heap.size;obtain⟨w1,e1⟩:=nm (w.alloc (.cells #[.string p,.slice ha hn hcap,.slice ba n bcap] 27));have x1:Ext w w1:=xAX e1;have hB1:=bNX egb e1;have H1:=qH (nIX x1 hB1);have r0:=hB1.c0;have r1:=hB1.c1;have r2:=hB1.c2;clear hhn hh hbn h hf hnb hbs hB ecR x1 hB1;go_enter Tryz.func81,Tryz.ntmps81;go_wp2_with fail
 clear e1;refine(HCh.out w1 H1.out.1).mono ?_;rintro e w2 ⟨v2,rfl,hk2,rfl⟩;have H2:=qH (nIX (H1.out.1.trans hk2) (H1.out.2.ext hk2));by_cases hc:cR=0
 ·have HC0:=qH hc;subst hc;have q0:w2.cell? ⟨gb,0,none⟩=some (.string p):=hk2.cell r0 id;have q1:w2.cell? ⟨gb,1,none⟩=some (.slice ha hn hcap):=hk2.cell r1 id;have q2:w2.cell? ⟨gb,2,none⟩=some (.slice ba n bcap):=hk2.cell r2 id;clear hk2 r0 r1 r2;go_wp2_with fail
  refine(HVa.out w2 H2.out.1).mono ?_;rintro e w3 ⟨v3,rfl,hk3,na,nc,rfl,hnc,hna⟩;obtain⟨nv,env⟩:=nm ((aB ls).length);rw [env]at hnv hnc ⊢;have H3:=qH (nIX (H2.out.1.trans hk3) (nIX (H2.out.2.ext hk3) (nIX hna env)));obtain⟨mb,emb⟩:=nm w3.heap.size;have hmk1:=fun W=>jU (P:=Tryz.prog) aKo (c:= .slice none 0 0) rfl nv (by omega) (by unfold maxLen;omega) W;have hmk2:=fun W=>jU (P:=Tryz.prog) aKn (c:= .slice none 0 0) rfl (nv+1) (by omega) (by unfold maxLen;omega) W;simp only [Nat.mul_one]at hmk1 hmk2;have hwn:IntKind.i64.wrap ((nv:Int)+1)=(nv:Int)+1:=IntWalk.i64_in _ (by omega);have ewn:((nv+1:Nat):Int)=(nv:Int)+1:=by omega
  simp only [ewn]at hmk2;clear ewn;have q3:∀o1 o2 o3,(((w3.alloc o1).alloc o2).alloc o3).cell? ⟨gb,2,none⟩=some (.slice ba n bcap):=fun o1 o2 o3=>by rw [((((H3.out.2.1).alloc o1).alloc o2).alloc o3).cell'];rfl
  clear hk3 q0 q1 q2 hnc hna;go_wp2;clear hmk1 hmk2 hwn q3 egb;obtain⟨x1,ex1⟩:=nm (w3.alloc (.cells #[.slice na nv nc,.slice none 0 0,.slice (some ⟨mb+1,0,none⟩) nv nv,.slice (some ⟨mb+1+1,0,none⟩) (nv+1) (nv+1)] 172));rw [ex1];obtain⟨x2,ex2⟩:=nm (x1.alloc (.cells (Array.replicate nv (.slice none 0 0)) 173));rw [ex2];obtain⟨x3,ex3⟩:=nm (x2.alloc (.cells (Array.replicate (nv+1) (.slice none 0 0)) 214));rw [ex3];have hs1:x1.heap.size=mb+1:=by rw [<-ex1,aJ,emb]
  have hs2:x2.heap.size=mb+1+1:=by rw [<-ex2,aJ,hs1]
  have k1:Ext w3 x1:=xAX ex1;have k2:Ext x1 x2:=xAX ex2;have k3:Ext x2 x3:=xAX ex3;have B1:=bNX emb ex1;have B2:Blk x2 (mb+1) (List.replicate nv (.slice none 0 0)) 173:=by have h:=Blk.new x1 (List.replicate nv (.slice none 0 0)) 173;rw [List.toArray_replicate,ex2,hs1]at h;exact h
  have B3:Blk x3 (mb+1+1) (List.replicate (nv+1) (.slice none 0 0)) 214:=by have h:=Blk.new x2 (List.replicate (nv+1) (.slice none 0 0)) 214;rw [List.toArray_replicate,ex3,hs2]at h;exact h
  have HS:=qH (show MatSt (fun _=>False) w3.heap.size w3 x3 mb (mb+1) (mb+1+1) (aB ls).length na nc [] (atL []) (fun _=> []) (.slice none 0 0) (fun _=> .slice none 0 0) (fun _=> .slice none 0 0)from by rw [env];exact MatSt.start (B1.ext (k2.trans k3)) (B2.ext k3) B3 ⟨by omega,by omega,by omega⟩ (Nat.le_refl _) (k1.trans (k2.trans k3)));obtain⟨ab,eab⟩:=nm (mb+1);rw [eab]at HS ⊢;obtain⟨sb,esb⟩:=nm (ab+1);rw [esb]at HS ⊢;have HG:=qH (nIX emb (nIX eab esb));clear ex1 ex2 ex3 hs1 hs2 k1 k2 k3 B1 B2 B3 emb eab esb;go_loopw [39] (fun jv wk=>aN1 w3 mb ab sb na nc ls Es n jv wk) (fun jv _=>n- (intOf jv).toNat)
  case atStart=>exact⟨0,[],_,_,_,_,Nat.zero_le _,rfl,HS,qH MatIs.zero,qH ⟨Nat.le_refl _,fun _=>Nat.le_refl _⟩⟩
  case round=>
   obtain⟨i,Ts,tests,tv,av,sv,hi,rfl,hM,hIs,hFew⟩:=hrel;clear HS;by_cases hlt:i<n
   ·obtain⟨l,hl⟩:∃l,ls[i]?=some l:=⟨_,qG (by rw [<-HL.out.1];exact hlt)⟩;obtain⟨b,off,a2,cap2,eba,hGb,hbl,hLi,c0,c1,c2,c3,c4,c5,c6,c7⟩:=gU (HL.out.2.1.ext H3.out.1) hl;subst eba;replace c0:=hM.out.kp.cell c0 id;replace c1:=hM.out.kp.cell c1 id;replace c2:=hM.out.kp.cell c2 id;replace c3:=hM.out.kp.cell c3 id;replace c4:=hM.out.kp.cell c4 id;replace c5:=hM.out.kp.cell c5 id;replace c6:=hM.out.kp.cell c6 id;replace c7:=hM.out.kp.cell c7 id;obtain⟨m,em⟩:=nm ((aA l).length);rw [em]at c2;have HLi:=qH hl;have HLt:=qH (nIX hLi em);obtain⟨lb,elb⟩:=nm wr.heap.size;obtain⟨W1,eW1⟩:=nm (wr.alloc (.cells #[.int .i64 l.1,.string (bJ l),.slice a2 m cap2,.int .i64 (gM l),.int .i64 (leftOf l).1,.string (leftOf l).2.1,.int .i64 (aN l).1,.string (aN l).2.1] 40));have HW:=qH (show Blk W1 lb [.int .i64 l.1,.string (bJ l),.slice a2 m cap2,.int .i64 (gM l),.int .i64 (leftOf l).1,.string (leftOf l).2.1,.int .i64 (aN l).1,.string (aN l).2.1] 40/\Ext wr W1 from
     ⟨by rw [<-eW1,<-elb];exact Blk.new wr _ _,xAX eW1⟩)
    have HM1:=qH (hM.out.ext HW.out.2);have l0:=HW.out.1.c0;have HFew:=hFew;clear hGb hbl hLi hl em hi hM hFew;have i1:(i:Int)< (n:Int):=by omega
    by_cases hib:i<nb
    case' pos=>
     obtain⟨bv,hbv⟩:∃bv,bvs[i]?=some bv:=⟨_,qG (by rw [<-HBs.out.1];exact hib)⟩;obtain⟨yb,yo,eyb,yc⟩:=(HBs.out.2.1.ext (H3.out.1.trans HM1.out.kp)) i bv hbv;subst eyb;have i2:(i:Int)< (nb:Int):=by omega
     have HBV:=qH (show bvs.getD i (.pointer none)=bv from bM hbv)
    case' neg=>
     have hbs:=HBs.out.1;have hnb2:nb≤i:=by omega
     have HBV:=qH (show bvs.getD i (.pointer none)= .pointer none from by rw [List.getD_eq_getElem?_getD,List.getElem?_eq_none (by omega)];rfl);have i2:¬(i:Int)< (nb:Int):=by omega
     clear hbs hnb2
    all_goals
     rcases xV (r:=((p,hs,()),ls,())) HC.out (List.mem_of_getElem? HLi.out)with hk3|hk3|hk3
     ·have HKd:=qH hk3;have hb3:(l.1==1)=true:=by simp [hk3]
      have hm64:m≤64:=by rw [<-HLt.out.2];exact aN7 HC.out (List.mem_of_getElem? HLi.out) (by omega)
      have HLaid:=qH (show ∀W,Ext w3 W->Calls Tryz.prog 117 #[.agg #[.string (bJ l),.slice a2 m cap2],bvs.getD i (.pointer none),.slice na nv nc] W (RetN W fun w' v=>∃va vc rb iv S',v= .agg #[.slice va (aY (aB ls) (aA l)).length vc,.pointer (some ⟨rb,0,none⟩)]/\Fast W.heap.size w'.heap.size w' fun X=>TableAt S' X va rb iv (aY (aB ls) (aA l)) (dU (aB ls) (aA l) (cP Es ls i)))from fun W hW=>by
       obtain⟨Sb,hBb⟩:=HBs.out.2.2 i;have er:cP Es ls i=iB (bS (Es i) (bJ l)):=by unfold cP;rw [HLi.out];rfl
       rw [er];exact aD8 (hBb.ext (H3.out.1.trans hW)) HLt.out.2.symm (HLt.out.1.terms.kp hW fun _ _ h=>h) hm64 env.symm (H3.out.2.2.1.ext hW) (dG ls) (by omega))
      rw [HBV.out]at HLaid;have HJ:=qH (show ∀w',Ext W1 w'->(fun w':World=>w'.cell? ⟨lb,1,none⟩=some (.string (bJ l))/\w'.cell? ⟨lb,2,none⟩=some (.slice a2 m cap2)/\w'.cell? ⟨mb,0,none⟩=some (.slice na nv nc)) w' from fun w' hw'=>by have hb:=HW.out.1.ext hw';exact⟨by rw [hb.cell'];rfl,by rw [hb.cell'];rfl,by rw [(HM1.out.box.ext hw').cell',env];rfl⟩);have hvl:=pA (ts:=aA l) (dG ls);rw [HLt.out.2]at hvl;rw [hk3]at l0;clear hk3;go_wp2;clear eW1;refine aT (fun w':World=>w'.cell? ⟨lb,1,none⟩=some (.string (bJ l))/\w'.cell? ⟨lb,2,none⟩=some (.slice a2 m cap2)/\w'.cell? ⟨mb,0,none⟩=some (.slice na nv nc)) [9] (by kernel_rfl) (HJ.out _ (Kp.refl W1).drew) (fun hHeld=>?_);refine eFX 0 ?_;refine eIX 1 ?_;refine eFX 2 ?_;refine eFX 3 ?_;refine eFX 4 ?_;refine eFX 5 ?_;refine eIX 6 ?_;refine yT (i:=7) (k:=8) ?_ ?_
      ·refine eCX 7 fun K hK=>?_;go_simp
       (refine(HLaid.out _ (by first|exact HM1.out.kp.trans (Kp.refl W1).drew|exact HM1.out.kp.trans (((Kp.refl W1).drew).alloc _))).mono ?_;rintro e w4 ⟨v4,rfl,hk4,va,vc,rb,ivt,St,rfl,hft⟩;have X1:=qH (nIX (show Ext W1 w4 from(by first|exact((Kp.refl W1).drew).trans hk4|exact(((Kp.refl W1).drew).alloc _).trans hk4)) (nIX hk4 hft));clear hk4 hft)
       go_wp2_with fail
       refine hK.out _ _ (HJ.out _ X1.out.1) fun hHeld=>?_;clear hK K;refine eTX 8 fun K hK=>?_;go_simp;refine hK.out _ _ (by first|exact HJ.out _ (((Kp.refl W1).drew).alloc _)|exact HJ.out _ (X1.out.1.alloc _)) fun hHeld=>?_;clear hK K;refine eLX 9 fun K hK=>?_
       (first|(have hB9:=qH (show Blk w4 W1.heap.size [.slice none 0 0,.pointer none] 175 from(Blk.new W1.drew [.slice none 0 0,.pointer none] 175).ext X1.out.2.1);have c90:w4.cell? ⟨W1.heap.size,0,none⟩=some (.slice none 0 0):=(by rw [hB9.out.cell'];rfl);have c91:w4.cell? ⟨W1.heap.size,1,none⟩=some (.pointer none):=(by rw [hB9.out.cell'];rfl);have f90:=hB9.out.free 0;have f91:=hB9.out.free 1)|skip)
       go_simp;refine hK.out _ _ ?_;clear hK K;refine aK (by kernel_rfl) ?_ _;clear hHeld;first
        | (have HX5:=qH (xP (x:= .slice va (aY (aB ls) (aA l)).length vc) (y:= .pointer (some ⟨rb,0,none⟩)) X1.out.1 X1.out.2.2 (Kp.refl (F:=fun _=>False) W1).drew.size X1.out.2.1.size)
           obtain⟨tg,etg⟩:=nm w4.heap.size;obtain⟨W5,eW5⟩:=nm (w4.alloc (.cells #[.slice va (aY (aB ls) (aA l)).length vc,.pointer (some ⟨rb,0,none⟩)] 175));rw [eW5]at HX5 ⊢;rw [etg]at HX5 ⊢;clear eW5 etg)
        | (have HX5:=qH (xO (x:= .slice va (aY (aB ls) (aA l)).length vc) (y:= .pointer (some ⟨rb,0,none⟩)) hB9.out X1.out.1 X1.out.2.2 (Nat.le_refl _) (by show W1.heap.size< (W1.alloc _).heap.size;rw [aJ];exact Nat.lt_succ_self _) X1.out.2.1.size)
           clear c90 c91 f90 f91;obtain⟨tg,etg⟩:=nm W1.heap.size;obtain⟨W5,eW5⟩:=nm ((w4.setCell ⟨W1.heap.size,0,none⟩ (.slice va (aY (aB ls) (aA l)).length vc)).setCell ⟨W1.heap.size,1,none⟩ (.pointer (some ⟨rb,0,none⟩)));rw [eW5]at HX5 ⊢;have HTG:=qH etg;rw [etg]at HX5 ⊢;clear eW5)
       have H5:=qH (show ∃a,W1.heap.size≤a/\a≤W5.heap.size/\Ext W1 W5/\Blk W5 tg [.slice va (aY (aB ls) (aA l)).length vc,.pointer (some ⟨rb,0,none⟩)] 175/\Fast a W5.heap.size W5 fun X=>TableAt St X va rb ivt (aY (aB ls) (aA l)) (dU (aB ls) (aA l) (cP Es ls i))from by
        obtain⟨a,h1,h2⟩:=HX5.out;refine⟨a,?_,h2⟩;first
         |exact h1
         | (have h3:=HTG.out
            omega))
       clear HX5;obtain⟨a,ha1,ha2,hx5,hb5,hf5⟩:=H5.out;obtain⟨nV,enV⟩:=nm ((aY (aB ls) (aA l)).length);obtain⟨LLt,eLLt⟩:=nm (dU (aB ls) (aA l) (cP Es ls i));rw [eLLt]at hf5;have hLLt:LLt.length≤65536:=by
        obtain⟨Sb,hBb⟩:=HBs.out.2.2 i;have er:cP Es ls i=iB (bS (Es i) (bJ l)):=by unfold cP;rw [HLi.out];rfl
        have h1:=vT (aB ls) (aA l) (cP Es ls i);rw [eLLt,er]at h1;refine Nat.le_trans h1 ?_;cases hfe:bS (Es i) (bJ l)with
        |none=>exact Nat.zero_le _
        |some e=>exact(hBb.ok.all _ (List.mem_map.2 ⟨e,(cZ hfe).1,rfl⟩)).few
       have HLen:=qH (tC (z:=False) hf5.here.rows.q);have t1:=hb5.c1;have H6:=qH (nIX ha1 (nIX ha2 (nIX hx5 (nIX hb5 (nIX hf5 (nIX enV (nIX eLLt hLLt)))))));rw [enV]at hvl;clear ha1 ha2 hx5 hb5 hf5 H5 hLLt;go_wp2_with fail
       refine HLen.out.mono ?_;rintro e W6 ⟨v6,rfl,hk6,rfl,-⟩;have hx6:=Kp.fq hk6;obtain⟨nL,enL⟩:=nm LLt.length;rw [enL];have HX6:=qH (nIX hx6 enL);by_cases h0:nL=0
       ·subst h0;have HNone:=qH (show ∀V,¬dN ls (cP Es ls) V from fun V hV=>by
         have h1:=((zF (r:=((p,hs,()),ls,())) HC.out).1 hV).2 i l HLi.out;unfold kD at h1;rw [if_pos HKd.out]at h1;have h2:=H6.out.2.2.2.2.2.2.1;have h3:dU (aB ls) (aA l) (cP Es ls i)= []:=h2.trans (List.eq_nil_of_length_eq_zero HX6.out.2);exact absurd (show _∈([]:aD)from h3▸h1) (by simp))
        clear hk6 hx6 enL t1;go_wp2;go_ret;exact RetN.mk (H3.out.1.trans (HM1.out.kp.trans (H6.out.2.2.1.trans HX6.out.1))) (.inl ⟨rfl,.inr HNone.out⟩)
       ·have hn0:((nL:Int)==0)=false:=by simp;omega
        have HN0:=qH h0;have u0:W6.cell? ⟨tg,0,none⟩=some (.slice va nV vc):=by rw [(H6.out.2.2.2.1.ext hx6).cell',<-H6.out.2.2.2.2.2.1];rfl
        have u1:=(H6.out.2.2.2.1.ext hx6).c1;have HM6:=qH (HM1.out.ext (H6.out.2.2.1.trans hx6));have hFw:=HFew.out;by_cases hv0:nV=0
        ·subst hv0;have hvn:aY (aB ls) (aA l)= []:=List.eq_nil_of_length_eq_zero H6.out.2.2.2.2.2.1;have HP:=qH (MatIs.none hIs.out HLi.out HKd.out hvn (by
          have h2:=H6.out.2.2.2.2.2.2.1;rw [h2,HX6.out.2];exact Nat.pos_of_ne_zero HN0.out))
         clear hk6 hx6 enL t1 hvn h0;go_wp2_with fail
         refine(aDq (w:=W6) (mb:=mb) (rb:=rb) (vc:=vc) (va:=va)).mono ?_;rintro e W7 ⟨rfl,hx7⟩;have HM7:=qH (HM6.out.ext hx7);have HFx:=qH (show Ts.length≤i+1/\∀k,(tests k).length≤i+1 from⟨by omega,fun k=>by have:=hFw.2 k;omega⟩);clear hx7 hFw;go_wp2;go_roundw
         case rel=>exact⟨i+1,Ts,tests,tv,av,sv,by omega,nMX,HM7,HP,HFx⟩
         case measure=>simp [intOf];omega
        ·have HV0:=qH hv0;have HT:=qH (uN HM1.out (W2:=W6) (a:=a) (P:=fun X=>TableAt St X va rb ivt (aY (aB ls) (aA l)) LLt) H6.out.1 ((H6.out.2.2.2.2.1.ext hx6).mono (Nat.le_refl _) hx6.size));clear hk6 hx6 enL t1 h0;go_wp2_with fail
         refine(aH5 HM6.out HT.out (fun _ h=>h.elim) H6.out.2.2.2.2.2.1.symm (by omega) (by omega) (fun v hv=>(eD.1 hv).1) ((List.nodup_range).filter _) (fun x hx=>by have h2:=H6.out.2.2.2.2.2.2.1;rw [<-h2]at hx;rw [vS hx];exact H6.out.2.2.2.2.2.1) H6.out.2.2.2.2.2.2.2 (by omega) (by omega) (fun v=>by have:=aIo Ts v;omega)).mono ?_;rintro e W7 ⟨rfl,tb,tv2,av2,hM7⟩;have HM7:=qH (hM7.congr (ats':=atL (Ts++ [⟨tb,aY (aB ls) (aA l),LLt⟩])) (fun v _=>by rw [aE8]) (fun _ _=>rfl));have HP:=qH (MatIs.put hIs.out HLi.out HKd.out (fun e=>HV0.out (by rw [<-H6.out.2.2.2.2.2.1,e];rfl)) (by have h2:=H6.out.2.2.2.2.2.2.1;rw [h2,HX6.out.2];exact Nat.pos_of_ne_zero HN0.out) (t:=⟨tb,aY (aB ls) (aA l),LLt⟩) rfl H6.out.2.2.2.2.2.2.1.symm);have HFx:=qH (show(Ts++ [(⟨tb,aY (aB ls) (aA l),LLt⟩:TrieZ)]).length≤i+1/\∀k,(tests k).length≤i+1 from⟨by rw [List.length_append,List.length_singleton];omega,fun k=>by have:=hFw.2 k;omega⟩);clear hM7 hFw;go_wp2;go_roundw
         case rel=>exact⟨i+1,_,tests,tv2,av2,sv,by omega,nMX,HM7,HP,HFx⟩
         case measure=>simp [intOf];omega
      ·refine eCX 8 fun K hK=>?_;go_simp;refine hK.out _ _ (by first|exact HJ.out _ (((Kp.refl W1).drew).alloc _)|exact HJ.out _ (X1.out.1.alloc _)) fun hHeld=>?_;clear hK K;refine eTX 7 fun K hK=>?_;go_simp
       (refine(HLaid.out _ (by first|exact HM1.out.kp.trans (Kp.refl W1).drew|exact HM1.out.kp.trans (((Kp.refl W1).drew).alloc _))).mono ?_;rintro e w4 ⟨v4,rfl,hk4,va,vc,rb,ivt,St,rfl,hft⟩;have X1:=qH (nIX (show Ext W1 w4 from(by first|exact((Kp.refl W1).drew).trans hk4|exact(((Kp.refl W1).drew).alloc _).trans hk4)) (nIX hk4 hft));clear hk4 hft)
       go_wp2_with fail
       refine hK.out _ _ (HJ.out _ X1.out.1) fun hHeld=>?_;clear hK K;refine eLX 9 fun K hK=>?_
       (first|(have hB9:=qH (show Blk w4 W1.heap.size [.slice none 0 0,.pointer none] 175 from(Blk.new W1.drew [.slice none 0 0,.pointer none] 175).ext X1.out.2.1);have c90:w4.cell? ⟨W1.heap.size,0,none⟩=some (.slice none 0 0):=(by rw [hB9.out.cell'];rfl);have c91:w4.cell? ⟨W1.heap.size,1,none⟩=some (.pointer none):=(by rw [hB9.out.cell'];rfl);have f90:=hB9.out.free 0;have f91:=hB9.out.free 1)|skip)
       go_simp;refine hK.out _ _ ?_;clear hK K;refine aK (by kernel_rfl) ?_ _;clear hHeld;first
        | (have HX5:=qH (xP (x:= .slice va (aY (aB ls) (aA l)).length vc) (y:= .pointer (some ⟨rb,0,none⟩)) X1.out.1 X1.out.2.2 (Kp.refl (F:=fun _=>False) W1).drew.size X1.out.2.1.size)
           obtain⟨tg,etg⟩:=nm w4.heap.size;obtain⟨W5,eW5⟩:=nm (w4.alloc (.cells #[.slice va (aY (aB ls) (aA l)).length vc,.pointer (some ⟨rb,0,none⟩)] 175));rw [eW5]at HX5 ⊢;rw [etg]at HX5 ⊢;clear eW5 etg)
        | (have HX5:=qH (xO (x:= .slice va (aY (aB ls) (aA l)).length vc) (y:= .pointer (some ⟨rb,0,none⟩)) hB9.out X1.out.1 X1.out.2.2 (Nat.le_refl _) (by show W1.heap.size< (W1.alloc _).heap.size;rw [aJ];exact Nat.lt_succ_self _) X1.out.2.1.size)
           clear c90 c91 f90 f91;obtain⟨tg,etg⟩:=nm W1.heap.size;obtain⟨W5,eW5⟩:=nm ((w4.setCell ⟨W1.heap.size,0,none⟩ (.slice va (aY (aB ls) (aA l)).length vc)).setCell ⟨W1.heap.size,1,none⟩ (.pointer (some ⟨rb,0,none⟩)));rw [eW5]at HX5 ⊢;have HTG:=qH etg;rw [etg]at HX5 ⊢;clear eW5)
       have H5:=qH (show ∃a,W1.heap.size≤a/\a≤W5.heap.size/\Ext W1 W5/\Blk W5 tg [.slice va (aY (aB ls) (aA l)).length vc,.pointer (some ⟨rb,0,none⟩)] 175/\Fast a W5.heap.size W5 fun X=>TableAt St X va rb ivt (aY (aB ls) (aA l)) (dU (aB ls) (aA l) (cP Es ls i))from by
        obtain⟨a,h1,h2⟩:=HX5.out;refine⟨a,?_,h2⟩;first
         |exact h1
         | (have h3:=HTG.out
            omega))
       clear HX5;obtain⟨a,ha1,ha2,hx5,hb5,hf5⟩:=H5.out;obtain⟨nV,enV⟩:=nm ((aY (aB ls) (aA l)).length);obtain⟨LLt,eLLt⟩:=nm (dU (aB ls) (aA l) (cP Es ls i));rw [eLLt]at hf5;have hLLt:LLt.length≤65536:=by
        obtain⟨Sb,hBb⟩:=HBs.out.2.2 i;have er:cP Es ls i=iB (bS (Es i) (bJ l)):=by unfold cP;rw [HLi.out];rfl
        have h1:=vT (aB ls) (aA l) (cP Es ls i);rw [eLLt,er]at h1;refine Nat.le_trans h1 ?_;cases hfe:bS (Es i) (bJ l)with
        |none=>exact Nat.zero_le _
        |some e=>exact(hBb.ok.all _ (List.mem_map.2 ⟨e,(cZ hfe).1,rfl⟩)).few
       have HLen:=qH (tC (z:=False) hf5.here.rows.q);have t1:=hb5.c1;have H6:=qH (nIX ha1 (nIX ha2 (nIX hx5 (nIX hb5 (nIX hf5 (nIX enV (nIX eLLt hLLt)))))));rw [enV]at hvl;clear ha1 ha2 hx5 hb5 hf5 H5 hLLt;go_wp2_with fail
       refine HLen.out.mono ?_;rintro e W6 ⟨v6,rfl,hk6,rfl,-⟩;have hx6:=Kp.fq hk6;obtain⟨nL,enL⟩:=nm LLt.length;rw [enL];have HX6:=qH (nIX hx6 enL);by_cases h0:nL=0
       ·subst h0;have HNone:=qH (show ∀V,¬dN ls (cP Es ls) V from fun V hV=>by
         have h1:=((zF (r:=((p,hs,()),ls,())) HC.out).1 hV).2 i l HLi.out;unfold kD at h1;rw [if_pos HKd.out]at h1;have h2:=H6.out.2.2.2.2.2.2.1;have h3:dU (aB ls) (aA l) (cP Es ls i)= []:=h2.trans (List.eq_nil_of_length_eq_zero HX6.out.2);exact absurd (show _∈([]:aD)from h3▸h1) (by simp))
        clear hk6 hx6 enL t1;go_wp2;go_ret;exact RetN.mk (H3.out.1.trans (HM1.out.kp.trans (H6.out.2.2.1.trans HX6.out.1))) (.inl ⟨rfl,.inr HNone.out⟩)
       ·have hn0:((nL:Int)==0)=false:=by simp;omega
        have HN0:=qH h0;have u0:W6.cell? ⟨tg,0,none⟩=some (.slice va nV vc):=by rw [(H6.out.2.2.2.1.ext hx6).cell',<-H6.out.2.2.2.2.2.1];rfl
        have u1:=(H6.out.2.2.2.1.ext hx6).c1;have HM6:=qH (HM1.out.ext (H6.out.2.2.1.trans hx6));have hFw:=HFew.out;by_cases hv0:nV=0
        ·subst hv0;have hvn:aY (aB ls) (aA l)= []:=List.eq_nil_of_length_eq_zero H6.out.2.2.2.2.2.1;have HP:=qH (MatIs.none hIs.out HLi.out HKd.out hvn (by
          have h2:=H6.out.2.2.2.2.2.2.1;rw [h2,HX6.out.2];exact Nat.pos_of_ne_zero HN0.out))
         clear hk6 hx6 enL t1 hvn h0;go_wp2_with fail
         refine(aDq (w:=W6) (mb:=mb) (rb:=rb) (vc:=vc) (va:=va)).mono ?_;rintro e W7 ⟨rfl,hx7⟩;have HM7:=qH (HM6.out.ext hx7);have HFx:=qH (show Ts.length≤i+1/\∀k,(tests k).length≤i+1 from⟨by omega,fun k=>by have:=hFw.2 k;omega⟩);clear hx7 hFw;go_wp2;go_roundw
         case rel=>exact⟨i+1,Ts,tests,tv,av,sv,by omega,nMX,HM7,HP,HFx⟩
         case measure=>simp [intOf];omega
        ·have HV0:=qH hv0;have HT:=qH (uN HM1.out (W2:=W6) (a:=a) (P:=fun X=>TableAt St X va rb ivt (aY (aB ls) (aA l)) LLt) H6.out.1 ((H6.out.2.2.2.2.1.ext hx6).mono (Nat.le_refl _) hx6.size));clear hk6 hx6 enL t1 h0;go_wp2_with fail
         refine(aH5 HM6.out HT.out (fun _ h=>h.elim) H6.out.2.2.2.2.2.1.symm (by omega) (by omega) (fun v hv=>(eD.1 hv).1) ((List.nodup_range).filter _) (fun x hx=>by have h2:=H6.out.2.2.2.2.2.2.1;rw [<-h2]at hx;rw [vS hx];exact H6.out.2.2.2.2.2.1) H6.out.2.2.2.2.2.2.2 (by omega) (by omega) (fun v=>by have:=aIo Ts v;omega)).mono ?_;rintro e W7 ⟨rfl,tb,tv2,av2,hM7⟩;have HM7:=qH (hM7.congr (ats':=atL (Ts++ [⟨tb,aY (aB ls) (aA l),LLt⟩])) (fun v _=>by rw [aE8]) (fun _ _=>rfl));have HP:=qH (MatIs.put hIs.out HLi.out HKd.out (fun e=>HV0.out (by rw [<-H6.out.2.2.2.2.2.1,e];rfl)) (by have h2:=H6.out.2.2.2.2.2.2.1;rw [h2,HX6.out.2];exact Nat.pos_of_ne_zero HN0.out) (t:=⟨tb,aY (aB ls) (aA l),LLt⟩) rfl H6.out.2.2.2.2.2.2.1.symm);have HFx:=qH (show(Ts++ [(⟨tb,aY (aB ls) (aA l),LLt⟩:TrieZ)]).length≤i+1/\∀k,(tests k).length≤i+1 from⟨by rw [List.length_append,List.length_singleton];omega,fun k=>by have:=hFw.2 k;omega⟩);clear hM7 hFw;go_wp2;go_roundw
         case rel=>exact⟨i+1,_,tests,tv2,av2,sv,by omega,nMX,HM7,HP,HFx⟩
         case measure=>simp [intOf];omega
     ·have HKd:=qH hk3;have hb3:(l.1==1)=false:=by simp [hk3]
      have hb4:(l.1==2)=true:=by simp [hk3]
      have hm64:m≤64:=by rw [<-HLt.out.2];exact aN7 HC.out (List.mem_of_getElem? HLi.out) (by omega)
      have HLaid:=qH (show ∀W,Ext w3 W->Calls Tryz.prog 117 #[.agg #[.string (bJ l),.slice a2 m cap2],bvs.getD i (.pointer none),.slice na nv nc] W (RetN W fun w' v=>∃va vc rb iv S',v= .agg #[.slice va (aY (aB ls) (aA l)).length vc,.pointer (some ⟨rb,0,none⟩)]/\Fast W.heap.size w'.heap.size w' fun X=>TableAt S' X va rb iv (aY (aB ls) (aA l)) (dU (aB ls) (aA l) (cP Es ls i)))from fun W hW=>by
       obtain⟨Sb,hBb⟩:=HBs.out.2.2 i;have er:cP Es ls i=iB (bS (Es i) (bJ l)):=by unfold cP;rw [HLi.out];rfl
       rw [er];exact aD8 (hBb.ext (H3.out.1.trans hW)) HLt.out.2.symm (HLt.out.1.terms.kp hW fun _ _ h=>h) hm64 env.symm (H3.out.2.2.1.ext hW) (dG ls) (by omega))
      rw [HBV.out]at HLaid;obtain⟨kx,ekx⟩:∃kx:Nat,jV (aB ls) l+1=(kx:Int):=⟨(jV (aB ls) l+1).toNat,by have:=aIh (N:=aB ls) (l:=l);omega⟩;have hkn:kx<nv+1:=by have:=aIg (N:=aB ls) (l:=l);omega
      have HK:=qH (nIX ekx hkn);have HJ:=qH (show ∀w',Ext W1 w'->(fun w':World=>w'.cell? ⟨lb,1,none⟩=some (.string (bJ l))/\w'.cell? ⟨lb,2,none⟩=some (.slice a2 m cap2)/\w'.cell? ⟨mb,0,none⟩=some (.slice na nv nc)) w' from fun w' hw'=>by have hb:=HW.out.1.ext hw';exact⟨by rw [hb.cell'];rfl,by rw [hb.cell'];rfl,by rw [(HM1.out.box.ext hw').cell',env];rfl⟩);have hvl:=pA (ts:=aA l) (dG ls);rw [HLt.out.2]at hvl;rw [hk3]at l0;clear ekx hkn hk3;go_wp2;clear eW1;refine aT (fun w':World=>w'.cell? ⟨lb,1,none⟩=some (.string (bJ l))/\w'.cell? ⟨lb,2,none⟩=some (.slice a2 m cap2)/\w'.cell? ⟨mb,0,none⟩=some (.slice na nv nc)) [10] (by kernel_rfl) (HJ.out _ (Kp.refl W1).drew) (fun hHeld=>?_);refine eFX 0 ?_;refine eFX 1 ?_;refine eIX 2 ?_;refine eFX 3 ?_;refine eFX 4 ?_;refine eFX 5 ?_;refine eFX 6 ?_;refine eIX 7 ?_;refine eTX 8 fun K hK=>?_;go_simp
      (refine(HLaid.out _ (HM1.out.kp.trans (Kp.refl W1).drew)).mono ?_;rintro e w4 ⟨v4,rfl,hk4,va,vc,rb,ivt,St,rfl,hft⟩;have X1:=qH (nIX (show Ext W1 w4 from((Kp.refl W1).drew).trans hk4) (nIX hk4.size hft));clear hk4 hft)
      go_wp2_with fail
      refine hK.out _ _ (HJ.out _ X1.out.1) fun hHeld=>?_;clear hK K;refine eTX 9 fun K hK=>?_;go_simp
      (refine(aD2 (nv:=nv) (lo:=W1.drew.heap.size) X1.out.2.2 rfl (by omega) (fun v hv=>(by have:=(eD.1 hv).1;omega)) (by omega) X1.out.2.1).mono ?_;rintro e w5 ⟨v5,rfl,hk5,t,rfl,hlast,hask,hfast⟩;have X2:=qH (nIX hk5 (nIX hlast (nIX hask hfast)));clear hk5 hlast hask hfast)
      go_wp2_with fail
      refine hK.out _ _ (HJ.out _ (X1.out.1.trans X2.out.1)) fun hHeld=>?_;clear hK K;refine eLX 10 fun K hK=>?_;go_simp
      (refine(aIr (k:=kx) (L:=t.last) (HM1.out.ext (X1.out.1.trans X2.out.1)) rfl (by rw [X2.out.2.1];have h8:=HK.out.1;unfold jV at h8;rw [if_pos HKd.out]at h8;exact h8) (by rw [env];exact HK.out.2) (by omega) (xN (P:=fun nv W=>TestOk W nv t) HM1.out (X1.out.1.trans X2.out.1) X2.out.2.2.2 env (Nat.le_trans X1.out.2.1 X2.out.1.size)) (by have:=HFew.out.2 kx;omega)).mono ?_;rintro e w6 ⟨rfl,sv2,hM5⟩;have X5:=qH hM5;clear hM5)
      go_wp2_with fail
      refine hK.out _ _ ?_;clear hK K;refine aK (by kernel_rfl) ?_ _;have hFw:=HFew.out;have HP:=qH (MatIs.add hIs.out HLi.out (by rw [HKd.out];decide) (t:=t) (k:=kx) (by rw [env];have:=HK.out.2;omega) (by have:=HK.out.1;omega) fun V hV=>by rw [X2.out.2.2.1 V,aMg dX sM];unfold kD;rw [if_neg (by rw [HKd.out];decide),if_pos HKd.out]);have HFx:=qH (show Ts.length≤i+1/\∀k,(dQ tests kx (tests kx++ [t]) k).length≤i+1 from⟨by omega,fun k=>by
       by_cases e:k=kx
       ·rw [e,upd_same,List.length_append,List.length_singleton];have:=hFw.2 kx;omega
       ·rw [aH _ _ e];have:=hFw.2 k;omega⟩)
      clear hFw;go_wp2;go_roundw
      case rel=>exact⟨i+1,Ts,_,tv,av,sv2,by omega,nMX,X5,HP,HFx⟩
      case measure=>simp [intOf];omega
     ·have HCm:=qH (fun W (hW:Ext w3 W)=>aCk (a:=a2) (m:=m) (cap:=cap2) (nc:=nc) (aB ls) 3 (bJ l) (gM l) (leftOf l).1 (leftOf l).2.1 (aN l).1 (aN l).2.1 H3.out.2.2.2.symm (H3.out.2.2.1.ext hW) (by omega));have HKd:=qH hk3;have hb3:(l.1==1)=false:=by simp [hk3]
      have hb4:(l.1==2)=false:=by simp [hk3]
      have hb5:(l.1==3)=true:=by simp [hk3]
      obtain⟨kx,eK⟩:∃kx:Nat,jV (aB ls) l+1=(kx:Int):=⟨(jV (aB ls) l+1).toNat,by have:=aIh (N:=aB ls) (l:=l);omega⟩;have hkxn:kx<nv+1:=by have:=aIg (N:=aB ls) (l:=l);omega
      have HK:=qH (nIX eK hkxn);have HJ:=qH (show ∀w',Ext W1 w'->(fun w':World=>w'.cell? ⟨lb,0,none⟩=some (.int .i64 3)/\w'.cell? ⟨lb,1,none⟩=some (.string (bJ l))/\w'.cell? ⟨lb,2,none⟩=some (.slice a2 m cap2)/\w'.cell? ⟨lb,3,none⟩=some (.int .i64 (gM l))/\w'.cell? ⟨lb,4,none⟩=some (.int .i64 (leftOf l).1)/\w'.cell? ⟨lb,5,none⟩=some (.string (leftOf l).2.1)/\w'.cell? ⟨lb,6,none⟩=some (.int .i64 (aN l).1)/\w'.cell? ⟨lb,7,none⟩=some (.string (aN l).2.1)/\w'.cell? ⟨mb,0,none⟩=some (.slice na nv nc)) w' from fun w' hw'=>by have hb:=HW.out.1.ext hw';rw [hk3]at hb;exact⟨by rw [hb.cell'];rfl,by rw [hb.cell'];rfl,by rw [hb.cell'];rfl,by rw [hb.cell'];rfl,by rw [hb.cell'];rfl,by rw [hb.cell'];rfl,by rw [hb.cell'];rfl,by rw [hb.cell'];rfl,by rw [(HM1.out.box.ext hw').cell',env];rfl⟩);rw [hk3]at l0;clear eK hkxn hk3;go_wp2;clear eW1;refine aT (fun w':World=>w'.cell? ⟨lb,0,none⟩=some (.int .i64 3)/\w'.cell? ⟨lb,1,none⟩=some (.string (bJ l))/\w'.cell? ⟨lb,2,none⟩=some (.slice a2 m cap2)/\w'.cell? ⟨lb,3,none⟩=some (.int .i64 (gM l))/\w'.cell? ⟨lb,4,none⟩=some (.int .i64 (leftOf l).1)/\w'.cell? ⟨lb,5,none⟩=some (.string (leftOf l).2.1)/\w'.cell? ⟨lb,6,none⟩=some (.int .i64 (aN l).1)/\w'.cell? ⟨lb,7,none⟩=some (.string (aN l).2.1)/\w'.cell? ⟨mb,0,none⟩=some (.slice na nv nc)) [7] (by kernel_rfl) (HJ.out _ (Kp.refl W1).drew) (fun hHeld=>?_);refine eFX 0 ?_;refine eIX 1 ?_;refine eFX 2 ?_;refine eFX 3 ?_;refine eFX 4 ?_;refine eIX 5 ?_;refine eTX 6 fun K hK=>?_;go_simp
      (refine(HCm.out _ (HM1.out.kp.trans (Kp.refl W1).drew)).mono ?_;rintro e w4 ⟨v4,rfl,hk4,t,rfl,hlast,hask,hfast⟩;have X1:=qH (nIX (show Ext W1 w4 from((Kp.refl W1).drew).trans hk4) (nIX hlast (nIX hask (nIX hk4.size hfast))));clear hk4 hlast hask hfast)
      go_wp2_with fail
      refine hK.out _ _ (HJ.out _ X1.out.1) fun hHeld=>?_;clear hK K;refine eLX 7 fun K hK=>?_;go_simp
      (refine(aIr (k:=kx) (L:=t.last) (HM1.out.ext X1.out.1) rfl (by rw [X1.out.2.1,tG (t:=leftOf l),tG (t:=aN l)];have h8:=HK.out.1;unfold jV at h8;rw [if_neg (by rw [HKd.out];decide)]at h8;exact h8) (by rw [env];exact HK.out.2) (by omega) (xN (P:=fun nv W=>TestOk W nv t) HM1.out X1.out.1 X1.out.2.2.2.2 env X1.out.2.2.2.1) (by have:=HFew.out.2 kx;omega)).mono ?_;rintro e w5 ⟨rfl,sv2,hM5⟩;have X5:=qH hM5;clear hM5)
      go_wp2_with fail
      refine hK.out _ _ ?_;clear hK K;refine aK (by kernel_rfl) ?_ _;have hFw:=HFew.out;have HP:=qH (MatIs.add hIs.out HLi.out (by rw [HKd.out];decide) (t:=t) (k:=kx) (by rw [env];have:=HK.out.2;omega) (by have:=HK.out.1;omega) fun V hV=>by rw [X1.out.2.2.1 V,aH8];unfold kD;rw [if_neg (by rw [HKd.out];decide),if_neg (by rw [HKd.out];decide)];have hs:=rG (r:=((p,hs,()),ls,())) HC.out (List.mem_of_getElem? HLi.out) HKd.out;rw [<-aDu (hs _ (.inl rfl)),<-aDu (hs _ (.inr rfl))]);have HFx:=qH (show Ts.length≤i+1/\∀k,(dQ tests kx (tests kx++ [t]) k).length≤i+1 from⟨by omega,fun k=>by
       by_cases e:k=kx
       ·rw [e,upd_same,List.length_append,List.length_singleton];have:=hFw.2 kx;omega
       ·rw [aH _ _ e];have:=hFw.2 k;omega⟩)
      clear hFw;go_wp2;go_roundw
      case rel=>exact⟨i+1,Ts,_,tv,av,sv2,by omega,nMX,X5,HP,HFx⟩
      case measure=>simp [intOf];omega
   ·obtain rfl:n=i:=by omega
    have hM2:=hM.out;obtain⟨A,hA⟩:=hM2.done (by first|omega|rw [env]) (by have:=hFew.out.1;omega) (fun k=>by have:=hFew.out.2 k;omega);have hx:Ext w wr:=H3.out.1.trans hM2.kp;have HFin:=qH (show Ext w wr/\aHu w wr ((p,hs,()),ls,()) Es (.pointer (some ⟨mb,0,none⟩))from
     ⟨hx,.inr ⟨mb,Ts,tests,A,rfl,HC.out,by rw [<-HL.out.1];exact hIs.out,hA.mono H3.out.1.size (Nat.le_refl _)⟩⟩)
    clear hM2 hA hx hM hIs hFew hi hlt;go_wp2;go_ret;exact RetN.mk HFin.out.1 HFin.out.2
 ·have hc':((cR:Int)==0)=false:=by simp;omega
  go_wp2;go_ret;exact RetN.mk H2.out.1 (.inl ⟨rfl,.inl (by rw [HC.out];exact hc)⟩)
end
section
open Go.RowKit Go.Shelf
theorem aEk{C:WCtx}(hC:C.Ok){l n:Nat}(hY:C.Yields l n):∀(m v:Nat),v+m=C.M.N.length->C.From v
 |0,v,h=>rC hC hY (by omega) fun h2=>by omega
 |m+1,v,h=>rC hC hY (by omega) fun _=>aEk hC hY m (v+1) (by omega)
def aIv(J Jx:(Nat->Prop)->List XB->World->Prop)(Lall:aD)(e:Ending)(W':World):Prop:=
 (∃v,e= .returned v)/\∃T W1,Kp T W1 W'/\((∃xs:List XB,xs.map Prod.snd=Lall/\J T xs W1)\/ (∃pre:List XB,pre.map Prod.snd<+:Lall/\Jx T pre W1))
structure AllAt(M:MatchZ)(W:World)(wb mb rb:Nat)(yv:Value)(m:Nat)(cv:Value)(cb:Nat->Nat)(w:World):Prop where
 box:Blk w wb [.pointer (some ⟨mb,0,none⟩),cv,.slice (some ⟨rb,0,none⟩) M.N.length M.N.length,yv] 186
 row:Blk w rb (strs (List.replicate M.N.length ⟨#[]⟩)) 9
 curs:Row w 188 1 cv m (yW cb m) (fun g=>W.heap.size≤g)
 cur:∀(j:Nat) t,j<m->M.Ts[j]?=some t->CurS w (cb j) t.tb [] (.slice none 0 0)/\W.heap.size≤cb j
 inj:∀i j,i<m->j<m->cb i=cb j->i=j
 kp:Ext W w
theorem AllAt.push{M:MatchZ}{W w w3 w4:World}{wb mb rb m cb3:Nat}{yv cv lv:Value}{cb:Nat->Nat}{t:TrieZ}{e3:Array Value}(h:AllAt M W wb mb rb yv m cv cb w)(hlo:W.heap.size≤wb)(ht:M.Ts[m]?=some t)(h3:Ext w w3)(hn:w.heap.size≤cb3)(hc:CurAt w3 cb3 t.tb [] (.slice none 0 0) (fun k=>w.heap.size≤k))
 (hr:Row w4 188 1 lv (m+1) (yW cb m++ [.pointer (some ⟨cb3,0,none⟩)]) (fun g=>cv.ownBlock=some g\/ (w3.alloc (.cells e3 188)).heap.size≤g))(hk:Kp (fun g=>cv.ownBlock=some g) (w3.alloc (.cells e3 188)) w4):
 AllAt M W wb mb rb yv (m+1) lv (dQ cb m cb3) (w4.setCell ⟨wb,1,none⟩ lv):=by
 obtain⟨t1,t2,t3,t4,t5,t6,t7,t8,t9⟩:=aHy;have x4:Ext w (w3.alloc (.cells e3 188)):=h3.alloc _;have own:∀g,cv.ownBlock=some g->∃cs,Blk w g cs 188:=fun g hg=>aV h.curs hg;have kx:Kp (fun g=>cv.ownBlock=some g) w w4:=(Ext.kp x4).trans hk;have ks:Kp (fun k=>k=wb) w4 (w4.setCell ⟨wb,1,none⟩ lv):=kSa;have hsz:=h3.size;have hsW:=h.kp.size;have hbx:Blk w4 wb [.pointer (some ⟨mb,0,none⟩),cv,.slice (some ⟨rb,0,none⟩) M.N.length M.N.length,yv] 186:=h.box.kp kx fun hg=>by obtain⟨cs,hb⟩:=own _ hg;exact t9 (aQ h.box hb)
 have hrb:Blk w4 rb (strs (List.replicate M.N.length ⟨#[]⟩)) 9:=h.row.kp kx fun hg=>by obtain⟨cs,hb⟩:=own _ hg;exact t8 (aQ hb h.row)
 have notB:∀(c:Nat) (tb:Nat),CurAt w4 c tb [] (.slice none 0 0) (fun k=>(Value.slice none 0 0).ownBlock=some k)->∀k,iV c (.slice none 0 0) k->¬k=wb:=fun c tb hc k hk e=>by rw [e]at hk;exact hc.notB hbx t1 t2 hk
 have e1:yW (dQ cb m cb3) (m+1)=yW cb m++ [.pointer (some ⟨cb3,0,none⟩)]:=by
  unfold yW;rw [List.range_succ,List.map_append,List.map_singleton,upd_same]
  congr 1
  refine List.map_congr_left fun j hj=>?_;rw [aH _ _ (by have:=List.mem_range.1 hj;omega)]
 refine⟨hbx.set 1 lv,hrb.kp ks fun e=>t7 (aQ hbx (by rw [<-e];exact hrb)),?_,fun j u hj hu=>?_,fun i j hi hj he=>?_,?_⟩
 ·rw [e1];refine(hr.kp' ks fun g hg _ e=>?_).mono fun g hg=>?_
  ·obtain⟨cs,hb⟩:=aV hr hg;have e':g=wb:=e;rw [e']at hb;exact t9 (aQ hbx hb)
  ·rcases hg with hg|hg
   ·exact h.curs.block g hg
   ·rw [aJ]at hg;omega
 ·by_cases e:j=m
  ·subst e;rw [ht]at hu;cases hu;rw [upd_same];have hc4:CurS w4 cb3 t.tb [] (.slice none 0 0):=((hc.ext ((Kp.refl w3).alloc _)).kp hk fun k hk1 hk2=>by
    rcases hk1 with rfl|hk1
    ·obtain⟨cs,hb⟩:=own _ hk2;have:=hb.lt;omega
    ·cases hk1).own
   exact⟨hc4.kp ks (notB _ _ hc4),by omega⟩
  ·rw [aH _ _ e];obtain⟨h1,h2⟩:=h.cur j u (by omega) hu;have hc4:CurS w4 (cb j) u.tb [] (.slice none 0 0):=h1.kp kx fun k hk1 hk2=>by
    obtain⟨cs,hb⟩:=own _ hk2;exact h1.notB hb t5 t6 hk1
   exact⟨hc4.kp ks (notB _ _ hc4),h2⟩
 ·have old:∀j,j<m->j<M.Ts.length->cb j<w.heap.size:=fun j hj hjT=>(h.cur j _ hj (qG hjT)).1.box.lt;have hmT:=(List.getElem?_eq_some_iff.1 ht).1;by_cases e:i=m
  ·by_cases e2:j=m
   ·omega
   ·rw [e,upd_same,aH _ _ e2]at he;have:=old j (by omega) (by omega);omega
  ·by_cases e2:j=m
   ·rw [e2,upd_same,aH _ _ e]at he;have:=old i (by omega) (by omega);omega
   ·rw [aH _ _ e,aH _ _ e2]at he;exact h.inj i j (by omega) (by omega) he
 ·refine(h.kp.trans' kx fun i hi hg=>?_).trans' ks fun i hi hg=>?_
  ·have:=h.curs.block i hg;omega
  ·have e:i=wb:=hg;omega
theorem AllAt.walk{M:MatchZ}{W w:World}{wb mb rb:Nat}{yv cv:Value}{cb:Nat->Nat}(h:AllAt M W wb mb rb yv M.Ts.length cv cb w)(hlo:W.heap.size≤wb)(hlr:W.heap.size≤rb):WalkAt w wb mb M yv cv rb (List.replicate M.N.length ⟨#[]⟩) cb (fun _=> .slice none 0 0) (fun _=> [])/\∀k,aLe wb rb M.Ts.length cv cb (fun _=> .slice none 0 0) k->W.heap.size≤k:=by
 refine⟨⟨h.box,h.row,List.length_replicate,h.curs.ownB,fun j t ht=>(h.cur j t (List.getElem?_eq_some_iff.1 ht).1 ht).1,fun i j hi hj hne=>⟨fun e=>hne (h.inj i j hi hj e),fun k hk=>by cases hk⟩⟩,fun k hk=>?_⟩;rcases hk with rfl|rfl|hk|⟨j,hj,hk|hk⟩
 ·exact hlo
 ·exact hlr
 ·exact h.curs.block k hk
 ·rw [hk];exact(h.cur j _ hj (qG hj)).2
 ·cases hk
def AllR(M:MatchZ)(W:World)(wb mb rb:Nat)(yv:Value)(iv:Value)(w:World):Prop:=∃(m:Nat) (cv:Value) (cb:Nat->Nat),m≤M.Ts.length/\iv= .int .i64 m/\Hid (AllAt M W wb mb rb yv m cv cb w)
set_option maxHeartbeats 4000000 in
theorem aNx{Z:Nat->Prop}{M:MatchZ}{A:MAddr}{mb:Nat}{w0 W:World}{J Jx:(Nat->Prop)->List XB->World->Prop}{Lall:aD}{l n:Nat}(hZ:∀k,Z k->k<W.heap.size)(hW:Kp (fun k=>¬Z k) w0 W)(hmat:∀W',Kp (fun k=>¬Z k) w0 W'->MatchAt W' mb M A)(hM:MatchOk M)(hL:AllB (mX M) [] Lall)
 (hY:∀T T' pre x W1 W2,J T pre W1->Kp T W1 W2->(∀k,T' k->vH T W1 W2 k)->GvRow W1 T' W2 x->(pre++ [x]).map Prod.snd<+:Lall->YieldAt Fence.wide n Tryz.prog l (encX x) W2 fun e W'=>
  (e= .returned (.bool true)/\J T' (pre++ [x]) W'/\Kp (fun k=>¬fY Z T' k) W2 W')\/ (e= .returned (.bool false)/\Jx T' (pre++ [x]) W'/\Kp (fun k=>¬fY Z T' k) W2 W'))(hJ:J (fun _=>False) [] W):
 Calls Tryz.prog 83 #[.pointer (some ⟨mb,0,none⟩),.func (.yield l) #[] #[]] W (aIv J Jx Lall):=by
 have hm:=hmat W hW;have c0:=hm.c0;have c1:=hm.c1;have hfew:=hm.few;obtain⟨nv,env⟩:=nm M.N.length;obtain⟨nT,enT⟩:=nm M.Ts.length;rw [env]at c0 hfew;rw [enT]at c1 hfew;have hnv:=hfew.1;have hnT:=hfew.2.1;clear hfew;have HP:=qH hm.ptrs;have HT:=qH hm.tries;clear hm;obtain⟨w1,e1⟩:=nm (W.alloc (.cells (List.replicate (nv*1) (.string ⟨#[]⟩)).toArray 9));obtain⟨rb,erb⟩:=nm W.heap.size;have hmk:=jU (P:=Tryz.prog) dZ (c:= .string ⟨#[]⟩) rfl nv (by omega) (by unfold maxLen;omega) W;rw [e1,erb]at hmk;have hx1:Ext W w1:=xAX e1;have hB1:Blk w1 rb (strs (List.replicate nv ⟨#[]⟩)) 9:=by
  have h1:=Blk.new W (List.replicate (nv*1) (.string ⟨#[]⟩)) 9;have h2:List.replicate (nv*1) (Value.string ⟨#[]⟩)=strs (List.replicate nv ⟨#[]⟩):=by unfold strs;rw [List.map_replicate,Nat.mul_one]
  rw [<-e1,<-erb,<-h2];exact h1
 obtain⟨w2,e2⟩:=nm (w1.alloc (.cells #[.pointer (some ⟨mb,0,none⟩),.slice none 0 0,.slice (some ⟨rb,0,none⟩) nv nv,.func (.yield l) #[] #[]] 186));obtain⟨wb,ewb⟩:=nm w1.heap.size;have hx2:Ext w1 w2:=xAX e2;have hB2:=bNX ewb e2;have hA:=qH (show AllAt M W wb mb rb (.func (.yield l) #[] #[]) 0 (.slice none 0 0) (fun _=>0) w2 from⟨by rw [env];exact hB2,by rw [env];exact hB1.ext hx2,Row.nil _ _ _ _,fun j t hj=>by omega,fun i j hi=>by omega,hx1.trans hx2⟩);have c0':=hx1.cell c0 id;have c1':=(hx1.trans hx2).cell c1 id;have hlo:W.heap.size≤wb:=by rw [<-ewb];exact hx1.size
 have HLo:=qH hlo;clear hB1 hB2 hlo;go_enter Tryz.func83,Tryz.ntmps83;go_wp2;clear e1 e2 ewb hmk;go_loopw [22] (fun iv wr=>AllR M W wb mb rb (.func (.yield l) #[] #[]) iv wr) (fun iv _=>nT- (intOf iv).toNat)
 case atStart=>exact⟨0,_,_,Nat.zero_le _,rfl,hA⟩
 case round=>
  obtain⟨m,cv,cb,hm,rfl,hA2⟩:=hrel;rw [enT]at hm;obtain⟨ca,cc,ecv,hcc,hccap⟩:=hA2.out.curs.shape;subst ecv;by_cases hlt:m<nT
  ·obtain⟨t,ht⟩:∃t,M.Ts[m]?=some t:=⟨_,qG (by rw [enT];exact hlt)⟩;obtain⟨tb0,to0,eta,t0⟩:=(HP.out.ext hA2.out.kp) m (lW t) (by rw [List.getElem?_map,ht];rfl);rw [eta];unfold lW at t0;have HWk:=qH (fun W' (hW':Ext wr W')=>aLj (((HT.out t (List.mem_of_getElem? ht)).ext hA2.out.kp).ext hW'));have HJ:=qH (show ∀w',Ext wr w'->(fun w':World=>w'.cell? ⟨wb,1,none⟩=some (.slice ca m cc)) w' from fun w' hw'=>by
    show w'.cell? ⟨wb,1,none⟩=some (.slice ca m cc);rw [(hA2.out.box.ext hw').cell'];rfl)
   have HTt:=qH ht;have HNo:=qH (show(Value.slice ca m cc).ownBlock≠some wb from fun h=>by obtain⟨cs,hb⟩:=aV hA2.out.curs h;exact aHy.2.2.2.2.2.2.2.2 (aQ hA2.out.box hb));have b1:=HJ.out wr (Kp.refl _);clear ht hcc eta;go_wp2;refine aT (fun w':World=>w'.cell? ⟨wb,1,none⟩=some (.slice ca m cc)) [8,9,10,11] (by kernel_rfl) (HJ.out _ (Kp.refl wr).drew) (fun hHeld=>?_);refine eFX 0 ?_;refine eFX 1 ?_;refine eFX 2 ?_;refine eFX 3 ?_;refine eIX 4 ?_;refine eFX 5 ?_;refine eTX 6 fun K hK=>?_;go_simp
   (refine(HWk.out _ (Kp.refl wr).drew).mono ?_;rintro e w3 ⟨v3,rfl,hk3,cb3,rfl,hn3,hcur3⟩;have X1:=qH (nIX (show Ext wr w3 from((Kp.refl wr).drew).trans hk3) (nIX (show wr.heap.size≤cb3 from hn3) hcur3));clear hk3 hn3 hcur3)
   go_wp2_with fail
   refine hK.out _ _ (HJ.out _ X1.out.1) fun hHeld=>?_;clear hK K;refine eTX 7 fun K hK=>?_;go_simp;refine hK.out _ _ (HJ.out _ (X1.out.1.alloc _)) fun hHeld=>?_;clear hK K;refine eLX 8 fun K hK=>?_;refine jD (m:=1) (n:=m) aBm rfl _ _ rfl rfl ((hA2.out.curs.ext X1.out.1).alloc _) rfl (CellsAt.one w3 _ _) (by rfl) (by simp;rfl) (by omega) (by unfold maxLen;omega) ?_;intro v4 w4 hr4 hk4;obtain⟨la4,lcap4,elv4,_,_⟩:=hr4.shape;subst elv4;have HB4:=qH (show Blk w4 wb [.pointer (some ⟨mb,0,none⟩),.slice ca m cc,.slice (some ⟨rb,0,none⟩) M.N.length M.N.length,.func (.yield l) #[] #[]] 186 from((hA2.out.box.ext X1.out.1).alloc _).kp hk4 (fun h2=>HNo.out h2));have X2:=qH (nIX hr4 hk4);have y1:w4.cell? ⟨wb,1,none⟩=some (.slice ca m cc):=(by rw [HB4.out.cell'];rfl);have yf:=HB4.out.free 1;clear hr4 hk4;refine hK.out _ _ ?_;clear hK K;refine eLX 9 fun K hK=>?_;go_simp;refine hK.out _ _ ?_;clear hK K;refine eLX 10 fun K hK=>?_;go_simp;refine hK.out _ _ ?_;clear hK K;refine eLX 11 fun K hK=>?_;go_simp;refine hK.out _ _ ?_;clear hK K;refine aK (by kernel_rfl) ?_ _;clear hHeld;have HP2:=qH (AllAt.push hA2.out HLo.out HTt.out X1.out.1 X1.out.2.1 X1.out.2.2 X2.out.1 X2.out.2);obtain⟨w5,e5⟩:=nm (w4.setCell ⟨wb,1,none⟩ (.slice la4 (m+1) lcap4));rw [e5]at HP2 ⊢;clear e5 y1 yf;go_wp2;go_roundw
   case rel=>exact⟨m+1,_,_,by rw [enT];omega,nMX,HP2⟩
   case measure=>simp [intOf];omega
  ·obtain rfl:m=nT:=by omega
   have hA3:=hA2.out;rw [<-enT]at hA3;obtain⟨hwalk,hnew⟩:=hA3.walk HLo.out (by rw [erb];exact Nat.le_refl _);obtain⟨C,eC⟩:∃C:WCtx,C=⟨Z,W.heap.size,M,A,wb,mb,rb,.func (.yield l) #[] #[],.slice ca M.Ts.length cc,cb,J,Jx,Lall,w0⟩:=⟨_,rfl⟩;have hCok:C.Ok:=by subst eC;exact⟨hZ,hmat,hM⟩
   have hCY:C.Yields l n:=by subst eC;exact⟨rfl,hY⟩
   have hAt:C.At (fun _=> .slice none 0 0) (List.replicate M.N.length ⟨#[]⟩) (fun _=> []) wr:=by subst eC;exact⟨hwalk,hnew,hW.trans' hA2.out.kp fun i _ hi=>hi.elim⟩
   have hFr:=aEk hCok hCY M.N.length 0 (by subst eC;exact Nat.zero_add _) [] (fun _=>False) (fun _=> .slice none 0 0) _ (fun _=> []) [] Lall wr rfl hAt (by rw [List.take_zero]) (fun j t ht=>by
    rw [aK0];exact PathOk.nil) (fun k hk=>by omega) (by subst eC;exact hL) ⟨[],by subst eC;simp⟩ ⟨fun _=>False,W,by subst eC;exact hJ,hA2.out.kp,fun k hk=>by
     rcases hk with hk|hk
     ·refine .inr ?_;have:=hAt.new k hk;subst eC;exact this
     ·exact hk.elim⟩ ⟨fun k hk=>hk.elim,fun k _ hk=>hk,fun k hk=>hk.elim⟩
   have HFr:=qH (show Calls Tryz.prog 123 #[.pointer (some ⟨wb,0,none⟩),.int .i64 0] wr (aIv J Jx Lall)from by
    have e1:C.wb=wb:=by subst eC;rfl
    rw [e1]at hFr;refine hFr.mono ?_;rintro e w' ⟨b,ov',R',rfl,hk,-,-,-,hE⟩;refine⟨⟨_,rfl⟩,?_⟩;subst eC;rcases hE with⟨-,xs,h1,T,W1,h2,h3,-⟩|⟨-,pre',h1,T,W1,h2,h3,-⟩
    ·exact⟨T,W1,h3,.inl ⟨xs,h1,h2⟩⟩
    ·exact⟨T,W1,h3,.inr ⟨pre',h1,h2⟩⟩)
   clear hA3 hwalk hnew hFr hAt hCY hCok eC C hm hlt hcc;go_wp2_with fail
   refine HFr.out.mono ?_;rintro e w9 ⟨⟨v9,rfl⟩,h9⟩;have H9:=qH h9;clear h9;go_wp2
   go_end0
   exact⟨⟨_,rfl⟩,H9.out⟩
end
section
open Go.RowKit Go.Shelf
attribute [local go_sem] Oper.semAt_some
def mT(r:cG)(R:Nat->aD)(L:aD):Prop:=(aU r=0->IsBinds r.2.1 R L)/\(aU r≠0->L= [])
theorem aCf(tb:Nat)(w:World):(binOp .neq 123 (.pointer (some ⟨tb,0,none⟩)) (.pointer none)).run Tryz.prog w= .ok (.bool true) w:=by kernel_rfl
theorem aCg(w:World):(binOp .neq 123 (.pointer none) (.pointer none)).run Tryz.prog w= .ok (.bool false) w:=by kernel_rfl
set_option maxHeartbeats 2000000 in
theorem aJj{w0 w1 w:World}{r:cG}{Es:Nat->List Ent}{v:Value}{xb:Nat}{L:aD}(hM:aHu w0 w1 r Es v)(hx:Ext w1 w)(hB:Blk w xb [v] 123)(hxb:w0.heap.size≤xb)(hL:mT r (cP Es r.2.1) L)(n:Nat):
 tV Fence.wide n Tryz.prog 82 #[.pointer (some ⟨xb,0,none⟩)] encX (fun k=>w0.heap.size≤k/\k<w.heap.size) GvRow (fun xs=>xs.map Prod.snd=L) (fun pre=>pre.map Prod.snd<+:L) w:=by
 intro l J Jx W hW hY hJ;refine callsIn_wide.2 ?_;have hxl:=hB.lt;have c0:W.cell? ⟨xb,0,none⟩=some v:=hW.cell (by rw [hB.cell'];rfl) fun h=>h ⟨hxb,hxl⟩;rcases hM with⟨rfl,hno⟩|⟨mb,Ts,tests,A,rfl,hc,hIs,hF⟩
 ·have hL0:L= []:=by
   by_cases hc:aU r=0
   ·rcases hno with hno|hno
    ·exact absurd hc hno
    ·cases L with
     |nil=>rfl
     |cons V L=>exact absurd (((hL.1 hc).iff V).1 (List.mem_cons_self ..)) (hno V)
   ·exact hL.2 hc
  have HE:=qH (nIX hL0 hJ);have hmn:=aCg W;clear hno hL hL0 hJ hY hW hB;go_enter Tryz.func82,Tryz.ntmps82;go_wp2
  go_end0
  exact⟨⟨_,rfl⟩,fun _=>False,W,Kp.refl _,.inl ⟨[],by rw [HE.out.1];rfl,HE.out.2⟩⟩
 ·have hok:=aGp hc hIs;have hsol:AllB (mX ⟨aB r.2.1,Ts,tests⟩) [] L:=by
   have e:mX ⟨aB r.2.1,Ts,tests⟩=dN r.2.1 (cP Es r.2.1):=funext fun V=>propext (hok.2 V);rw [e];exact hL.1 hc
  have HA:=qH (aNx (Z:=fun k=>w0.heap.size≤k/\k<w.heap.size) (w0:=w) (W:=W) (n:=n-1) (A:=A) (fun k hk=>Nat.lt_of_lt_of_le hk.2 hW.size) hW (fun W' hW'=>hF W' ((Ext.kp hx).trans' hW' (F:=fun k=>¬(w0.heap.size≤k/\k<w1.heap.size)) fun i hi h=>fun h2=>h ⟨h2.1,Nat.lt_of_lt_of_le h2.2 hx.size⟩)) hok.1 hsol hY hJ);have hms:=aCf mb W;clear hok hsol hL hJ hY hW hB hF hIs;go_enter Tryz.func82,Tryz.ntmps82;go_wp2_with fail
  refine HA.out.mono ?_;rintro e w9 ⟨⟨v9,rfl⟩,h9⟩;have H9:=qH h9;clear h9;go_wp2
  go_end0
  exact⟨⟨_,rfl⟩,H9.out⟩
def aNf(w0 w:World)(L:aD)(v:Value):Prop:=∃xb lo,w0.heap.size≤lo/\v= .func (.func 82) #[] #[.pointer (some ⟨xb,0,none⟩)]/\
 ∀n,tV Fence.wide n Tryz.prog 82 #[.pointer (some ⟨xb,0,none⟩)] encX (fun k=>lo≤k/\k<w.heap.size) GvRow (fun xs=>xs.map Prod.snd=L) (fun pre=>pre.map Prod.snd<+:L) w
set_option maxHeartbeats 2000000 in
theorem aL1{w:World}{p:ByteArray}{hs:List aE}{ls:List aL}{ha ba bsa:Option Addr}{hn hcap n bcap nb bsc:Nat}{G:Nat->Prop}{bvs:List Value}{Es:Nat->List Ent}{L:aD}(hhn:hn=hs.length)(hh:aO w G ha hs)(hhl:hn≤1048576)(hbn:n=ls.length)(h:bW w G ba ls)(hf:Fit ls)(hnv:(aB ls).length≤1048576)(hn16:n≤1048576)
 (hnb:nb=bvs.length)(hbs:CellsAt w bsa bvs)(hB:∀j,∃S,BaseV S w (bvs.getD j (.pointer none)) (Es j))(hL:mT ((p,hs,()),ls,()) (cP Es ls) L):
 Calls Tryz.prog 39 #[cI p ha hn hcap ba n bcap,.slice bsa nb bsc] w (RetN w fun w' v=>aNf w w' L v):=by
 have HMt:=qH (fun W (hW:Ext w W)=>aJt (w:=W) (p:=p) (hs:=hs) (ls:=ls) (ha:=ha) (ba:=ba) (bsa:=bsa) (hn:=hn) (hcap:=hcap) (n:=n) (bcap:=bcap) (nb:=nb) (bsc:=bsc) (G:=G) (bvs:=bvs) (Es:=Es) hhn (hh.ext hW) hhl hbn (h.ext hW) hf hnv hn16 hnb (hbs.ext hW) (fun j=>by obtain⟨S,hb⟩:=hB j;exact⟨S,hb.ext hW⟩));have HL:=qH hL;obtain⟨gb,egb⟩:=nm w.heap.size;obtain⟨w1,e1⟩:=nm (w.alloc (.cells #[.string p,.slice ha hn hcap,.slice ba n bcap] 27));have x1:Ext w w1:=xAX e1;have hB1:=bNX egb e1;have H1:=qH x1;have r0:=hB1.c0;have r1:=hB1.c1;have r2:=hB1.c2;clear hhn hh hbn h hf hnb hbs hB hL x1 hB1;go_enter Tryz.func39,Tryz.ntmps39;go_wp2_with fail
 clear e1 egb;refine(HMt.out w1 H1.out).mono ?_;rintro e w2 ⟨v2,rfl,hk2,hM⟩;obtain⟨o,rfl⟩:∃o,v2= .pointer o:=by
  rcases hM with⟨e,_⟩|⟨mb,_,_,_,e,_⟩
  ·exact⟨_,e⟩
  ·exact⟨_,e⟩
 have HM:=qH (nIX hk2 hM);clear hk2 hM r0 r1 r2;go_wp2;go_ret;have hx3:Ext w2 (w2.alloc (.cells #[.pointer o] 123)):=(Kp.refl w2).alloc _;exact RetN.mk (H1.out.trans (HM.out.1.trans hx3)) ⟨w2.heap.size,w1.heap.size,H1.out.size,rfl,fun n=>aJj HM.out.2 hx3 (Blk.new w2 [.pointer o] 123) HM.out.1.size HL.out n⟩
theorem pL:cW Tryz.prog 64 29 1 8 (.pointer none):=⟨by kernel_rfl,by kernel_rfl,rfl,by decide⟩
theorem aNn(n:Nat)(hn:n≤1048576)(w:World):Calls Tryz.prog 131 #[.int .u64 (1:Nat),.int .u64 (n:Nat)] w fun e w'=>e= .returned (.tuple #[.int .u64 0,.int .u64 (n:Nat)])/\w'=w:=by
 refine(Tryz.bits_Mul 1 n (by omega) (by omega) w).mono ?_;rintro e w' ⟨rfl,rfl⟩;have h1:1*n/18446744073709551616=0:=Nat.div_eq_of_lt (by omega);have h2:1*n % 18446744073709551616=n:=by rw [Nat.one_mul];exact Nat.mod_eq_of_lt (by omega)
 rw [h1,h2];exact⟨rfl,rfl⟩
def aM6(w0:World)(g n:Nat)(bv:Value)(kv:Value)(W:World):Prop:=∃k:Nat,k≤n/\(n=0\/0<k)/\kv= .int .i64 k/\Hid (Ext w0 W)/\Hid (Blk W g (List.replicate k bv++List.replicate (n-k) (.pointer none)) 29)
set_option maxHeartbeats 2000000 in
theorem aF4{w:World}{o:Option Addr}{xa:Option Addr}{xc n:Nat}(hx:CellsAt w xa [.pointer o])(hn:n≤1048576):
 Calls Tryz.prog 92 #[.slice xa 1 xc,.int .i64 n] w (RetN w fun w' v=>∃ao cap,v= .slice ao n cap/\CellsAt w' ao (List.replicate n (.pointer o))):=by
 have HX:=qH hx;have hm:=aNn n hn w;have HMu:=qH hm;have hmk:=jU (P:=Tryz.prog) pL (c:= .pointer none) rfl n (by omega) (by unfold maxLen;omega) w;rw [Nat.mul_one]at hmk;obtain⟨g,eg⟩:=nm w.heap.size;obtain⟨w1,e1⟩:=nm (w.alloc (.cells (Array.replicate n (.pointer none)) 29));have hB1:Blk w1 g (List.replicate n (.pointer none)) 29:=by have h:=Blk.new w (List.replicate n (.pointer none)) 29;rw [List.toArray_replicate,e1,eg]at h;exact h
 have x1:Ext w w1:=xAX e1;obtain⟨w2,hrun,hk2,hB2⟩:=pF (P:=Tryz.prog) pL hB1 (off:=0) (dp:=some ⟨g,0,none⟩) (dLen:=n) (dCap:=n) (sp:=xa) (sLen:=1) (sCap:=xc) (cs:=List.replicate (Nat.min 1 n) (.pointer o)) (by simp) (fun _=>rfl) (fun j u hu=>by
  have hj:=(List.getElem?_eq_some_iff.1 hu).1;rw [List.length_replicate]at hj;have hj1:j<1:=Nat.lt_of_lt_of_le hj (Nat.min_le_left _ _);rw [List.getElem?_replicate,if_pos hj]at hu;obtain rfl:j=0:=by omega
  exact(hx.ext x1) 0 u (by cases hu;rfl)) (by simp [List.length_replicate];exact Nat.min_le_right _ _) (fun u hu=>by rw [List.eq_of_mem_replicate hu];rfl)
 have n0:¬(n:Int)<0:=by omega
 have n1:¬(9223372036854775807:Int)< (n:Int):=by omega
 have hlen:(List.replicate (Nat.min 1 n) (Value.pointer o)).length=Nat.min 1 n:=List.length_replicate;obtain⟨k0,ek0⟩:=nm (Nat.min 1 n);rw [ek0]at hrun hB2 hlen;rw [hlen]at hrun;have hk0:k0≤n/\(n=0\/0<k0)/\(n=0->k0=0)/\(0<n->k0=1):=by rw [<-ek0];simp only [Nat.min_def];split<;>omega
 have hB2':Blk w2 g (List.replicate k0 (.pointer o)++List.replicate (n-k0) (.pointer none)) 29:=by
  have e:splice (List.replicate n (Value.pointer none)) 0 (List.replicate k0 (Value.pointer o))=List.replicate k0 (.pointer o)++List.replicate (n-k0) (.pointer none):=by unfold splice;simp
  rw [e]at hB2;exact hB2
 have HP:=qH (show aM6 w g n (.pointer o) (.int .i64 k0) w2 from⟨k0,hk0.1,hk0.2.1,rfl,qH (x1.trans' hk2 fun i hi e=>by have e':i=g:=e;omega),qH hB2'⟩);have hg:goInt (k0:Nat)= .int .i64 (k0:Nat):=rfl;rw [hg]at hrun;have HEG:=qH eg;clear hx hB1 x1 hk2 hB2 hB2' hm hlen ek0 hk0 hg;go_enter Tryz.func92,Tryz.ntmps92;go_wp2_with fail
 refine HMu.out.mono ?_;rintro e w' ⟨rfl,rfl⟩;go_wp2;go_loopw [8] (fun kv wk=>aM6 w' g n (.pointer o) kv wk) (fun kv _=>n- (intOf kv).toNat)
 case atStart=>exact HP.out
 case round=>
  clear HP hrun;obtain⟨k,hk,hk0,rfl,hex,hb⟩:=hrel;by_cases hlt:k<n
  ·have hkp:0<k:=by omega
   obtain⟨j,ej⟩:=nm (Nat.min k (n-k));have hj1:j≤k:=by rw [<-ej];exact Nat.min_le_left _ _
   have hj2:j≤n-k:=by rw [<-ej];exact Nat.min_le_right _ _
   have hj3:0<j:=by rw [<-ej];simp only [Nat.min_def];split<;>omega
   obtain⟨W2,hrun2,hk3,hB3⟩:=pF (P:=Tryz.prog) pL (hb.out.drew) (off:=k) (dp:=some ⟨g,k,none⟩) (dLen:=n-k) (dCap:=n-k) (sp:=some ⟨g,0,none⟩) (sLen:=k) (sCap:=n) (cs:=List.replicate j (.pointer o)) (by rw [List.length_replicate,ej]) (fun _=>rfl) (fun i u hu=>by have hi:=(List.getElem?_eq_some_iff.1 hu).1;rw [List.length_replicate]at hi;rw [List.getElem?_replicate,if_pos hi]at hu;refine⟨g,0,rfl,?_⟩;rw [hb.out.drew.cell',Nat.zero_add,List.getElem?_append_left (by rw [List.length_replicate];omega),List.getElem?_replicate,if_pos (by omega)];exact hu) (by simp;omega) (fun u hu=>by rw [List.eq_of_mem_replicate hu];rfl);rw [List.length_replicate]at hrun2;have hg:goInt (j:Nat)= .int .i64 (j:Nat):=rfl;rw [hg]at hrun2;have HNX:=qH (show aM6 w' g n (.pointer o) (.int .i64 ((k:Int)+(j:Int))) W2 from by
    refine⟨k+j,by omega,.inr (by omega),by congr 1,qH (hex.out.trans' ((Ext.kp (Kp.refl wr).drew).trans hk3) fun i hi e=>?_),qH ?_⟩
    ·have e':i=g:=e;have:=HEG.out;omega
    ·have e:splice (List.replicate k (.pointer o)++List.replicate (n-k) (Value.pointer none)) k (List.replicate j (.pointer o))=List.replicate (k+j) (.pointer o)++List.replicate (n- (k+j)) (.pointer none):=by
      unfold splice;rw [List.take_append_of_le_length (by simp),List.take_of_length_le (by simp),List.length_replicate,List.drop_append,List.drop_of_length_le (by simp),List.length_replicate,List.drop_replicate,List.nil_append,<-List.append_assoc,List.replicate_append_replicate]
      congr 2
      omega
     rw [e]at hB3;exact hB3)
   have k1:(k:Int)< (n:Int):=by omega
   have k2:(k:Int)≤(n:Int):=by omega
   have k3:¬n=k:=by omega
   have rk:(n:Int)-k=((n-k:Nat):Int):=by omega
   have HJ:=qH (nIX hj1 (nIX hj2 hj3));clear hex hb hk3 hB3 hg hk0 hk ej;go_wp2;refine aT (fun _:World=>True) [] (by kernel_rfl) trivial (fun hHeld=>?_);refine eFX 0 ?_;refine eFX 1 ?_;refine eFX 2 ?_;refine eIX 3 ?_;refine eFX 4 ?_;refine eFX 5 ?_;refine eIX 6 ?_;refine eTX 7 fun K hK=>?_;go_simp;refine hK.out _ _ (by first|done|trivial) fun hHeld=>?_;clear hK K;refine eFX 8 ?_;refine eFX 9 ?_;refine aK (by kernel_rfl) ?_ _;clear hHeld;have hw:IntKind.i64.wrap ((k:Int)+(j:Int))=(k:Int)+(j:Int):=IntWalk.i64_in _ (by have:=HJ.out;omega);go_wp2;try rw [hw]
   go_roundw
   case rel=>exact HNX.out
   case measure=>have:=HJ.out;simp [intOf];omega
  ·obtain rfl:n=k:=by omega
   have hB2:=hb.out;rw [Nat.sub_self,List.replicate_zero,List.append_nil]at hB2;have HR:=qH (show Ext w' wr/\CellsAt wr (some ⟨g,0,none⟩) (List.replicate n (.pointer o))from⟨hex.out,CellsAt.pre (rest:= []) (by rw [List.append_nil];exact hB2)⟩);clear hex hb hB2 hk0 hk hlt;go_wp2;go_ret;exact RetN.mk HR.out.1 ⟨_,_,rfl,HR.out.2⟩
def zS(ls:List aL)(E:List Ent)(j:Nat):List Ent:=if j<ls.length then E else []
set_option maxHeartbeats 2000000 in
theorem yS{S:Nat->Prop}{w:World}{p:ByteArray}{hs:List aE}{ls:List aL}{ha ba:Option Addr}{hn hcap n bcap:Nat}{G:Nat->Prop}{o:Option Addr}{E:List Ent}{L:aD}(hhn:hn=hs.length)(hh:aO w G ha hs)(hhl:hn≤1048576)(hbn:n=ls.length)(h:bW w G ba ls)(hf:Fit ls)(hnv:(aB ls).length≤1048576)(hn16:n≤1048576)
 (hB:BaseV S w (.pointer o) E)(hL:mT ((p,hs,()),ls,()) (cP (zS ls E) ls) L):
 Calls Tryz.prog 46 #[cI p ha hn hcap ba n bcap,.pointer o] w (RetN w fun w' v=>aNf w w' L v):=by
 have HOv:=qH (fun W (hW:Ext w W) (bsa:Option Addr) (bsc:Nat) (hbs:CellsAt W bsa (List.replicate n (.pointer o)))=>aL1 (w:=W) (p:=p) (hs:=hs) (ls:=ls) (ha:=ha) (ba:=ba) (bsa:=bsa) (hn:=hn) (hcap:=hcap) (n:=n) (bcap:=bcap) (nb:=n) (bsc:=bsc) (G:=G) (bvs:=List.replicate n (.pointer o)) (Es:=zS ls E) (L:=L) hhn (hh.ext hW) hhl hbn (h.ext hW) hf hnv hn16 (by rw [List.length_replicate]) hbs (fun j=>by
  unfold zS;by_cases hj:j<n
  ·rw [List.getD_eq_getElem?_getD,List.getElem?_replicate,if_pos hj,if_pos (by omega)];exact⟨S,hB.ext hW⟩
  ·rw [List.getD_eq_getElem?_getD,List.getElem?_replicate,if_neg hj,if_neg (by omega)];exact⟨fun _=>False,BaseV.nil⟩) hL)
 have HN:=qH hn16;obtain⟨gb,egb⟩:=nm w.heap.size;obtain⟨w1,e1⟩:=nm (w.alloc (.cells #[.string p,.slice ha hn hcap,.slice ba n bcap] 27));have x1:Ext w w1:=xAX e1;have hB1:=bNX egb e1;have H1:=qH x1;have HJ:=qH (show ∀w',Ext w1 w'->(fun w':World=>w'.cell? ⟨gb,0,none⟩=some (.string p)/\w'.cell? ⟨gb,1,none⟩=some (.slice ha hn hcap)/\w'.cell? ⟨gb,2,none⟩=some (.slice ba n bcap)) w' from fun w' hw'=>⟨by rw [(hB1.ext hw').cell'];rfl,by rw [(hB1.ext hw').cell'];rfl,by rw [(hB1.ext hw').cell'];rfl⟩);clear hhn hh hhl hbn h hf hnv hB hL x1 hB1;go_enter Tryz.func46,Tryz.ntmps46;go_wp2;clear e1 egb;refine aT (fun w':World=>w'.cell? ⟨gb,0,none⟩=some (.string p)/\w'.cell? ⟨gb,1,none⟩=some (.slice ha hn hcap)/\w'.cell? ⟨gb,2,none⟩=some (.slice ba n bcap)) [7,8] (by kernel_rfl) (HJ.out _ (Kp.refl w1).drew) (fun hHeld=>?_);refine eIX 0 ?_;refine eFX 1 ?_;refine eFX 3 ?_;refine eIX 4 ?_;refine eIX 5 ?_;refine eTX 2 fun K hK=>?_;go_simp;refine hK.out _ _ (HJ.out _ (((Kp.refl w1).drew).alloc _)) fun hHeld=>?_;clear hK K;refine eTX 6 fun K hK=>?_;go_simp
 (refine(aF4 (o:=o) (CellsAt.one w1.drew (.pointer o) 29) HN.out).mono ?_;rintro e w4 ⟨v4,rfl,hk4,ao,cap,rfl,hcs⟩;have X1:=qH (nIX (show Ext w1 w4 from(((Kp.refl w1).drew).alloc _).trans hk4) hcs);clear hk4 hcs)
 go_wp2_with fail
 refine hK.out _ _ (HJ.out _ X1.out.1) fun hHeld=>?_;clear hK K;refine eLX 7 fun K hK=>?_;go_simp
 (refine(HOv.out w4 (H1.out.trans X1.out.1) ao cap X1.out.2).mono ?_;rintro e w5 ⟨v5,rfl,hk5,hbd⟩;have X2:=qH (nIX hk5 hbd);clear hk5 hbd)
 go_wp2_with fail
 refine hK.out _ _ ?_;clear hK K;refine eLX 8 fun K hK=>?_;go_simp;refine hK.out _ _ ?_;clear hK K;refine aK (by kernel_rfl) ?_ _;clear hHeld;go_wp2;go_ret;have hx4:Ext w w4:=H1.out.trans X1.out.1;obtain⟨xb,lo,hlo,ev,hseq⟩:=X2.out.2;exact RetN.mk (hx4.trans X2.out.1) ⟨xb,lo,Nat.le_trans hx4.size hlo,ev,hseq⟩
end
section
def bN(N V:List ByteArray)(hs:List aE):List ByteArray:=hs.filterMap fun t=>if t.1=3 then some t.2.1 else if t.1=1 then some (mZ N V t)else none
def jA(e:bV)(hs:List aE):List ByteArray:=hs.filterMap fun t=>if t.1<4 then some (pS e t)else none
theorem aAm{r:cG}(h:aU r=0):∀t∈r.1.2.1,t.1=1/\t.2.1∈aB r.2.1\/t.1=3\/4≤t.1:=fun t ht=>by
 unfold aU at h;split at h
 ·rename_i hp;split at h
  ·rename_i hs;unfold cU fE at hp;unfold iZ at hs;rw [Bool.and_eq_true,Bool.and_eq_true,Bool.and_eq_true]at hp;rw [Bool.and_eq_true]at hs;have h1:=List.all_eq_true.1 hs.1 t ht;have h2:=hp.1.1.1;unfold kinds at h2;have h3:=of_decide_eq_true (List.all_eq_true.1 h2 t ht);unfold cD at h1;split at h1
   ·cases h1
   ·rename_i h4;rcases of_decide_eq_true h1 with h5|h5|h5
    ·exact .inr (.inl h5)
    ·exact .inr (.inr (by omega))
    ·by_cases h6:t.1=1
     ·exact .inl ⟨h6,dB.1 h5⟩
     ·by_cases h7:t.1=3
      ·exact .inr (.inl h7)
      ·exact .inr (.inr (by omega))
  ·cases h
 ·cases h
theorem yH{α β:Type}{f g:α->Option β}:∀{l:List α},(∀x∈l,f x=g x)->l.filterMap f=l.filterMap g
 | [],_=>rfl
 |x::l,h=>by rw [List.filterMap_cons,List.filterMap_cons,h x (List.mem_cons_self ..),yH fun y hy=>h y (List.mem_cons_of_mem _ hy)]
theorem aJ8{r:cG}(h:aU r=0)(V:List ByteArray):bN (aB r.2.1) V r.1.2.1=jA (aB r.2.1,V) r.1.2.1:=by
 unfold bN jA;refine yH fun t ht=>?_;rcases aAm h t ht with h1|h1|h1
 ·rw [if_neg (by omega),if_pos h1.1,if_pos (by omega),vR (.inl h1)]
 ·rw [if_pos h1,if_pos (by omega),vR (.inr h1)];unfold mZ;rw [if_neg (by omega)]
 ·rw [if_neg (by omega),if_neg (by omega),if_neg (by omega)]
end
section
open Go.RowKit Go.Shelf
attribute [local go_sem] Oper.semAt_some
def aN2(w0:World)(N V:List ByteArray)(hs:List aE)(n:Nat)(ov jv:Value)(W:World):Prop:=
 ∃i:Nat,i≤n/\jv= .int .i64 i/\Hid (Ext w0 W)/\Hid (Row W 9 1 ov (bN N V (hs.take i)).length (strs (bN N V (hs.take i))) (New w0))
theorem qS(N V:List ByteArray){hs:List aE}{i:Nat}{t:aE}(h:hs[i]?=some t):bN N V (hs.take (i+1))=bN N V (hs.take i)++(if t.1=3 then [t.2.1]else if t.1=1 then [mZ N V t]else []):=by
 unfold bN;rw [List.take_add_one,h,List.filterMap_append]
 congr 1
 show List.filterMap _ [t]=_;by_cases h1:t.1=3
 ·simp [h1]
 ·by_cases h2:t.1=1
  ·simp [h2]
  ·simp [h1,h2]
theorem tL(N V:List ByteArray)(hs:List aE):(bN N V hs).length≤hs.length:=List.length_filterMap_le _ _
def aIx(r:cG)(V:List ByteArray)(w w':World)(v:Value):Prop:=
 (aU r=0/\V.length=(aB r.2.1).length/\∃ao cap,v= .tuple #[.slice ao (bN (aB r.2.1) V r.1.2.1).length cap,.int .i64 0]/\CellsAt w' ao (strs (bN (aB r.2.1) V r.1.2.1))/\(bN (aB r.2.1) V r.1.2.1).length≤cap/\(∀a,ao=some a->w.heap.size≤a.block)/\cap=(bN (aB r.2.1) V r.1.2.1).length/\OwnSl w w' (.slice ao (bN (aB r.2.1) V r.1.2.1).length cap) (bN (aB r.2.1) V r.1.2.1))\/
 (¬(aU r=0/\V.length=(aB r.2.1).length)/\v= .tuple #[.slice none 0 0,.int .i64 2])
set_option maxHeartbeats 4000000 in
theorem aJ9{w:World}{p:ByteArray}{hs:List aE}{ls:List aL}{ha ba va:Option Addr}{hn hcap n bcap nb vc:Nat}{G:Nat->Prop}{V:List ByteArray}(hhn:hn=hs.length)(hh:aO w G ha hs)(hhl:hn≤1048576)(hbn:n=ls.length)(h:bW w G ba ls)(hf:Fit ls)(hnv:(aB ls).length≤1048576)(hV:nb=V.length)(hVc:CellsAt w va (strs V))(hvb:nb≤1048576):
 Calls Tryz.prog 25 #[cI p ha hn hcap ba n bcap,.slice va nb vc] w (RetN w fun w' v=>aIx ((p,hs,()),ls,()) V w w' v):=by
 have HCh:=qH (fun W (hW:Ext w W)=>tS p hs ls ha hn hcap ba n bcap W G hhn (hh.ext hW) (by omega) hbn (h.ext hW) hf);have HVa:=qH (fun W (hW:Ext w W)=>wD p ha hn hcap ls ba n bcap W G hbn (h.ext hW) hf);have HT:=qH (nIX hhn hh);have HVc:=qH (nIX hV hVc);obtain⟨cR,ecR⟩:=nm (aU ((p,hs,()),ls,()));rw [ecR]at HCh;have HC:=qH ecR;obtain⟨gb,egb⟩:=nm w.heap.size;obtain⟨w1,e1⟩:=nm (w.alloc (.cells #[.string p,.slice ha hn hcap,.slice ba n bcap] 27));have x1:Ext w w1:=xAX e1;have hB1:=bNX egb e1;have H1:=qH (nIX x1 hB1);have r0:=hB1.c0;have r1:=hB1.c1;have r2:=hB1.c2;clear hh hbn h hf hV hVc ecR x1 hB1 hhn;go_enter Tryz.func25,Tryz.ntmps25;go_wp2_with fail
 clear e1 egb;refine(HVa.out w1 H1.out.1).mono ?_;rintro e w2 ⟨v2,rfl,hk2,na,nc,rfl,hnc,hna⟩;obtain⟨nv,env⟩:=nm ((aB ls).length);rw [env]at hnv ⊢;have HEv:=qH env;have H2:=qH (nIX (H1.out.1.trans hk2) (nIX (H1.out.2.ext hk2) (nIX hna env)));have q0:w2.cell? ⟨gb,0,none⟩=some (.string p):=hk2.cell r0 id;have q1:w2.cell? ⟨gb,1,none⟩=some (.slice ha hn hcap):=hk2.cell r1 id;have q2:w2.cell? ⟨gb,2,none⟩=some (.slice ba n bcap):=hk2.cell r2 id;clear hk2 r0 r1 r2 hnc hna env;go_wp2_with fail
 refine(HCh.out w2 H2.out.1).mono ?_;rintro e w3 ⟨v3,rfl,hk3,rfl⟩;have H3:=qH (nIX (H2.out.1.trans hk3) (nIX (H2.out.2.1.ext hk3) (H2.out.2.2.1.ext hk3)));clear hk3 q0 q1 q2;by_cases hc:cR=0
 ·subst hc;by_cases hl:nb=nv
  ·subst hl;have u1:=H3.out.2.1.c1;go_wp2;clear u1;go_loopw [7,26] (fun ov jv wk=>aN2 w3 (aB ls) V hs hn ov jv wk) (fun _ jv _=>hn- (intOf jv).toNat)
   case atStart=>exact⟨0,Nat.zero_le _,rfl,qH (Kp.refl _),qH (Row.nil _ _ _ _)⟩
   case round=>
    obtain⟨i,hi,rfl,hex,hro⟩:=hrel;obtain⟨oa,oc,eov,hoc,hle⟩:=hro.out.shape;subst eov;by_cases hlt:i<hn
    ·obtain⟨t,ht⟩:∃t,hs[i]?=some t:=⟨_,qG (by rw [<-HT.out.1];exact hlt)⟩;obtain⟨b,off,eha,f0,f1,-,-⟩:=cX (HT.out.2.ext (H3.out.1.trans hex.out)) ht;subst eha;obtain⟨kt,st,⟨⟩⟩:=t;simp only at f0 f1;have HTt:=qH ht;obtain⟨bx,ebx⟩:=nm wr.heap.size;obtain⟨W1,eW1⟩:=nm (wr.alloc (.cells #[.int .i64 kt,.string st] 38));have hBx:=bNX ebx eW1;have x1:Ext wr W1:=xAX eW1;have g0:=hBx.c0;have g1:=hBx.c1;have HX:=qH (nIX (hex.out.trans x1) (hro.out.ext x1));have hfew:=tL (aB ls) V (hs.take i);rw [List.length_take]at hfew;clear hBx x1 ht hoc hle hex hro hi;by_cases h3:kt=3
     ·subst h3;have HS:=qH (qS (aB ls) V HTt.out);rw [if_pos rfl]at HS;go_wp2_with (first|(at_builtin;refine Halted.out ?_))
      refine Halted.mk (bO dZ rfl _ _ rfl (HX.out.1.alloc _) rfl (HX.out.2.alloc _) rfl (CellsAt.one W1 (.string st) 9) rfl (by simp;rfl) (by omega) (by unfold maxLen;omega) ?_);intro v6 w6 hr6 hk6 hk6b _;obtain⟨la,lcap,elv,_,_⟩:=hr6.shape;subst elv;have HF:=qH (show Ext w3 w6/\Row w6 9 1 (.slice la ((bN (aB ls) V (hs.take i)).length+1) lcap) (bN (aB ls) V (hs.take (i+1))).length (strs (bN (aB ls) V (hs.take (i+1)))) (New w3)from by
       refine⟨hk6,?_⟩;rw [HS.out,List.length_append,List.length_singleton];have e:strs (bN (aB ls) V (hs.take i)++ [st])=strs (bN (aB ls) V (hs.take i))++ [.string st]:=by simp [strs]
       rw [e];exact hr6)
      clear hr6 hk6 hk6b;go_wp2;go_roundw
      case rel=>exact⟨i+1,by omega,nMX,qH HF.out.1,qH HF.out.2⟩
      case measure=>simp [intOf];omega
     ·have b3:(kt==3)=false:=by simp [h3]
      by_cases h1:kt=1
      ·subst h1;have hin:st∈aB ls:=by
        rcases aAm (r:=((p,hs,()),ls,())) HC.out _ (List.mem_of_getElem? HTt.out)with h|h|h
        ·exact h.2
        ·cases h
        ·exact absurd (show(4:Int)≤1 from h) (by decide)
       obtain⟨q,eq⟩:=nm ((aB ls).findIdx (fun s=>decide (s=st)));have hqn:q< (aB ls).length:=by have:=(List.getElem?_eq_some_iff.1 (aGy hin)).1;rw [eq]at this;exact this
       have hqb:q<V.length:=by rw [<-HVc.out.1,<-HEv.out];exact hqn
       obtain⟨x,hx⟩:∃x,V[q]?=some x:=⟨_,qG hqb⟩;obtain⟨vb,vo,eva,vc0⟩:=(HVc.out.2.ext (H3.out.1.trans HX.out.1)) q (.string x) (by simp [strs,hx]);subst eva;have HS:=qH (qS (aB ls) V HTt.out);rw [if_neg h3,if_pos rfl,show mZ (aB ls) V ((1:Int),st,())=x from by unfold mZ;rw [if_pos rfl];show bK V ((aB ls).findIdx fun s=>decide (s=st))=x;rw [eq];exact bM hx]at HS;have HIx:=qH (show ∀W,Ext w3 W->Calls Tryz.prog 75 #[.slice na nb nc,.string st] W (RetN W fun w' v=>v= .int .i64 (q:Nat))from fun W hW=>by
        have h:=oL (aB ls) st na nb nc W HEv.out.symm (H3.out.2.2.ext hW) (by omega);have e:dH (fun s=>decide (s=st)) (aB ls)=(q:Nat):=by unfold dH;rw [if_pos (List.any_eq_true.2 ⟨st,hin,decide_eq_true rfl⟩),eq]
        rw [e]at h;exact h)
       have hqn2:(q:Int)< (nb:Int):=by have:=HVc.out.1;omega
       clear hin eq hqn hqb hx h3;go_wp2_with fail
       refine(HIx.out W1 HX.out.1).mono ?_;rintro e w5 ⟨v5,rfl,hk5,rfl⟩;have v0:=hk5.cell vc0 id;have HX5:=qH (nIX (HX.out.1.trans hk5) (HX.out.2.ext hk5));clear hk5 vc0 eW1 g0 g1;go_wp2_with (first|(at_builtin;refine Halted.out ?_))
       refine Halted.mk (bO dZ rfl _ _ rfl (HX5.out.1.alloc _) rfl (HX5.out.2.alloc _) rfl (CellsAt.one w5 (.string x) 9) rfl (by simp;rfl) (by omega) (by unfold maxLen;omega) ?_);intro v6 w6 hr6 hk6 hk6b _;obtain⟨la,lcap,elv,_,_⟩:=hr6.shape;subst elv;have HF:=qH (show Ext w3 w6/\Row w6 9 1 (.slice la ((bN (aB ls) V (hs.take i)).length+1) lcap) (bN (aB ls) V (hs.take (i+1))).length (strs (bN (aB ls) V (hs.take (i+1)))) (New w3)from by
        refine⟨hk6,?_⟩;rw [HS.out,List.length_append,List.length_singleton];have e:strs (bN (aB ls) V (hs.take i)++ [x])=strs (bN (aB ls) V (hs.take i))++ [.string x]:=by simp [strs]
        rw [e];exact hr6)
       clear hr6 hk6 hk6b;go_wp2;go_roundw
       case rel=>exact⟨i+1,by omega,nMX,qH HF.out.1,qH HF.out.2⟩
       case measure=>simp [intOf];omega
      ·have b1:(kt==1)=false:=by simp [h1]
       have HS:=qH (qS (aB ls) V HTt.out);rw [if_neg h3,if_neg h1,List.append_nil]at HS;clear h3 h1;go_wp2;go_roundw
       case rel=>exact⟨i+1,by omega,nMX,qH HX.out.1,qH (by rw [HS.out];exact HX.out.2)⟩
       case measure=>simp [intOf];omega
    ·obtain rfl:hn=i:=by omega
     have hall:hs.take hn=hs:=List.take_of_length_le (by rw [<-HT.out.1];exact Nat.le_refl _);have hro2:=hro.out;rw [hall]at hro2 hoc hle ⊢;have HCl:=qH (tR oa (bN (aB ls) V hs).length oc wr hle);have HR:=qH (show Ext w wr/\CellsAt wr oa (strs (bN (aB ls) V hs))/\(∀a,oa=some a->w.heap.size≤a.block)/\OwnSl w wr (.slice oa (bN (aB ls) V hs).length oc) (bN (aB ls) V hs)from⟨H3.out.1.trans hex.out,hoc,fun a e=>by subst e;have h1:w3.heap.size≤a.block:=hro2.block a.block rfl;have h2:=H3.out.1.size;omega,hro2.own'.old H3.out.1.size⟩);clear hex hro hro2 hoc hle hi hlt hall;go_wp2_with fail
     refine HCl.out.mono ?_;rintro e w5 ⟨v5,rfl,hk5,rfl⟩;go_wp2;go_ret2;exact RetN.mk (HR.out.1.trans hk5) (.inl ⟨HC.out,by rw [<-HVc.out.1];exact HEv.out.symm,_,_,rfl,HR.out.2.1.ext hk5,Nat.le_refl _,HR.out.2.2.1,rfl,(HR.out.2.2.2.ext hk5).clip⟩)
  ·have hnl:((nb:Int)==(nv:Int))=false:=by simp;omega
   have HNl:=qH (show ¬(aU ((p,hs,()),ls,())=0/\V.length=(aB ls).length)from fun h=>hl (by rw [HVc.out.1,<-HEv.out];exact h.2));clear hl;go_wp2;go_ret2;exact RetN.mk H3.out.1 (.inr ⟨HNl.out,rfl⟩)
 ·have hc':((cR:Int)==0)=false:=by simp;omega
  have HN:=qH hc;clear hc;go_wp2;go_ret2;exact RetN.mk H3.out.1 (.inr ⟨fun h=>HN.out (by rw [<-HC.out];exact h.1),rfl⟩)
theorem aM0(k:Int)(s:ByteArray)(w:World):Calls Tryz.prog 98 #[.agg #[.int .i64 k,.string s]] w (RetN w fun w' v=>v= .bool (decide (4≤k))):=by obtain⟨gb,egb⟩:=nm w.heap.size;obtain⟨w1,e1⟩:=nm (w.alloc (.cells #[.int .i64 k,.string s] 38));have hB1:=bNX egb e1;have H1:=qH (show Ext w w1 from xAX e1);have b0:=hB1.c0;clear hB1;go_enter Tryz.func98,Tryz.ntmps98;go_wp2;go_ret;exact RetN.mk H1.out rfl
theorem aNy{w:World}{G:Nat->Prop}{hs:List aE}{ha:Option Addr}{hn hcap:Nat}(hhn:hn=hs.length)(hh:aO w G ha hs)(hl:hn≤1048576):
 Calls Tryz.prog 97 #[.slice ha hn hcap,.func (Fn.func 98) #[] #[]] w (RetN w fun w' v=>v= .bool (hs.any fun t=>decide (4≤t.1))):=
 qB hs ha hn hcap 98 #[] #[] (fun t=>decide (4≤t.1)) w G hhn hh ⟨enters_of Tryz.func98 (by kernel_rfl) rfl,fun W hW k s=>aM0 k s W⟩ (by omega)
end
section
def bB(m:Nat):aD->aD->Nat×aD
 |acc,[]=>(0,acc)
 |acc,x::xs=>if(aI m acc x).2≠0 then((aI m acc x).2,acc)else bB m (aP m acc x) xs
theorem eG(m:Nat)(acc:aD)(x:List ByteArray)(xs:aD):bB m acc (x::xs)=if(aI m acc x).2≠0 then((aI m acc x).2,acc)else bB m (aP m acc x) xs:=rfl
theorem nS(m:Nat)(ys:aD):∀(xs acc:aD),(bB m acc xs).1=0->bB m acc (xs++ys)=bB m (bB m acc xs).2 ys
 | [],acc,_=>rfl
 |x::xs,acc,h=>by
  rw [List.cons_append,eG,eG m acc x xs];rw [eG]at h;by_cases h1:(aI m acc x).2≠0
  ·rw [if_pos h1]at h;exact absurd h h1
  ·rw [if_neg h1]at h;rw [if_neg h1,if_neg h1];exact nS m ys xs _ h
theorem nR{m:Nat}{xs acc:aD}{x:List ByteArray}(h:(bB m acc xs).1=0)(hx:(aI m (bB m acc xs).2 x).2≠0):bB m acc (xs++ [x])=((aI m (bB m acc xs).2 x).2,(bB m acc xs).2):=by rw [nS m [x] xs acc h,eG,if_pos hx]
theorem mD{m:Nat}{xs acc:aD}{x:List ByteArray}(h:(bB m acc xs).1=0)(hx:(aI m (bB m acc xs).2 x).2=0):bB m acc (xs++ [x])=(0,aP m (bB m acc xs).2 x):=by rw [nS m [x] xs acc h,eG,if_neg (fun e=>e hx)];rfl
theorem rK(m:Nat)(xs ys acc:aD)(h:(bB m acc xs).1≠0):bB m acc (xs++ys)=bB m acc xs:=by
 induction xs generalizing acc with
 |nil=>exact absurd rfl h
 |cons x xs ih=>
  show bB m acc (x::(xs++ys))=_;unfold bB at h ⊢;by_cases h1:(aI m acc x).2≠0
  ·rw [if_pos h1,if_pos h1]
  ·rw [if_neg h1,if_neg h1];rw [if_neg h1]at h;exact ih _ h
theorem aM3{m:Nat}{LL:aD}(x:List ByteArray)(h:LL.length≤65536):(aP m LL x).length≤65536:=by
 unfold aP;by_cases h0:(aI m LL x).2=0
 ·rw [if_pos h0,oY];by_cases hi:bD aC LL x=true
  ·rw [if_pos hi];exact h
  ·by_cases h5:65536≤LL.length
   ·exfalso;unfold aI at h0;have hi':bD aC LL x=false:=by simpa using hi
    rw [if_pos (show 65536≤LL.length/\bD aC LL x=false from⟨h5,hi'⟩)]at h0;split at h0
    ·cases h0
    ·split at h0
     ·cases h0
     ·cases h0
   ·rw [if_neg hi];omega
 ·rw [if_neg h0];exact h
theorem kG(m:Nat):∀(xs acc:aD),acc.length≤65536->(bB m acc xs).2.length≤65536
 | [],acc,h=>h
 |x::xs,acc,h=>by
  rw [eG];by_cases h1:(aI m acc x).2≠0
  ·rw [if_pos h1];exact h
  ·rw [if_neg h1];exact kG m xs _ (aM3 x h)
theorem aFd{m:Nat}{LL:aD}(x:List ByteArray)(h:Strict aC LL):Strict aC (aP m LL x):=by
 unfold aP;split
 ·exact h.add dX x
 ·exact h
theorem jR(m:Nat):∀(xs acc:aD),Strict aC acc->Strict aC (bB m acc xs).2
 | [],acc,h=>h
 |x::xs,acc,h=>by
  rw [eG];by_cases h1:(aI m acc x).2≠0
  ·rw [if_pos h1];exact h
  ·rw [if_neg h1];exact jR m xs _ (aFd x h)
end
end Go.Proofs.YtinnmeiphbdogaaGreat
