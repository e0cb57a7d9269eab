/- Proved here: the statement JoinOverUptoSaid: the law returns true for every input of the bound that the row names and leaves its arguments as they were. No condition of its own. -/
import Derived.Test.YtinnmeiphbdogaaGreatJv9
import Derived.Deep.CondSized
set_option linter.unusedVariables false
set_option linter.unusedSimpArgs false
set_option maxRecDepth 100000
namespace Go.Proofs.YtinnmeiphbdogaaGreat.lawJoinOver
open Go.ChangeShapes Go.WideShapes Go.ChangeAt Go.RowKit
open Go.ChangeMaps (open_string shut_string)
theorem own:ownKnob Tryz.prog.godebug=none:=by kernel_rfl
theorem laidOut:laidOutB Tryz.prog=true:=by kernel_rfl
theorem tK:∀ts:List aE,ts.length*3≤cK cA.bulk ts
 | []=>Nat.zero_le _
 |t::ts=>by have h1:=tK ts;have h2:cA.bulk t=(1+((t.2.1.size+1)+0))+1:=rfl;rw [iE,List.length_cons];omega
theorem sG(l:aJ):(aA l).length*3≤fL.bulk l:=by have el:fL.bulk l=(1+(jM.bulk l.2.1+(1+(cA.bulk l.2.2.2.1+(cA.bulk l.2.2.2.2.1+0)))))+1:=rfl;have ea:jM.bulk l.2.1=((l.2.1.1.size+1)+((cK cA.bulk l.2.1.2.1+1)+0))+1:=rfl;have et:(aA l).length*3≤cK cA.bulk l.2.1.2.1:=tK _;omega
theorem qF:∀(ls:List aJ) (a:List ByteArray),(ls.foldl bK a).length*3≤a.length*3+cK fL.bulk ls
 | [],a=>Nat.le_refl _
 |l::ls,a=>by
  have h1:=qF ls (bK a l);have h2:(bK a l).length≤a.length+(aA l).length:=by
   unfold bK;split
   ·exact nE _ _
   ·exact Nat.le_add_right _ _
  have h3:=sG l;rw [iE];show(ls.foldl bK (bK a l)).length*3≤_;omega
theorem aE7{r:dC}(hb:iU.bulk r≤1048576):∀l∈r.2.1,(aC r.2.1).length+(aA l).length≤1048576:=fun l hl=>by have e:iU.bulk r=(jM.bulk r.1+((cK fL.bulk r.2.1+1)+0))+1:=rfl;have h1:=qF r.2.1 [];have h2:(aC r.2.1).length*3≤0+cK fL.bulk r.2.1:=h1;have h3:=jH fL.bulk hl;have h4:=sG l;omega
noncomputable def kP:Shp Tryz.prog (List dW):=oC 28 pS Tryz.underlying28 (by kernel_rfl) (by exact(by decide:0<3))
theorem aDm{w:World}{G:Nat->Prop}{ao:Option Addr}{Ls:List (List dW)}(h:ElemsAt kP w G ao Ls)(hl:∀L∈Ls,∀q∈L,∀ss∈q.2.2.1,ss.length≤8796093021952):RelsLL w ao Ls:=fun i L hL=>by obtain⟨b,off,es,e,_,_,⟨la,lc,ee,_,_,hel⟩,hcell⟩:=h i L hL;refine⟨b,off,la,lc,e,?_,aFv hel (hl L (List.mem_of_getElem? hL))⟩;have:=hcell 0 (.slice la L.length lc) (by rw [ee];rfl);rw [show kP.n=1 from rfl,Nat.mul_one,Nat.add_zero]at this;exact this
theorem aHy{Ls:List (List dW)}{N:Nat}(h:cK kP.bulk Ls≤N):Ls.length≤N/\∀L∈Ls,cK pS.bulk L≤N:=by refine⟨Nat.le_trans (gE kP.bulk (fun x=>by show 1≤_+1;omega) Ls) h,fun L hL=>?_⟩;have h1:cK pS.bulk L+1≤cK kP.bulk Ls:=jH kP.bulk hL;omega
theorem aH0{v u1 z:Value}{W:World}(hv:∃cs x,v= .agg cs/\iU.At W (fun k=>k<W.heap.size) cs.toList x/\iU.bulk x≤1048576)
 (h1:∃ao cap xs,u1= .slice ao xs.length cap/\xs.length≤cap/\ElemsAt kP W (fun k=>k<W.heap.size) ao xs/\cK kP.bulk xs+1≤1048576)
 (hz:∃k:Int,z= .int .i64 k):
 Calls Tryz.prog 6 #[v,u1,z] W (fun e w'=>e= .returned (.bool true)/\Below W.heap.size W w'):=by
 obtain⟨cs,x,rfl,hx,hb⟩:=hv;obtain⟨a1,c1,x1,rfl,_,e1,b1⟩:=h1;obtain⟨k,rfl⟩:=hz;obtain⟨ha,hcap,ba,bcap,hR,ec⟩:=aEn hx;have ecs:cs=#[.string x.1.1,.slice ha x.1.2.1.length hcap,.slice ba x.2.1.length bcap]:=by rw [<-Array.toList_inj,ec]
 obtain⟨f1,f2⟩:=aJ4 (r:=x) hb;obtain⟨l0,l2⟩:=aHy (N:=1048576) (by omega:cK kP.bulk x1≤1048576);rw [ecs];refine(aA0 (p:=x.1.1) (hcap:=hcap) (bcap:=bcap) (lc:=c1) (z:=k) rfl hR.head f1 rfl hR.body f2 (aIb hb) f2.len rfl (aDm e1 fun L hL q hq ss hs=>by have:=((vD (l2 L hL)).2 q hq).2 ss hs;omega) l0 (fun L hL=>⟨(vD (l2 L hL)).1,fun q hq=>((vD (l2 L hL)).2 q hq).1⟩) (aE7 hb)).mono ?_;rintro e w' ⟨v,rfl,hk,rfl⟩;exact⟨rfl,hk.below⟩
theorem lifted(os:Os)(started:os.Started)(H:Type)(enc:TypeId×Value->H)(F:Stop.Interp):
 ReturnsInHanded {} Tryz.checked os 6 .any ((Rows.OpenSpec.upto Rows.joinOverSpec).pre6 enc Tryz.prog Tryz.f6 Rows.joinOverUptoRow.domain false) (((Rows.OpenSpec.upto Rows.joinOverSpec).at F).post enc Tryz.prog Tryz.f6 false true false false):=by
 refine returnsInHanded_of_cond (C:=Tryz.checked) (s:=Rows.OpenSpec.upto Rows.joinOverSpec) (k:=Rows.uptoSmall) rfl own started (by kernel_rfl) Tryz.func6
  (OpenSpec.witness (enc:=enc) (C:=Tryz.checked) (s:=Rows.OpenSpec.upto Rows.joinOverSpec) (k:=Rows.uptoSmall) rfl false ⟨#[],#[.agg #[.string ⟨#[]⟩,.slice none 0 0,.slice none 0 0],.slice none 0 0,.int .i64 0],[]⟩ 8 (by kernel_rfl) (by kernel_rfl) (by kernel_rfl)
   (x:=(([.agg [.agg [.lit (.string []),.nil],.nil],.nil,.lit (.int .i64 0)]),[],[])) (by kernel_rfl) rfl (by kernel_rfl)) ?_
 intro W base args ds gs before hval0 hW hcnd hk0 _;have hk:Rows.uptoSmall H (ds++gs)=true:=hk0;clear hk0;have hval:∀(j:Nat) t v,Tryz.f6.params[j]?=some t->args[j]?=some v->Value.okWide Tryz.prog W .any base t v:=hval0;have hW':=hW;obtain⟨p,q,hA0,hV,rfl,hfz,hnd⟩:=hW;have hA:DataW.TrodAll enc Tryz.prog W 0 (fun _=>true) true Tryz.f6.params.toList args.toList ds p:=hA0;rw [Tryz.params6]at hA hval;obtain⟨v0,vs0,d0,ds0,p0,q0,hargs,rfl,rfl,h0,r0⟩:=trodAll_cons hA;obtain⟨v1,vs1,d1,ds1,p1,q1,rfl,rfl,rfl,h1,r1⟩:=trodAll_cons r0;obtain⟨v2,vs2,d2,ds2,p2,q2,rfl,rfl,rfl,h2,r2⟩:=trodAll_cons r1;obtain⟨rfl,rfl,rfl⟩:=trodAll_nil r2;obtain rfl:args=#[v0,v1,v2]:=by cases args;simp_all
 obtain⟨rfl,rfl⟩:=trodVars_none hV;have lt0:∀x∈p0,x.block<W.heap.size:=by obtain⟨m,hm⟩:=h0;exact DataW.trod_lt m _ _ _ hm
 have lt1:∀x∈p1,x.block<W.heap.size:=by obtain⟨m,hm⟩:=h1;exact DataW.trod_lt m _ _ _ hm
 have lt2:∀x∈p2,x.block<W.heap.size:=by obtain⟨m,hm⟩:=h2;exact DataW.trod_lt m _ _ _ hm
 clear hA0 hval0;simp only [List.append_nil]at hk;have hk1:Rows.uptoBulkAll [d0,d1,d2]≤1048576:=of_decide_eq_true hk;clear hk;have x0:∃cs x,v0= .agg cs/\iU.At W (fun k=>k<W.heap.size) cs.toList x/\iU.bulk x≤1048576:=by obtain⟨cs,rfl,hcs⟩:=okWide_struct Tryz.underlying27 (hval 0 27 v0 rfl rfl);obtain⟨x,hx,hb⟩:=iU.arg h0 (aG5 hk1 (by simp));exact⟨cs,x,rfl,hx,hb⟩
 have x1:=aJk (s:=kP) Tryz.underlying63 (by kernel_rfl) (by exact(by decide:0<1)) (hval 1 63 v1 rfl rfl) h1 (N:=1048576) (aG5 hk1 (by simp));have x2:=(open_int Tryz.underlying3 (hval 2 3 v2 rfl rfl) h2).imp fun n h=>h.1;refine(aH0 x0 x1 x2).mono fun e W' ⟨he,bel⟩=>?_;subst he;exact⟨_,rfl,_,_,_,[],_,[],hW',trodAll_mk1 (shut_bool Tryz.underlying4 _),(trodAll_cons_mk (Below.trod laidOut (by kernel_rfl) (of_decide_eq_true (by kernel_rfl)) h0 bel lt0) (trodAll_cons_mk (Below.trod laidOut (by kernel_rfl) (of_decide_eq_true (by kernel_rfl)) h1 bel lt1) (trodAll_cons_mk (Below.trod laidOut (by kernel_rfl) (of_decide_eq_true (by kernel_rfl)) h2 bel lt2) trodAll_mk0))),rfl,bel.frame _,fun h=>by cases h⟩
theorem over:Rows.joinOverUptoRow.holds Tryz.pinned (Rows.OpenSpec.upto Rows.joinOverSpec):=
 OpenClaim.holds_of_cond 6 Tryz.f6 rfl rfl rfl rfl rfl rfl rfl ⟨rfl,rfl,rfl,rfl,rfl⟩ rfl rfl rfl rfl rfl (by kernel_rfl) Tryz.func6 (by kernel_rfl)
  (of_decide_eq_true (by kernel_rfl)) (by unfold Func.isWrapper;first|(rw [if_pos (by decide+kernel)];kernel_rfl)|(rw [if_neg (by decide+kernel)];exact⟨rfl,rfl⟩))
  (fun os started H enc _ F=>lifted os started H enc F)
theorem proved:Rows.JoinOverUptoSaid:=over
#print axioms proved
end Go.Proofs.YtinnmeiphbdogaaGreat.lawJoinOver
