/- Proved here: the statement JoinFactsUptoSaid: the law returns true for every input of the bound that the row names and leaves its arguments as they were. No condition of its own. -/
import Derived.Test.YtinnmeiphbdogaaGreatJf10
import Derived.Deep.CondSized
set_option linter.unusedVariables false
set_option linter.unusedSimpArgs false
set_option maxRecDepth 100000
namespace Go.Proofs.YtinnmeiphbdogaaGreat.lawJoinFacts
open Go.ChangeShapes Go.WideShapes Go.ChangeAt Go.RowKit
open Go.ChangeMaps (open_string shut_string)
theorem own:ownKnob Tryz.prog.godebug=none:=by kernel_rfl
theorem laidOut:laidOutB Tryz.prog=true:=by kernel_rfl
theorem vC:∀ts:List aE,ts.length*3≤dJ cH.bulk ts
 | []=>Nat.zero_le _
 |t::ts=>by have h1:=vC ts;have h2:cH.bulk t=(1+((t.2.1.size+1)+0))+1:=rfl;rw [iK,List.length_cons];omega
theorem tZ(l:aL):(aA l).length*3≤fR.bulk l:=by have el:fR.bulk l=(1+(jP.bulk l.2.1+(1+(cH.bulk l.2.2.2.1+(cH.bulk l.2.2.2.2.1+0)))))+1:=rfl;have ea:jP.bulk l.2.1=((l.2.1.1.size+1)+((dJ cH.bulk l.2.1.2.1+1)+0))+1:=rfl;have et:(aA l).length*3≤dJ cH.bulk l.2.1.2.1:=vC _;omega
theorem rW:∀(ls:List aL) (a:List ByteArray),(ls.foldl bQ a).length*3≤a.length*3+dJ fR.bulk ls
 | [],a=>Nat.le_refl _
 |l::ls,a=>by
  have h1:=rW ls (bQ a l);have h2:(bQ a l).length≤a.length+(aA l).length:=by
   unfold bQ;split
   ·exact oF _ _
   ·exact Nat.le_add_right _ _
  have h3:=tZ l;rw [iK];show(ls.foldl bQ (bQ a l)).length*3≤_;omega
theorem aGj{r:cG}(hb:iW.bulk r≤1048576):∀l∈r.2.1,(aB r.2.1).length+(aA l).length≤1048576:=fun l hl=>by have e:iW.bulk r=(jP.bulk r.1+((dJ fR.bulk r.2.1+1)+0))+1:=rfl;have h1:=rW r.2.1 [];have h2:(aB r.2.1).length*3≤0+dJ fR.bulk r.2.1:=h1;have h3:=lP fR.bulk hl;have h4:=tZ l;omega
theorem aG7{v u1:Value}{W:World}(hv:∃cs x,v= .agg cs/\iW.At W (fun k=>k<W.heap.size) cs.toList x/\iW.bulk x≤1048576)
 (h1:∃ao cap xs,u1= .slice ao xs.length cap/\xs.length≤cap/\ElemsAt pV W (fun k=>k<W.heap.size) ao xs/\dJ pV.bulk xs+1≤1048576)
 :
 Calls Tryz.prog 8 #[v,u1] W (fun e w'=>e= .returned (.bool true)/\Below W.heap.size W w'):=by
 obtain⟨cs,x,rfl,hx,hb⟩:=hv;obtain⟨a1,c1,x1,rfl,_,e1,b1⟩:=h1;obtain⟨ha,hcap,ba,bcap,hR,ec⟩:=aFx hx;have ecs:cs=#[.string x.1.1,.slice ha x.1.2.1.length hcap,.slice ba x.2.1.length bcap]:=by rw [<-Array.toList_inj,ec]
 obtain⟨f1,f2⟩:=aLr (r:=x) hb;obtain⟨l1,l3⟩:=aLw (N:=1048576) (by omega:dJ pV.bulk x1≤1048576);rw [ecs];refine(zT (p:=x.1.1) (hcap:=hcap) (bcap:=bcap) (lc:=c1) rfl hR.head f1 rfl hR.body f2 (aJs hb) f2.len rfl (aHd e1 fun q hq ss hs=>by have:=(l3 q hq).2 ss hs;omega) l1 (fun q hq=>(l3 q hq).1) (aGj hb)).mono ?_;rintro e w' ⟨v,rfl,hk,rfl⟩;exact⟨rfl,hk.below⟩
theorem lifted(os:Os)(started:os.Started)(H:Type)(enc:TypeId×Value->H)(F:Stop.Interp):
 ReturnsInHanded {} Tryz.checked os 8 .any ((Rows.OpenSpec.upto Rows.joinFactsSpec).pre6 enc Tryz.prog Tryz.f8 Rows.joinFactsUptoRow.domain false) (((Rows.OpenSpec.upto Rows.joinFactsSpec).at F).post enc Tryz.prog Tryz.f8 false true false false):=by
 refine returnsInHanded_of_cond (C:=Tryz.checked) (s:=Rows.OpenSpec.upto Rows.joinFactsSpec) (k:=Rows.uptoSmall) rfl own started (by kernel_rfl) Tryz.func8
  (OpenSpec.witness (enc:=enc) (C:=Tryz.checked) (s:=Rows.OpenSpec.upto Rows.joinFactsSpec) (k:=Rows.uptoSmall) rfl false ⟨#[],#[.agg #[.string ⟨#[]⟩,.slice none 0 0,.slice none 0 0],.slice none 0 0],[]⟩ 8 (by kernel_rfl) (by kernel_rfl) (by kernel_rfl)
   (x:=(([.agg [.agg [.lit (.string []),.nil],.nil],.nil]),[],[])) (by kernel_rfl) rfl (by kernel_rfl)) ?_
 intro W base args ds gs before hval0 hW hcnd hk0 _;have hk:Rows.uptoSmall H (ds++gs)=true:=hk0;clear hk0;have hval:∀(j:Nat) t v,Tryz.f8.params[j]?=some t->args[j]?=some v->Value.okWide Tryz.prog W .any base t v:=hval0;have hW':=hW;obtain⟨p,q,hA0,hV,rfl,hfz,hnd⟩:=hW;have hA:DataW.TrodAll enc Tryz.prog W 0 (fun _=>true) true Tryz.f8.params.toList args.toList ds p:=hA0;rw [Tryz.params8]at hA hval;obtain⟨v0,vs0,d0,ds0,p0,q0,hargs,rfl,rfl,h0,r0⟩:=trodAll_cons hA;obtain⟨v1,vs1,d1,ds1,p1,q1,rfl,rfl,rfl,h1,r1⟩:=trodAll_cons r0;obtain⟨rfl,rfl,rfl⟩:=trodAll_nil r1;obtain rfl:args=#[v0,v1]:=by cases args;simp_all
 obtain⟨rfl,rfl⟩:=trodVars_none hV;have lt0:∀x∈p0,x.block<W.heap.size:=by obtain⟨m,hm⟩:=h0;exact DataW.trod_lt m _ _ _ hm
 have lt1:∀x∈p1,x.block<W.heap.size:=by obtain⟨m,hm⟩:=h1;exact DataW.trod_lt m _ _ _ hm
 clear hA0 hval0;simp only [List.append_nil]at hk;have hk1:Rows.uptoBulkAll [d0,d1]≤1048576:=of_decide_eq_true hk;clear hk;have x0:∃cs x,v0= .agg cs/\iW.At W (fun k=>k<W.heap.size) cs.toList x/\iW.bulk x≤1048576:=by obtain⟨cs,rfl,hcs⟩:=okWide_struct Tryz.underlying27 (hval 0 27 v0 rfl rfl);obtain⟨x,hx,hb⟩:=iW.arg h0 (aIl hk1 (by simp));exact⟨cs,x,rfl,hx,hb⟩
 have x1:=aK5 (s:=pV) Tryz.underlying28 (by kernel_rfl) (by exact(by decide:0<3)) (hval 1 28 v1 rfl rfl) h1 (N:=1048576) (aIl hk1 (by simp));refine(aG7 x0 x1).mono fun e W' ⟨he,bel⟩=>?_;subst he;exact⟨_,rfl,_,_,_,[],_,[],hW',trodAll_mk1 (shut_bool Tryz.underlying4 _),(trodAll_cons_mk (Below.trod laidOut (by kernel_rfl) (of_decide_eq_true (by kernel_rfl)) h0 bel lt0) (trodAll_cons_mk (Below.trod laidOut (by kernel_rfl) (of_decide_eq_true (by kernel_rfl)) h1 bel lt1) trodAll_mk0)),rfl,bel.frame _,fun h=>by cases h⟩
theorem over:Rows.joinFactsUptoRow.holds Tryz.pinned (Rows.OpenSpec.upto Rows.joinFactsSpec):=
 OpenClaim.holds_of_cond 8 Tryz.f8 rfl rfl rfl rfl rfl rfl rfl ⟨rfl,rfl,rfl,rfl,rfl⟩ rfl rfl rfl rfl rfl (by kernel_rfl) Tryz.func8 (by kernel_rfl)
  (of_decide_eq_true (by kernel_rfl)) (by unfold Func.isWrapper;first|(rw [if_pos (by decide+kernel)];kernel_rfl)|(rw [if_neg (by decide+kernel)];exact⟨rfl,rfl⟩))
  (fun os started H enc _ F=>lifted os started H enc F)
theorem proved:Rows.JoinFactsUptoSaid:=over
#print axioms proved
end Go.Proofs.YtinnmeiphbdogaaGreat.lawJoinFacts
