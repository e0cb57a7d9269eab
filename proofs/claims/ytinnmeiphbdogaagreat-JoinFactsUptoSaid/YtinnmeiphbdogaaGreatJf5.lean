/- Texts joined for a claim (Leap, LeapWalk, FromWalk, LaidRound, Proj, ProjSort, Laid, ProjAny, TrieWidth, TrieLev). -/
import Derived.Test.YtinnmeiphbdogaaGreatJf4
set_option linter.unusedVariables false
set_option linter.unusedSimpArgs false
set_option maxRecDepth 100000
namespace Go.Proofs.YtinnmeiphbdogaaGreat
section
open Go.RowKit Go.Shelf
theorem aD7{R:Nat->Prop}:∀m,R m->∃n,R n/\∀k,R k->n≤k:=by
 intro m;induction m using Nat.strongRecOn with
 |ind m ih=>
  intro h;by_cases h2:∃k,k<m/\R k
  ·obtain⟨k,hk,h3⟩:=h2;exact ih k hk h3
  ·exact⟨m,h,fun k hk=>Nat.not_lt.1 fun h4=>h2 ⟨k,h4,hk⟩⟩
open Classical in
noncomputable def xT(R:Nat->Prop):Nat:=if h:∃n,R n/\∀k,R k->n≤k then Classical.choose h else 0
theorem aMc{R:Nat->Prop}(h:∃m,R m):R (xT R):=by obtain⟨m,hm⟩:=h;have h2:=aD7 m hm;unfold xT;rw [dif_pos h2];exact(Classical.choose_spec h2).1
theorem aD6{R:Nat->Prop}{m:Nat}(h:R m):xT R≤m:=by have h2:=aD7 m h;unfold xT;rw [dif_pos h2];exact(Classical.choose_spec h2).2 m h
abbrev XB:=gZ×List ByteArray
def encX(x:XB):Array Value:=#[.slice x.1.1 x.1.2.1 x.1.2.2]
def GvRow(W1:World)(T':Nat->Prop)(W2:World)(x:XB):Prop:=x.1.2=(x.2.length,x.2.length)/\((x.1.1=none/\x.2= [])\/∃g rest,x.1.1=some ⟨g,0,none⟩/\Blk W2 g (strs x.2++rest) 9/\W1.heap.size≤g/\¬T' g)
def Held(J:(Nat->Prop)->List XB->World->Prop)(E own:Nat->Prop)(pre:List XB)(W:World):Prop:=∃T W1,J T pre W1/\Kp T W1 W/\∀k,own k\/E k->T k\/W1.heap.size≤k
theorem Held.step{J:(Nat->Prop)->List XB->World->Prop}{E E' own own' G:Nat->Prop}{pre:List XB}{W W':World}(h:Held J E own pre W)(hk:Kp G W W')(hG:∀k,G k->own k\/E k\/W.heap.size≤k)(ho:∀k,own' k->own k\/W.heap.size≤k)(hE:∀k,E' k->E k\/W.heap.size≤k):Held J E' own' pre W':=by
 obtain⟨T,W1,h1,h2,h3⟩:=h;have hs:=h2.size;refine⟨T,W1,h1,h2.trans' hk fun i hi hg=>?_,fun k hk'=>?_⟩
 ·rcases hG i hg with h4|h4|h4
  ·rcases h3 i (.inl h4)with h5|h5
   ·exact h5
   ·omega
  ·rcases h3 i (.inr h4)with h5|h5
   ·exact h5
   ·omega
  ·omega
 ·rcases hk' with h4|h4
  ·rcases ho k h4 with h5|h5
   ·exact h3 k (.inl h5)
   ·exact .inr (by omega)
  ·rcases hE k h4 with h5|h5
   ·exact h3 k (.inr h5)
   ·exact .inr (by omega)
structure WCtx where
 Z:Nat->Prop
 lo:Nat
 M:MatchZ
 A:MAddr
 wb:Nat
 mb:Nat
 rb:Nat
 yv:Value
 cv:Value
 cb:Nat->Nat
 J:(Nat->Prop)->List XB->World->Prop
 Jx:(Nat->Prop)->List XB->World->Prop
 Lall:aD
 w0:World
structure WCtx.Ok(C:WCtx):Prop where
 hZ:∀k,C.Z k->k<C.lo
 mat:∀W,Kp (fun k=>¬C.Z k) C.w0 W->MatchAt W C.mb C.M C.A
 ok:MatchOk C.M
def WCtx.Own(C:WCtx)(ov:Nat->Value):Nat->Prop:=aLe C.wb C.rb C.M.Ts.length C.cv C.cb ov
structure WCtx.At(C:WCtx)(ov:Nat->Value)(R:List ByteArray)(st:Nat->List (Nat×Nat))(W:World):Prop where
 wlk:WalkAt W C.wb C.mb C.M C.yv C.cv C.rb R C.cb ov st
 new:∀k,C.Own ov k->C.lo≤k
 w0k:Kp (fun k=>¬C.Z k) C.w0 W
def WCtx.QE(C:WCtx)(E:Nat->Prop):Nat->Prop:=fun k=>¬C.Z k/\¬E k
def WCtx.Ends(C:WCtx)(E:Nat->Prop)(pre:List XB)(L:aD)(ov:Nat->Value)(b:Bool)(W:World):Prop:=
 (b=true/\∃xs:List XB,xs.map Prod.snd=L/\Held C.J E (C.Own ov) (pre++xs) W)\/ (b=false/\∃pre':List XB,pre'.map Prod.snd<+:C.Lall/\Held C.Jx E (C.Own ov) pre' W)
def WCtx.Post(C:WCtx)(E:Nat->Prop)(v:Nat)(p:List ByteArray)(st:Nat->List (Nat×Nat))(pre:List XB)(L:aD)(W:World)(e:Ending)(W':World):Prop:=
 ∃(b:Bool) (ov':Nat->Value) (R':List ByteArray),e= .returned (.bool b)/\Kp (C.QE E) W W'/\C.At ov' R' st W'/\R'.take v=p/\(∀k,C.Own ov' k->¬E k)/\C.Ends E pre L ov' b W'
structure WCtx.Fit(C:WCtx)(E:Nat->Prop)(ov:Nat->Value)(W:World):Prop where
 lt:∀k,E k->k<W.heap.size
 off:∀k,C.Own ov k->¬E k
 lo:∀k,E k->C.lo≤k
def WCtx.From(C:WCtx)(v:Nat):Prop:=∀(p:List ByteArray) (E:Nat->Prop) (ov:Nat->Value) (R:List ByteArray) (st:Nat->List (Nat×Nat)) (pre:List XB) (L:aD) (W:World),
 p.length=v->C.At ov R st W->R.take v=p->PathsAt C.M v p st->Seen C.M v p->AllB (mX C.M) p L->(∃R0,pre.map Prod.snd++L++R0=C.Lall)->Held C.J E (C.Own ov) pre W->C.Fit E ov W->
 Calls Tryz.prog 123 #[.pointer (some ⟨C.wb,0,none⟩),.int .i64 v] W (C.Post E v p st pre L W)
def StOk(st0:Nat->List (Nat×Nat))(js:List Nat)(Cs:List CurZ)(pos:Nat->Nat)(st:Nat->List (Nat×Nat)):Prop:=(∀(k j:Nat) (c:CurZ),js[k]?=some j->Cs[k]?=some c->st j=st0 j++ [(pos k,c.hi)])/\∀j,j∉js->st j=st0 j
theorem StOk.turn{st0:Nat->List (Nat×Nat)}{js:List Nat}{Cs:List CurZ}{pos:Nat->Nat}{st:Nat->List (Nat×Nat)}(h:StOk st0 js Cs pos st)(hn:js.Nodup){k j:Nat}{c:CurZ}(hj:js[k]?=some j)(hc:Cs[k]?=some c)(q:Nat):StOk st0 js Cs (fun m=>if m=k then q else pos m) (dQ st j (st0 j++ [(q,c.hi)])):=by
 refine⟨fun m i d hi hd=>?_,fun i hi=>?_⟩
 ·by_cases e:m=k
  ·subst e;rw [hj]at hi;cases hi;rw [hc]at hd;cases hd;show _=st0 j++ [((if m=m then q else pos m),c.hi)];rw [upd_same,if_pos rfl]
  ·show _=st0 i++ [((if m=k then q else pos m),d.hi)];rw [if_neg e,aH _ _ (fun e2=>e ?_)]
   ·exact h.1 m i d hi hd
   ·subst e2;exact(List.getElem?_inj (List.getElem?_eq_some_iff.1 hi).1 hn).1 (hi.trans hj.symm)
 ·rw [aH _ _ (fun e=>hi (by rw [e];exact List.mem_of_getElem? hj))];exact h.2 i hi
def WCtx.LeapPost(C:WCtx)(E:Nat->Prop)(v:Nat)(p:List ByteArray)(st0:Nat->List (Nat×Nat))(js:List Nat)(Cs:List CurZ)(pre:List XB)(L:aD)(W:World)(e:Ending)(W':World):Prop:=
 ∃(b:Bool) (ov':Nat->Value) (R':List ByteArray) (st':Nat->List (Nat×Nat)) (pos':Nat->Nat),e= .returned (.bool b)/\Kp (C.QE E) W W'/\C.At ov' R' st' W'/\R'.take v=p/\(∀k,C.Own ov' k->¬E k)/\StOk st0 js Cs pos' st'/\C.Ends E pre L ov' b W'
structure WCtx.Turn(C:WCtx)(E:Nat->Prop)(v:Nat)(p:List ByteArray)(st0:Nat->List (Nat×Nat))(js:List Nat)(Cs:List CurZ)(pre:List XB)(W0:World)(i:Nat)(pos:Nat->Nat)(D:ByteArray->Prop)(xs:List XB)(ov:Nat->Value)(R:List ByteArray)(st:Nat->List (Nat×Nat))(W:World):Prop where
 inv:LeapInv (mX C.M) p Cs pos i D (xs.map Prod.snd)
 at_:C.At ov R st W
 row:R.take v=p
 st_:StOk st0 js Cs pos st
 held:Held C.J E (C.Own ov) (pre++xs) W
 fit:C.Fit E ov W
 kp:Kp (C.QE E) W0 W
section
variable {C:WCtx}{E:Nat->Prop}{v:Nat}{p:List ByteArray}{st0 st:Nat->List (Nat×Nat)}{js:List Nat}{Cs:List CurZ}{pre xs:List XB}{W0 W W':World}{i:Nat}{pos:Nat->Nat}{D:ByteArray->Prop}{ov:Nat->Value}{R:List ByteArray}
theorem WCtx.At.ext(h:C.At ov R st W)(hk:Ext W W'):C.At ov R st W':=⟨h.wlk.ext hk,h.new,h.w0k.ext hk⟩
theorem WCtx.Fit.ext(h:C.Fit E ov W)(hk:Ext W W'):C.Fit E ov W':=⟨fun k hk'=>Nat.lt_of_lt_of_le (h.lt k hk') hk.size,h.off,h.lo⟩
theorem WCtx.Turn.ext(h:C.Turn E v p st0 js Cs pre W0 i pos D xs ov R st W)(hk:Ext W W'):C.Turn E v p st0 js Cs pre W0 i pos D xs ov R st W':=
 ⟨h.inv,h.at_.ext hk,h.row,h.st_,h.held.step (G:=fun _=>False) hk (fun _ h=>h.elim) (fun k h=> .inl h) (fun k h=> .inl h),h.fit.ext hk,h.kp.ext hk⟩
theorem WCtx.At.turn(hC:C.Ok)(h:C.At ov R st W){j:Nat}{t:TrieZ}(ht:C.M.Ts[j]?=some t)(hk:Kp (iV (C.cb j) (ov j)) W W'){ov':Value}{st':List (Nat×Nat)}(hc:CurS W' (C.cb j) t.tb st' ov')(ho:∀k,ov'.ownBlock=some k->(ov j).ownBlock=some k\/W.heap.size≤k):
 C.At (dQ ov j ov') R (dQ st j st') W'/\(∀k,C.Own (dQ ov j ov') k->C.Own ov k\/W.heap.size≤k)/\(∀k,iV (C.cb j) (ov j) k->C.Own ov k):=by
 have hown:∀k,iV (C.cb j) (ov j) k->C.Own ov k:=fun k hk=> .inr (.inr (.inr ⟨j,(List.getElem?_eq_some_iff.1 ht).1,hk⟩));have hnew:∀k,C.Own (dQ ov j ov') k->C.Own ov k\/W.heap.size≤k:=WalkAt.own_turn ho;have hlo:C.lo≤W.heap.size:=Nat.le_of_lt (Nat.lt_of_le_of_lt (h.new C.wb (.inl rfl)) (h.wlk.lt C.wb (.inl rfl)));refine⟨⟨h.wlk.turn ht hk hc ho,fun k hk'=>?_,h.w0k.trans' hk fun i _ hf hz=>?_⟩,hnew,hown⟩
 ·rcases hnew k hk' with h1|h1
  ·exact h.new k h1
  ·omega
 ·have:=hC.hZ i hz;have:=h.new i (hown i hf);omega
theorem WCtx.Fit.turn(h:C.Fit E ov W)(hk:W.heap.size≤W'.heap.size){ov2:Nat->Value}(ho:∀k,C.Own ov2 k->C.Own ov k\/W.heap.size≤k):C.Fit E ov2 W':=
 ⟨fun k hk'=>Nat.lt_of_lt_of_le (h.lt k hk') hk,fun k h1 h2=>by
  rcases ho k h1 with h3|h3
  ·exact h.off k h3 h2
  ·have:=h.lt k h2;omega,h.lo⟩
theorem aAd{α:Type}(f:Nat->α)(j:Nat):dQ f j (f j)=f:=by
 funext i
 unfold dQ;split
 ·rename_i e;rw [e]
 ·rfl
theorem aEq{c:CurZ}(hc:CurOk c){t:ByteArray}{a q:Nat}(ha:c.lo≤a)(h:iO c.keys t a c.hi q):∀k x,a≤k->k<q->c.keys[k]?=some x->bE x.toList t.toList<0:=fun k x h1 h2 h3=>by
 obtain⟨p1,p2,p3,p4⟩:=h;have hq:q-1<c.keys.length:=by have:=hc.few;omega
 have h4:=p3 c.keys[q-1] (by omega) (qG hq);by_cases e:k=q-1
 ·subst e;rw [qG hq]at h3;cases h3;exact h4
 ·exact jZ (hc.rise k (q-1) x _ (by omega) (by omega) (by omega) h3 (qG hq)) h4
theorem WCtx.QE_own(hC:C.Ok)(h:C.At ov R st W)(hf:C.Fit E ov W):∀k,C.Own ov k->C.QE E k:=fun k hk=>⟨fun hz=>by have:=hC.hZ k hz;have:=h.new k hk;omega,hf.off k hk⟩
theorem WCtx.Turn.seek(hC:C.Ok)(hn:js.Nodup)(h:C.Turn E v p st0 js Cs pre W0 i pos D xs ov R st W){ci:CurZ}(hi:Cs[i]?=some ci)(hlt:pos i<ci.hi){key:ByteArray}(hkey:ci.keys[pos i]?=some key){k j q:Nat}{c:CurZ}{t:TrieZ}(hj:js[k]?=some j)(hc:Cs[k]?=some c)(ht:C.M.Ts[j]?=some t)
 (hk:Kp (iV (C.cb j) (ov j)) W W')(hcur:CurS W' (C.cb j) t.tb (st0 j++ [(q,c.hi)]) (ov j))(hf:iO c.keys key (pos k) c.hi q):C.Turn E v p st0 js Cs pre W0 i (fun m=>if m=k then q else pos m) D xs ov R (dQ st j (st0 j++ [(q,c.hi)])) W'/\(k=i->q=pos i):=by
 obtain⟨a1,a2,a3⟩:=h.at_.turn hC ht hk hcur (fun k h=> .inl h);rw [aAd]at a1 a2;have hok:=h.inv.ok c (List.mem_of_getElem? hc);have hb:=aEq hok (h.inv.inn k c hc).1 hf;have hki:k=i->q=pos i:=fun e=>by
  subst e;rw [hc]at hi;cases hi;rcases Nat.lt_or_eq_of_le hf.1 with h1|h1
  ·have:=hb (pos k) key (Nat.le_refl _) h1 hkey;rw [fL]at this;omega
  ·exact h1.symm
 exact⟨⟨h.inv.seek hi hlt hkey hc hf.1 hf.2.1 hb hki,a1,h.row,h.st_.turn hn hj hc q,h.held.step hk (fun k hk=> .inl (a3 k hk)) a2 (fun k h=> .inl h),h.fit.turn hk.size a2,h.kp.trans' hk fun k _ hf=>WCtx.QE_own hC h.at_ h.fit k (a3 k hf)⟩,hki⟩
theorem WCtx.next_turn(hC:C.Ok)(hn:js.Nodup)(inv:LeapInv (mX C.M) p Cs pos i D (xs.map Prod.snd)){ci:CurZ}(hi:Cs[i]?=some ci)(hlt:pos i<ci.hi){key:ByteArray}(hkey:ci.keys[pos i]?=some key){xs':List XB}(hk':AllB (mX C.M) (p++ [key]) (xs'.map Prod.snd))
 (hat:C.At ov R st W)(hrow:R.take v=p)(hst:StOk st0 js Cs pos st)(held:Held C.J E (C.Own ov) (pre++(xs++xs')) W)(fit:C.Fit E ov W)(kp:Kp (C.QE E) W0 W){j:Nat}{t:TrieZ}(hj:js[i]?=some j)(ht:C.M.Ts[j]?=some t)
 (hk:Kp (iV (C.cb j) (ov j)) W W')(hcur:CurS W' (C.cb j) t.tb (st0 j++ [(pos i+1,ci.hi)]) (ov j)):C.Turn E v p st0 js Cs pre W0 i (fun m=>if m=i then pos i+1 else pos m) (fun y=>D y\/y=key) (xs++xs') ov R (dQ st j (st0 j++ [(pos i+1,ci.hi)])) W':=by
 obtain⟨a1,a2,a3⟩:=hat.turn hC ht hk hcur (fun k h=> .inl h);rw [aAd]at a1 a2;refine⟨?_,a1,hrow,hst.turn hn hj hi _,held.step hk (fun k hk=> .inl (a3 k hk)) a2 (fun k h=> .inl h),fit.turn hk.size a2,kp.trans' hk fun k _ hf=>WCtx.QE_own hC hat fit k (a3 k hf)⟩;rw [List.map_append];exact inv.next hi hlt hkey hk'
theorem WCtx.Turn.of_key(h:C.Turn E v p st0 js Cs pre W0 i pos D xs ov R st W){ci:CurZ}(hi:Cs[i]?=some ci)(hlt:pos i<ci.hi){key:ByteArray}(hkey:ci.keys[pos i]?=some key){L:aD}(hL:AllB (mX C.M) p L)(hpre:∃R0,pre.map Prod.snd++L++R0=C.Lall):
 ∃Lk,AllB (mX C.M) (p++ [key]) Lk/\∃R0,(pre++xs).map Prod.snd++Lk++R0=C.Lall:=by
 classical
 have hk:AllB (mX C.M) (p++ [key]) (L.filter fun V=>decide (V.take (p++ [key]).length=p++ [key])):=by refine⟨hL.rise.filter _,fun V=>?_⟩;rw [List.mem_filter,hL.iff V,decide_eq_true_iff];refine⟨fun h1=>⟨h1.1.1,h1.2⟩,fun h1=>⟨⟨h1.1,?_⟩,h1.2⟩⟩;have:=congrArg (List.take p.length) h1.2;rw [List.take_take,List.take_left,List.length_append,List.length_singleton,show min p.length (p.length+1)=p.length by omega]at this;exact this
 generalize (L.filter fun V=>decide (V.take (p++ [key]).length=p++ [key]))=Lk at hk;obtain⟨R1,e1⟩:=hL.split h.inv.told hk (fun V _ _ y hy hD=>h.inv.below ci y key hi hD ⟨pos i,Nat.le_refl _,hlt,hkey⟩) fun V h1 h2=>by
  obtain⟨x,hx,h3⟩:=h.inv.common V h1 h2;refine⟨x,hx,?_⟩;rcases h3 with h3|h3
  ·exact .inl h3
  ·obtain⟨m,h4,h5,h6⟩:=h3 i ci hi;refine .inr ?_;rcases Nat.lt_or_eq_of_le h4 with h7|h7
   ·have h8:=(h.inv.ok ci (List.mem_of_getElem? hi)).rise (pos i) m key x (h.inv.inn i ci hi).1 h7 h5 hkey h6;have:=dK x.toList key.toList;omega
   ·rw [h7]at hkey;rw [hkey]at h6;cases h6;rw [fL];omega
 obtain⟨R0,e0⟩:=hpre;refine⟨Lk,hk,R1++R0,?_⟩;rw [<-e0,<-e1,List.map_append];simp only [List.append_assoc]
end
end
section
open Go.RowKit Go.Shelf
structure WCtx.Lay(C:WCtx)(v:Nat)(p:List ByteArray)(st0:Nat->List (Nat×Nat))(js:List Nat)(Cs:List CurZ):Prop where
 nd:js.Nodup
 len:Cs.length=js.length
 cur:∀k j:Nat,js[k]?=some j->∃t a b,C.M.Ts[j]?=some t/\v∈t.vs/\SpanOf t.W t.vs.length (eU t.vs v p) a b/\Cs[k]?=some ⟨cB t.W t.vs.length (eU t.vs v p).length t.W.length,a,b⟩
 paths:PathsAt C.M v p st0
 hl:p.length=v
 all:∀(j:Nat) t,C.M.Ts[j]?=some t->v∈t.vs->j∈js
theorem aLl{i k n:Nat}(hi:i<n)(hk:k<n):∃m,m<n/\(i+m) % n=k:=by
 by_cases h:i≤k
 ·exact⟨k-i,by omega,by rw [show i+(k-i)=k by omega];exact Nat.mod_eq_of_lt hk⟩
 ·exact⟨k+n-i,by omega,by rw [show i+(k+n-i)=k+n by omega,Nat.add_mod_right];exact Nat.mod_eq_of_lt hk⟩
def uG(cb:Nat->Nat)(js:List Nat):List Value:=js.map fun j=> .pointer (some ⟨cb j,0,none⟩)
section
variable {C:WCtx}{E:Nat->Prop}{v:Nat}{p:List ByteArray}{st0 st:Nat->List (Nat×Nat)}{js:List Nat}{Cs:List CurZ}{pre xs:List XB}{W0 W:World}{i:Nat}{pos:Nat->Nat}{D:ByteArray->Prop}{ov:Nat->Value}{R:List ByteArray}
theorem WCtx.Turn.cur(hC:C.Ok)(hY:C.Lay v p st0 js Cs)(h:C.Turn E v p st0 js Cs pre W0 i pos D xs ov R st W){k:Nat}(hk:k<js.length):
 ∃j t c,js[k]?=some j/\C.M.Ts[j]?=some t/\Cs[k]?=some c/\CurS W (C.cb j) t.tb (st0 j++ [(pos k,c.hi)]) (ov j)/\TrieAt W t.tb t.W t.vs.length/\(st0 j).length<t.vs.length/\c.keys=cB t.W t.vs.length (st0 j).length t.W.length/\c.hi≤aR t.W t.vs.length (st0 j).length t.W.length/\c.hi≤1048576:=by
 obtain⟨j,hj⟩:∃j,js[k]?=some j:=⟨_,qG hk⟩;obtain⟨t,a,b,h1,h2,h3,h4⟩:=hY.cur k j hj;have hT:=(hC.mat W h.at_.w0k).tries t (List.mem_of_getElem? h1);have hlen:=(hY.paths j t h1).len;have hlt:=(vX (hC.ok.ways t (List.mem_of_getElem? h1)).2.1 h2 hY.hl ByteArray.empty).2;have hb:=h3.le.2;have hs:=dV t.W t.vs.length (eU t.vs v p).length t.W.length;have hw:aR t.W t.vs.length (eU t.vs v p).length t.W.length≤t.W.length:=hs;have hcur:=h.at_.wlk.cur j t h1;rw [h.st_.1 k j _ hj h4]at hcur;refine⟨j,t,_,hj,h1,h4,hcur,hT,by omega,by rw [hlen],by rw [hlen];exact hb,?_⟩;have:=hT.few;show b≤_;omega
theorem WCtx.Turn.seekK(hC:C.Ok)(hY:C.Lay v p st0 js Cs)(h:C.Turn E v p st0 js Cs pre W0 i pos D xs ov R st W){ci:CurZ}(hi:Cs[i]?=some ci)(hlt:pos i<ci.hi){key:ByteArray}(hkey:ci.keys[pos i]?=some key){k j:Nat}{c:CurZ}(hj:js[k]?=some j)(hc:Cs[k]?=some c)(hp:pos k<c.hi):
 Calls Tryz.prog 188 #[.pointer (some ⟨C.cb j,0,none⟩),.string key] W fun e W'=>∃q st',e= .returned (.bool (decide (q≠c.hi)))/\C.Turn E v p st0 js Cs pre W0 i (fun m=>if m=k then q else pos m) D xs ov R st' W'/\iO c.keys key (pos k) c.hi q/\(k=i->q=pos i):=by
 obtain⟨j',t,c',h1,h2,h3,h4,h5,h6,h7,h8,h9⟩:=h.cur hC hY (List.getElem?_eq_some_iff.1 hj).1;rw [hj]at h1;cases h1;rw [hc]at h3;cases h3;refine(aI8 key h4 h5 h6 hp h8).mono ?_;rintro e W' ⟨_,rfl,hk,q,hf,rfl,hcur⟩;rw [<-h7]at hf;obtain⟨a1,a2⟩:=h.seek hC hY.nd hi hlt hkey hj hc h2 hk hcur hf;exact⟨q,_,rfl,a1,hf,a2⟩
theorem WCtx.Turn.endK(hC:C.Ok)(hY:C.Lay v p st0 js Cs)(h:C.Turn E v p st0 js Cs pre W0 i pos D xs ov R st W){k j:Nat}{c:CurZ}(hj:js[k]?=some j)(hc:Cs[k]?=some c):
 Calls Tryz.prog 181 #[.pointer (some ⟨C.cb j,0,none⟩)] W (RetN W fun W' v=>v= .bool (decide (pos k=c.hi))):=by
 obtain⟨j',t,c',h1,h2,h3,h4,h5,h6,h7,h8,h9⟩:=h.cur hC hY (List.getElem?_eq_some_iff.1 hj).1;rw [hj]at h1;cases h1;rw [hc]at h3;cases h3;exact aMp h4
theorem WCtx.Turn.keyK(hC:C.Ok)(hY:C.Lay v p st0 js Cs)(h:C.Turn E v p st0 js Cs pre W0 i pos D xs ov R st W){k j:Nat}{c:CurZ}(hj:js[k]?=some j)(hc:Cs[k]?=some c)(hp:pos k<c.hi){key:ByteArray}(hkey:c.keys[pos k]?=some key):
 Calls Tryz.prog 187 #[.pointer (some ⟨C.cb j,0,none⟩)] W (RetN W fun W' v=>v= .string key):=by
 obtain⟨j',t,c',h1,h2,h3,h4,h5,h6,h7,h8,h9⟩:=h.cur hC hY (List.getElem?_eq_some_iff.1 hj).1;rw [hj]at h1;cases h1;rw [hc]at h3;cases h3;exact aMf h4 h5 h6 (by omega) (by rw [<-h7];exact hkey)
theorem WCtx.Turn.put(hC:C.Ok)(hl:p.length=v)(hv:v<C.M.N.length)(h:C.Turn E v p st0 js Cs pre W0 i pos D xs ov R st W)(key:ByteArray):
 C.At ov (R.set v key) st (W.setCell ⟨C.rb,v,none⟩ (.string key))/\(R.set v key).take (v+1)=p++ [key]/\Held C.J E (C.Own ov) (pre++xs) (W.setCell ⟨C.rb,v,none⟩ (.string key))/\C.Fit E ov (W.setCell ⟨C.rb,v,none⟩ (.string key))/\Kp (C.QE E) W0 (W.setCell ⟨C.rb,v,none⟩ (.string key)):=by
 obtain⟨a1,a2⟩:=h.at_.wlk.put v key;have own:C.Own ov C.rb:= .inr (.inl rfl);have hq:=WCtx.QE_own hC h.at_ h.fit C.rb own;refine⟨⟨a1,h.at_.new,h.at_.w0k.trans' a2 fun k _ e=>?_⟩,?_,h.held.step a2 (fun k e=> .inl ?_) (fun k h=> .inl h) (fun k h=> .inl h),⟨fun k hk=>by rw [show(W.setCell ⟨C.rb,v,none⟩ (.string key)).heap.size=W.heap.size by simp [World.setCell]];exact h.fit.lt k hk,h.fit.off,h.fit.lo⟩,h.kp.trans' a2 fun k _ e=>?_⟩
 ·have e':k=C.rb:=e;rw [e'];exact hq.1
 ·have hlR:=h.at_.wlk.rowL;rw [List.take_add_one,List.take_set,List.getElem?_set_self (by omega)];have e1:(R.take v).set v key=R.take v:=List.set_eq_of_length_le (by rw [List.length_take];omega);rw [e1,h.row];rfl
 ·have e':k=C.rb:=e;rw [e'];exact own
 ·have e':k=C.rb:=e;rw [e'];exact hq
theorem WCtx.Turn.lead(h:C.Turn E v p st0 js Cs pre W0 i pos D xs ov R st W){ci:CurZ}(hi:Cs[i]?=some ci)(hlt:pos i<ci.hi){key:ByteArray}(hk:ci.keys[pos i]?=some key){j:Nat}{c:CurZ}(hj:Cs[j]?=some c)(hl2:pos j<c.hi){key2:ByteArray}(hk2:c.keys[pos j]?=some key2)(hge:¬bE key2.toList key.toList<0):C.Turn E v p st0 js Cs pre W0 j pos D xs ov R st W:=
 ⟨h.inv.lead hi hlt hk hj hl2 hk2 hge,h.at_,h.row,h.st_,h.held,h.fit,h.kp⟩
theorem WCtx.nextK(hC:C.Ok)(hY:C.Lay v p st0 js Cs)(inv:LeapInv (mX C.M) p Cs pos i D (xs.map Prod.snd)){ci:CurZ}(hi:Cs[i]?=some ci)(hlt:pos i<ci.hi){key:ByteArray}(hkey:ci.keys[pos i]?=some key){xs':List XB}(hk':AllB (mX C.M) (p++ [key]) (xs'.map Prod.snd))
 (hat:C.At ov R st W)(hrow:R.take v=p)(hst:StOk st0 js Cs pos st)(held:Held C.J E (C.Own ov) (pre++(xs++xs')) W)(fit:C.Fit E ov W)(kp:Kp (C.QE E) W0 W){j:Nat}(hj:js[i]?=some j):
 Calls Tryz.prog 189 #[.pointer (some ⟨C.cb j,0,none⟩)] W fun e W'=>∃st',e= .returned (.bool (decide (pos i+1≠ci.hi)))/\C.Turn E v p st0 js Cs pre W0 i (fun m=>if m=i then pos i+1 else pos m) (fun y=>D y\/y=key) (xs++xs') ov R st' W':=by
 obtain⟨t,a,b,h1,h2,h3,h4⟩:=hY.cur i j hj;have hT:=(hC.mat W hat.w0k).tries t (List.mem_of_getElem? h1);have hs:aR t.W t.vs.length (eU t.vs v p).length t.W.length≤t.W.length:=dV t.W t.vs.length (eU t.vs v p).length t.W.length;have hb:=h3.le.2;have hfw:=hT.few;rw [hi]at h4;cases h4;have hcur:=hat.wlk.cur j t h1;rw [hst.1 i j _ hj hi]at hcur;refine(aJn hcur hlt (show b≤1048576 by omega)).mono ?_;rintro e W' ⟨_,rfl,hk,rfl,hc2⟩;exact⟨_,rfl,WCtx.next_turn hC hY.nd inv hi hlt hkey hk' hat hrow hst held fit kp hj h1 hk hc2⟩
def Before(Cs:List CurZ)(pos:Nat->Nat):Prop:=∀(k:Nat) (c:CurZ),Cs[k]?=some c->pos k<c.hi
def aOf(Cs:List CurZ)(pos:Nat->Nat)(key:ByteArray)(k:Nat):Prop:=∀c,Cs[k]?=some c->c.keys[pos k]?=some key
def aCs(C:WCtx)(E:Nat->Prop)(v:Nat)(p:List ByteArray)(st0:Nat->List (Nat×Nat))(js:List Nat)(Cs:List CurZ)(pre:List XB)(W0:World)(m:Nat)(x:Value×World):Prop:=
 ∃(i:Nat) (pos:Nat->Nat) (D:ByteArray->Prop) (xs:List XB) (ov:Nat->Value) (R:List ByteArray) (st:Nat->List (Nat×Nat)) (ci:CurZ) (key:ByteArray),x.1= .int .i64 i/\i<js.length/\Hid (C.Turn E v p st0 js Cs pre W0 i pos D xs ov R st x.2)/\Hid (Cs[i]?=some ci/\ci.keys[pos i]?=some key/\Before Cs pos/\m=sE Cs key)
def aHt(C:WCtx)(E:Nat->Prop)(v:Nat)(p:List ByteArray)(st0:Nat->List (Nat×Nat))(js:List Nat)(Cs:List CurZ)(pre:List XB)(W0:World)(iv:Value)(w:World):Prop:=∃m,aCs C E v p st0 js Cs pre W0 m (iv,w)
noncomputable def aCt(C:WCtx)(E:Nat->Prop)(v:Nat)(p:List ByteArray)(st0:Nat->List (Nat×Nat))(js:List Nat)(Cs:List CurZ)(pre:List XB)(W0:World)(iv:Value)(w:World):Nat:=xT fun m=>aCs C E v p st0 js Cs pre W0 m (iv,w)
theorem aGe{iv:Value}(h:aHt C E v p st0 js Cs pre W0 iv W):∃(i:Nat) (pos:Nat->Nat) (D:ByteArray->Prop) (xs:List XB) (ov:Nat->Value) (R:List ByteArray) (st:Nat->List (Nat×Nat)) (ci:CurZ) (key:ByteArray),iv= .int .i64 i/\i<js.length/\Hid (C.Turn E v p st0 js Cs pre W0 i pos D xs ov R st W)/\Hid (Cs[i]?=some ci/\ci.keys[pos i]?=some key/\Before Cs pos/\aCt C E v p st0 js Cs pre W0 iv W=sE Cs key):=aMc h
def aO1(C:WCtx)(E:Nat->Prop)(v:Nat)(p:List ByteArray)(st0:Nat->List (Nat×Nat))(js:List Nat)(Cs:List CurZ)(pre:List XB)(W0:World)(i pi:Nat)(D:ByteArray->Prop)(xs:List XB)(ov:Nat->Value)(R:List ByteArray)(key:ByteArray)(iv nv:Value)(w:World):Prop:=
 ∃(n:Nat) (pos:Nat->Nat) (st:Nat->List (Nat×Nat)),n≤js.length/\iv= .int .i64 i/\nv= .int .i64 n/\Hid (C.Turn E v p st0 js Cs pre W0 i pos D xs ov R st w/\Before Cs pos/\pos i=pi/\∀m,m<n->aOf Cs pos key ((i+m) % js.length))
end
set_option maxHeartbeats 4000000 in
theorem aMd{C:WCtx}(hC:C.Ok){v:Nat}(hv:v<C.M.N.length)(hF:C.From (v+1)){p:List ByteArray}{E:Nat->Prop}{ov:Nat->Value}{R:List ByteArray}{st0 st:Nat->List (Nat×Nat)}{js:List Nat}{Cs:List CurZ}{pos0:Nat->Nat}{pre:List XB}{L:aD}{W:World}{lb lo lc:Nat}
 (hY:C.Lay v p st0 js Cs)(hne:0<js.length)(hsm:js.length≤1048576)(hT:C.Turn E v p st0 js Cs pre W 0 pos0 (fun _=>False) [] ov R st W)(hB:Before Cs pos0)(hs:∀key,Seen C.M (v+1) (p++ [key]))(hL:AllB (mX C.M) p L)(hpre:∃R0,pre.map Prod.snd++L++R0=C.Lall)
 (hcells:∀W',Kp (C.QE E) W W'->∀k j:Nat,js[k]?=some j->W'.cell? ⟨lb,lo+k,none⟩=some (.pointer (some ⟨C.cb j,0,none⟩))):
 Calls Tryz.prog 158 #[.pointer (some ⟨C.wb,0,none⟩),.int .i64 v,.slice (some ⟨lb,lo,none⟩) js.length lc] W (C.LeapPost E v p st0 js Cs pre L W):=by
 obtain⟨wb,ewb⟩:=nm C.wb;obtain⟨nl,enl⟩:=nm js.length;have HC:=qH hcells;have HT:=qH hT;have HB:=qH hB;have HN:=qH enl;have HP:=qH hpre;have hst0:aHt C E v p st0 js Cs pre W (.int .i64 0) W:=by obtain⟨j,t,c,h1,h2,h3,h4,h5,h6,h7,h8,h9⟩:=hT.cur hC hY hne;have hlt:=hB 0 c h3;obtain⟨key,hk⟩:∃key,c.keys[pos0 0]?=some key:=⟨_,qG (by rw [h7,fV];omega)⟩;exact⟨_,0,pos0,_,[],ov,R,st,c,key,rfl,hne,qH hT,qH ⟨h3,hk,hB,rfl⟩⟩
 have HS:=qH hst0;clear hcells hT hB hpre hst0;rw [enl,ewb];rw [enl]at hne hsm;go_enter Tryz.func158,Tryz.ntmps158;go_wp2
 go_step3
 go_wp2
 go_step3
 go_wp2;go_loopw [7] (fun iv wr=>aHt C E v p st0 js Cs pre W iv wr) (fun iv wr=>aCt C E v p st0 js Cs pre W iv wr)
 case atStart=>exact HS.out
 case round=>
  obtain⟨i,pos,D,xs,ov1,R1,st1,ci,key,rfl,hil,hT,hM⟩:=aGe hrel;rw [HN.out]at hil;obtain⟨j,hj⟩:∃j,js[i]?=some j:=⟨_,qG (by rw [HN.out];exact hil)⟩;have HJ:=qH hj;have c0:=HC.out wr hT.out.kp i j hj;have HE:=qH (hT.out.endK hC hY hj hM.out.1);have hlt:=hM.out.2.2.1 i ci hM.out.1;have hd:decide (pos i=ci.hi)=false:=decide_eq_false (by omega);rw [hd]at HE;have HK:=qH (fun W' (hW:Ext wr W')=>(hT.out.ext hW).keyK hC hY hj hM.out.1 hlt hM.out.2.1);have HL:=qH hlt;have HR:=qH hrel;clear hd hj hlt hrel;go_wp2_with fail
  refine HE.out.mono ?_;rintro e w1 ⟨v1,rfl,hk1,rfl⟩;have T1:=qH (hT.out.ext hk1);have K1:=qH hk1;have c1:=HC.out w1 T1.out.kp i j HJ.out;clear hk1 c0;go_wp2_with fail
  refine(HK.out w1 K1.out).mono ?_;rintro e w2 ⟨v1,rfl,hk2,rfl⟩;have T2:=qH (T1.out.ext hk2);have K2:=qH (K1.out.trans hk2);clear hk2 c1;go_wp2;go_loopw [7,24] (fun iv nv w=>aO1 C E v p st0 js Cs pre W i (pos i) D xs ov1 R1 key iv nv w) (fun _ nv _=>nl- (intOf nv).toNat)
  case atStart=>exact⟨0,pos,st1,Nat.zero_le _,rfl,rfl,qH ⟨T2.out,hM.out.2.2.1,rfl,fun m hm=>by omega⟩⟩
  case round=>
   obtain⟨n,pos2,st2,hnl,rfl,rfl,HI⟩:=hrel;rw [HN.out]at hnl;by_cases hlt2:n<nl
   ·obtain⟨kk,ekk⟩:=nm ((i+n) % nl);have hkk:kk<nl:=by rw [<-ekk];exact Nat.mod_lt _ hne
    obtain⟨j2,t2,c2,h1,h2,h3,-⟩:=HI.out.1.cur hC hY (k:=kk) (by rw [HN.out];exact hkk);have d0:=HC.out wr HI.out.1.kp kk j2 h1;have hp2:=HI.out.2.1 kk c2 h3;have hci:pos2 i<ci.hi:=by rw [HI.out.2.2.1];exact HL.out
    have hkey:ci.keys[pos2 i]?=some key:=by rw [HI.out.2.2.1];exact hM.out.2.1
    have HSk:=qH (HI.out.1.seekK hC hY hM.out.1 hci hkey h1 h3 hp2);have HX:=qH (nIX h1 (nIX h3 (nIX hp2 (nIX hci hkey))));have hrem:((i:Int)+(n:Int)) % (nl:Int)=(kk:Int):=by rw [<-ekk];rfl
    have HKK:=qH ekk;clear h1 h2 h3 hp2 hci hkey ekk;go_wp2_with fail
    refine HSk.out.mono ?_;rintro e w3 ⟨q,st3,rfl,hT3,hf3,hq3⟩;have HT3:=qH (nIX hT3 (nIX hf3 hq3));clear hT3 hf3 hq3 d0;by_cases hqe:q=c2.hi
    ·have hd:decide (q≠c2.hi)=false:=decide_eq_false fun h=>h hqe;have HQ:=qH hqe;rw [hd];clear hqe hd hrem;go_wp2;go_ret;refine⟨true,ov1,R1,st3,_,rfl,HT3.out.1.kp,HT3.out.1.at_,HT3.out.1.row,HT3.out.1.fit.off,HT3.out.1.st_,.inl ⟨rfl,xs,?_,HT3.out.1.held⟩⟩;refine AllB.unique (HT3.out.1.inv.end HX.out.2.1 ?_) hL;show(if kk=kk then q else pos2 kk)=c2.hi;rw [if_pos rfl];exact HQ.out
    ·have hd:decide (q≠c2.hi)=true:=decide_eq_true hqe;have hqlt:q<c2.hi:=by have:=HT3.out.2.1.2.1;omega
     obtain⟨key2,hk2⟩:∃k2,c2.keys[q]?=some k2:=⟨_,qG (by have:=(HT3.out.1.inv.ok c2 (List.mem_of_getElem? HX.out.2.1)).few;omega)⟩;have hge:0≤bE key2.toList key.toList:=HT3.out.2.1.2.2.2 key2 hqlt hk2;have HQ:=qH (nIX hqlt (nIX hk2 hge));have eupd:(if kk=kk then q else pos2 kk)=q:=if_pos rfl;have HKey:=qH (fun W' (hW:Ext w3 W')=>(HT3.out.1.ext hW).keyK hC hY HX.out.1 HX.out.2.1 (by show(if kk=kk then q else pos2 kk)<_;rw [eupd];exact hqlt) (key:=key2) (by show c2.keys[(if kk=kk then q else pos2 kk)]?=_;rw [eupd];exact hk2));rw [hd];clear hqe hd hqlt hk2 hge eupd;go_wp2_with fail
     refine(HKey.out w3 (Kp.refl _)).mono ?_;rintro e w4 ⟨v1,rfl,hk4,rfl⟩;have HT4:=qH (HT3.out.1.ext hk4);clear hk4;have bef:Hid (Before Cs fun m=>if m=kk then q else pos2 m):=qH fun m c hc=>by
      show(if m=kk then q else pos2 m)<_;split
      ·rename_i e;subst e;rw [HX.out.2.1]at hc;cases hc;exact HQ.out.1
      ·exact HI.out.2.1 m c hc
     by_cases hkk2:key2=key
     ·have hd:(key2.toList==key.toList)=true:=by rw [hkk2];exact beq_self_eq_true _
      have HEq:=qH hkk2;clear hkk2;go_wp2;go_roundw
      case rel=>
       refine⟨n+1,_,st3,by rw [HN.out];omega,rfl,nMX,qH ⟨HT4.out,bef.out,?_,fun m hm=>?_⟩⟩
       ·show(if i=kk then q else pos2 i)=pos i;split
        ·rename_i e;rw [HT3.out.2.2 e.symm];exact HI.out.2.2.1
        ·exact HI.out.2.2.1
       ·rw [HN.out];by_cases em:m=n
        ·rw [em,HKK.out];intro c hc;rw [HX.out.2.1]at hc;cases hc;show c2.keys[(if kk=kk then q else pos2 kk)]?=some key;rw [if_pos rfl,<-HEq.out];exact HQ.out.2.1
        ·intro c hc;have h5:=HI.out.2.2.2 m (by omega) c (by rw [HN.out];exact hc);rw [HN.out]at h5;show c.keys[(if(i+m) % nl=kk then q else pos2 ((i+m) % nl))]?=some key;split
         ·rename_i e;rw [e,HX.out.2.1]at hc;cases hc;rw [<-HEq.out];exact HQ.out.2.1
         ·exact h5
      case measure=>simp [intOf];omega
     ·have hd:(key2.toList==key.toList)=false:=by
       rw [beq_eq_false_iff_ne];exact fun h=>hkk2 (dL h)
      have HNe:=qH (show bE key.toList key2.toList<0 from by have h5:=dK key2.toList key.toList;have h6:bE key2.toList key.toList≠0:=fun h=>hkk2 (dL (eO h));have h7:=HQ.out.2.2;omega);clear hkk2;have hpi:(if i=kk then q else pos2 i)=pos i:=by
       split
       ·rename_i e;rw [HT3.out.2.2 e.symm];exact HI.out.2.2.1
       ·exact HI.out.2.2.1
      have HT5:=qH (HT4.out.lead hM.out.1 (by show(if i=kk then q else pos2 i)<_;rw [hpi];exact HL.out) (key:=key) (by show ci.keys[(if i=kk then q else pos2 i)]?=_;rw [hpi];exact hM.out.2.1) HX.out.2.1 (by show(if kk=kk then q else pos2 kk)<_;rw [if_pos rfl];exact HQ.out.1) (key2:=key2) (by show c2.keys[(if kk=kk then q else pos2 kk)]?=_;rw [if_pos rfl];exact HQ.out.2.1) (by have:=HQ.out.2.2;omega));have HO:=qH (show aCs C E v p st0 js Cs pre W (sE Cs key2) (.int .i64 kk,w4)from⟨kk,_,D,xs,ov1,R1,st3,c2,key2,rfl,by rw [HN.out];exact hkk,HT5,qH ⟨HX.out.2.1,by show c2.keys[(if kk=kk then q else pos2 kk)]?=_;rw [if_pos rfl];exact HQ.out.2.1,bef.out,rfl⟩⟩);clear hpi;go_wp2;go_roundw
      case rel=>exact⟨_,by rw [hrem];exact HO.out⟩
      case measure=>
       have h8:aCt C E v p st0 js Cs pre W (.int .i64 kk) w4≤sE Cs key2:=aD6 HO.out;have h9:=aIf HNe.out (List.mem_of_getElem? HX.out.2.1) HQ.out.1 HQ.out.2.1;have h10:=hM.out.2.2.2;rw [hrem];omega
   ·obtain rfl:n=nl:=by omega
    have hall:∀k,k<n->aOf Cs pos2 key k:=fun k hk=>by obtain⟨m,hm,e⟩:=aLl hil hk;have h5:=HI.out.2.2.2 m hm;rw [HN.out,e]at h5;exact h5
    have hpath:PathsAt C.M (v+1) (p++ [key]) st2:=by
     refine hY.paths.next hC.ok hY.hl (fun j t hj hvt=>?_) fun j t hj hvt=>HI.out.1.st_.2 j fun hm=>?_
     ·obtain⟨k,hk⟩:=List.mem_iff_getElem?.1 (hY.all j t hj hvt);obtain⟨t',a,b,h1,h2,h3,h4⟩:=hY.cur k j hk;rw [hj]at h1;cases h1;have hkn:k<n:=by rw [<-HN.out];exact(List.getElem?_eq_some_iff.1 hk).1
      exact⟨a,b,pos2 k,h3,(HI.out.1.inv.inn k _ h4).1,HI.out.2.1 k _ h4,hall k hkn _ h4,HI.out.1.st_.1 k j _ hk h4⟩
     ·obtain⟨k,hk⟩:=List.mem_iff_getElem?.1 hm;obtain⟨t',a,b,h1,h2,-⟩:=hY.cur k j hk;rw [hj]at h1;cases h1;exact hvt h2
    obtain⟨Lk,hLk,hpre2⟩:=HI.out.1.of_key hM.out.1 (by rw [HI.out.2.2.1];exact HL.out) (key:=key) (by rw [HI.out.2.2.1];exact hM.out.2.1) hL HP.out;obtain⟨q1,q2,q3,q4,q5⟩:=HI.out.1.put hC hY.hl hv key;have HFr:=qH (hF (p++ [key]) E ov1 (R1.set v key) st2 (pre++xs) Lk _ (by rw [List.length_append,hY.hl];rfl) q1 q2 hpath (hs key) hLk hpre2 q3 q4);have HLk:=qH (nIX hLk q5);have hwk:=HI.out.1.at_.wlk;have b2:wr.cell? ⟨wb,2,none⟩=some (.slice (some ⟨C.rb,0,none⟩) C.M.N.length C.M.N.length):=by rw [<-ewb,hwk.box.cell'];rfl
    obtain⟨ox,hox⟩:∃x,R1[v]?=some x:=⟨_,qG (by rw [hwk.rowL];exact hv)⟩;have r0:wr.cell? ⟨C.rb,v,none⟩=some (.string ox):=by rw [hwk.rowB.cell'];unfold strs;rw [List.getElem?_map,hox];rfl
    have f0:=hwk.rowB.free v;obtain⟨rb,erb⟩:=nm C.rb;obtain⟨nv,env⟩:=nm C.M.N.length;have hfew:=(hC.mat _ HI.out.1.at_.w0k).few.1;rw [env]at b2 hv hfew;rw [erb]at b2 r0 f0 HFr HLk;rw [ewb]at HFr;obtain⟨w5,e5⟩:=nm (wr.setCell ⟨rb,v,none⟩ (.string key));rw [e5]at HFr HLk;have HFs:=qH (show Calls Tryz.prog 123 #[.pointer (some ⟨wb,0,none⟩),.int .i64 ((v:Int)+1)] w5 _ from HFr.out);clear hox hwk q1 q2 q3 q4 q5 hpath hall hLk hpre2 hnl hlt2 HFr;go_wp2_with fail
    refine HFs.out.mono ?_;rintro e w6 ⟨b,ov6,R6,rfl,hk6,hat6,hrow6,hoff6,hends⟩;have hrow:R6.take v=p:=by have:=congrArg (List.take v) hrow6;rw [List.take_take,show min v (v+1)=v by omega,<-hY.hl,List.take_left]at this;rw [<-hY.hl];exact this
    have hkp:=HLk.out.2.trans hk6;have H6:=qH (nIX hat6 (nIX hrow (nIX hoff6 hkp)));clear hk6 hat6 hrow6 hoff6 hkp hrow b2 r0 f0 e5;rcases hends with⟨rfl,xs',hxs,hheld⟩|⟨rfl,pre2,hpre2,hheld⟩
    ·have hfit:C.Fit E ov6 w6:=⟨fun k hk=>Nat.lt_of_lt_of_le (HT.out.fit.lt k hk) H6.out.2.2.2.size,H6.out.2.2.1,HT.out.fit.lo⟩;rw [List.append_assoc]at hheld;have hLk:=HLk.out.1;rw [<-hxs]at hLk;have hci:pos2 i<ci.hi:=by rw [HI.out.2.2.1];exact HL.out
     have HNx:=qH (WCtx.nextK hC hY HI.out.1.inv hM.out.1 hci (key:=key) (by rw [HI.out.2.2.1];exact hM.out.2.1) hLk H6.out.1 H6.out.2.1 HI.out.1.st_ hheld hfit H6.out.2.2.2 HJ.out);have c6:=HC.out w6 H6.out.2.2.2 i j HJ.out;clear hfit hxs hheld hLk hci;go_wp2_with fail
     refine HNx.out.mono ?_;rintro e w7 ⟨st7,rfl,hT7⟩;have HT7:=qH hT7;clear hT7 c6;by_cases hend:pos2 i+1=ci.hi
     ·have hd:decide (pos2 i+1≠ci.hi)=false:=decide_eq_false fun h=>h hend;have HE7:=qH hend;rw [hd];clear hend hd;go_wp2;go_ret;refine⟨true,ov6,R6,st7,_,rfl,HT7.out.kp,HT7.out.at_,HT7.out.row,HT7.out.fit.off,HT7.out.st_,.inl ⟨rfl,xs++xs',?_,HT7.out.held⟩⟩;refine AllB.unique (HT7.out.inv.end hM.out.1 ?_) hL;show(if i=i then pos2 i+1 else pos2 i)=ci.hi;rw [if_pos rfl];exact HE7.out
     ·have hd:decide (pos2 i+1≠ci.hi)=true:=decide_eq_true hend;have hlt7:pos2 i+1<ci.hi:=by have:=HI.out.2.1 i ci hM.out.1;omega
      have hok:=HT7.out.inv.ok ci (List.mem_of_getElem? hM.out.1);obtain⟨key2,hk2⟩:∃k2,ci.keys[pos2 i+1]?=some k2:=⟨_,qG (by have:=hok.few;omega)⟩;have hlow:bE key.toList key2.toList<0:=hok.rise (pos2 i) (pos2 i+1) key key2 (HI.out.1.inv.inn i ci hM.out.1).1 (by omega) hlt7 (by rw [HI.out.2.2.1];exact hM.out.2.1) hk2;have HO:=qH (show aCs C E v p st0 js Cs pre W (sE Cs key2) (.int .i64 i,w7)from⟨i,_,_,xs++xs',ov6,R6,st7,ci,key2,rfl,by rw [HN.out];exact hil,HT7,qH ⟨hM.out.1,by show ci.keys[(if i=i then pos2 i+1 else pos2 i)]?=_;rw [if_pos rfl];exact hk2,fun m c hc=>by
       show(if m=i then pos2 i+1 else pos2 m)<_;split
       ·rename_i e;subst e;rw [hM.out.1]at hc;cases hc;exact hlt7
       ·exact HI.out.2.1 m c hc,rfl⟩⟩)
      have HLt:=qH (aIf hlow (List.mem_of_getElem? hM.out.1) hlt7 hk2);rw [hd];clear hend hd hlt7 hok hk2 hlow;go_wp2;go_roundw
      case rel=>exact⟨_,HO.out⟩
      case measure=>
       have h8:aCt C E v p st0 js Cs pre W (.int .i64 i) w7≤sE Cs key2:=aD6 HO.out;have h9:=HLt.out;have h10:=hM.out.2.2.2;omega
    ·have HFin:=qH (nIX hpre2 hheld);clear hpre2 hheld;go_wp2;go_ret;exact⟨false,ov6,R6,st2,pos2,rfl,H6.out.2.2.2,H6.out.1,H6.out.2.1,H6.out.2.2.1,HI.out.1.st_,.inr ⟨rfl,pre2,HFin.out⟩⟩
structure WCtx.Yields(C:WCtx)(l n:Nat):Prop where
 yv:C.yv= .func (.yield l) #[] #[]
 one:∀T T' pre x W1 W2,C.J T pre W1->Kp T W1 W2->(∀k,T' k->vH T W1 W2 k)->GvRow W1 T' W2 x->(pre++ [x]).map Prod.snd<+:C.Lall->YieldAt Fence.wide n Tryz.prog l (encX x) W2 fun e W'=>
  (e= .returned (.bool true)/\C.J T' (pre++ [x]) W'/\Kp (fun k=>¬fY C.Z T' k) W2 W')\/ (e= .returned (.bool false)/\C.Jx T' (pre++ [x]) W'/\Kp (fun k=>¬fY C.Z T' k) W2 W')
section
variable {C:WCtx}{E:Nat->Prop}{v:Nat}{p:List ByteArray}{st0 st:Nat->List (Nat×Nat)}{js:List Nat}{Cs:List CurZ}{pre xs:List XB}{W0 W W':World}{i:Nat}{pos:Nat->Nat}{D:ByteArray->Prop}{ov:Nat->Value}{R:List ByteArray}
theorem WCtx.passK(hC:C.Ok)(h:C.At ov R st W)(hv:v≤C.M.N.length):Calls Tryz.prog 156 #[.pointer (some ⟨C.wb,0,none⟩),.int .i64 v] W (RetN W fun W' u=>u= .bool (!(C.M.tests v).any fun t=>!t.ask R)):=by obtain⟨h1,h2,h3,h4,h5,h6,h7,h8,h9,h10⟩:=hC.mat W h.w0k;obtain⟨b,o,e,c,d⟩:=h7 v hv;rw [e]at h4;have hb:=h.wlk.box;refine aF9 (tc:=C.A.yc v) (C.M.tests v) rfl d (h9 v hv) (by rw [hb.cell'];rfl) h4 hv c (ra:=some ⟨C.rb,0,none⟩) (cp:=C.M.N.length) (by rw [hb.cell'];rfl) ?_ h.wlk.rowL (h10.2.2 v hv) h10.1;have:=h.wlk.rowB;have h11:strs R++ []=strs R:=List.append_nil _;rw [<-h11]at this;exact CellsAt.pre this
theorem aLn(hC:C.Ok){l n:Nat}(hY:C.Yields l n){w1:World}(hat:C.At ov R st w1)(hfit:C.Fit E ov w1)(hheld:Held C.J E (C.Own ov) pre w1)(hkp:Kp (C.QE E) W w1)(hrow:R.take v=p)(hRp:R=p){R0:aD}(hpre:pre.map Prod.snd++ [p]++R0=C.Lall):
 ∀(ao:Option Addr) (W2:World),Ext w1 W2->((ao=none/\strs R= [])\/∃g rest,ao=some ⟨g,0,none⟩/\Blk W2 g (strs R++rest) 9/\w1.heap.size≤g)->YieldAt Fence.wide n Tryz.prog l #[.slice ao C.M.N.length C.M.N.length] W2 fun e W'=>∃b,e= .returned (.bool b)/\C.Post E v p st pre [p] W (.returned (.bool b)) W':=by
 intro ao W2 hx hB;obtain⟨T,W1,hJ,hT,hown⟩:=hheld;have hlt:∀k,(C.Own ov k\/E k)->k<w1.heap.size:=fun k hk=>by
  rcases hk with hk|hk
  ·exact hat.wlk.lt k hk
  ·exact hfit.lt k hk
 have hlen:(pre++ [((ao,C.M.N.length,C.M.N.length),R)]).map Prod.snd<+:C.Lall:=by rw [<-hpre,List.map_append,<-hRp];exact List.prefix_append _ _
 have hsz:=hT.size;have hsz2:=hx.size;have hRl:=hat.wlk.rowL;have hgv:GvRow W1 (fun k=>C.Own ov k\/E k) W2 ((ao,C.M.N.length,C.M.N.length),R):=⟨by rw [hRl],by
  rcases hB with⟨h1,h2⟩|⟨g,rest,h1,h2,h3⟩
  ·exact .inl ⟨h1,List.map_eq_nil_iff.1 h2⟩
  ·exact .inr ⟨g,rest,h1,h2,by omega,fun h=>by have:=hlt g h;omega⟩⟩
 obtain⟨fn,tmps,assign,body,hy,hR⟩:=hY.one T (fun k=>C.Own ov k\/E k) pre ((ao,C.M.N.length,C.M.N.length),R) W1 W2 hJ (hT.ext hx) (fun k hk=>by
  rcases hown k hk with h|h
  ·exact .inl h
  ·exact .inr ⟨h,Nat.lt_of_lt_of_le (hlt k hk) hsz2⟩) hgv hlen
 refine⟨fn,tmps,assign,body,hy,hR.mono ?_⟩;have fin:∀W',Kp (fun k=>¬fY C.Z (fun k=>C.Own ov k\/E k) k) W2 W'->Kp (C.QE E) W W'/\C.At ov R st W':=fun W' hk=>
  ⟨(hkp.ext hx).trans' hk fun i _ hi=>⟨fun hz=>hi (.inr hz),fun he=>hi (.inl (.inr he))⟩,(hat.wlk.ext hx).kp hk fun k hk' hn=>hn (.inl (.inl hk')),hat.new,(hat.w0k.ext hx).trans' hk fun i _ hi hz=>hi (.inr hz)⟩
 rintro e W' (⟨rfl,hJ',hk⟩|⟨rfl,hJ',hk⟩)
 ·obtain⟨f1,f2⟩:=fin W' hk;exact⟨true,rfl,true,ov,R,rfl,f1,f2,hrow,hfit.off,.inl ⟨rfl,[_],by rw [<-hRp];rfl,_,W',hJ',Kp.refl _,fun k hk=> .inl hk⟩⟩
 ·obtain⟨f1,f2⟩:=fin W' hk;refine⟨false,rfl,false,ov,R,rfl,f1,f2,hrow,hfit.off,.inr ⟨rfl,_,?_,_,W',hJ',Kp.refl _,fun k hk=> .inl hk⟩⟩;rw [<-hpre,List.map_append,<-hRp];exact List.prefix_append _ _
end
theorem iN{P:Program}{t e:TypeId}{k bytes:Nat}{z:Value}{w:World}(E:cW P t e k bytes z){ops:Array Oper}{rest:List Oper}{o:Oper}{a:Act}{Q:Exit->Act->World->Prop}(hgd:o.guard=none)(s x:Operand)
 (ho:o.op= .call {callee:= .builtin .append,args:=#[s,x],argTypes:=#[t,t]})
 {v:Value}{n:Nat}{xs:List Value}{M:Nat->Prop}(hs:a.eval s=v)(hr:Row w e k v n xs M)
 {ao:Option Addr}{m c:Nat}{news:List Value}(hx:a.eval x= .slice ao m c)(hsrc:CellsAt w ao news)(hl:news.length=m*k)(h1:∀u∈news,u.oneCell'=true)
 (hb:(n+m)*bytes≤140737488355328)(h63:n+m≤maxLen)
 (h:∀v' w',Row w' e k v' (n+m) (xs++news) (fun g=>v.ownBlock=some g\/w.heap.size≤g)->Kp (fun g=>v.ownBlock=some g) w w'->wpList P ops Q rest (a.put o.dst v') w'):wpList P ops Q (o::rest) a w:=by
 refine wpList_plain hgd fun K hK=>?_;obtain⟨v',w',hrun,h2,h3,h4⟩:=pG (P:=P) E o.type hr hl hsrc h1 hb h63 (c:=c);unfold Oper.wp execOp;simp only [ho,resolve,invoke,builtin,Sem.run_bind,Sem.run_pure,Result.andThen_ok,List.map_toArray,List.map_cons,List.map_nil,hs,hx,hrun];exact hK _ _ (h v' w' h2 h3)
theorem aBm:cW Tryz.prog 184 188 1 8 (.pointer none):=⟨by kernel_rfl,by kernel_rfl,rfl,by decide⟩
section
variable {C:WCtx}{E:Nat->Prop}{v:Nat}{p:List ByteArray}{st0 st:Nat->List (Nat×Nat)}{js:List Nat}{Cs:List CurZ}{pre xs:List XB}{W0 W W':World}{i:Nat}{pos:Nat->Nat}{D:ByteArray->Prop}{ov:Nat->Value}{R:List ByteArray}
def EL(E:Nat->Prop)(lv:Value):Nat->Prop:=fun k=>E k\/lv.ownBlock=some k
structure WCtx.Opened(C:WCtx)(E:Nat->Prop)(v:Nat)(p R:List ByteArray)(st:Nat->List (Nat×Nat))(js:List Nat)(pre:List XB)(w1:World)(m:Nat)(lv:Value)(ov:Nat->Value)(st':Nat->List (Nat×Nat))(sp:Nat->Nat×Nat)(w:World):Prop where
 row:Row w 188 1 lv m (uG C.cb (js.take m)) (fun g=>w1.heap.size≤g)
 at_:C.At ov R st' w
 held:Held C.J (EL E lv) (C.Own ov) pre w
 fit:C.Fit (EL E lv) ov w
 kp:Kp (C.QE E) w1 w
 done:∀k j:Nat,k<m->js[k]?=some j->∃t,C.M.Ts[j]?=some t/\SpanOf t.W t.vs.length (eU t.vs v p) (sp j).1 (sp j).2/\(sp j).1< (sp j).2/\st' j=st j++ [sp j]
 rest:∀j,j∉js.take m->st' j=st j
def OpenR(C:WCtx)(E:Nat->Prop)(v:Nat)(p R:List ByteArray)(st:Nat->List (Nat×Nat))(js:List Nat)(pre:List XB)(w1:World)(lv iv:Value)(w:World):Prop:=
 ∃(m:Nat) (ov:Nat->Value) (st':Nat->List (Nat×Nat)) (sp:Nat->Nat×Nat),m≤js.length/\iv= .int .i64 m/\Hid (C.Opened E v p R st js pre w1 m lv ov st' sp w)
theorem WCtx.At.ptrAt(h:C.At ov R st W){ca:Option Addr}{n cc:Nat}(e:C.cv= .slice ca n cc){j:Nat}(hj:j<C.M.Ts.length):∃b o,ca=some ⟨b,o,none⟩/\W.cell? ⟨b,o+j,none⟩=some (.pointer (some ⟨C.cb j,0,none⟩)):=by obtain⟨ca',cc',e',hp⟩:=h.wlk.ptr;rw [e]at e';simp only [Value.slice.injEq]at e';obtain⟨rfl,-,-⟩:=e';exact hp j hj
theorem WCtx.Opened.open(hC:C.Ok)(hn:js.Nodup)(hl:p.length=v)(hP:PathsAt C.M v p st){w1:World}{m j:Nat}{lv:Value}{sp:Nat->Nat×Nat}(h:C.Opened E v p R st js pre w1 m lv ov st0 sp W){t:TrieZ}(hj:js[m]?=some j)(ht:C.M.Ts[j]?=some t)(hv:v∈t.vs):
 Calls Tryz.prog 157 #[.pointer (some ⟨C.cb j,0,none⟩)] W fun e W'=>∃(b:Bool) (ov':Nat->Value) (st':Nat->List (Nat×Nat)) (sp':Nat->Nat×Nat),e= .returned (.bool b)/\W.heap.size≤W'.heap.size/\Row W' 188 1 lv m (uG C.cb (js.take m)) (fun g=>w1.heap.size≤g)/\C.At ov' R st' W'/\Held C.J (EL E lv) (C.Own ov') pre W'/\C.Fit (EL E lv) ov' W'/\Kp (C.QE E) w1 W'/\
  (∀k i:Nat,k<m+1->js[k]?=some i->∃t,C.M.Ts[i]?=some t/\SpanOf t.W t.vs.length (eU t.vs v p) (sp' i).1 (sp' i).2/\(sp' i).1< (sp' i).2/\st' i=st i++ [sp' i])/\∀i,i∉js.take (m+1)->st' i=st i:=by
 have hnot:j∉js.take m:=fun hm=>by
  obtain⟨k,hk⟩:=List.mem_iff_getElem?.1 hm;have hkm:k<m:=by have:=(List.getElem?_eq_some_iff.1 hk).1;rw [List.length_take]at this;omega
  rw [List.getElem?_take_of_lt hkm]at hk;have:=(List.getElem?_inj (List.getElem?_eq_some_iff.1 hk).1 hn).1 (hk.trans hj.symm);omega
 obtain⟨w2,w3,w4,w5,w6⟩:=hC.ok.ways t (List.mem_of_getElem? ht);have hcur:=h.at_.wlk.cur j t ht;rw [h.rest j hnot]at hcur;have hT:=(hC.mat W h.at_.w0k).tries t (List.mem_of_getElem? ht);refine(aJk hcur hT w2 w6 (hP j t ht) (vX w3 hv hl ByteArray.empty).2).mono ?_;rintro e W' ⟨_,rfl,hk,rfl,ov2,f,u,hc2,hs,hft,ho⟩;obtain⟨a1,a2,a3⟩:=h.at_.turn hC ht hk hc2 ho;refine⟨true,dQ ov j ov2,_,dQ sp j (f,u),rfl,hk.size,h.row.kp' hk fun g hg _ hf=>h.fit.off g (a3 g hf) (.inr hg),a1,h.held.step hk (fun k hk=> .inl (a3 k hk)) a2 (fun k h=> .inl h),h.fit.turn hk.size a2,h.kp.trans' hk fun k _ hf=>?_,fun k i hkm hi=>?_,fun i hi=>?_⟩
 ·have:=WCtx.QE_own hC h.at_ h.fit k (a3 k hf);exact⟨this.1,fun he=>this.2 (.inl he)⟩
 ·by_cases e:i=j
  ·subst e;rw [upd_same,upd_same];exact⟨t,ht,hs,hft,rfl⟩
  ·have hkm':k<m:=by
    rcases Nat.lt_or_eq_of_le (Nat.le_of_lt_succ hkm)with h1|h1
    ·exact h1
    ·subst h1;rw [hj]at hi;cases hi;exact absurd rfl e
   rw [aH _ _ e,aH _ _ e];exact h.done k i hkm' hi
 ·have e1:js.take (m+1)=js.take m++ [j]:=by rw [List.take_add_one,hj];rfl
  rw [e1,List.mem_append,List.mem_singleton,not_or]at hi;rw [aH _ _ hi.2];exact h.rest i hi.1
theorem WCtx.Opened.push(hC:C.Ok){w1 w3 w4:World}{m j:Nat}{lv lv4:Value}{sp:Nat->Nat×Nat}(hj:js[m]?=some j)(q2:Row w3 188 1 lv m (uG C.cb (js.take m)) (fun g=>w1.heap.size≤g))(q3:C.At ov R st0 w3)(q4:Held C.J (EL E lv) (C.Own ov) pre w3)(q5:C.Fit (EL E lv) ov w3)(q6:Kp (C.QE E) w1 w3)
 (q7:∀k i:Nat,k<m+1->js[k]?=some i->∃t,C.M.Ts[i]?=some t/\SpanOf t.W t.vs.length (eU t.vs v p) (sp i).1 (sp i).2/\(sp i).1< (sp i).2/\st0 i=st i++ [sp i])(q8:∀i,i∉js.take (m+1)->st0 i=st i)(hr:Row w4 188 1 lv4 (m+1) (uG C.cb (js.take m)++ [.pointer (some ⟨C.cb j,0,none⟩)]) (fun g=>lv.ownBlock=some g\/w3.heap.size≤g))(hk:Kp (fun g=>lv.ownBlock=some g) w3 w4)(hE:∀k,E k->k<w1.heap.size):
 C.Opened E v p R st js pre w1 (m+1) lv4 ov st0 sp w4:=by
 have e1:js.take (m+1)=js.take m++ [j]:=by rw [List.take_add_one,hj];rfl
 have e2:uG C.cb (js.take m)++ [.pointer (some ⟨C.cb j,0,none⟩)]=uG C.cb (js.take (m+1)):=by unfold uG;rw [e1,List.map_append];rfl
 rw [e2]at hr;have hs:=q6.size;have hlo:C.lo≤w3.heap.size:=Nat.le_of_lt (Nat.lt_of_le_of_lt (q3.new C.wb (.inl rfl)) (q3.wlk.lt C.wb (.inl rfl)));refine⟨hr.mono fun g hg=>?_,⟨q3.wlk.kp hk fun k h1 h2=>q5.off k h1 (.inr h2),q3.new,q3.w0k.trans' hk fun k _ h1 h2=>?_⟩,q4.step hk (fun k h=> .inr (.inl (.inr h))) (fun k h=> .inl h) (fun k h=>?_),⟨fun k h=>?_,fun k h1 h2=>?_,fun k h=>?_⟩,q6.trans' hk fun k h0 h1=>?_,q7,q8⟩
 ·rcases hg with hg|hg
  ·exact q2.block g hg
  ·omega
 ·have:=hC.hZ k h2;have:=q5.lo k (.inr h1);omega
 ·rcases h with h|h
  ·exact .inl (.inl h)
  ·rcases hr.block k h with h|h
   ·exact .inl (.inr h)
   ·exact .inr h
 ·rcases h with h|h
  ·have:=q5.lt k (.inl h);have:=hk.size;omega
  ·obtain⟨cs,hb⟩:=aV hr h;exact hb.lt
 ·rcases h2 with h2|h2
  ·exact q5.off k h1 (.inl h2)
  ·rcases hr.block k h2 with h|h
   ·exact q5.off k h1 (.inr h)
   ·have:=q3.wlk.lt k h1;omega
 ·rcases h with h|h
  ·exact q5.lo k (.inl h)
  ·rcases hr.block k h with h|h
   ·exact q5.lo k (.inr h)
   ·omega
 ·refine⟨fun hz=>?_,fun he=>?_⟩
  ·have:=hC.hZ k hz;have:=q5.lo k (.inr h1);omega
  ·have:=q2.block k h1;have:=hE k he;omega
theorem WCtx.Ends.step{L:aD}{b:Bool}{E' G:Nat->Prop}{ov2:Nat->Value}(h:C.Ends E pre L ov b W)(hk:Kp G W W')(hG:∀k,G k->C.Own ov k\/E k\/W.heap.size≤k)(ho:∀k,C.Own ov2 k->C.Own ov k\/W.heap.size≤k)(hE:∀k,E' k->E k\/W.heap.size≤k):C.Ends E' pre L ov2 b W':=by
 rcases h with⟨h1,xs,h2,h3⟩|⟨h1,pre',h2,h3⟩
 ·exact .inl ⟨h1,xs,h2,h3.step hk hG ho hE⟩
 ·exact .inr ⟨h1,pre',h2,h3.step hk hG ho hE⟩
structure WCtx.Shut(C:WCtx)(E:Nat->Prop)(v:Nat)(p:List ByteArray)(st:Nat->List (Nat×Nat))(js:List Nat)(pre:List XB)(L:aD)(b:Bool)(w1:World)(m:Nat)(ov:Nat->Value)(R:List ByteArray)(st':Nat->List (Nat×Nat))(w:World):Prop where
 at_:C.At ov R st' w
 off:∀k,C.Own ov k->¬E k
 kp:Kp (C.QE E) w1 w
 ends:C.Ends E pre L ov b w
 todo:∀k j:Nat,m≤k->js[k]?=some j->∃x,st' j=st j++ [x]
 rest:∀j,j∉js.drop m->st' j=st j
theorem WCtx.Shut.up(hC:C.Ok)(hn:js.Nodup){L:aD}{b:Bool}(hE:∀k,E k->k<W.heap.size)(h:C.Shut E v p st js pre L b W0 i ov R st0 W){j:Nat}{t:TrieZ}(hj:js[i]?=some j)(ht:C.M.Ts[j]?=some t):
 Calls Tryz.prog 159 #[.pointer (some ⟨C.cb j,0,none⟩)] W fun e W'=>∃(c:Bool) (ov':Nat->Value) (st':Nat->List (Nat×Nat)),e= .returned (.bool c)/\W.heap.size≤W'.heap.size/\C.Shut E v p st js pre L b W0 (i+1) ov' R st' W':=by
 obtain⟨⟨x1,x2⟩,hx⟩:=h.todo i j (Nat.le_refl _) hj;have hcur:=h.at_.wlk.cur j t ht;rw [hx]at hcur;refine(aNh hcur).mono ?_;rintro e W' ⟨_,rfl,hk,rfl,ov2,ho2,hc2⟩;obtain⟨a1,a2,a3⟩:=h.at_.turn hC ht hk hc2 (fun k hk=> .inl (by rw [<-ho2];exact hk));have edrop:js.drop i=j::js.drop (i+1):=by have hl:=List.getElem?_eq_some_iff.1 hj;rw [List.drop_eq_getElem_cons hl.1,hl.2]
 have hjn:j∉js.drop (i+1):=by have h1:(js.drop i).Nodup:=hn.sublist (List.drop_sublist _ _);rw [edrop]at h1;exact(List.nodup_cons.1 h1).1
 refine⟨true,dQ ov j ov2,_,rfl,hk.size,a1,fun k hk2 he=>?_,h.kp.trans' hk fun k _ hf=>?_,h.ends.step hk (fun k hk=> .inl (a3 k hk)) a2 (fun k h=> .inl h),fun k i2 hik hi2=>?_,fun i2 hi2=>?_⟩
 ·rcases a2 k hk2 with h1|h1
  ·exact h.off k h1 he
  ·have:=hE k he;omega
 ·refine⟨fun hz=>?_,h.off k (a3 k hf)⟩;have:=hC.hZ k hz;have:=h.at_.new k (a3 k hf);omega
 ·have hne:i2≠j:=fun e=>hjn (by
   rw [<-e];refine List.mem_of_getElem? (i:=k- (i+1)) ?_;rw [List.getElem?_drop,show i+1+(k- (i+1))=k by omega];exact hi2)
  rw [aH _ _ hne];exact h.todo k i2 (by omega) hi2
 ·by_cases e:i2=j
  ·subst e;rw [upd_same]
  ·rw [aH _ _ e];refine h.rest i2 fun hm=>?_;rw [edrop]at hm;rcases List.mem_cons.1 hm with h1|h1
   ·exact e h1
   ·exact hi2 h1
def ShutR(C:WCtx)(E:Nat->Prop)(v:Nat)(p:List ByteArray)(st:Nat->List (Nat×Nat))(js:List Nat)(pre:List XB)(L:aD)(b:Bool)(w1:World)(R:List ByteArray)(iv:Value)(w:World):Prop:=
 ∃(m:Nat) (ov:Nat->Value) (st':Nat->List (Nat×Nat)),m≤js.length/\iv= .int .i64 m/\Hid (C.Shut E v p st js pre L b w1 m ov R st' w)
theorem WCtx.Opened.start(hC:C.Ok)(hl:p.length=v)(hvn:v<C.M.N.length)(hP:PathsAt C.M v p st)(hrow:R.take v=p)(hj:atL C.M.Ts v=js){w1:World}{lv:Value}{sp:Nat->Nat×Nat}(h:C.Opened E v p R st js pre w1 js.length lv ov st0 sp W):
 0<js.length/\∃Cs pos0,C.Lay v p st js Cs/\C.Turn (EL E lv) v p st js Cs pre W 0 pos0 (fun _=>False) [] ov R st0 W/\Before Cs pos0:=by
 have hne:0<js.length:=by
  obtain⟨t,ht,hv⟩:=hC.ok.all v hvn;obtain⟨j,hj2⟩:=List.mem_iff_getElem?.1 ht;have:j∈js:=by rw [<-hj];exact vY.2 ⟨t,hj2,hv⟩
  exact List.length_pos_of_mem this
 have hdone:∀j∈js,∃t,C.M.Ts[j]?=some t/\v∈t.vs/\SpanOf t.W t.vs.length (eU t.vs v p) (sp j).1 (sp j).2/\(sp j).1< (sp j).2/\st0 j=st j++ [sp j]:=fun j hm=>by obtain⟨k,hk⟩:=List.mem_iff_getElem?.1 hm;obtain⟨t,h1,h2,h3,h4⟩:=h.done k j (List.getElem?_eq_some_iff.1 hk).1 hk;rw [<-hj]at hm;obtain⟨t',h5,h6⟩:=vY.1 hm;rw [h1]at h5;cases h5;exact⟨t,h1,h6,h2,h3,h4⟩
 obtain⟨Cs,eCs⟩:=nm (js.map (fun j=>(⟨cB (C.M.Ts.getD j noT).W (C.M.Ts.getD j noT).vs.length (eU (C.M.Ts.getD j noT).vs v p).length (C.M.Ts.getD j noT).W.length,(sp j).1,(sp j).2⟩:CurZ)));obtain⟨hok,hcom⟩:=aKs hC.ok hvn hl (js:=js) (fun j hm=>by obtain⟨t,h1,h2,-⟩:=hdone j hm;exact⟨t,h1,h2⟩) (sp:=sp) eCs.symm (fun j hm=>by obtain⟨t,h1,h2,h3,-⟩:=hdone j hm;rw [bM h1];exact h3);have hget:∀k j:Nat,js[k]?=some j->∃t,C.M.Ts[j]?=some t/\v∈t.vs/\SpanOf t.W t.vs.length (eU t.vs v p) (sp j).1 (sp j).2/\(sp j).1< (sp j).2/\st0 j=st j++ [sp j]/\Cs[k]?=some ⟨cB t.W t.vs.length (eU t.vs v p).length t.W.length,(sp j).1,(sp j).2⟩:=fun k j hk=>by obtain⟨t,h1,h2,h3,h4,h5⟩:=hdone j (List.mem_of_getElem? hk);refine⟨t,h1,h2,h3,h4,h5,?_⟩;rw [<-eCs,List.getElem?_map,hk];simp only [Option.map_some,bM h1]
 have hlen:Cs.length=js.length:=by rw [<-eCs,List.length_map]
 have hpos:∀(k:Nat) (c:CurZ),Cs[k]?=some c->(Cs.getD k ⟨[],0,0⟩).lo=c.lo:=fun k c hc=>by rw [bM hc]
 refine⟨hne,Cs,fun k=>(Cs.getD k ⟨[],0,0⟩).lo,⟨?_,hlen,fun k j hk=>?_,hP,hl,fun j t hjt hv=>?_⟩,⟨LeapInv.start hok (by omega) hcom,h.at_,hrow,⟨fun k j c hk hc=>?_,fun j hm=>h.rest j (by rw [List.take_length];exact hm)⟩,by rw [List.append_nil];exact h.held,h.fit,Kp.refl _⟩,fun k c hc=>?_⟩
 ·rw [<-hj];exact aBq _ _
 ·obtain⟨t,h1,h2,h3,h4,h5,h6⟩:=hget k j hk;exact⟨t,_,_,h1,h2,h3,h6⟩
 ·rw [<-hj];exact vY.2 ⟨t,hjt,hv⟩
 ·obtain⟨t,h1,h2,h3,h4,h5,h6⟩:=hget k j hk;rw [h6]at hc;cases hc;show st0 j=st j++ [((Cs.getD k ⟨[],0,0⟩).lo,(sp j).2)];rw [hpos k _ h6];exact h5
 ·have hk:k<js.length:=by rw [<-hlen];exact(List.getElem?_eq_some_iff.1 hc).1
  obtain⟨t,h1,h2,h3,h4,h5,h6⟩:=hget k _ (qG hk);show(Cs.getD k ⟨[],0,0⟩).lo<c.hi;rw [hpos k c hc];rw [h6]at hc;cases hc;exact h4
end
theorem aE2{w:World}{v:Value}{n:Nat}{xs:List Value}{e:TypeId}{w0:World}(h:Row w e 1 v n xs (New w0)):∃ao cap,v= .slice ao n cap/\n≤cap/\((ao=none/\xs= [])\/∃g rest,ao=some ⟨g,0,none⟩/\Blk w g (xs++rest) e/\w0.heap.size≤g):=by
 obtain⟨h1,⟨h2,h3⟩|⟨g,cap,rest,e1,hM,hB,h3,h4,_⟩⟩:=h
 ·subst h3;exact⟨none,0,h2,Nat.le_refl _,.inl ⟨rfl,List.eq_nil_of_length_eq_zero (by simpa using h1)⟩⟩
 ·exact⟨_,cap,e1,h4,.inr ⟨g,rest,rfl,hB,hM⟩⟩
theorem aHl{w w':World}{xs:List Value}{e:TypeId}{ao:Option Addr}{m m':Nat}(h:(ao=none/\xs= [])\/∃g rest,ao=some ⟨g,0,none⟩/\Blk w g (xs++rest) e/\m≤g)(hk:Ext w w')(hm:m'≤m):(ao=none/\xs= [])\/∃g rest,ao=some ⟨g,0,none⟩/\Blk w' g (xs++rest) e/\m'≤g:=by
 rcases h with h|⟨g,rest,h1,h2,h3⟩
 ·exact .inl h
 ·exact .inr ⟨g,rest,h1,h2.ext hk,by omega⟩
set_option maxHeartbeats 4000000 in
theorem rC{C:WCtx}(hC:C.Ok){l n:Nat}(hY:C.Yields l n){v:Nat}(hvn:v≤C.M.N.length)(hF:v<C.M.N.length->C.From (v+1)):C.From v:=by
 intro p E ov R st pre L W hl hat hrow hpath hseen hL hpre hheld hfit;have HPs:=qH (WCtx.passK hC hat hvn);have hb:=hat.wlk.box;obtain⟨wb,ewb⟩:=nm C.wb;obtain⟨nv,env⟩:=nm C.M.N.length;obtain⟨r,er⟩:=nm (((C.M.tests v).any fun t=>!t.ask R));rw [er,ewb]at HPs;rw [ewb];have HR:=qH er;have HA:=qH (nIX hat (nIX hheld hfit));have HL:=qH (nIX hL hpre);clear hb hat hheld hfit hL hpre er;go_enter Tryz.func123,Tryz.ntmps123;go_wp2_with fail
 refine HPs.out.mono ?_;rintro e w1 ⟨u,rfl,hk1,rfl⟩;have H1:=qH (nIX (HA.out.1.ext hk1) (nIX (HA.out.2.1.step (G:=fun _=>False) hk1 (fun _ h=>h.elim) (fun k h=> .inl h) (fun k h=> .inl h):Held C.J E (C.Own ov) pre w1) (nIX (HA.out.2.2.ext hk1) (Ext.kp (F:=C.QE E) hk1))));clear hk1;cases r
 ·rw [Bool.not_false];have hall:∀t∈C.M.tests v,t.ask R=true:=fun t ht=>by
   have:=List.any_eq_false.1 HR.out t ht;simpa using this
  have HAll:=qH hall;clear hall;have hb:=H1.out.1.wlk.box;obtain⟨h1,h2,h3,h4,h5,h6,h7,h8,h9,h10⟩:=hC.mat w1 H1.out.1.w0k;have b0:w1.cell? ⟨wb,0,none⟩=some (.pointer (some ⟨C.mb,0,none⟩)):=by rw [<-ewb,hb.cell'];rfl
  have b2:w1.cell? ⟨wb,2,none⟩=some (.slice (some ⟨C.rb,0,none⟩) nv nv):=by rw [<-ewb,hb.cell',env];rfl
  have b3:w1.cell? ⟨wb,3,none⟩=some (.func (.yield l) #[] #[]):=by rw [<-ewb,hb.cell',hY.yv];rfl
  have HM:=qH (nIX h5 (nIX h6 h10));rw [env]at h1 h3 hvn hF;clear h2 h4 h5 h6 h7 h8 h9 h10 hb;by_cases hvv:v=nv
  ·subst hvv;have hRv:R=p:=by rw [<-hrow,List.take_of_length_le (by have:=HA.out.1.wlk.rowL;omega)]
   have hfull:AllB (mX C.M) p [p]:=by have hs:=hseen;have hp:=hpath;rw [<-env]at hs hp;exact aMj hC.ok hs hp (by omega) fun t ht=>by rw [<-hRv];rw [env]at ht;exact HAll.out t ht
   have eL:L= [p]:=AllB.unique HL.out.1 hfull;obtain⟨R0,e0⟩:=HL.out.2;rw [eL]at e0;have HTell:=qH (aLn hC hY H1.out.1 H1.out.2.2.1 H1.out.2.1 H1.out.2.2.2 hrow hRv (R0:=R0) e0);rw [<-eL]at HTell;rw [env]at HTell;clear hfull e0 hpath hseen HL hF;have hrb:=H1.out.1.wlk.rowB;have hcells:CellsAt w1 (some ⟨C.rb,0,none⟩) (strs R):=by have h11:strs R++ []=strs R:=List.append_nil _;rw [<-h11]at hrb;exact CellsAt.pre hrb
   have hRl:=H1.out.1.wlk.rowL;rw [env]at hRl;have hfew:=HM.out.2.2.1;rw [env]at hfew;have HCl:=qH (jE (strs R) (some ⟨C.rb,0,none⟩) v w1.drew v (by rw [eE,hRl]) (hcells.ext (Kp.refl w1).drew) (gP R) (by omega));have HRl:=qH hRl;clear hcells hrb hRl;go_wp2;refine(wpIn_wide (n:=n+1)).1 ?_
   gi_region_with (first
    |(refine nIX trivial ?_;gi_at_call 101;refine(callsIn_wide.2 HCl.out).mono ?_;rintro e w2 ⟨v2,rfl,hk2,hr2⟩;obtain⟨ao2,cap2,e2,hn2,hB2⟩:=aE2 hr2;subst e2;have HC2:=qH (nIX hk2 hB2);have b3:=(show w2.cell? ⟨wb,3,none⟩=_ from hk2.cell b3 id);have HCp:=qH (tR ao2 v cap2 w2 hn2);clear hk2 hr2 hB2)
    |(refine nIX trivial ?_;gi_at_call 76;refine(callsIn_wide.2 HCp.out).mono ?_;rintro e w3 ⟨v3,rfl,hk3,rfl⟩;have b3:=(show w3.cell? ⟨wb,3,none⟩=_ from hk3.cell b3 id);obtain⟨fn,tmps,assign,body,hy,hRd⟩:=HTell.out ao2 w3 ((Kp.refl w1).drew.trans (HC2.out.1.trans hk3)) (aHl HC2.out.2 hk3 (Nat.le_refl _));clear hk3)
    |(refine hRd.mono ?_;rintro e w4 ⟨bb,rfl,hpost⟩;have HPost:=qH hpost;clear hpost hy))
   all_goals
    go_wp2;go_ret;exact HPost.out
  ·have hvlt:v<nv:=by omega
   obtain⟨ab,ao,eaa,c6,hia⟩:=HM.out.2.1 v (by rw [env];exact hvlt);rw [eaa]at h3;obtain⟨js,ejs⟩:=nm (atL C.M.Ts v);rw [ejs]at c6 hia;obtain⟨n2,en2⟩:=nm js.length;rw [en2]at c6;have hJ:=qH (nIX ejs (nIX en2 hia));have hsm:n2≤1048576:=by have h20:(atL C.M.Ts v).length≤C.M.Ts.length:=Nat.le_trans (List.length_filter_le _ _) (by rw [List.length_range];exact Nat.le_refl _);have h21:=HM.out.2.2.2.1;rw [ejs,en2]at h20;omega
   clear ejs en2 hia;have hne:((v:Int)==(nv:Int))=false:=by
    have:¬(v:Int)=nv:=by omega
    simp [this]
   go_wp2;go_loopw [5,47] (fun lv iv wr=>OpenR C E v p R st js pre w1 lv iv wr) (fun _ iv _=>n2- (intOf iv).toNat)
   case atStart=>
    refine⟨0,ov,st,fun _=>(0,0),Nat.zero_le _,rfl,qH ⟨Row.nil _ _ _ _,H1.out.1,H1.out.2.1.step (G:=fun _=>False) (Kp.refl _) (fun _ h=>h.elim) (fun k h=> .inl h) (fun k h=> .inl ?_),⟨fun k hk=>?_,fun k hk he=>?_,fun k hk=>?_⟩,Kp.refl _,fun k j hk=>by omega,fun j _=>rfl⟩⟩
    ·exact h.resolve_right (by simp [Value.ownBlock])
    ·exact H1.out.2.2.1.lt k (hk.resolve_right (by simp [Value.ownBlock]))
    ·exact H1.out.2.2.1.off k hk (he.resolve_right (by simp [Value.ownBlock]))
    ·exact H1.out.2.2.1.lo k (hk.resolve_right (by simp [Value.ownBlock]))
   case round=>
    obtain⟨m,ov2,st2,sp,hmn,rfl,HO⟩:=hrel;rw [hJ.out.2.1]at hmn;obtain⟨la,lcap,elv,hlc,hlcap⟩:=HO.out.row.shape;subst elv;by_cases hlt:m<n2
    ·obtain⟨j,hj⟩:∃j,js[m]?=some j:=⟨_,qG (by rw [hJ.out.2.1];exact hlt)⟩;have hm0:j∈atL C.M.Ts v:=by rw [hJ.out.1];exact List.mem_of_getElem? hj
     obtain⟨t,ht,hvt⟩:=vY.1 hm0;have hjT:=(List.getElem?_eq_some_iff.1 ht).1;have hnd:js.Nodup:=by rw [<-hJ.out.1];exact aBq _ _
     have HOp:=qH (HO.out.open hC hnd hl hpath hj ht hvt);have hmat:=hC.mat wr HO.out.at_.w0k;obtain⟨_,_,_,_,hia2⟩:=hmat.ats v (by rw [env];exact hvlt);rw [hJ.out.1]at hia2;obtain⟨ib,io,eia,i0⟩:=hia2 m (.int .i64 j) (by unfold ints;rw [List.map_map,List.getElem?_map,hj];rfl);rw [eia];obtain⟨ca,cc,ecv,-⟩:=HO.out.at_.wlk.ptr;obtain⟨cb,co,eca,p0⟩:=HO.out.at_.ptrAt ecv hjT;have hb2:=HO.out.at_.wlk.box;have b1:wr.cell? ⟨wb,1,none⟩=some (.slice (some ⟨cb,co,none⟩) C.M.Ts.length cc):=by rw [<-ewb,hb2.cell',ecv,eca];rfl
     obtain⟨nT,enT⟩:=nm C.M.Ts.length;have HX:=qH (nIX hj (nIX hjT (nIX ecv eca)));rw [enT]at b1 hjT;clear hj hm0 ht hvt hnd hmat hia2 hb2 hlc eia ecv eca;go_wp2_with fail
     refine HOp.out.mono ?_;rintro e w3 ⟨b,ov3,st3,sp3,rfl,q1,q2,q3,q4,q5,q6,q7,q8⟩;obtain⟨cb',co',eca,p3⟩:=q3.ptrAt HX.out.2.2.1 HX.out.2.1;rw [HX.out.2.2.2]at eca;cases eca;have hb2:=q3.wlk.box;have b3:w3.cell? ⟨wb,1,none⟩=some (.slice (some ⟨cb,co,none⟩) nT cc):=by rw [<-ewb,hb2.cell',HX.out.2.2.1,HX.out.2.2.2,enT];rfl
     have HQ:=qH (nIX q2 (nIX q3 (nIX q4 (nIX q5 (nIX q6 (nIX q7 q8))))));clear q1 q2 q3 q4 q5 q6 q7 q8 hb2 i0 p0 b1;go_wp2_with (first|(at_builtin;refine Halted.out ?_))
     refine Halted.mk (iN aBm rfl _ _ rfl rfl (HQ.out.1.alloc _) rfl (CellsAt.one w3 _ _) rfl (by simp;rfl) (by omega) (by unfold maxLen;omega) ?_);intro lv4 w4 hr4 hk4;obtain⟨la4,lcap4,elv4,_,_⟩:=hr4.shape;subst elv4;obtain⟨a1,a2,a3,a4,a5,a6,a7⟩:=HQ.out;have HP:=qH (WCtx.Opened.push hC HX.out.1 a1 a2 a3 a4 a5 a6 a7 (hr4.mono fun g hg=>by rcases hg with hg|hg;exact .inl hg;exact .inr (by rw [aJ]at hg;omega)) (((Kp.refl w3).alloc _).trans hk4) (fun k hk=>Nat.lt_of_lt_of_le (H1.out.2.2.1.lt k hk) (Nat.le_refl _)));clear hr4 hk4 a1 a2 a3 a4 a5 a6 a7 p3 b3;go_wp2;go_roundw
     case rel=>exact⟨m+1,ov3,st3,sp3,by rw [hJ.out.2.1];omega,nMX,HP⟩
     case measure=>simp [intOf];omega
    ·obtain rfl:m=n2:=by omega
     generalize hw4:wr=w4 at*;clear hw4;have HO2:=HO.out;rw [<-hJ.out.2.1]at HO2;obtain⟨hpos,Cs,pos0,hLay,hTurn,hBef⟩:=HO2.start hC hl (by rw [env];exact hvlt) hpath hrow hJ.out.1;rw [hJ.out.2.1]at hpos;have hrow2:=HO.out.row;obtain⟨gl,cl,el,hMl⟩:=pH hrow2 hpos;simp only [Value.slice.injEq]at el;obtain⟨rfl,-,rfl⟩:=el;have hseen2:∀key,Seen C.M (v+1) (p++ [key]):=fun key=>hseen.next hC.ok (by rw [env];omega) HA.out.1.wlk.rowL hrow HAll.out (by rw [<-hl];exact List.take_left)
     have hcl:∀W',Kp (C.QE (EL E (.slice (some ⟨gl,0,none⟩) js.length lcap))) w4 W'->∀k j:Nat,js[k]?=some j->W'.cell? ⟨gl,0+k,none⟩=some (.pointer (some ⟨C.cb j,0,none⟩)):=fun W' hW k j hk=>by
      have hc:=hlc.kp hW fun a ha hf=>by cases ha;exact hf.2 (.inr rfl)
      have hkm:k<m:=by rw [<-hJ.out.2.1];exact(List.getElem?_eq_some_iff.1 hk).1
      obtain⟨b,o,e,c⟩:=hc k (.pointer (some ⟨C.cb j,0,none⟩)) (by unfold uG;rw [List.getElem?_map,List.getElem?_take_of_lt hkm,hk];rfl);cases e;exact c
     have HLp:=qH (aMd (lc:=lcap) hC (by rw [env];exact hvlt) (hF hvlt) hLay (by rw [hJ.out.2.1];exact hpos) (by rw [hJ.out.2.1];exact hsm) hTurn hBef hseen2 HL.out.1 HL.out.2 hcl);rw [ewb,hJ.out.2.1]at HLp;have HCl:=qH hcl;have HLay:=qH hLay;have HFit:=qH HO2.fit.lt;have HKw:=qH HO.out.kp;clear HO2 hLay hTurn hBef hrow2 hseen2 hcl hlc hlt hmn;go_wp2_with fail
     refine HLp.out.mono ?_;rintro e w5 ⟨b,ov5,R5,st5,pos5,rfl,hk5,hat5,hrow5,hoff5,hst5,hends5⟩;obtain⟨EE,eEE⟩:=nm (EL E (.slice (some ⟨gl,0,none⟩) m lcap));rw [eEE]at hk5 hoff5 hends5;have HSh:=qH (show C.Shut EE v p st js pre L b w5 0 ov5 R5 st5 w5 from⟨hat5,hoff5,Kp.refl _,hends5,fun k j _ hk=>by obtain⟨t,a,c,h1,h2,h3,h4⟩:=HLay.out.cur k j hk;exact⟨_,hst5.1 k j _ hk h4⟩,fun j hm=>hst5.2 j (by rw [List.drop_zero]at hm;exact hm)⟩);have H5:=qH (nIX hk5 hrow5);have HEE:=qH eEE;clear hk5 hat5 hrow5 hoff5 hst5 hends5 eEE;go_wp2;go_loopw [76] (fun iv wr=>ShutR C EE v p st js pre L b w5 R5 iv wr) (fun iv _=>m- (intOf iv).toNat)
     case atStart=>exact⟨0,ov5,st5,Nat.zero_le _,rfl,HSh⟩
     case round=>
      obtain⟨m2,ov6,st6,hmn2,rfl,HS6⟩:=hrel;rw [hJ.out.2.1]at hmn2;by_cases hlt2:m2<m
      ·obtain⟨j,hj⟩:∃j,js[m2]?=some j:=⟨_,qG (by rw [hJ.out.2.1];exact hlt2)⟩;obtain⟨t,-,-,ht,-⟩:=HLay.out.cur m2 j hj;have hkw:Kp (C.QE EE) w4 wr:=H5.out.1.trans HS6.out.kp;have c0:=HCl.out wr (by rw [hJ.out.2.1,HEE.out];exact hkw) m2 j hj;rw [Nat.zero_add]at c0;have HUp:=qH (HS6.out.up hC HLay.out.nd (fun k hk=>by
        have h8:=HFit.out k (by rw [hJ.out.2.1,HEE.out];exact hk);have h9:=hkw.size;omega) hj ht)
       clear hj ht hkw;go_wp2_with fail
       refine HUp.out.mono ?_;rintro e w7 ⟨c,ov7,st7,rfl,hz7,hs7⟩;have HS7:=qH hs7;clear hz7 hs7 c0;go_wp2;go_roundw
       case rel=>exact⟨m2+1,ov7,st7,by rw [hJ.out.2.1];omega,nMX,HS7⟩
       case measure=>simp [intOf];omega
      ·obtain rfl:m2=m:=by omega
       have est:st6=st:=by
        funext j
        refine HS6.out.rest j ?_;rw [List.drop_of_length_le (by rw [hJ.out.2.1];exact Nat.le_refl _)];simp
       have sub:∀k,E k->EE k:=fun k hk=>by rw [<-HEE.out];exact .inl hk
       have hQ:∀k,C.QE EE k->C.QE E k:=fun k hk=>⟨hk.1,fun he=>hk.2 (sub k he)⟩;have hFin:=qH (show C.Post E v p st pre L W (.returned (.bool b)) wr from⟨b,ov6,R5,rfl,((H1.out.2.2.2.trans HKw.out).trans' H5.out.1 fun k _ h=>hQ k h).trans' HS6.out.kp fun k _ h=>hQ k h,by rw [<-est];exact HS6.out.at_,H5.out.2,fun k hk he=>HS6.out.off k hk (sub k he),HS6.out.ends.step (G:=fun _=>False) (Kp.refl _) (fun _ h=>h.elim) (fun k h=> .inl h) (fun k h=> .inl (sub k h))⟩);clear est hQ sub hlt2 hmn2;go_wp2;go_ret;exact hFin.out
 ·rw [Bool.not_true];obtain⟨t,ht,h2⟩:=List.any_eq_true.1 HR.out;have h3:t.ask R=false:=by simpa using h2
  have he:=AllB.unique HL.out.1 (aOl hC.ok hvn HA.out.1.wlk.rowL hrow ht h3 hl);clear ht h2 h3;go_wp2;go_ret;exact⟨true,ov,R,rfl,H1.out.2.2.2,H1.out.1,hrow,H1.out.2.2.1.off,.inl ⟨rfl,[],by rw [he];rfl,by rw [List.append_nil];exact H1.out.2.1⟩⟩
end
section
open Go.RowKit Go.Shelf
attribute [local go_sem] Oper.semAt_some
structure LaidAt(w X:World)(g0:Nat)(pr:ByteArray)(ta:Option Addr)(m cap:Nat)(na:Option Addr)(nn nc:Nat)(vv rp:Value):Prop where
 atom:Blk X g0 [.string pr,.slice ta m cap] 24
 names:Blk X (g0+1) [.slice na nn nc] 34
 res:Blk X (g0+1+1) [.slice none 0 0,.pointer none] 175
 tab:Blk X (g0+1+1+1) [vv,rp] 175
 kp:Ext w X
section
variable {w X Y:World}{g0:Nat}{pr:ByteArray}{ta:Option Addr}{m cap:Nat}{na:Option Addr}{nn nc:Nat}{vv rp:Value}
theorem LaidAt.kpF{F:Nat->Prop}(h:LaidAt w X g0 pr ta m cap na nn nc vv rp)(hk:Kp F X Y)(hF:∀k,F k->g0+1+1+1<k)(hlo:w.heap.size≤g0):LaidAt w Y g0 pr ta m cap na nn nc vv rp:=
 ⟨h.atom.kp hk fun hf=>by have:=hF _ hf;omega,h.names.kp hk fun hf=>by have:=hF _ hf;omega,h.res.kp hk fun hf=>by have:=hF _ hf;omega,h.tab.kp hk fun hf=>by have:=hF _ hf;omega,h.kp.trans' hk fun i hi hf=>by have:=hF _ hf;omega⟩
theorem LaidAt.ext(h:LaidAt w X g0 pr ta m cap na nn nc vv rp)(hk:Ext X Y):LaidAt w Y g0 pr ta m cap na nn nc vv rp:=
 ⟨h.atom.ext hk,h.names.ext hk,h.res.ext hk,h.tab.ext hk,h.kp.trans hk⟩
theorem LaidAt.putV(h:LaidAt w X g0 pr ta m cap na nn nc vv rp)(hlo:w.heap.size≤g0)(v2:Value):LaidAt w (X.setCell ⟨g0+1+1+1,0,none⟩ v2) g0 pr ta m cap na nn nc v2 rp:=
 ⟨h.atom.other (by show g0≠g0+1+1+1;omega) _,h.names.other (by show g0+1≠g0+1+1+1;omega) _,h.res.other (by show g0+1+1≠g0+1+1+1;omega) _,h.tab.set 0 _,h.kp.setCell (p:=⟨g0+1+1+1,0,none⟩) (fun h2=>by have h3:g0+1+1+1<w.heap.size:=h2;omega) _⟩
theorem LaidAt.putR(h:LaidAt w X g0 pr ta m cap na nn nc vv rp)(hlo:w.heap.size≤g0)(r2:Value):LaidAt w (X.setCell ⟨g0+1+1+1,1,none⟩ r2) g0 pr ta m cap na nn nc vv r2:=
 ⟨h.atom.other (by show g0≠g0+1+1+1;omega) _,h.names.other (by show g0+1≠g0+1+1+1;omega) _,h.res.other (by show g0+1+1≠g0+1+1+1;omega) _,h.tab.set 1 _,h.kp.setCell (p:=⟨g0+1+1+1,1,none⟩) (fun h2=>by have h3:g0+1+1+1<w.heap.size:=h2;omega) _⟩
end
theorem jK:cW Tryz.prog 173 3 1 8 (.int .i64 0):=⟨by kernel_rfl,by kernel_rfl,rfl,by decide⟩
def aCe(vs:List Nat):List Value:=ints (vs.map fun(v:Nat)=>(v:Int))
theorem aJr(vs:List Nat)(i:Nat):aCe vs++ [.int .i64 i]=aCe (vs++ [i]):=by unfold aCe ints;simp
def cM:Code->Option Code
 | .rangeFunc _ _ _ c=>some c
 | .seq a b=>match cM a with
  |some c=>some c
  |none=>cM b
 | .block _ c=>cM c
 | .loop c=>cM c
 | .scope c=>cM c
 | .cond _ a b=>match cM a with
  |some c=>some c
  |none=>cM b
 |_=>none
noncomputable def aD9:Code:=((Tryz.f117.body.bind cM).getD .skip)
theorem lH(l:List Value):∀n,l.length=n->l=(List.range n).map fun i=>l.getD i undef:=fun n h=>by subst h;refine List.ext_getElem (by simp) fun i h1 h2=>?_;simp [List.getElem_map,List.getD_eq_getElem?_getD,h1]
theorem aOn(t:Array Value)(h:t.size=122):∃u:Nat->Value,(∀i,t.getD i undef=u i)/\t=#[u 0,u 1,u 2,u 3,u 4,u 5,u 6,u 7,u 8,u 9,u 10,u 11,u 12,u 13,u 14,u 15,u 16,u 17,u 18,u 19,u 20,u 21,u 22,u 23,u 24,u 25,u 26,u 27,u 28,u 29,u 30,u 31,u 32,u 33,u 34,u 35,u 36,u 37,u 38,u 39,u 40,u 41,u 42,u 43,u 44,u 45,u 46,u 47,u 48,u 49,u 50,u 51,u 52,u 53,u 54,u 55,u 56,u 57,u 58,u 59,u 60,u 61,u 62,u 63,u 64,u 65,u 66,u 67,u 68,u 69,u 70,u 71,u 72,u 73,u 74,u 75,u 76,u 77,u 78,u 79,u 80,u 81,u 82,u 83,u 84,u 85,u 86,u 87,u 88,u 89,u 90,u 91,u 92,u 93,u 94,u 95,u 96,u 97,u 98,u 99,u 100,u 101,u 102,u 103,u 104,u 105,u 106,u 107,u 108,u 109,u 110,u 111,u 112,u 113,u 114,u 115,u 116,u 117,u 118,u 119,u 120,u 121]:=by refine⟨fun i=>t.toList.getD i undef,fun i=>by simp [Array.getD_eq_getD_getElem?,List.getD_eq_getElem?_getD],?_⟩;apply Array.ext';have:=lH t.toList 122 (by simpa using h);exact this
def fU(Qn Qr:World->Prop):Exit->Act->World->Prop
 | .normal,_,W=>Qn W
 | .ret,_,W=>Qr W
 |_,_,_=>False
def FitI(X:World)(ts:List aE)(sp:List ByteArray)(m:Nat)(iv:Value)(W:World):Prop:=∃i:Nat,i≤m/\iv= .int .i64 i/\Hid (Ext X W)/\Hid (yJ ts sp i)
def OutI(X:World)(P:List ByteArray)(n:Nat)(ov jv:Value)(W:World):Prop:=∃j:Nat,j≤n/\jv= .int .i64 j/\Hid (Ext X W)/\Hid (Row W 9 1 ov j (strs (P.take j)) (New X))
set_option maxHeartbeats 8000000 in
theorem aGr{S:Nat->Prop}{w X:World}{g0 rb l:Nat}{pr:ByteArray}{ta na va ax:Option Addr}{m cap nn nc vc cn mx cx:Nat}{iv:Value}{G:Nat->Prop}{ts:List aE}{N sp:List ByteArray}{R:aD}{t:Array Value}{Qn Qr:World->Prop}
 (hA:LaidAt w X g0 pr ta m cap na nn nc (.slice va cn vc) (.pointer (some ⟨rb,0,none⟩)))(hlo:w.heap.size≤g0)(hm:m=ts.length)(hts:aO w G ta ts)(h64:m≤64)(hn:nn=N.length)(hN:CellsAt w na (strs N))(hnd:N.Nodup)(hn2:nn≤1048576)
 (hcn:cn=(aY N ts).length)(hV:CellsAt X va (aCe (aY N ts)))(hmx:mx=sp.length)(hsp:CellsAt X ax (strs sp))(hsl:bP sp=true)(hRl:R.length<65536)
 (hR:RowsAt S X rb iv cn (dU N ts R))(hz:t.size=122)(t3:t.getD 3 undef= .pointer (some ⟨g0,0,none⟩))(t5:t.getD 5 undef= .pointer (some ⟨g0+1,0,none⟩))(t6:t.getD 6 undef= .pointer (some ⟨g0+1+1,0,none⟩))(t7:t.getD 7 undef= .pointer (some ⟨g0+1+1+1,0,none⟩))(t10:t.getD 10 undef= .slice ax mx cx)
 (hQr:sp.length≠m->∀X',Kp (fun k=>k=g0+1+1) X X'->Blk X' (g0+1+1) [.slice va cn vc,.pointer (some ⟨rb,0,none⟩)] 175->Qr X')
 (hQn:sp.length=m->∀X',Kp (dY rb iv) X X'->(∃S' iv',RowsAt S' X' rb iv' cn (dU N ts (R++ [sp]))/\(∀k,S' k->S k\/X.heap.size≤k)/\∀k,iv'.ownBlock=some k->iv.ownBlock=some k\/X.heap.size≤k)->Qn X'):
 aD9.wpIn (Fence.wide.inRound l) 2 Tryz.prog (fU Qn Qr) {tmps:=t,defers:= []} X:=by
 obtain⟨u,hu,rfl⟩:=aOn t hz;have e3:=(hu 3).symm.trans t3;have e5:=(hu 5).symm.trans t5;have e6:=(hu 6).symm.trans t6;have e7:=(hu 7).symm.trans t7;have e10:=(hu 10).symm.trans t10;rw [e3,e5,e6,e7,e10];clear hz t3 t5 t6 t7 t10 e3 e5 e6 e7 e10 hu;have HQ:=qH (nIX hQr hQn);have HA:=qH (nIX hA hlo);have HT:=qH (nIX hm hts);have HN:=qH (nIX hn (nIX hN hnd));have HV:=qH (nIX hcn hV);have HX:=qH (nIX hsp (nIX hsl hRl));have HR:=qH hR;have HIdx:=qH (fun W (hW:Ext X W) (s:ByteArray)=>oK ts 1 s ta m cap W G hm (hts.ext (hA.kp.trans hW)) (by omega));have a1:=hA.atom.c1;subst hmx;clear hQr hQn hA hlo hm hts hn hN hnd hcn hV hsp hsl hRl hR;conv=>arg 4;whnf
 by_cases hne:sp.length=m
 ·have HE:=qH hne;have HNF:=qH (show ∀Y,Ext X Y->¬qA ts sp->Qn Y from fun Y hY hf=>HQ.out.2 hne Y (hY.mono fun k _ h=>h.elim) ⟨S,iv,by
   rw [aC2,if_neg (fun h=>hf h.2)];exact HR.out.ext hY,fun k h=> .inl h,fun k h=> .inl h⟩)
  subst hne;gi_wp2;gi_loopw [58] (fun iv wr=>FitI X ts sp sp.length iv wr) (fun iv _=>sp.length- (intOf iv).toNat)
  case atStart=>exact⟨0,Nat.zero_le _,rfl,qH (Kp.refl _),qH (aEm _ _)⟩
  case round=>
   obtain⟨i,hi,rfl,hex,hfi⟩:=hrel;generalize hwr:wr=W at*;clear hwr;have a2:=hex.out.cell a1 id;by_cases hlt:i<sp.length
   ·obtain⟨t,ht⟩:∃t,ts[i]?=some t:=⟨_,qG (by rw [<-HT.out.1];exact hlt)⟩;obtain⟨b,off,eao,f0,f1,-,-⟩:=cX (HT.out.2.ext (HA.out.1.kp.trans hex.out)) ht;subst eao;obtain⟨x,hx⟩:∃x,sp[i]?=some x:=⟨_,qG hlt⟩;obtain⟨xb,xo,exa,xc⟩:=(HX.out.1.ext hex.out) i (.string x) (by simp [strs,hx]);subst exa;obtain⟨kt,st,⟨⟩⟩:=t;simp only at f0 f1;have HTt:=qH ht;have HXx:=qH hx;clear ht hx;gi_wp2;obtain⟨bx,ebx⟩:=nm W.heap.size;obtain⟨W1,eW1⟩:=nm (W.alloc (.cells #[.int .i64 kt,.string st] 38));have hBx:=bNX ebx eW1;have hx1:Ext W W1:=xAX eW1;rw [ebx,eW1];have HEx:=qH (hex.out.trans hx1);have HGx:bK sp i=x:=by unfold bK;rw [List.getD_eq_getElem?_getD,HXx.out];rfl
    have HGX:=qH HGx;have hb0:=hBx.c0;have hb1:=hBx.c1;have a3:=hx1.cell a2 id;have xc1:=hx1.cell xc id;clear eW1 ebx hBx hx1 f0 f1 a2 xc hex HGx;by_cases k3:kt=3
    ·subst k3;have HJ:=qH (show ∀w',Ext W1 w'->(fun w':World=>w'.cell? ⟨g0,1,none⟩=some (.slice (some ⟨b,off,none⟩) sp.length cap)/\w'.cell? ⟨bx,0,none⟩=some (.int .i64 3)/\w'.cell? ⟨bx,1,none⟩=some (.string st)/\w'.cell? ⟨xb,xo+i,none⟩=some (.string x)) w' from fun w' hw'=>⟨hw'.cell a3 id,hw'.cell hb0 id,hw'.cell hb1 id,hw'.cell xc1 id⟩);clear hb0 hb1 a3 xc1;by_cases hq:x=st
     ·subst hq;have hb:=str_eq x;refine eM (fun w':World=>w'.cell? ⟨g0,1,none⟩=some (.slice (some ⟨b,off,none⟩) sp.length cap)/\w'.cell? ⟨bx,0,none⟩=some (.int .i64 3)/\w'.cell? ⟨bx,1,none⟩=some (.string x)/\w'.cell? ⟨xb,xo+i,none⟩=some (.string x)) [] (by kernel_rfl) (HJ.out _ (Kp.refl W1).drew) (fun hHeld=>?_);refine eFX 0 ?_;refine eIX 1 ?_;refine eFX 2 ?_;refine eFX 3 ?_;refine eGX 4 ?_;refine eGX 5 ?_;refine eHX 6 ?_;refine eHX 7 ?_;refine eGX 8 ?_;refine eHX 9 ?_;refine eGX 10 ?_;refine eFX 11 ?_;refine eFX 12 ?_;refine eGX 13 ?_;refine eHX 14 ?_;refine eGX 15 ?_;refine eGX 16 ?_;refine eGX 17 ?_;refine eGX 18 ?_;refine eHX 19 ?_;refine eHX 20 ?_;refine eGX 21 ?_;refine eHX 22 ?_;refine eHX 23 ?_;refine eGX 24 ?_;refine eGX 25 ?_;refine eHX 26 ?_;refine eHX 27 ?_;refine eGX 28 ?_;refine eGX 29 ?_;refine eFX 30 ?_;refine aK (by kernel_rfl) ?_ _;clear hHeld;gi_wp2;go_roundw
      case rel=>exact⟨i+1,by omega,nMX,qH (HEx.out.trans (Kp.refl W1).drew),qH (oN hfi.out HTt.out (fun _=>HGX.out) (fun h=>by cases h))⟩
      case measure=>simp [intOf];omega
     ·have hb:=kU hq;have HQn:=qH hq;clear hq;refine eM (fun w':World=>w'.cell? ⟨g0,1,none⟩=some (.slice (some ⟨b,off,none⟩) sp.length cap)/\w'.cell? ⟨bx,0,none⟩=some (.int .i64 3)/\w'.cell? ⟨bx,1,none⟩=some (.string st)/\w'.cell? ⟨xb,xo+i,none⟩=some (.string x)) [] (by kernel_rfl) (HJ.out _ (Kp.refl W1).drew) (fun hHeld=>?_);refine eFX 0 ?_;refine eIX 1 ?_;refine eFX 2 ?_;refine eFX 3 ?_;refine eGX 4 ?_;refine eGX 5 ?_;refine eHX 6 ?_;refine eHX 7 ?_;refine eGX 8 ?_;refine eHX 9 ?_;refine eGX 10 ?_;refine eFX 11 ?_;refine eFX 12 ?_;refine eGX 13 ?_;refine eHX 14 ?_;refine eGX 15 ?_;refine eGX 16 ?_;refine eGX 17 ?_;refine eGX 18 ?_;refine eHX 19 ?_;refine eHX 20 ?_;refine eGX 21 ?_;refine eHX 22 ?_;refine eHX 23 ?_;refine eGX 24 ?_;refine eGX 25 ?_;refine eHX 26 ?_;refine eHX 27 ?_;refine eGX 28 ?_;refine eGX 29 ?_;refine eFX 30 ?_;refine aK (by kernel_rfl) ?_ _;clear hHeld;gi_wp2;exact HNF.out _ (HEx.out.trans (Kp.refl W1).drew) fun hf=>HQn.out (HGX.out.symm.trans ((hf i _ HTt.out).1 rfl))
    ·have g3:(kt==3)=false:=by simp [k3]
     have HK3:=qH k3;clear k3;by_cases k1:kt=1
     ·subst k1;have hany:ts.any (isV st)=true:=lQ HTt.out (by simp [isV]);obtain⟨hfst,hfl⟩:=yN hany;obtain⟨q,eq⟩:=nm (fQ ts st);rw [eq]at hfst hfl;have hql:q<sp.length:=by rw [HT.out.1];exact hfl
      obtain⟨y,hy⟩:∃y,sp[q]?=some y:=⟨_,qG hql⟩;obtain⟨yb,yo,eya,yc⟩:=(HX.out.1.ext HEx.out) q (.string y) (by simp [strs,hy]);cases eya;have HGy:=qH (show bK sp q=y by unfold bK;rw [List.getD_eq_getElem?_getD,hy];rfl);have HI2:=qH (show ∀W2,Ext X W2->Calls Tryz.prog 150 #[.slice (some ⟨b,off,none⟩) sp.length cap,.agg #[.int .i64 1,.string st]] W2 (RetN W2 fun w' v=>v= .int .i64 (q:Nat))from fun W2 hW2=>by have h:=HIdx.out W2 hW2 st;rw [hfst]at h;exact h);have HFq:=qH eq;have hql':(q:Int)< (sp.length:Int):=by omega
      have HJ:=qH (show ∀w',Ext W1 w'->(fun w':World=>w'.cell? ⟨g0,1,none⟩=some (.slice (some ⟨b,off,none⟩) sp.length cap)/\w'.cell? ⟨bx,0,none⟩=some (.int .i64 1)/\w'.cell? ⟨bx,1,none⟩=some (.string st)/\w'.cell? ⟨xb,xo+i,none⟩=some (.string x)/\w'.cell? ⟨xb,xo+q,none⟩=some (.string y)) w' from fun w' hw'=>⟨hw'.cell a3 id,hw'.cell hb0 id,hw'.cell hb1 id,hw'.cell xc1 id,hw'.cell yc id⟩);clear hb0 hb1 a3 xc1 yc hany hfst hfl hy eq;by_cases hq:y=x
      ·have HYq:=qH hq;subst hq;have hb:=str_eq y;refine eM (fun w':World=>w'.cell? ⟨g0,1,none⟩=some (.slice (some ⟨b,off,none⟩) sp.length cap)/\w'.cell? ⟨bx,0,none⟩=some (.int .i64 1)/\w'.cell? ⟨bx,1,none⟩=some (.string st)/\w'.cell? ⟨xb,xo+i,none⟩=some (.string y)/\w'.cell? ⟨xb,xo+q,none⟩=some (.string y)) [] (by kernel_rfl) (HJ.out _ (Kp.refl W1).drew) (fun hHeld=>?_);refine eFX 0 ?_;refine eIX 1 ?_;refine eFX 2 ?_;refine eFX 3 ?_;refine eGX 4 ?_;refine eGX 5 ?_;refine eHX 6 ?_;refine eHX 7 ?_;refine eGX 8 ?_;refine eHX 9 ?_;refine eGX 10 ?_;refine eFX 11 ?_;refine eFX 12 ?_;refine eGX 13 ?_;refine eHX 14 ?_;refine eGX 15 ?_;refine eGX 16 ?_;refine eGX 17 ?_;refine eGX 18 ?_;refine eHX 19 ?_;refine eHX 20 ?_;refine eGX 24 ?_;refine eGX 25 ?_;refine eHX 26 ?_;refine eHX 27 ?_;refine eTX 21 fun K hK=>?_;go_simp
       (refine(HI2.out _ (HEx.out.trans (Kp.refl W1).drew)).mono ?_;rintro e w2 ⟨v2,rfl,hk2,rfl⟩;have X1:=qH (show Ext W1 w2 from((Kp.refl W1).drew).trans hk2);clear hk2)
       go_wp2_with fail
       refine hK.out _ _ (HJ.out _ X1.out) fun hHeld=>?_;clear hK K;refine eHX 22 ?_;refine eHX 23 ?_;refine eGX 28 ?_;refine eGX 29 ?_;refine eFX 30 ?_;refine aK (by kernel_rfl) ?_ _;clear hHeld;gi_wp2;go_roundw
       case rel=>exact⟨i+1,by omega,nMX,qH (HEx.out.trans X1.out),qH (oN hfi.out HTt.out (fun h=>by cases h) (fun _=>by show bK sp (fQ ts st)=_;rw [HFq.out,HGy.out,HGX.out]))⟩
       case measure=>simp [intOf];omega
      ·have hb:=kU hq;have HYq:=qH hq;clear hq;refine eM (fun w':World=>w'.cell? ⟨g0,1,none⟩=some (.slice (some ⟨b,off,none⟩) sp.length cap)/\w'.cell? ⟨bx,0,none⟩=some (.int .i64 1)/\w'.cell? ⟨bx,1,none⟩=some (.string st)/\w'.cell? ⟨xb,xo+i,none⟩=some (.string x)/\w'.cell? ⟨xb,xo+q,none⟩=some (.string y)) [] (by kernel_rfl) (HJ.out _ (Kp.refl W1).drew) (fun hHeld=>?_);refine eFX 0 ?_;refine eIX 1 ?_;refine eFX 2 ?_;refine eFX 3 ?_;refine eGX 4 ?_;refine eGX 5 ?_;refine eHX 6 ?_;refine eHX 7 ?_;refine eGX 8 ?_;refine eHX 9 ?_;refine eGX 10 ?_;refine eFX 11 ?_;refine eFX 12 ?_;refine eGX 13 ?_;refine eHX 14 ?_;refine eGX 15 ?_;refine eGX 16 ?_;refine eGX 17 ?_;refine eGX 18 ?_;refine eHX 19 ?_;refine eHX 20 ?_;refine eGX 24 ?_;refine eGX 25 ?_;refine eHX 26 ?_;refine eHX 27 ?_;refine eTX 21 fun K hK=>?_;go_simp
       (refine(HI2.out _ (HEx.out.trans (Kp.refl W1).drew)).mono ?_;rintro e w2 ⟨v2,rfl,hk2,rfl⟩;have X1:=qH (show Ext W1 w2 from((Kp.refl W1).drew).trans hk2);clear hk2)
       go_wp2_with fail
       refine hK.out _ _ (HJ.out _ X1.out) fun hHeld=>?_;clear hK K;refine eHX 22 ?_;refine eHX 23 ?_;refine eGX 28 ?_;refine eGX 29 ?_;refine eFX 30 ?_;refine aK (by kernel_rfl) ?_ _;clear hHeld;gi_wp2;exact HNF.out _ (HEx.out.trans X1.out) fun hf=>HYq.out (by have h:=(hf i _ HTt.out).2 rfl;have h2:bK sp (fQ ts st)=bK sp i:=h;rw [HFq.out,HGy.out,HGX.out]at h2;exact h2)
     ·have g1:(kt==1)=false:=by simp [k1]
      have HK1:=qH k1;clear k1;have HJ:=qH (show ∀w',Ext W1 w'->(fun w':World=>w'.cell? ⟨g0,1,none⟩=some (.slice (some ⟨b,off,none⟩) sp.length cap)/\w'.cell? ⟨bx,0,none⟩=some (.int .i64 kt)/\w'.cell? ⟨bx,1,none⟩=some (.string st)/\w'.cell? ⟨xb,xo+i,none⟩=some (.string x)) w' from fun w' hw'=>⟨hw'.cell a3 id,hw'.cell hb0 id,hw'.cell hb1 id,hw'.cell xc1 id⟩);clear hb0 hb1 a3 xc1;refine eM (fun w':World=>w'.cell? ⟨g0,1,none⟩=some (.slice (some ⟨b,off,none⟩) sp.length cap)/\w'.cell? ⟨bx,0,none⟩=some (.int .i64 kt)/\w'.cell? ⟨bx,1,none⟩=some (.string st)/\w'.cell? ⟨xb,xo+i,none⟩=some (.string x)) [] (by kernel_rfl) (HJ.out _ (Kp.refl W1).drew) (fun hHeld=>?_);refine eFX 0 ?_;refine eIX 1 ?_;refine eFX 2 ?_;refine eFX 3 ?_;refine eGX 4 ?_;refine eGX 5 ?_;refine eHX 6 ?_;refine eHX 7 ?_;refine eGX 8 ?_;refine eHX 9 ?_;refine eGX 10 ?_;refine eFX 11 ?_;refine eFX 12 ?_;refine eGX 13 ?_;refine eHX 14 ?_;refine eGX 15 ?_;refine eGX 16 ?_;refine eGX 17 ?_;refine eGX 18 ?_;refine eHX 19 ?_;refine eHX 20 ?_;refine eGX 21 ?_;refine eHX 22 ?_;refine eHX 23 ?_;refine eGX 24 ?_;refine eGX 25 ?_;refine eHX 26 ?_;refine eHX 27 ?_;refine eGX 28 ?_;refine eGX 29 ?_;refine eFX 30 ?_;refine aK (by kernel_rfl) ?_ _;clear hHeld;gi_wp2;go_roundw
      case rel=>exact⟨i+1,by omega,nMX,qH (HEx.out.trans (Kp.refl W1).drew),qH (oN hfi.out HTt.out (fun h=>absurd h HK3.out) (fun h=>absurd h HK1.out))⟩
      case measure=>simp [intOf];omega
   ·obtain rfl:sp.length=i:=by omega
    have HFit:=qH (show qA ts sp from aG3.1 (by rw [<-HT.out.1];exact hfi.out));have HEW:=qH hex.out;have b0:=(HA.out.1.tab.ext hex.out).c0;obtain⟨P,eP⟩:=nm (iR N ts sp);have hPl:P.length=cn:=by rw [<-eP,HV.out.1];unfold iR;rw [List.length_map]
    have HP:=qH (nIX eP hPl);have hcn64:cn≤64:=by have:=pA (ts:=ts) HN.out.2.2;rw [HV.out.1];have:=HT.out.1;omega
    clear eP hPl hex hfi hi hlt a1 a2;gi_wp2;clear b0;gi_loopw [13,98] (fun ov jv wr=>OutI W P cn ov jv wr) (fun _ jv _=>cn- (intOf jv).toNat)
    case atStart=>exact⟨0,Nat.zero_le _,rfl,qH (Kp.refl _),qH (Row.nil _ _ _ _)⟩
    case round=>
     obtain⟨j,hj,rfl,hex,hro⟩:=hrel;obtain⟨oa,oc,eov,hoc,_⟩:=hro.out.shape;subst eov;have HW:=qH (nIX (HEW.out.trans hex.out) hro.out);by_cases hlt:j<cn
     ·obtain⟨v,hv⟩:∃v,(aY N ts)[j]?=some v:=⟨_,qG (by rw [<-HV.out.1];exact hlt)⟩;obtain⟨hvn,hvi⟩:=eD.1 (List.mem_of_getElem? hv);obtain⟨s,hs⟩:∃s,N[v]?=some s:=⟨_,qG hvn⟩;have hgs:bK N v=s:=by unfold bK;rw [List.getD_eq_getElem?_getD,hs];rfl
      have hany:ts.any (isV s)=true:=by obtain⟨i,t,hi,h1,h2⟩:=hvi;exact lQ hi (by unfold isV;exact decide_eq_true ⟨h1,h2.trans hgs⟩)
      obtain⟨hfst,hfl⟩:=yN hany;obtain⟨q,eq⟩:=nm (fQ ts s);rw [eq]at hfst hfl;have hql:q<sp.length:=by rw [HT.out.1];exact hfl
      obtain⟨y,hy⟩:∃y,sp[q]?=some y:=⟨_,qG hql⟩;obtain⟨xb,xo,exa,yc⟩:=(HX.out.1.ext HW.out.1) q (.string y) (by simp [strs,hy]);obtain⟨nb,no,ena,sc⟩:=(HN.out.2.1.ext (HA.out.1.kp.trans HW.out.1)) v (.string s) (by simp [strs,hs]);obtain⟨vb,vo,eva,vc1⟩:=(HV.out.2.ext HW.out.1) j (.int .i64 v) (by unfold aCe ints;rw [List.map_map,List.getElem?_map,hv];rfl);subst exa ena eva;have hPj:P[j]?=some y:=by rw [<-HP.out.1];unfold iR;rw [List.getElem?_map,hv];show some (bK sp (fQ ts (bK N v)))=some y;rw [hgs,eq];unfold bK;rw [List.getD_eq_getElem?_getD,hy];rfl
      have HPj:=qH (show strs (P.take (j+1))=strs (P.take j)++ [.string y]from by rw [List.take_add_one,hPj];simp [strs]);have HI2:=qH (show ∀W2,Ext X W2->Calls Tryz.prog 150 #[.slice ta sp.length cap,.agg #[.int .i64 1,.string s]] W2 (RetN W2 fun w' v=>v= .int .i64 (q:Nat))from fun W2 hW2=>by have h:=HIdx.out W2 hW2 s;rw [hfst]at h;exact h);have hql':(q:Int)< (sp.length:Int):=by omega
      have hvn':v<nn:=by rw [HN.out.1];exact hvn
      have hvn2:(v:Int)< (nn:Int):=by omega
      have hlt2:(j:Int)< (cn:Int):=by omega
      have a4:=(HA.out.1.atom.ext HW.out.1).c1;have n4:=(HA.out.1.names.ext HW.out.1).c0;have HJ:=qH (show ∀w',Ext wr w'->(fun w':World=>w'.cell? ⟨g0,1,none⟩=some (.slice ta sp.length cap)/\w'.cell? ⟨g0+1,0,none⟩=some (.slice (some ⟨nb,no,none⟩) nn nc)/\w'.cell? ⟨nb,no+v,none⟩=some (.string s)/\w'.cell? ⟨xb,xo+q,none⟩=some (.string y)) w' from fun w' hw'=>⟨hw'.cell a4 id,hw'.cell n4 id,hw'.cell sc id,hw'.cell yc id⟩);clear hvi hgs hany hfst hfl eq hy hv hs hvn hPj a4 n4 sc yc hoc hj;gi_wp2;refine eM (fun w':World=>w'.cell? ⟨g0,1,none⟩=some (.slice ta sp.length cap)/\w'.cell? ⟨g0+1,0,none⟩=some (.slice (some ⟨nb,no,none⟩) nn nc)/\w'.cell? ⟨nb,no+v,none⟩=some (.string s)/\w'.cell? ⟨xb,xo+q,none⟩=some (.string y)) [13,14] (by kernel_rfl) (HJ.out _ (Kp.refl wr).drew) (fun hHeld=>?_);refine eFX 0 ?_;refine eFX 1 ?_;refine eFX 2 ?_;refine eIX 3 ?_;refine eIX 4 ?_;refine eFX 5 ?_;refine eIX 6 ?_;refine eIX 7 ?_;refine eFX 8 ?_;refine eTX 9 fun K hK=>?_;go_simp
      (refine(HI2.out _ (HW.out.1.trans (Kp.refl wr).drew)).mono ?_;rintro e w2 ⟨v2,rfl,hk2,rfl⟩;have X1:=qH (show Ext wr w2 from((Kp.refl wr).drew).trans hk2);clear hk2)
      go_wp2_with fail
      refine hK.out _ _ (HJ.out _ X1.out) fun hHeld=>?_;clear hK K;refine eIX 10 ?_;refine eIX 11 ?_;refine eTX 12 fun K hK=>?_;go_simp;refine hK.out _ _ (HJ.out _ (X1.out.alloc _)) fun hHeld=>?_;clear hK K;refine eLX 13 fun K hK=>?_;refine jD (m:=1) (n:=j) dZ rfl _ _ rfl rfl ((HW.out.2.ext X1.out).alloc _) rfl (CellsAt.one w2 _ _) (by rfl) (by simp;rfl) (by omega) (by unfold maxLen;omega) ?_;intro v4 w4 hr4 hk4;obtain⟨la4,lcap4,elv,_,_⟩:=hr4.shape;subst elv;have X2:=qH (nIX (show Row w4 9 1 (.slice la4 (j+1) lcap4) (j+1) (strs (P.take j)++ [.string y]) (fun g=>(Value.slice oa j oc).ownBlock=some g\/ (w2.alloc (.cells #[.string y] 9)).heap.size≤g)from hr4) (show Kp (fun g=>(Value.slice oa j oc).ownBlock=some g) (w2.alloc (.cells #[.string y] 9)) w4 from hk4));clear hr4 hk4;refine hK.out _ _ ?_;clear hK K;refine eLX 14 fun K hK=>?_;go_simp;refine hK.out _ _ ?_;clear hK K;refine aK (by kernel_rfl) ?_ _;clear hHeld;gi_wp2;go_roundw
      case rel=>exact⟨j+1,by omega,nMX,qH (hex.out.trans' ((Ext.kp (X1.out.alloc _)).trans X2.out.2) fun k hk hf=>by have h2:W.heap.size≤k:=HW.out.2.block k hf;omega),qH (by
       rw [HPj.out];refine X2.out.1.mono fun g hg=>?_;rcases hg with hg|hg
       ·exact HW.out.2.block g hg
       ·exact Nat.le_trans (hex.out.size) (Nat.le_trans ((X1.out.alloc _).size) hg))⟩
      case measure=>simp [intOf];omega
     ·obtain rfl:cn=j:=by omega
      have hPt:P.take cn=P:=List.take_of_length_le (by rw [HP.out.2];exact Nat.le_refl _);have hro2:=hro.out;rw [hPt]at hro2;have hrd:ReadsAs wr (oa,cn,oc) P:=⟨HP.out.2.symm,(Row.readsAs (x:=(oa,cn,oc)) (ss:=P) (by rw [HP.out.2];exact hro2)).1.2⟩;have hAdd:=aAp (z:=False) ((HR.out.ext HW.out.1).q) (wJ N ts R) (ao:=oa) (n:=cn) (cap:=oc) (ss:=P) ⟨hrd,by rw [HP.out.2];omega,fun a e _=>by
       subst e;exact hro2.lt a.block rfl⟩ (fun a e _ ho=>by
       have e':oa=some a:=e;subst e';have h1:W.heap.size≤a.block:=hro2.block a.block rfl;have h2:a.block<X.heap.size:=RowsQ.ownLt (z:=False) HR.out.q _ ho;have h3:=HEW.out.size;omega) (by have:=vT N ts R;have:=HX.out.2.2;omega)
      have HAdd:=qH hAdd;have b5:=(HA.out.1.tab.ext HW.out.1).c1;have HRd:=qH hrd;clear hPt hro2 hrd hAdd hoc;gi_wp2;refine nIX trivial ?_;refine(CallsIn.inRound l (callsIn_wide.2 HAdd.out)).mono ?_;rintro e w5 ⟨v5,rfl,hk5,-,S',iv',-,h2,h3,h4⟩;have h3':RowsAt S' w5 rb iv' cn (dU N ts (R++ [sp])):=by
       rw [aC2,if_pos ⟨HT.out.1,HFit.out⟩,<-aM1 (n:=cn) HV.out.1 HX.out.2.1 HX.out.2.2,HP.out.1];rcases h3 with h3|h3
       ·exact h3
       ·exact h3.1.elim
      have hszW:=HW.out.1.size;have HFin:=qH (HQ.out.2 trivial w5 ((Ext.kp HW.out.1).trans hk5) ⟨S',iv',h3',fun k hk=>(h2 k hk).imp id (fun h=>Nat.le_trans hszW h),fun k hk=>(h4 k hk).imp id (fun h=>Nat.le_trans hszW h)⟩);clear h3 h3' h2 h4 hk5;gi_wp2;exact HFin.out
 ·have hne':((sp.length:Int)==(m:Int))=false:=by simp;omega
  have b0:=HA.out.1.tab.c0;have b1:=HA.out.1.tab.c1;have r0:=HA.out.1.res.c0;have r1:=HA.out.1.res.c1;have c0:=HA.out.1.res.free 0;have c1:=HA.out.1.res.free 1;gi_wp2;exact HQ.out.1 hne _ (kSb) ((HA.out.1.res.set 0 _).set 1 _)
def LikeI(xs ys:List ByteArray)(w:World)(n:Nat)(iv:Value)(W:World):Prop:=∃k:Nat,k≤n/\iv= .int .i64 k/\Hid (xs.take k=ys.take k)/\Hid (Ext w W)
set_option maxHeartbeats 1000000 in
theorem aHa(xs ys:List ByteArray)(a b:Option Addr)(n c d:Nat)(w:World)(hx:n=xs.length)(hy:n=ys.length)(ha:CellsAt w a (strs xs))(hb:CellsAt w b (strs ys))(hm:n≤1048576):
 Calls Tryz.prog 202 #[.slice a n c,.slice b n d] w (RetN w fun w' v=>v= .bool (decide (xs=ys))):=by
 have HX:=qH hx;have HY:=qH hy;have HA:=qH (nIX ha hb);clear hx hy ha hb;go_enter Tryz.func202,Tryz.ntmps202;go_wp2;go_loopw [13] (fun iv wr=>LikeI xs ys w n iv wr) (fun iv _=>n- (intOf iv).toNat)
 case atStart=>exact⟨0,Nat.zero_le _,rfl,qH (by simp),qH (Kp.refl _)⟩
 case round=>
  obtain⟨k,hk,rfl,H,hex⟩:=hrel;by_cases h1:k<n
  ·obtain⟨x,hx⟩:∃x,xs[k]?=some x:=⟨_,qG (by rw [<-HX.out];exact h1)⟩;obtain⟨y,hy⟩:∃y,ys[k]?=some y:=⟨_,qG (by rw [<-HY.out];exact h1)⟩;obtain⟨b1,o1,e1,c1⟩:=(HA.out.1.ext hex.out) k (.string x) (by simp [strs,hx]);obtain⟨b2,o2,e2,c2⟩:=(HA.out.2.ext hex.out) k (.string y) (by simp [strs,hy]);subst e1 e2;have HK:=qH (nIX hx hy);clear hx hy;by_cases hq:x=y
   ·subst hq;have hs:=str_eq x;go_wp2;go_quiet (fail)
    go_wp2;go_roundw
    case rel=>exact⟨k+1,by omega,nMX,qH (by rw [List.take_add_one,List.take_add_one,HK.out.1,HK.out.2,H.out]),qH (hex.out.drewN _)⟩
    case measure=>simp [intOf];omega
   ·have hs:=kU hq;have HN:=qH (show decide (xs=ys)=false from decide_eq_false fun e=>hq (by have h1:=HK.out.1;rw [e,HK.out.2]at h1;cases h1;rfl));clear hq;go_wp2;go_quiet (fail)
    go_wp2;go_ret;exact RetN.mk (hex.out.drewN _) (by rw [HN.out];rfl)
  ·obtain rfl:n=k:=by omega
   have HN:=qH (show decide (xs=ys)=true from decide_eq_true (by
    have h:=H.out
    rwa [List.take_of_length_le (by rw [<-HX.out];exact Nat.le_refl _),List.take_of_length_le (by rw [<-HY.out];exact Nat.le_refl _)]at h))
   go_wp2;go_ret;exact RetN.mk hex.out (by rw [HN.out];rfl)
theorem aDs(xs ys:List ByteArray)(a b:Option Addr)(c d:Nat)(w:World)(ha:CellsAt w a (strs xs))(hb:CellsAt w b (strs ys))(hx:xs.length≤maxLen)(hy:ys.length≤maxLen):
 Calls Tryz.prog 200 #[.slice a xs.length c,.slice b ys.length d] w (Ret (.int .i64 (aC xs ys)) w):=by
 go_enter Tryz.func200,Tryz.ntmps200;go_wp2_with (go_at_call 160;(with_reducible refine(kF _ _ _ _ _ _ _ ha hb hx hy).mono ?_);rintro e w' ⟨rfl,rfl⟩)
 go_ret;exact Ret.mk rfl
theorem aF7(xs ys:List ByteArray)(a b:Option Addr)(n c d:Nat)(w:World)(hx:n=xs.length)(hy:n=ys.length)(ha:CellsAt w a (strs xs))(hb:CellsAt w b (strs ys))(hm:n≤1048576):
 Calls Tryz.prog 201 #[.slice a n c,.slice b n d] w (RetN w fun w' v=>v= .bool (decide (xs=ys))):=by
 have H:=qH (aHa xs ys a b n c d w hx hy ha hb hm);clear hx hy ha hb;go_enter Tryz.func201,Tryz.ntmps201;go_wp2_with fail
 refine H.out.mono ?_;rintro e w1 ⟨v,rfl,hk,rfl⟩;go_wp2;go_ret;exact RetN.mk hk rfl
theorem aBx{F:Fence}{n:Nat}{P:Program}{ops:Array Oper}{rest:List Oper}{o:Oper}{a:Act}{Q:Exit->Act->World->Prop}{w w':World}(hg:o.guard=none)(s x:Operand){t:TypeId}{v vx v':Value}
 (ho:o.op= .call {callee:= .builtin .append,args:=#[s,x],argTypes:=#[t,t]})(hs:a.eval s=v)(hx:a.eval x=vx)(hrun:(Builtin.append_ #[t,t] o.type #[v,vx]).run P w= .ok v' w')(hK:wpListIn F n P ops Q rest (a.put o.dst v') w'):wpListIn F n P ops Q (o::rest) a w:=by
 refine wpListIn_plain hg fun K hK'=>?_;unfold Oper.wpIn;refine⟨?_,?_⟩
 ·simp [Oper.about,ho,resolve,Target.leads,Sem.run_pure]
 ·rw [Oper.semAt_plain F _ _ (by rw [ho];intro c hc';cases hc')];simp only [execOp,ho,resolve,invoke,builtin,Sem.run_bind,Sem.run_pure,Result.andThen_ok,List.map_toArray,List.map_cons,List.map_nil,hs,hx,hrun];exact hK' _ _ hK
noncomputable def aDt:Code:=((Tryz.f177.body.bind cM).getD .skip)
theorem lit39(t:Array Value)(h:t.size=39):∃u:Nat->Value,(∀i,t.getD i undef=u i)/\t=#[u 0,u 1,u 2,u 3,u 4,u 5,u 6,u 7,u 8,u 9,u 10,u 11,u 12,u 13,u 14,u 15,u 16,u 17,u 18,u 19,u 20,u 21,u 22,u 23,u 24,u 25,u 26,u 27,u 28,u 29,u 30,u 31,u 32,u 33,u 34,u 35,u 36,u 37,u 38]:=by refine⟨fun i=>t.toList.getD i undef,fun i=>by simp [Array.getD_eq_getD_getElem?,List.getD_eq_getElem?_getD],?_⟩;apply Array.ext';have:=lH t.toList 39 (by simpa using h);exact this
def aOa(X:World)(gw:Nat)(sp:List ByteArray)(m:Nat)(iv:Value)(W:World):Prop:=∃i:Nat,i≤m/\iv= .int .i64 i/\Hid (Ext X W)/\Hid (Blk W gw (strs (sp.take i)++List.replicate (m-i) (.string ⟨#[]⟩)) 9)
set_option maxHeartbeats 8000000 in
theorem aF6{α:Type}{f:α->List ByteArray}{pre:List α}{y:α}{w w0 X:World}{ob bb l M:Nat}{oa ax:Option Addr}{m oc mx cx:Nat}{sp:List ByteArray}{t:Array Value}{Qn:World->Prop}
 (hO:Blk X ob [.slice oa m oc] 173)(hord:CellsAt X oa (ints ((List.range m).map fun(v:Nat)=>(v:Int))))(hm64:m≤64)(hmx:mx=sp.length)(hl:sp.length=m)(hsp:CellsAt X ax (strs sp))(hy:f y=sp)(hpl:pre.length≤M/\M≤1048576*1048576)(hG:GotRows f M w0 bb pre X)(hbb:bb<w0.heap.size)
 (hz:t.size=39)(t3:t.getD 3 undef= .pointer (some ⟨ob,0,none⟩))(t5:t.getD 5 undef= .pointer (some ⟨bb,0,none⟩))(t6:t.getD 6 undef= .slice ax mx cx)
 (hQn:∀X',KeepsOthers X X'->Kp (fun g=>g=bb\/w0.heap.size≤g) X X'->Kp (fun g=>g=bb) w0 X'->(∃v,Blk X' bb [v] 69/\OwnRows w0.heap.size X' v ((pre++ [y]).map f))->Qn X'):
 aDt.wpIn (Fence.wide.inRound l) 2 Tryz.prog (fU Qn fun _=>False) {tmps:=t,defers:= []} X:=by
 obtain⟨u,hu,rfl⟩:=lit39 t hz;have e3:=(hu 3).symm.trans t3;have e5:=(hu 5).symm.trans t5;have e6:=(hu 6).symm.trans t6;rw [e3,e5,e6];clear hz t3 t5 t6 e3 e5 e6 hu;obtain⟨-,hk0,v,hBv,hOw⟩:=hG;obtain⟨ao,cap,ev,-⟩:=hOw.shape;subst ev;rw [List.length_map]at hBv hOw;have HQ:=qH hQn;have HO:=qH (nIX hO hord);have HX:=qH (nIX hsp hy);have HG:=qH (nIX hk0 (nIX hBv (nIX hOw (nIX hpl hbb))));have a1:=hO.c0;have a2:∀o,(X.alloc o).cell? ⟨ob,0,none⟩=some (.slice oa m oc):=fun o=>by rw [(hO.alloc o).cell'];rfl
 have b1:=hBv.c0;subst hmx;subst hl;clear hQn hO hord hsp hk0 hBv hOw hpl hbb hy;have hmk:=jU (P:=Tryz.prog) dZ (c:= .string ⟨#[]⟩) rfl sp.length (by omega) (by unfold maxLen;omega) X;rw [Nat.mul_one]at hmk;conv=>arg 4;whnf
 gi_wp2;clear hmk;obtain⟨gw,egw⟩:=nm X.heap.size;obtain⟨X1,eX1⟩:=nm (X.alloc (.cells (Array.replicate sp.length (.string ⟨#[]⟩)) 9));have hB1:Blk X1 gw (List.replicate sp.length (.string ⟨#[]⟩)) 9:=by have h:=Blk.new X (List.replicate sp.length (.string ⟨#[]⟩)) 9;rw [List.toArray_replicate,eX1,egw]at h;exact h
 have hx1:Ext X X1:=xAX eX1;rw [egw,eX1];have H1:=qH (nIX hB1 (nIX hx1 egw));clear egw eX1 hB1 hx1 a1 a2;gi_loopw [18] (fun iv wr=>aOa X gw sp sp.length iv wr) (fun iv _=>sp.length- (intOf iv).toNat)
 case atStart=>exact⟨0,Nat.zero_le _,rfl,qH H1.out.2.1,qH (by simpa [strs]using H1.out.1)⟩
 case round=>
  obtain⟨i,hi,rfl,hex,hw⟩:=hrel;by_cases hlt:i<sp.length
  ·obtain⟨x,hx⟩:∃x,sp[i]?=some x:=⟨_,qG hlt⟩;obtain⟨xb,xo,exa,xc⟩:=(HX.out.1.ext hex.out) i (.string x) (by simp [strs,hx]);obtain⟨vb,vo,eva,vc1⟩:=(HO.out.2.ext hex.out) i (.int .i64 i) (by unfold ints;rw [List.map_map,List.getElem?_map,List.getElem?_range hlt];rfl);subst exa eva;have y0:wr.cell? ⟨gw,i,none⟩=some (.string ⟨#[]⟩):=by
    rw [hw.out.cell',List.getElem?_append_right (by rw [eE,List.length_take];omega),eE,List.length_take,Nat.min_eq_left (by omega),Nat.sub_self,List.getElem?_replicate,if_pos (by omega)]
   have yf:=hw.out.free i;have i1:(i:Int)< (sp.length:Int):=by omega
   have HNX:=qH (show aOa X gw sp sp.length (.int .i64 ((i:Int)+1)) (wr.setCell ⟨gw,i,none⟩ (.string x))from by
    refine⟨i+1,by omega,nMX,qH (hex.out.setCell (p:=⟨gw,i,none⟩) (fun h2=>by have h3:gw<X.heap.size:=h2;have:=H1.out.2.2;omega) _),qH ?_⟩;have h5:=hw.out.set i (.string x);have e5:(strs (sp.take i)++List.replicate (sp.length-i) (Value.string ⟨#[]⟩)).set i (.string x)=strs (sp.take (i+1))++List.replicate (sp.length- (i+1)) (.string ⟨#[]⟩):=by rw [List.set_append_right _ _ (by rw [eE,List.length_take];omega),eE,List.length_take,Nat.min_eq_left (by omega),Nat.sub_self,show sp.length-i=(sp.length- (i+1))+1 from by omega,List.replicate_succ,List.set_cons_zero,List.take_add_one,hx];simp [strs]
    rw [e5]at h5;exact h5)
   clear hx hw hex;gi_wp2;go_roundw
   case rel=>exact HNX.out
   case measure=>simp [intOf];omega
  ·obtain rfl:i=sp.length:=by omega
   have hwb:=hw.out;rw [List.take_of_length_le (Nat.le_refl _),Nat.sub_self,List.replicate_zero,List.append_nil]at hwb;have hrow:Row wr 9 1 (.slice (some ⟨gw,0,none⟩) sp.length sp.length) sp.length (strs sp) (New X):=by refine⟨by rw [eE];omega,.inr ⟨gw,sp.length,[],rfl,Nat.le_of_eq H1.out.2.2,by rw [List.append_nil];exact hwb,by rw [List.append_nil,eE];omega,Nat.le_refl _,by unfold maxLen;omega⟩⟩
   obtain⟨g1,g2,g3,g4,g5⟩:=HG.out;obtain⟨ao3,n3,cap3,w3,hrunA,d1,d2,HFIN⟩:=kJ (f:=f) (x:=(some ⟨gw,0,none⟩,sp.length,sp.length)) g4 g1 g5 g2 g3 hex.out hrow (by omega);have HFI:=qH (HFIN y HX.out.2);have b2:wr.cell? ⟨bb,0,none⟩=some (.slice ao pre.length cap):=hex.out.cell b1 id;clear HFIN hrow hwb hw hex g1 g2 g3 g4 g5 b1;gi_wp2_with (first|(gi_at_builtin;refine Halted.out ?_))
   refine Halted.mk (aBx rfl _ _ rfl rfl rfl hrunA ?_);clear hrunA;obtain⟨q1,q2,q3,q4⟩:=HFI.out;have HFin:=qH (HQ.out _ q1 q2 q3 q4);clear q1 q2 q3 q4 HFI;gi_wp2;exact HFin.out
end
section
open Go.RowKit Go.Shelf Go.Lib Go.Sort
theorem nK{α:Type} [Inhabited α]{enc:α->Value}{w:World}{blk:Nat}{xs ys:List α}{rest:List Value}{e:TypeId}(hB:Blk w blk (xs.map enc++rest) e)(hl:ys.length=xs.length)(n:Nat)(os:Array Obj):
 Blk (sortWorld enc w blk 0 n ys.toArray os) blk (ys.map enc++rest) e/\Kp (fun k=>k=blk) w (sortWorld enc w blk 0 n ys.toArray os):=by
 have hlt:=hB.lt;have hsz:(putRow enc (Sort.ahead w n) blk 0 ys.toArray).heap.size=w.heap.size:=by simp [putRow,mapBlock,Sort.ahead]
 have hcells:putCells enc 0 ys.toArray (xs.map enc++rest).toArray=(ys.map enc++rest).toArray:=by
  apply Array.ext_getElem?;intro j;unfold putCells;rw [Array.getElem?_mapIdx];simp only [List.getElem?_toArray,Nat.zero_le,true_and,Nat.zero_add,Nat.sub_zero,List.size_toArray];by_cases hj:j<ys.length
  ·have h1:(ys.map enc++rest)[j]?=some (enc ys[j]):=by
    rw [List.getElem?_append_left (by rw [List.length_map];exact hj),List.getElem?_map,qG hj];rfl
   have h2:j< (xs.map enc++rest).length:=by rw [List.length_append,List.length_map];omega
   rw [h1,qG h2,Option.map_some,if_pos hj]
   congr 1
   show enc _=_;rw [getElem!_pos _ j (by simpa using hj)];simp
  ·have h1:(ys.map enc++rest)[j]?=(xs.map enc++rest)[j]?:=by
    rw [List.getElem?_append_right (by rw [List.length_map];omega),List.getElem?_append_right (by rw [List.length_map];omega),List.length_map,List.length_map,hl]
   rw [h1];cases (xs.map enc++rest)[j]? with
   |none=>rfl
   |some u=>simp [hj]
 have hblk:(putRow enc (Sort.ahead w n) blk 0 ys.toArray).heap[blk]?=some (.cells (ys.map enc++rest).toArray e (0,0)):=by unfold Blk at hB;simp only [putRow,mapBlock,Sort.ahead,Array.getElem?_modify,if_pos,hB,Option.map_some,onCells,hcells]
 constructor
 ·unfold Blk sortWorld;rw [heap_grow_old _ _ (by rw [hsz];exact hlt)];exact hblk
 ·refine⟨rfl,rfl,rfl,?_,fun k hk hne=>?_⟩
  ·simp [sortWorld,grow,putRow,mapBlock,Sort.ahead]
  ·unfold sortWorld;rw [heap_grow_old _ _ (by rw [hsz];exact hk)];simp only [putRow,mapBlock,Sort.ahead,Array.getElem?_modify];rw [if_neg (fun e=>hne e.symm)]
theorem aOh{α:Type}{c:α->α->Int}(O:OrdLaw c):SWO (ltOf c) where
 irrefl x:=by unfold ltOf;rw [decide_eq_false_iff_not,O.refl];omega
 trans x y z h1 h2:=by unfold ltOf at*;rw [decide_eq_true_eq]at*;exact O.lt_trans h1 (by omega)
 ntrans x y z h1 h2:=by
  unfold ltOf at*;rw [decide_eq_false_iff_not]at*;have h3:=O.le_of h1;have h4:=O.le_of h2;have h5:=O.trans z y x h4 h3;intro h6;exact O.asymm h6 (by
   rcases Int.lt_or_eq_of_le h5 with h7|h7
   ·exact h7
   ·have:=O.zero h7;omega)
abbrev aH4(p:eY):Value:= .slice p.1.1 p.1.2.1 p.1.2.2
theorem aLq{lo:Nat}{w:World}{v:Value}{LL:aD}(h:OwnRows lo w v LL)(hst:Strict aC LL)(hlen:∀x∈LL,x.length≤64)(hn:LL.length≤65536):
 Calls Tryz.prog 199 #[v,.func (.func 200) #[] #[]] w fun e w'=>e= .returned (.tuple #[])/\OwnRows lo w' v LL/\Kp (fun k=>v.ownBlock=some k) w w':=by
 obtain⟨ps,rfl,h2,h3,h4⟩:=h;have h2':=h2;obtain⟨q1,⟨ev,en⟩|⟨g,cap,rest,rfl,hg,hb,hbl,hnc,hcm⟩⟩:=h2'
 ·subst ev;refine(AnyF.slices_SortFunc_none Tryz.laysSlF06_f199 none 0 _ w).mono ?_;rintro e w2 ⟨rfl,rfl⟩;exact⟨rfl,⟨ps,rfl,h2,h3,h4⟩,Kp.refl _⟩
 ·by_cases h0:ps.length=0
  ·rw [h0];refine(AnyF.slices_SortFunc_none Tryz.laysSlF06_f199 (some ⟨g,0,none⟩) cap _ w).mono ?_;rintro e w2 ⟨rfl,rfl⟩;rw [h0]at h2;exact⟨rfl,⟨ps,rfl,by rw [h0];exact h2,h3,h4⟩,Kp.refl _⟩
  ·have hpos:0<ps.length:=Nat.pos_of_ne_zero h0
   letI:Inhabited (Fin ps.length):=⟨⟨0,hpos⟩⟩
   obtain⟨enc,eenc⟩:∃enc:Fin ps.length->Value,enc=fun i=>aH4 ps[i]:=⟨_,rfl⟩;have hvs:cJ ps=(List.finRange ps.length).map enc:=by subst eenc;unfold cJ;refine List.ext_getElem (by simp) fun i h1 h2=>?_;simp [aH4]
   have hH:Holds enc w g 0 (List.finRange ps.length).toArray:=fun j hj=>by
    have hj':j<ps.length:=by simpa using hj
    refine⟨?_,hb.free _⟩;rw [hb.cell',Nat.zero_add,List.getElem?_append_left (by unfold cJ;rw [List.length_map];exact hj'),hvs,List.getElem?_map,getElem!_pos _ j hj];simp [hj']
   have hcmp:CmpLays1 Tryz.prog 200 #[] enc (fun i j:Fin ps.length=>aC ps[i].2 ps[j].2) g 0 (List.finRange ps.length).toArray.size w:=fun m os dk hs x y=>by
    have hk:Kp (fun k=>k=g) w (sortWorld enc w g 0 m dk os):=by
     have hb':=hb;rw [hvs]at hb';have h:=(nK (ys:=dk.toList) hb' (by rw [Array.length_toList,hs];simp) m os).2
     rwa [Array.toArray_toList]at h
    have hc:∀i:Fin ps.length,ps[i].1.2.1=ps[i].2.length/\CellsAt (sortWorld enc w g 0 m dk os) ps[i].1.1 (strs ps[i].2)/\ps[i].2.length≤maxLen:=fun i=>by
     have hr:=(h3 ps[i] (List.getElem_mem _)).1;have hr':=Row.kp' hr hk fun g' hg' _ e=>by obtain⟨cs,hb2⟩:=aV hr hg';have e':g'=g:=e;rw [e']at hb2;exact absurd (aQ hb2 hb) (by decide)
     have hl:=hlen ps[i].2 (List.mem_map.2 ⟨ps[i],List.getElem_mem _,rfl⟩);exact⟨(Row.readsAs hr).1.1,(Row.readsAs hr').1.2,by unfold maxLen;omega⟩
    have h:=aDs ps[x].2 ps[y].2 ps[x].1.1 ps[y].1.1 ps[x].1.2.2 ps[y].1.2.2 (sortWorld enc w g 0 m dk os) (hc x).2.1 (hc y).2.1 (hc x).2.2 (hc y).2.2;have ex:∀i:Fin ps.length,enc i= .slice ps[i].1.1 ps[i].2.length ps[i].1.2.2:=fun i=>by rw [eenc,<- (hc i).1]
    show Calls _ _ #[enc x,enc y] _ _;rw [ex x,ex y];refine h.mono ?_;rintro e w' ⟨rfl,rfl⟩;exact⟨rfl,0,#[],by rw [grow_empty];rfl⟩
   have hO:OrdLaw (fun i j:Fin ps.length=>aC ps[i].2 ps[j].2):=OrdLaw.idx dX fun i:Fin ps.length=>ps[i].2;have hlt:∀i j:Fin ps.length,i<j->aC ps[i].2 ps[j].2<0:=fun i j hij=>by have h:=List.pairwise_iff_getElem.1 hst i.1 j.1 (by rw [List.length_map];exact i.2) (by rw [List.length_map];exact j.2) hij;simpa using h
   have hT:∀x y:Fin ps.length,(ltOf fun i j:Fin ps.length=>aC ps[i].2 ps[j].2) x y=false->(ltOf fun i j:Fin ps.length=>aC ps[i].2 ps[j].2) y x=false->x=y:=fun x y h1 h2=>by
    unfold ltOf at h1 h2;rw [decide_eq_false_iff_not]at h1 h2;rcases Nat.lt_trichotomy x.1 y.1 with h|h|h
    ·exact absurd (hlt x y h) h1
    ·exact Fin.ext h
    ·exact absurd (hlt y x h) h2
   have hsorted:((List.finRange ps.length).toArray.toList.mergeSort fun x y=>!(ltOf fun i j:Fin ps.length=>aC ps[i].2 ps[j].2) y x)=List.finRange ps.length:=by show(List.finRange ps.length).mergeSort _=_;refine List.mergeSort_of_pairwise ?_;rw [List.pairwise_iff_getElem];intro i j hi hj hij;simp only [List.getElem_finRange];unfold ltOf;have hh:=hlt (Fin.cast (by simp) ⟨i,hi⟩) (Fin.cast (by simp) ⟨j,hj⟩) hij;have:=hO.asymm hh;simpa using this
   have hcall:=Any.slices_SortFunc_total Tryz.laysSlF6_f199 enc (fun i=>by rw [eenc];rfl) (fun i j:Fin ps.length=>aC ps[i].2 ps[j].2) (aOh hO) 200 #[] g 0 cap (List.finRange ps.length).toArray w (enters_of Tryz.func200 (by kernel_rfl) rfl) hcmp hH hb.lt (by rw [List.size_toArray,List.length_finRange];rw [List.length_map]at hn;omega) hT;rw [List.size_toArray,List.length_finRange]at hcall;refine hcall.mono ?_;rintro e w2 ⟨rfl,n2,os,rfl⟩;rw [hsorted];have hb':=hb;rw [hvs]at hb';obtain⟨r1,r2⟩:=nK (ys:=List.finRange ps.length) hb' rfl n2 os;rw [<-hvs]at r1;refine⟨rfl,⟨ps,rfl,⟨q1,.inr ⟨g,cap,rest,rfl,hg,r1,hbl,hnc,hcm⟩⟩,fun p hp=>⟨?_,(h3 p hp).2⟩,h4⟩,r2.mono fun k _ e=>by have e':k=g:=e;rw [e'];rfl⟩;refine Row.kp' (h3 p hp).1 r2 fun g' hg' _ e=>?_;obtain⟨cs,hb2⟩:=aV (h3 p hp).1 hg';have e':g'=g:=e;rw [e']at hb2;exact absurd (aQ hb2 hb) (by decide)
end
section
open Go.RowKit Go.Shelf
attribute [local go_sem] Oper.semAt_some
def RowsZ(lo rb cn:Nat)(L:aD)(W:World):Prop:=∃(S:Nat->Prop) (iv:Value),RowsAt S W rb iv cn L/\(∀k,S k->lo≤k/\fA W k)/\∀k,iv.ownBlock=some k->lo≤k
theorem RowsZ.kp{F:Nat->Prop}{lo rb cn:Nat}{L:aD}{W W':World}(h:RowsZ lo rb cn L W)(hk:Kp F W W')(hF:∀k,F k->¬fA W k\/ (k<lo/\k≠rb)):RowsZ lo rb cn L W':=by
 obtain⟨S,iv,h1,h2,h3⟩:=h;have noS:∀k,F k->¬S k:=fun k hf hs=>by
  rcases hF k hf with h|h
  ·exact h (h2 k hs).2
  ·have:=(h2 k hs).1;omega
 refine⟨S,iv,h1.move hk (fun k hf ho=>?_) noS (fun k h=>h) (fun k h=>Nat.lt_of_lt_of_le (h1.inS k h) hk.size) h1.notS,fun k hs=>⟨(h2 k hs).1,?_⟩,h3⟩
 ·rcases hF k hf with h|h
  ·exact h (h1.cellOwn k ho)
  ·rcases ho with ho|ho
   ·exact h.2 ho
   ·have:=h3 k ho;omega
 ·obtain⟨o,ho,hc⟩:=(h2 k hs).2;exact⟨o,(hk.block k (lt_of_block ho) fun hf=>noS k hf hs).trans ho,hc⟩
theorem RowsZ.fast{lo lo' rb cn vc:Nat}{va:Option Addr}{vs:List Nat}{L:aD}{w':World}(h:RowsZ lo' rb cn L w')(hcn:cn=vs.length)(hV:Row w' 3 1 (.slice va cn vc) cn (aCe vs) (fun k=>lo≤k))(hlo:lo≤lo')(hrb:lo≤rb)(hL:Strict aC L):
 ∃iv S,Fast lo w'.heap.size w' fun W=>TableAt S W va rb iv vs L:=by
 obtain⟨S,iv,h1,h2,h3⟩:=h;refine⟨iv,S,fun W hW=>⟨?_,?_,hL⟩⟩
 ·have h4:=hV.kp' hW fun g hg hM hF=>hF ⟨hM,hV.lt g hg⟩;obtain⟨ao,cap,e,hc,_⟩:=h4.shape;cases e;exact hc
 ·subst hcn;refine h1.move hW (fun k hf ho=>hf ⟨?_,?_⟩) (fun k hf hs=>hf ⟨by have:=(h2 k hs).1;omega,h1.inS k hs⟩) (fun k h=>h) (fun k h=>Nat.lt_of_lt_of_le (h1.inS k h) hW.size) h1.notS
  ·rcases ho with ho|ho
   ·omega
   ·have:=h3 k ho;omega
  ·exact RowsQ.ownLt (z:=False) h1.q _ ho
abbrev rowOf(p:eY):Value:= .slice p.1.1 p.1.2.1 p.1.2.2
def gR{ps:List eY}(pre:List {p:eY//p∈ps}):aD:=pre.map fun x=>x.1.2
def LaidI(w9:World)(rb cn:Nat)(N:List ByteArray)(ts:List aE)(ps:List eY)(pre:List {p:eY//p∈ps})(W:World):Prop:=
 Kp (fun k=>k=rb) w9 W/\RowsZ w9.heap.size rb cn (dU N ts (gR pre)) W
def LaidX(w9:World)(rb cn rs:Nat)(a b:Value)(c:Code)(W:World):Prop:=
 c= .ret/\Kp (fun k=>k=rb\/k=rs) w9 W/\Blk W rs [a,b] 175/\RowsZ w9.heap.size rb cn [] W
theorem yE{W W':World}{row:Option Nat}(hg:W.grownBy W' row):Kp (fun k=>row=some k) W W':=(Kp.refl W).grown hg (fun k e _=>e)
theorem LaidI.own{w9:World}{rb cn:Nat}{N:List ByteArray}{ts:List aE}{ps:List eY}(hrb:rb<w9.heap.size):OwnFrom w9.heap.size (LaidI w9 rb cn N ts ps):=fun pre W W' row hs hg hr=>by obtain⟨h1,h2⟩:=hs;refine⟨h1.grown hg fun k e hk=>by have:=(hr k e).1;omega,h2.kp (yE hg) fun k e=> .inl ?_⟩;rintro⟨o,ho,hc⟩;obtain⟨o',ho',hc'⟩:=(hr k e).2;rw [ho']at ho;cases ho;rw [hc']at hc;cases hc
theorem LaidX.own{α:Type}{w9:World}{rb cn rs:Nat}{a b:Value}{c:Code}(hrb:rb<w9.heap.size)(hrs:rs<w9.heap.size):OwnFrom w9.heap.size (fun(_:List α) W=>LaidX w9 rb cn rs a b c W):=fun pre W W' row hs hg hr=>by obtain⟨h0,h1,h3,h2⟩:=hs;refine⟨h0,h1.grown hg fun k e hk=>by have:=(hr k e).1;omega,h3.kp (yE hg) fun e=>by have:=(hr _ e).1;omega,h2.kp (yE hg) fun k e=> .inl ?_⟩;rintro⟨o,ho,hc⟩;obtain⟨o',ho',hc'⟩:=(hr k e).2;rw [ho']at ho;cases ho;rw [hc']at hc;cases hc
theorem aMe{w W:World}{P:World->Value->Prop}{tmps:Array Value}{ds:List Deferred}{lo g:Nat}{a b:Value}(hm:Marks lo W ds)(hk:Ext w W)(hlo:w.heap.size≤lo)(ht:tmps.getD 6 undef= .pointer (some ⟨g,0,none⟩))(hB:Blk W g [a,b] 175)
 (hP:∀w',Ext w w'->Kp (fun k=>lo≤k/\¬fA W k) W w'->P w' (.agg #[a,b])):
 bodyPostM Fence.wide 4 Tryz.prog Tryz.f117 (RetN w P) .ret {tmps:=tmps,defers:=ds} W:=by
 refine fJ hm fun w' e1 e2 e3 e4 e5 e6=>?_;have kx:Kp (fun k=>lo≤k/\¬fA W k) W w':=⟨e1,e2,e3,by omega,fun k hk hf=>by
  by_cases h:lo≤k
  ·by_cases h2:∃o:Obj,W.heap[k]?=some o/\o.isCells=true
   ·obtain⟨o,h2,h3⟩:=h2;rw [h2];exact e6 k o h2 h3
   ·exact absurd ⟨h,h2⟩ hf
  ·exact e5 k (by omega)⟩
 have hx:Ext w w':=hk.trans' kx fun i hi h=>absurd h.1 (by omega);refine⟨.agg #[a,b],?_,RetN.mk hx (hP w' hx kx)⟩;have hB2:Blk w' g [a,b] 175:=hB.kp kx fun h=>h.2 ⟨_,hB,rfl⟩;have c0:=hB2.c0;have c1:=hB2.c1;have ht':tmps[6]?.getD undef= .pointer (some ⟨g,0,none⟩):=by simpa using ht
 simp [results,Tryz.f117,go_sem,ht',c0,c1]
def VarsR(w:World)(g0:Nat)(pr:ByteArray)(ta:Option Addr)(m cap:Nat)(na:Option Addr)(nn nc:Nat)(N:List ByteArray)(ts:List aE)(iv:Value)(X:World):Prop:=
 ∃(i:Nat) (vv:Value),i≤nn/\iv= .int .i64 i/\Hid (LaidAt w X g0 pr ta m cap na nn nc vv (.pointer none))/\Hid (Row X 3 1 vv (fP N ts i).length (aCe (fP N ts i)) (New w))
set_option maxHeartbeats 8000000 in
theorem aD8{S:Nat->Prop}{w:World}{bv:Value}{E:List Ent}{pr:ByteArray}{ta na:Option Addr}{m cap nn nc:Nat}{G:Nat->Prop}{ts:List aE}{N:List ByteArray}(hB:BaseV S w bv E)(hm:m=ts.length)(hts:aO w G ta ts)(h64:m≤64)(hn:nn=N.length)(hN:CellsAt w na (strs N))(hnd:N.Nodup)(hn2:nn≤1048576):
 Calls Tryz.prog 117 #[.agg #[.string pr,.slice ta m cap],bv,.slice na nn nc] w (RetN w fun w' v=>∃va vc rb iv S',v= .agg #[.slice va (aY N ts).length vc,.pointer (some ⟨rb,0,none⟩)]/\Fast w.heap.size w'.heap.size w' fun W=>TableAt S' W va rb iv (aY N ts) (dU N ts (iB (bS E pr)))):=by
 obtain⟨o,eo⟩:=nm (bS E pr);have hok:=hB.ok;have hopt:=hB.opt pr;have HEach:=qH (fun W (hW:Ext w W)=>aCm (hB.ext hW) pr);rw [eo]at hopt HEach ⊢;have hrows:∃ar,(∀r∈iB o,r.length=ar/\bP r=true)/\(iB o).length≤65536/\Strict aC (iB o):=by
  cases o with
  |none=>exact⟨0,fun r hr=>(by simp [iB]at hr),Nat.zero_le _,List.Pairwise.nil⟩
  |some e=>
   have hc:=hok.all _ (List.mem_map.2 ⟨e,(cZ eo).1,rfl⟩);exact⟨e.ar,fun r hr=>⟨hc.len r hr,hc.txt r hr⟩,hc.few,hc.strict⟩
 have HRows:=qH hrows;have HCon:=qH (fun W (hW:Ext w W) (s:ByteArray)=>yY ts 1 s ta m cap W G hm (hts.ext hW) (by omega));have HIdx:=qH (fun W (hW:Ext w W) (s:ByteArray)=>oK ts 1 s ta m cap W G hm (hts.ext hW) (by omega));have HT:=qH (nIX hm hts);have HN:=qH (nIX hn (nIX hN hnd));have HF:=qH (pA (ts:=ts) hnd);obtain⟨g0,eg0⟩:=nm w.heap.size;obtain⟨w1,e1⟩:=nm (w.alloc (.cells #[.string pr,.slice ta m cap] 24));obtain⟨w2,e2⟩:=nm (w1.alloc (.cells #[.slice na nn nc] 34));obtain⟨w3,e3⟩:=nm (w2.alloc (.cells #[.slice none 0 0,.pointer none] 175));obtain⟨w4,e4⟩:=nm (w3.alloc (.cells #[.slice none 0 0,.pointer none] 175));have s1:w1.heap.size=g0+1:=by rw [<-e1,aJ,eg0]
 have s2:w2.heap.size=g0+1+1:=by rw [<-e2,aJ,s1]
 have s3:w3.heap.size=g0+1+1+1:=by rw [<-e3,aJ,s2]
 have x1:Ext w w1:=xAX e1;have x2:Ext w1 w2:=xAX e2;have x3:Ext w2 w3:=xAX e3;have x4:Ext w3 w4:=xAX e4;have hA:=qH (show LaidAt w w4 g0 pr ta m cap na nn nc (.slice none 0 0) (.pointer none)from
  ⟨Blk.ext (by have h:=Blk.new w [.string pr,.slice ta m cap] 24;rw [eg0]at h;rw [<-e1];exact h) (x2.trans (x3.trans x4)),
   Blk.ext (by have h:=Blk.new w1 [.slice na nn nc] 34;rw [s1]at h;rw [<-e2];exact h) (x3.trans x4),
   Blk.ext (by have h:=Blk.new w2 [.slice none 0 0,.pointer none] 175;rw [s2]at h;rw [<-e3];exact h) x4,
   by have h:=Blk.new w3 [.slice none 0 0,.pointer none] 175;rw [s3]at h;rw [<-e4];exact h,x1.trans (x2.trans (x3.trans x4))⟩)
 have HG:=qH eg0;have n0:=hA.out.names.c0;clear x1 x2 x3 x4 hB hts hm hN hn hnd hrows hok hopt eo;refine callsIn_wide.1 (callsIn_of_wp_marks (n:=4) Tryz.func117 rfl trivial ?_ rfl);refine wpIn_wide.2 ?_;obtain⟨Q,eQ⟩:∃Q,Q=bodyPostM Fence.wide 4 Tryz.prog Tryz.f117 (RetN w fun w' v=>∃va vc rb iv S',v= .agg #[.slice va (aY N ts).length vc,.pointer (some ⟨rb,0,none⟩)]/\Fast w.heap.size w'.heap.size w' fun W=>TableAt S' W va rb iv (aY N ts) (dU N ts (iB o))):=⟨_,rfl⟩;rw [<-eQ];have EQ:=qH eQ;clear eQ;simp only [Tryz.ntmps117,List.size_toArray,List.length_cons,List.length_nil,Nat.reduceAdd,Nat.reduceSub,Array.replicate_succ,Array.replicate_zero,List.push_toArray,List.append_toArray,List.nil_append,List.cons_append];go_wp2
 go_step3
 go_wp2;clear e1 e2 e3 e4 s1 s2 s3;go_loopw [18] (fun iv wr=>VarsR w g0 pr ta m cap na nn nc N ts iv wr) (fun iv _=>nn- (intOf iv).toNat)
 case atStart=>exact⟨0,.slice none 0 0,Nat.zero_le _,rfl,hA,qH (Row.nil _ _ _ _)⟩
 case round=>
  obtain⟨i,vv,hi,rfl,hLa,hRo⟩:=hrel;obtain⟨va,vc,evv,hvc,_⟩:=hRo.out.shape;subst evv;by_cases hlt:i<nn
  ·obtain⟨s,hs⟩:∃s,N[i]?=some s:=⟨_,qG (by rw [<-HN.out.1];exact hlt)⟩;obtain⟨b,off,ena,c0⟩:=(HN.out.2.1.ext hLa.out.kp) i (.string s) (by simp [strs,hs]);have a1:=hLa.out.atom.c1;have HS:=qH hs;have hsz:=aFk N ts i;subst ena;clear hs hvc;go_wp2_with fail
   refine(HCon.out wr hLa.out.kp s).mono ?_;rintro e w5 ⟨v,rfl,hk5,rfl⟩;have hL5:=qH (nIX (hLa.out.ext hk5) (hRo.out.ext hk5));clear hk5 c0 a1;obtain⟨q,eq⟩:=nm (ts.any (isV s));have hq:ts.any (isT 1 s)=q:=eq;have HQ:=qH (show fP N ts (i+1)=if q=true then fP N ts i++ [i]else fP N ts i from by rw [aCw HS.out,eq]);rw [hq];clear hq eq;cases q
   ·go_wp2;go_roundw
    case rel=>exact⟨i+1,_,by omega,nMX,qH hL5.out.1,qH (by rw [HQ.out,if_neg (by simp)];exact hL5.out.2)⟩
    case measure=>simp [intOf];omega
   ·obtain⟨cn,ecn⟩:=nm ((fP N ts i).length);rw [ecn]at hL5 hsz;have t0:=hL5.out.1.tab.c0;go_wp2_with (first|(at_builtin;refine Halted.out ?_))
    refine Halted.mk (bO jK rfl _ _ rfl (hL5.out.1.kp.alloc _) rfl (hL5.out.2.alloc _) rfl (CellsAt.one w5 _ _) rfl (by simp;rfl) (by omega) (by unfold maxLen;omega) ?_);intro v6 w6 hr6 hk6 hk6b _;obtain⟨la,lcap,elv,_,_⟩:=hr6.shape;subst elv;have hnb:∀(g:Nat) cs e,e≠3->Blk w5 g cs e->Blk w6 g cs e:=fun g cs e he hb=>(hb.alloc _).kp hk6b fun hg=>by obtain⟨cs',hb'⟩:=aV hL5.out.2 hg;exact he (aQ hb hb')
    have hL6:=qH (show LaidAt w w6 g0 pr ta m cap _ nn nc (.slice va cn vc) (.pointer none)from
     ⟨hnb _ _ _ (by decide) hL5.out.1.atom,hnb _ _ _ (by decide) hL5.out.1.names,hnb _ _ _ (by decide) hL5.out.1.res,hnb _ _ _ (by decide) hL5.out.1.tab,hk6⟩)
    have t1:=hL6.out.tab.c0;have tf:=hL6.out.tab.free 0;obtain⟨w7,ew7⟩:=nm (w6.setCell ⟨g0+1+1+1,0,none⟩ (.slice la (cn+1) lcap));have hL7:=qH (show LaidAt w w7 g0 pr ta m cap _ nn nc (.slice la (cn+1) lcap) (.pointer none)from by rw [<-ew7];exact hL6.out.putV (by rw [HG.out];exact Nat.le_refl _) _);have hR7:=qH (show Row w7 3 1 (.slice la (cn+1) lcap) (fP N ts (i+1)).length (aCe (fP N ts (i+1))) (New w)from by rw [HQ.out,if_pos (by first|rfl|trivial),List.length_append,List.length_singleton,ecn,<-aJr,<-ew7];refine hr6.kp' (kSa) fun g hg _ e=>?_;obtain⟨cs,hb⟩:=aV hr6 hg;rw [e]at hb;exact absurd (aQ hb hL6.out.tab) (by decide));clear hr6 hk6 hk6b t0 hnb;go_wp2;go_roundw
    case rel=>exact⟨i+1,_,by omega,nMX,hL7,hR7⟩
    case measure=>simp [intOf];omega
  ·obtain rfl:nn=i:=by omega
   have hvl:(fP N ts nn).length=(aY N ts).length:=by rw [HN.out.1];rfl
   have hR0:=hRo.out;rw [show fP N ts nn=aY N ts from by rw [HN.out.1];rfl]at hR0;obtain⟨cn,ecn⟩:=nm ((aY N ts).length);rw [hvl,ecn]at hLa;rw [ecn]at hR0;have HV:=qH hR0;have HL:=hLa;have HCn:=qH ecn;have hcn64:cn≤64:=by rw [<-ecn];exact Nat.le_trans HF.out (by rw [<-HT.out.1];exact h64)
   have HNR:=qH (kI (fun _=>False) wr cn hcn64 (fun k h=>h.elim));have v0:=HL.out.tab.c0;clear hRo hLa hR0 hvl hvc ecn hi hlt;go_wp2_with fail
   refine HNR.out.mono ?_;rintro e w5 ⟨v5,rfl,hk5,rfl,hr5⟩;obtain⟨rb,erb⟩:=nm wr.heap.size;rw [erb]at hr5 ⊢;have HL5:=qH (HL.out.ext hk5);have v1:=HL5.out.tab.c1;have vf:=HL5.out.tab.free 1;have hgr:g0+1+1+1<rb:=by rw [<-erb];exact HL.out.tab.lt
   obtain⟨w6,e6⟩:=nm (w5.setCell ⟨g0+1+1+1,1,none⟩ (.pointer (some ⟨rb,0,none⟩)));have k56:Kp (fun k=>k=g0+1+1+1) w5 w6:=by rw [<-e6];exact kSa
   have HL6:=qH (show LaidAt w w6 g0 pr ta m cap na nn nc (.slice va cn vc) (.pointer (some ⟨rb,0,none⟩))from by rw [<-e6];exact HL5.out.putR (by rw [HG.out];exact Nat.le_refl _) _);have HV6:=qH (show Row w6 3 1 (.slice va cn vc) cn (aCe (aY N ts)) (New w)from(HV.out.ext hk5).kp' k56 fun g hg _ e=>by obtain⟨cs,hb⟩:=aV (HV.out.ext hk5) hg;rw [e]at hb;exact absurd (aQ hb HL5.out.tab) (by decide));have HR6:=qH (show RowsAt (fun _=>False) w6 rb (.slice none 0 0) cn []from hr5.move k56 (fun k hf ho=>by
    rcases ho with ho|ho
    ·rw [hf]at ho;omega
    ·cases ho) (fun k _ h=>h) (fun k h=>h) (fun k h=>h.elim) (fun k _ h=>h))
   have HRB:=qH (show w.heap.size≤rb/\rb<w6.heap.size from⟨by rw [<-erb];exact HL.out.kp.size,HR6.out.cellOwn rb (.inl rfl)|>.elim fun o h=>lt_of_block h.1⟩);have HRG:=qH hgr;clear hr5 hk5 erb v0 HNR k56;go_wp2_with fail
   clear e6 v1 vf;have p0:=HL6.out.atom.c0
   go_step3
   go_wp2_with fail
   refine(HEach.out w6 HL6.out.kp).mono ?_;rintro e w9 ⟨ve,rfl,hk9,Bs,ivx,rfl,hBs,hBB,hownx,hln⟩;obtain⟨LL,eLL⟩:=nm (iB o);rw [eLL]at hownx hln HRows EQ;obtain⟨ln,eln⟩:=nm LL.length;obtain⟨aox,capx,ev,_⟩:=hownx.shape;rw [eln]at ev;subst ev;obtain⟨ps2,hL2,x2,x3,x4⟩:=hownx;have hp2:ps2.length=ln:=by rw [<-eln,hL2];simp
   rw [hp2]at x2;have hBsw:=hBB.lt;obtain⟨SB,eSB⟩:∃SB:Nat->Prop,SB=fun g=>g=Bs\/ (Value.slice aox ln capx).ownBlock=some g:=⟨_,rfl⟩;have hSlt:∀g,SB g->w6.heap.size≤g/\g<w9.heap.size:=fun g hg=>by
    rw [eSB]at hg;rcases hg with rfl|hg
    ·exact⟨hBs,hBsw⟩
    ·exact⟨x2.block g hg,x2.lt g hg⟩
   have hseq:SeqStopsK Fence.wide 3 Tryz.prog 171 #[.pointer (some ⟨Bs,0,none⟩)] (fun x:{p:eY//p∈ps2}=>#[.slice x.1.1.1 x.1.1.2.1 x.1.1.2.2]) (SameOn SB) (fun ys=>ys=ps2.attach) (fun pre=>pre<+:ps2.attach) ps2.attach.length w9:=by
    have hSBs:SB Bs:=by rw [eSB];exact .inl rfl
    have hSBa:∀a,aox=some a->SB a.block:=fun a e=>by rw [eSB];subst e;exact .inr rfl
    have hc0:=hBB.c0;have hcs:CellsAt w9 aox (ps2.attach.map fun x=>rowOf x.1):=by
     obtain⟨ao,cap,e,hc,_⟩:=x2.shape;simp only [Value.slice.injEq]at e;obtain⟨rfl,_,_⟩:=e;have e:(ps2.attach.map fun x:{p:eY//p∈ps2}=>rowOf x.1)=cJ ps2:=by
      have h:(ps2.attach.map fun x:{p:eY//p∈ps2}=>rowOf x.1)=(ps2.attach.map Subtype.val).map rowOf:=by rw [List.map_map];rfl
      rw [h,List.attach_map_subtype_val];rfl
     rw [e];exact hc
    have hln':ln≤1048576*1048576:=by rw [<-eln];exact hln
    exact fun l J Jx W hW _ _ hY h0=>jL (fun x:{p:eY//p∈ps2}=> .slice x.1.1.1 x.1.1.2.1 x.1.1.2.2) Fence.wide 3 trivial rfl (by omega) SB l Bs aox ln capx ps2.attach (by rw [List.length_attach];exact hp2.symm) hln' J Jx hY W hSBs hSBa ((Kp.of_below hW).cell hc0 id) (hcs.ext (Kp.of_below hW)) h0
   have HQ:=qH hseq;have HX:=qH (nIX x3 (nIX hSlt (nIX hL2 (nIX hp2 eln))));have hgr6:g0+1+1+1<w6.heap.size:=HL6.out.tab.lt;have hsz9:=hk9.size;have HL9:=qH (HL6.out.ext hk9);have HV9:=qH (HV6.out.ext hk9);have HR9:=qH (HR6.out.ext hk9);have HI0:=qH (show LaidI w9 rb cn N ts ps2 [] w9 from⟨Kp.refl _,fun _=>False,_,(show dU N ts (gR ([]:List {p:eY//p∈ps2}))= []from aNi N ts)▸HR6.out.ext hk9,fun k h=>h.elim,fun k h=>by cases h⟩);have hrb9:rb<w9.heap.size:=Nat.lt_of_lt_of_le HRB.out.2 hsz9;have HEND:=qH (show ∀(tmps:Array Value) (ds:List Deferred) (W:World),Marks w9.heap.size W ds->Kp (fun k=>k=rb\/k=g0+1+1) w9 W->Blk W (g0+1+1) [.slice va cn vc,.pointer (some ⟨rb,0,none⟩)] 175->RowsZ w9.heap.size rb cn (dU N ts LL) W->tmps.getD 6 undef= .pointer (some ⟨g0+1+1,0,none⟩)->Q .ret {tmps:=tmps,defers:=ds} W from fun tmps ds W hm hk hb hz ht=>by
    have hlo:w.heap.size≤g0:=by rw [HG.out];exact Nat.le_refl _
    have hws:w.heap.size≤w9.heap.size:=HL9.out.kp.size;have hx:Ext w W:=HL9.out.kp.trans' hk fun i hi h=>by
     rcases h with h|h
     ·have:=HRB.out.1;omega
     ·omega
    have hv:=HV9.out.kp' hk fun g hg _ e=>by
     obtain⟨cs,hb2⟩:=aV HV9.out hg;rcases e with e|e
     ·rw [e]at hb2;obtain⟨con,zs,hcon,hs,hl⟩:=HR9.out;exact absurd (aQ hb2 hs.blk) (by decide)
     ·rw [e]at hb2;exact absurd (aQ hb2 HL9.out.res) (by decide)
    rw [EQ.out];refine aMe hm hx hws ht hb fun w' hx' kx=>?_;obtain⟨iv,S',hf⟩:=RowsZ.fast (lo:=w.heap.size) (w':=w') (vs:=aY N ts) (hz.kp kx fun k hf=> .inl hf.2) HCn.out.symm (hv.kp' kx fun g hg _ hf=>by obtain⟨cs,hb2⟩:=aV hv hg;exact hf.2 ⟨_,hb2,rfl⟩) hws HRB.out.1 (wJ N ts LL);exact⟨va,vc,rb,iv,S',by rw [HCn.out],hf⟩)
   clear hseq x3 x4 hSlt hL2 hp2 eSB hBB hk9 hln hBsw hBs eln x2 p0;go_wp2_with fail
   refine' wpIn_wide.1 (wpIn_rangeFunc_ownG (F:=Fence.wide) (n:=4) (w0:=w9) rfl (by omega) (gf:=171) (lb:=#[.pointer (some ⟨Bs,0,none⟩)]) rfl trivial (enters_of Tryz.func171 (by kernel_rfl) rfl)
    HQ.out SameOn.trans (SameOn.put fun k h=>(HX.out.2.1 k h).2) (Below.refl _ _) (fun _=>rfl) (LaidI w9 rb cn N ts ps2) (fun c _ W=>(∀r∈LL,r.length≠m)/\LaidX w9 rb cn (g0+1+1) (.slice va cn vc) (.pointer (some ⟨rb,0,none⟩)) c W) (LaidI.own hrb9)
    (fun c pre W W' row h hg hr=>⟨h.1,LaidX.own (α:={p:eY//p∈ps2}) hrb9 (by omega) pre W W' row h.2 hg hr⟩)
    HI0.out _ ?assign ?body ?done ?stop)
   case assign=>
    intro l x W K hK;gi_wp2;exact hK
   case body=>
    rintro l pre ⟨⟨⟨ax,mx,cx⟩,sp⟩,hp⟩ X hI hlen;rw [List.length_attach]at hlen;obtain⟨hkX,Sx,iv,r1,r2,r3⟩:=hI;have hrow:=(HX.out.1 _ hp).1;have hmem:sp∈LL:=by rw [HX.out.2.2.1];exact List.mem_map.2 ⟨_,hp,rfl⟩
    have hrX:=Row.kp' hrow hkX fun g hg hM e=>by have h:g=rb:=e;have hM':w6.heap.size≤g:=hM;have:=HRB.out.2;omega
    obtain⟨ar,hall,hfew,hst⟩:=HRows.out;obtain⟨hlr,htx⟩:=hall sp hmem;have hsX:=hkX.size;have hVX:=HV9.out.kp' hkX fun g hg _ e=>by obtain⟨cs,hb⟩:=aV HV9.out hg;have e':g=rb:=e;rw [e']at hb;obtain⟨con,zs,hcon,hs,hl⟩:=HR9.out;exact absurd (aQ hb hs.blk) (by decide)
    have hlo:w.heap.size≤g0:=by rw [HG.out];exact Nat.le_refl _
    have hrbw:=HRG.out;have hLX:=HL9.out.kpF hkX (fun k e=>by rw [show k=rb from e];exact hrbw) hlo;have hsn:gR (pre++ [⟨((ax,mx,cx),sp),hp⟩])=gR pre++ [sp]:=by unfold gR;rw [List.map_append];rfl
    have hlx:(gR pre).length<65536:=by unfold gR;rw [List.length_map];have h1:=HX.out.2.2.1;rw [h1,List.length_map]at hfew;omega
    refine wpIn_mono (Q:=fU (fun X'=>KeepsFrom w9.heap.size X X'/\SameOn SB X X'/\LaidI w9 rb cn N ts ps2 (pre++ [⟨((ax,mx,cx),sp),hp⟩]) X') (fun X'=>KeepsFrom w9.heap.size X X'/\(∀r∈LL,r.length≠m)/\LaidX w9 rb cn (g0+1+1) (.slice va cn vc) (.pointer (some ⟨rb,0,none⟩)) .ret X')) ?_ ?_
    ·show Code.wpIn _ _ _ aD9 _ _ _;refine aGr (S:=Sx) (iv:=iv) (R:=gR pre) (sp:=sp) (ax:=ax) (mx:=mx) (cx:=cx) hLX hlo HT.out.1 HT.out.2 h64 HN.out.1 HN.out.2.1 HN.out.2.2 hn2 HCn.out.symm (by obtain⟨ao,cap,e,hc,_⟩:=hVX.shape;cases e;exact hc) (Row.readsAs hrow).1.1 (Row.readsAs hrX).1.2 htx hlx r1 rfl rfl rfl rfl rfl rfl ?_ ?_
     ·intro hne X' hk' hb';have hno:∀r∈LL,r.length≠m:=fun r hr=>by rw [(hall r hr).1,<-hlr];exact hne
      refine⟨⟨hk'.size,fun k o hB hk _=>(hk'.block k (lt_of_block hk) fun f=>by have f':k=g0+1+1:=f;omega).trans hk⟩,hno,rfl,?_,hb',?_⟩
      ·exact(hkX.mono fun k _ h=>Or.inl h).trans (hk'.mono fun k _ h=>Or.inr h)
      ·have h0:dU N ts (gR pre)= []:=aC3 fun x hx=>by
        obtain⟨y,_,rfl⟩:=List.mem_map.1 hx;rw [<-HT.out.1];exact hno _ (by rw [HX.out.2.2.1];exact List.mem_map.2 ⟨y.1,y.2,rfl⟩)
       rw [h0]at r1;exact RowsZ.kp ⟨Sx,iv,r1,r2,r3⟩ hk' fun k e=> .inr ⟨by have e':k=g0+1+1:=e;omega,by have e':k=g0+1+1:=e;omega⟩
     ·rintro hne X' hk' ⟨S',iv',q1,q2,q3⟩;refine⟨⟨hk'.size,fun k o hB hk ho=>(hk'.block k (lt_of_block hk) fun f=>?_).trans hk⟩,SameOn.of_kp hk' (fun k hk=>by have:=(HX.out.2.1 k hk).2;omega) (fun k hk hf=>?_),hkX.trans' hk' fun k hk hf=>?_,fun k=>S' k/\fA X' k,iv',?_,fun k hk=>⟨?_,hk.2⟩,fun k hk=>?_⟩
      ·obtain⟨o',h1,h2⟩:=r1.cellOwn k f;rw [hk]at h1;cases h1;rw [ho]at h2;cases h2
      ·have h1:=HX.out.2.1 k hk;rcases hf with hf|hf
       ·have:=HRB.out.2;omega
       ·have:=r3 k hf;omega
      ·rcases hf with hf|hf
       ·exact hf
       ·have:=r3 k hf;omega
      ·rw [hsn];exact q1.tight
      ·rcases q2 k hk.1 with h|h
       ·exact(r2 k h).1
       ·omega
      ·rcases q3 k hk with h|h
       ·exact r3 k h
       ·omega
    ·intro e a W h;cases e<;>first|exact h|exact h.elim
   case done=>
    rintro D1 ys X2 hD hys hI hd;have hys':=hys.symm;subst hys';clear hys;have hro:gR ps2.attach=LL:=by
     rw [HX.out.2.2.1];unfold gR;have h1:ps2.attach.map (fun x=>x.1.2)=(ps2.attach.map Subtype.val).map Prod.snd:=by rw [List.map_map];rfl
     rw [h1,List.attach_map_subtype_val]
    obtain⟨hkX,hRZ⟩:=hI;rw [hro]at hRZ;have hm1:Marks w9.heap.size X2 [{target:= .collected D1,args:=#[]}]:=Marks.push (Marks.nil w9.heap.size w9) (fun k o h ho=>(hkX.block k (lt_of_block h) (fun e=>by have e':k=rb:=e;obtain⟨o',h1,h2⟩:=HR9.out.cellOwn rb (.inl rfl);rw [e',h1]at h;cases h;rw [h2]at ho;cases ho)).trans h) hD hD hd;have hlo:w.heap.size≤g0:=by rw [HG.out];exact Nat.le_refl _
    have hLX:=HL9.out.kpF hkX (fun k e=>by rw [show k=rb from e];exact HRG.out) hlo;have v0:=hLX.tab.c0;have v1:=hLX.tab.c1;have r0:=hLX.res.c0;have r1:=hLX.res.c1;have f0:=hLX.res.free 0;have f1:=hLX.res.free 1;have HZ:=qH (nIX hkX (nIX hRZ (nIX hm1 hLX)));clear hkX hRZ hm1 hLX hd hD hro;go_wp2_with fail
    obtain⟨hkX,hRZ,hm1,hLX⟩:=HZ.out;have k23:Kp (fun k=>k=g0+1+1) X2 ((X2.setCell ⟨g0+1+1,0,none⟩ (.slice va cn vc)).setCell ⟨g0+1+1,1,none⟩ (.pointer (some ⟨rb,0,none⟩))):=
     kSb
    have hg6:=hgr6;refine HEND.out _ _ _ (hm1.kp k23 fun k hf=>by have e:k=g0+1+1:=hf;omega) ((hkX.mono fun k _ h=>Or.inl h).trans (k23.mono fun k _ h=>Or.inr h)) ((hLX.res.set 0 _).set 1 _) (hRZ.kp k23 fun k hf=> .inr ?_) rfl;have e:k=g0+1+1:=hf;have:=HRG.out;omega
   case stop=>
    rintro D c pre W hD _ ⟨hall,rfl,hX⟩ hd;have hm1:Marks w9.heap.size W [{target:= .collected D,args:=#[]}]:=Marks.push (Marks.nil w9.heap.size w9) (fun k o h ho=>(hX.1.block k (lt_of_block h) (fun e=>by
     rcases e with e|e
     ·obtain⟨o',h1,h2⟩:=HR9.out.cellOwn rb (.inl rfl);rw [e,h1]at h;cases h;rw [h2]at ho;cases ho
     ·have hb:=HL9.out.res;unfold Blk at hb;rw [e,hb]at h;cases h;cases ho)).trans h) hD hD hd
    have hz:=hX.2.2;rw [<-aC3 (N:=N) (ts:=ts) (R:=LL) fun r hr=>by rw [<-HT.out.1];exact hall r hr]at hz;have HZ:=qH (nIX hm1 (nIX hX.1 (nIX hX.2.1 hz)));clear hm1 hX hz hd hD;refine wpIn_wide.2 ?_;go_wp2_with fail
    exact HEND.out _ _ _ HZ.out.1 HZ.out.2.1 HZ.out.2.2.1 HZ.out.2.2.2 rfl
theorem zB(fv:Value)(w:World):Calls Tryz.prog 196 #[.slice none 0 0,fv] w (RetN w fun w' v=>v= .slice none 0 0):=by go_enter Tryz.func196,Tryz.ntmps196;go_wp2;go_ret;exact RetN.mk (Kp.refl _) rfl
theorem aC9{lo:Nat}{w:World}{v:Value}{LL:aD}(h:OwnRows lo w v LL)(hst:Strict aC LL)(m:Nat)(hlen:∀x∈LL,x.length=m)(hm:m≤64)(hn:LL.length≤65536):
 Calls Tryz.prog 196 #[v,.func (.func 201) #[] #[]] w (RetF (fun k=>v.ownBlock=some k) w fun w' v'=>OwnRows lo w' v' LL):=by
 obtain⟨ps,rfl,h2,h3,h4⟩:=h;have h2':=h2;rw [List.length_map]at hn;obtain⟨q1,⟨ev,en⟩|⟨g,cap,rest,rfl,hg,hb,hbl,hnc,hcm⟩⟩:=h2'
 ·subst ev;refine(zB _ w).mono ?_;rintro e w2 ⟨v2,rfl,hk,rfl⟩;exact RetF.mk hk.kp ⟨ps,rfl,h2.ext hk,fun p hp=>⟨(h3 p hp).1.ext hk,(h3 p hp).2⟩,h4⟩
 ·have hz:∀i,i<ps.length->(ps.map Prod.fst).getD i default=(ps.getD i default).1:=fun i hi=>by
   rw [List.getD_eq_getElem?_getD,List.getD_eq_getElem?_getD,List.getElem?_map,qG hi];rfl
  have hvs:cJ ps=(List.range ps.length).map (cN fun i=>(ps.map Prod.fst).getD i default):=by
   unfold cJ;refine List.ext_getElem (by simp) fun i h1 h2=>?_;have hi:i<ps.length:=by simpa using h1
   simp only [List.getElem_map,List.getElem_range];unfold cN;show _=Value.slice ((ps.map Prod.fst).getD i default).1 ((ps.map Prod.fst).getD i default).2.1 ((ps.map Prod.fst).getD i default).2.2;rw [hz i hi,List.getD_eq_getElem?_getD,qG hi];rfl
  have hlike:aM9 Tryz.prog 201 #[] #[] g ps.length w (cN fun i=>(ps.map Prod.fst).getD i default) (fun i j=>decide ((ps.getD i default).2=(ps.getD j default).2)):=
   ⟨enters_of Tryz.func201 (by kernel_rfl) rfl,fun w' hw i j hi hj=>by
    have hc:∀i,i<ps.length->(ps.getD i default).1.2.1=m/\m=(ps.getD i default).2.length/\CellsAt w' (ps.getD i default).1.1 (strs (ps.getD i default).2):=fun i hi=>by
     have e:ps.getD i default=ps[i]:=by rw [List.getD_eq_getElem?_getD,qG hi];rfl
     rw [e];have hr:=(h3 ps[i] (List.getElem_mem _)).1;have hr':=Row.kp' hr hw fun g' hg' _ e=>by obtain⟨cs,hb2⟩:=aV hr hg';have e':g'=g:=e;rw [e']at hb2;exact absurd (aQ hb2 hb) (by decide)
     have hl:=hlen ps[i].2 (List.mem_map.2 ⟨ps[i],List.getElem_mem _,rfl⟩);exact⟨(Row.readsAs hr).1.1.trans hl,hl.symm,(Row.readsAs hr').1.2⟩
    have ex:∀i,i<ps.length->cN (fun i=>(ps.map Prod.fst).getD i default) i= .slice (ps.getD i default).1.1 m (ps.getD i default).1.2.2:=fun i hi=>by unfold cN;show Value.slice ((ps.map Prod.fst).getD i default).1 ((ps.map Prod.fst).getD i default).2.1 ((ps.map Prod.fst).getD i default).2.2=_;rw [hz i hi,(hc i hi).1]
    have e0:∀a b:Value,((#[]:Array Value)++(#[a,b]++#[]))=#[a,b]:=fun a b=>rfl;rw [e0];rw [ex i hi,ex j hj];refine(aF7 _ _ _ _ m _ _ w' (hc i hi).2.1 (hc j hj).2.1 (hc i hi).2.2 (hc j hj).2.2 (by omega)).mono ?_;rintro e w2 ⟨v2,rfl,hk,rfl⟩;exact⟨rfl,hk⟩⟩
  have hkeep:cO (fun i j=>decide ((ps.getD i default).2=(ps.getD j default).2)) (List.range ps.length) ps.length=List.range ps.length:=by
   rw [mL (by simp) fun j h0 hj=>?_,List.take_of_length_le (by simp)];have e1:∀i,i<ps.length->(List.range ps.length).getD i 0=i:=fun i hi=>by rw [List.getD_eq_getElem?_getD,List.getElem?_range hi];rfl
   rw [e1 j hj,e1 (j-1) (by omega)];refine decide_eq_false fun e=>?_;have h:=List.pairwise_iff_getElem.1 hst (j-1) j (by rw [List.length_map];omega) (by rw [List.length_map];omega) (by omega);simp only [List.getElem_map]at h;have g1:∀i (hi:i<ps.length),ps.getD i default=ps[i]:=fun i hi=>by rw [List.getD_eq_getElem?_getD,qG hi];rfl
   rw [g1 j hj,g1 (j-1) (by omega)]at e;rw [e,dX.refl]at h;omega
  rw [hvs]at hb hbl;have hcomp:=zA (fun i=>(ps.map Prod.fst).getD i default) (List.range ps.length) g ps.length cap ps.length rest 201 #[] #[] _ w hlike (by simp) (fun i hi=>List.mem_range.1 hi) (by omega) hb (by simpa using hbl) hcm;rw [hkeep]at hcomp;refine hcomp.mono ?_;rintro e w2 ⟨v2,rfl,hk,rest',rfl,hb2,hl2⟩;rw [List.length_range];refine RetF.mk (hk.mono fun k _ e=>by have e':k=g:=e;rw [e'];rfl) ⟨ps,rfl,⟨q1,.inr ⟨g,cap,rest',rfl,hg,by rw [hvs];exact hb2,by rw [hvs,hl2];omega,hnc,hcm⟩⟩,fun p hp=>⟨?_,(h3 p hp).2⟩,h4⟩;refine Row.kp' (h3 p hp).1 hk fun g' hg' _ e=>?_;obtain⟨cs,hb3⟩:=aV (h3 p hp).1 hg';have e':g'=g:=e;rw [e']at hb3;exact absurd (aQ hb3 hb) (by decide)
theorem aMq{lo:Nat}{w:World}{v:Value}{LL:aD}(h:lS lo w v LL):∃(Bs:Nat) (ps:List eY) (SB:Nat->Prop),v= .func (.func 171) #[] #[.pointer (some ⟨Bs,0,none⟩)]/\LL=ps.map Prod.snd/\
 (∀p∈ps,Row w 9 1 (.slice p.1.1 p.1.2.1 p.1.2.2) p.2.length (strs p.2) (fun g=>lo≤g))/\(∀g,SB g->lo≤g/\g<w.heap.size)/\
 SeqStopsK Fence.wide 3 Tryz.prog 171 #[.pointer (some ⟨Bs,0,none⟩)] (fun x:{p:eY//p∈ps}=>#[.slice x.1.1.1 x.1.1.2.1 x.1.1.2.2]) (SameOn SB) (fun ys=>ys=ps.attach) (fun pre=>pre<+:ps.attach) ps.attach.length w:=by
 obtain⟨Bs,ivx,rfl,hBs,hBB,hownx,hln⟩:=h;obtain⟨aox,capx,ev,_⟩:=hownx.shape;subst ev;obtain⟨ps2,hL2,x2,x3,x4⟩:=hownx;have hp2:ps2.length=LL.length:=by rw [hL2];simp
 rw [hp2]at x2;have hBsw:=hBB.lt;obtain⟨SB,eSB⟩:∃SB:Nat->Prop,SB=fun g=>g=Bs\/ (Value.slice aox LL.length capx).ownBlock=some g:=⟨_,rfl⟩;refine⟨Bs,ps2,SB,rfl,hL2,fun p hp=>(x3 p hp).1,fun g hg=>?_,?_⟩
 ·rw [eSB]at hg;rcases hg with rfl|hg
  ·exact⟨hBs,hBsw⟩
  ·exact⟨x2.block g hg,x2.lt g hg⟩
 ·have hSBs:SB Bs:=by rw [eSB];exact .inl rfl
  have hSBa:∀a,aox=some a->SB a.block:=fun a e=>by rw [eSB];subst e;exact .inr rfl
  have hc0:=hBB.c0;have hcs:CellsAt w aox (ps2.attach.map fun x=>rowOf x.1):=by
   obtain⟨ao,cap,e,hc,_⟩:=x2.shape;simp only [Value.slice.injEq]at e;obtain⟨rfl,_,_⟩:=e;have e:(ps2.attach.map fun x:{p:eY//p∈ps2}=>rowOf x.1)=cJ ps2:=by
    have h:(ps2.attach.map fun x:{p:eY//p∈ps2}=>rowOf x.1)=(ps2.attach.map Subtype.val).map rowOf:=by rw [List.map_map];rfl
    rw [h,List.attach_map_subtype_val];rfl
   rw [e];exact hc
  exact fun l J Jx W hW _ _ hY h0=>jL (fun x:{p:eY//p∈ps2}=> .slice x.1.1.1 x.1.1.2.1 x.1.1.2.2) Fence.wide 3 trivial rfl (by omega) SB l Bs aox LL.length capx ps2.attach (by rw [List.length_attach];exact hp2.symm) hln J Jx hY W hSBs hSBa ((Kp.of_below hW).cell hc0 id) (hcs.ext (Kp.of_below hW)) h0
theorem xX{F:Nat->Prop}{W W':World}(hk:Kp F W W')(hF:∀k,F k->fA W k):KeepsOthers W W':=
 ⟨hk.size,fun k o h ho=>(hk.block k (lt_of_block h) fun hf=>by obtain⟨o',h1,h2⟩:=hF k hf;rw [h]at h1;cases h1;rw [ho]at h2;cases h2).trans h⟩
theorem Row.cellB{w:World}{e:TypeId}{k:Nat}{v:Value}{n:Nat}{xs:List Value}{M:Nat->Prop}(h:Row w e k v n xs M):∀g,v.ownBlock=some g->fA w g:=fun g hg=>by obtain⟨cs,hb⟩:=aV h hg;exact⟨_,hb,rfl⟩
theorem aL0{w W:World}{P:World->Value->Prop}{tmps:Array Value}{ds:List Deferred}{lo:Nat}{v:Value}(hm:Marks lo W ds)(hk:Ext w W)(hlo:w.heap.size≤lo)(ht:tmps.getD 4 undef=v)
 (hP:∀w',Kp (fun k=>lo≤k/\¬fA W k) W w'->P w' v):
 bodyPostM Fence.wide 4 Tryz.prog Tryz.f177 (RetN w P) .ret {tmps:=tmps,defers:=ds} W:=by
 refine fJ hm fun w' e1 e2 e3 e4 e5 e6=>?_;have kx:Kp (fun k=>lo≤k/\¬fA W k) W w':=⟨e1,e2,e3,by omega,fun k hk hf=>by
  by_cases h:lo≤k
  ·by_cases h2:∃o:Obj,W.heap[k]?=some o/\o.isCells=true
   ·obtain⟨o,h2,h3⟩:=h2;rw [h2];exact e6 k o h2 h3
   ·exact absurd ⟨h,h2⟩ hf
  ·exact e5 k (by omega)⟩
 refine⟨v,?_,RetN.mk (hk.trans' kx fun i hi h=>absurd h.1 (by omega)) (hP w' kx)⟩;have ht':tmps[4]?.getD undef=v:=by simpa using ht
 simp [results,Tryz.f177,go_sem,ht']
set_option maxHeartbeats 8000000 in
theorem zR{S:Nat->Prop}{w:World}{rb m oc:Nat}{iv:Value}{oa:Option Addr}{LL:aD}(hR:RowsAt S w rb iv m LL)(hst:Strict aC LL)(hlen:∀x∈LL,x.length=m)(ho:CellsAt w oa (ints ((List.range m).map fun(v:Nat)=>(v:Int))))(hm:m≤64)(hn:LL.length≤65536):
 Calls Tryz.prog 177 #[.pointer (some ⟨rb,0,none⟩),.slice oa m oc] w (RetN w fun w' v=>OwnRows w.heap.size w' v LL):=by
 have HEach:=qH (show ∀W,Ext w W->Calls Tryz.prog 175 #[.pointer (some ⟨rb,0,none⟩)] W (RetN W fun w' v=>lS W.heap.size w' v LL)from fun W hW=>(wU (z:=False) ((hR.ext hW).q)).mono (by rintro e w' ⟨v,rfl,hk,-,h⟩;exact RetN.mk (hk.mono fun k _ h=>h.1) h));have HO:=qH ho;have HL:=qH (nIX hst (nIX hlen hn));clear hR hst hlen ho hn;refine callsIn_wide.1 (callsIn_of_wp_marks (n:=4) Tryz.func177 rfl trivial ?_ rfl);refine wpIn_wide.2 ?_;obtain⟨Q,eQ⟩:∃Q,Q=bodyPostM Fence.wide 4 Tryz.prog Tryz.f177 (RetN w fun w' v=>OwnRows w.heap.size w' v LL):=⟨_,rfl⟩;rw [<-eQ];have EQ:=qH eQ;clear eQ;simp only [Tryz.ntmps177,List.size_toArray,List.length_cons,List.length_nil,Nat.reduceAdd,Nat.reduceSub,Array.replicate_succ,Array.replicate_zero,List.push_toArray,List.append_toArray,List.nil_append,List.cons_append];obtain⟨ob,eob⟩:=nm w.heap.size;obtain⟨w1,e1⟩:=nm (w.alloc (.cells #[.slice oa m oc] 173));obtain⟨w2,e2⟩:=nm (w1.alloc (.cells #[.slice none 0 0] 69));have s1:w1.heap.size=ob+1:=by rw [<-e1,aJ,eob]
 have s2:w2.heap.size=ob+1+1:=by rw [<-e2,aJ,s1]
 have x1:Ext w w1:=xAX e1;have x2:Ext w1 w2:=xAX e2;have H2:=qH (show Blk w2 ob [.slice oa m oc] 173/\Blk w2 (ob+1) [.slice none 0 0] 69/\Ext w w2 from
  ⟨by have h:=Blk.new w [.slice oa m oc] 173;rw [eob]at h;rw [<-e1]at x2;exact h.ext x2,by have h:=Blk.new w1 [.slice none 0 0] 69;rw [s1]at h;rw [<-e2];exact h,x1.trans x2⟩)
 have HS:=qH (nIX eob s2);clear x1 x2;go_wp2_with fail
 clear e1 e2 s1 s2 eob;refine(HEach.out w2 H2.out.2.2).mono ?_;rintro e w9 ⟨ve,rfl,hk9,hEa⟩;obtain⟨Bs,ps2,SB,rfl,hL2,hrows,hSlt,hseq⟩:=aMq hEa;have HQ:=qH hseq;have HX:=qH (nIX hL2 (nIX hrows hSlt));have H9:=qH (nIX (H2.out.1.ext hk9) (nIX (H2.out.2.1.ext hk9) (H2.out.2.2.trans hk9)));have hsz9:=hk9.size;have hbb9:ob+1<w9.heap.size:=H9.out.2.1.lt;have HOB:=qH (show w2.heap.size=ob+1+1/\w.heap.size=ob from⟨HS.out.2,HS.out.1⟩);clear hseq hEa hL2 hrows hSlt hk9;go_wp2_with fail
 refine' wpIn_wide.1 (wpIn_rangeFunc_ownG (F:=Fence.wide) (n:=4) (w0:=w9) rfl (by omega) (gf:=171) (lb:=#[.pointer (some ⟨Bs,0,none⟩)]) rfl trivial (enters_of Tryz.func171 (by kernel_rfl) rfl)
  HQ.out SameOn.trans (SameOn.put fun k h=>(HX.out.2.2 k h).2) (Below.refl _ _) (fun _=>rfl) (GotRows (fun x:{p:eY//p∈ps2}=>x.1.2) ps2.length w9 (ob+1)) (fun _ _ _=>False) (GotRows.own (Nat.le_refl _)) (fun _ _ _ _ _ h _ _=>h)
  ⟨Nat.zero_le _,Kp.refl _,_,H9.out.2.1,OwnRows.nil _ _⟩ _ ?assign ?body ?done ?stop)
 case assign=>
  intro l x W K hK;gi_wp2;exact hK
 case stop=>
  rintro D c pre W _ _ h _;exact h.elim
 case body=>
  rintro l pre ⟨⟨⟨ax,mx,cx⟩,sp⟩,hp⟩ X hG hpl;rw [List.length_attach]at hpl;have hkX:=hG.2.1;have hrow:=HX.out.2.1 _ hp;have hrX:=Row.kp' hrow hkX fun g hg hM e=>by have e':g=ob+1:=e;have hM':w2.heap.size≤g:=hM;have:=HOB.out.1;omega
  have hsl:sp.length=m:=HL.out.2.1 sp (by rw [HX.out.1];exact List.mem_map.2 ⟨_,hp,rfl⟩);have hfew:ps2.length≤65536:=by have h:=HL.out.2.2;rw [HX.out.1,List.length_map]at h;exact h
  refine wpIn_mono (Q:=fU (fun X'=>KeepsFrom w9.heap.size X X'/\SameOn SB X X'/\GotRows (fun x:{p:eY//p∈ps2}=>x.1.2) ps2.length w9 (ob+1) (pre++ [⟨((ax,mx,cx),sp),hp⟩]) X') (fun _=>False)) ?_ ?_
  ·show Code.wpIn _ _ _ aDt _ _ _;refine aF6 (w:=w) (y:=⟨((ax,mx,cx),sp),hp⟩) (sp:=sp) (ax:=ax) (mx:=mx) (cx:=cx) (m:=m) (H9.out.1.kp hkX (by omega)) (fun i u hu=>by
    obtain⟨b,off,e,c⟩:=HO.out i u hu;have hb:b<w.heap.size:=World.block_lt_of_cell? _ _ c;exact⟨b,off,e,hkX.cell (H9.out.2.2.cell c id) (by show ¬b=ob+1;have:=HOB.out.2;omega)⟩) hm (Row.readsAs hrow).1.1 hsl (Row.readsAs hrX).1.2 rfl ⟨Nat.le_of_lt hpl,by omega⟩ hG hbb9 rfl rfl rfl rfl ?_
   ·intro X' q1 q2 q3 q4;refine⟨q1.from _,SameOn.of_kp q2 (fun k hk=>by have:=(HX.out.2.2 k hk).2;have:=hkX.size;omega) (fun k hk hf=>?_),by rw [List.length_append,List.length_singleton];omega,q3,q4⟩;have h1:=HX.out.2.2 k hk;have:=HOB.out.1;rcases hf with hf|hf<;>omega
  ·intro e a W h;cases e<;>first|exact h|exact h.elim
 case done=>
  rintro D1 ys X2 hD hys hG hd;have hys':=hys.symm;subst hys';clear hys;have hro:ps2.attach.map (fun x:{p:eY//p∈ps2}=>x.1.2)=LL:=by
   rw [HX.out.1];have h1:ps2.attach.map (fun x=>x.1.2)=(ps2.attach.map Subtype.val).map Prod.snd:=by rw [List.map_map];rfl
   rw [h1,List.attach_map_subtype_val]
  obtain⟨-,hkX,v,hBv,hOw⟩:=hG;rw [hro]at hOw;have hm1:Marks w9.heap.size X2 [{target:= .collected D1,args:=#[]}]:=Marks.push (Marks.nil w9.heap.size w9) (xX hkX fun k e=>by have e':k=ob+1:=e;rw [e'];exact⟨_,H9.out.2.1,rfl⟩).same hD hD hd;obtain⟨ao,cap,ev,-⟩:=hOw.shape;subst ev;have b1:=hBv.c0;have HSort:=qH (aLq hOw HL.out.1 (fun x hx=>by rw [HL.out.2.1 x hx];exact hm) HL.out.2.2);have hxX:Ext w X2:=H9.out.2.2.trans' hkX fun i hi e=>by have e':i=ob+1:=e;have:=HOB.out.2;omega
  have HZ:=qH (nIX hkX (nIX hBv (nIX hOw (nIX hm1 hxX))));obtain⟨nL,enL⟩:=nm LL.length;rw [enL]at b1 HSort HZ;clear hkX hBv hOw hm1 hxX hd hD hro;go_wp2_with fail
  refine HSort.out.mono ?_;rintro e X3 ⟨rfl,hO3,k3⟩;have hnb:¬(Value.slice ao nL cap).ownBlock=some (ob+1):=fun h=>by obtain⟨ps,_,h2,_⟩:=HZ.out.2.2.1;have h3:w9.heap.size≤ob+1:=h2.block _ h;omega
  have b3:X3.cell? ⟨ob+1,0,none⟩=some (.slice ao nL cap):=k3.cell b1 hnb;have HComp:=qH (aC9 hO3 HL.out.1 m HL.out.2.1 hm HL.out.2.2);have H3:=qH (nIX k3 hO3);clear k3 hO3 hnb b1;go_wp2_with fail
  refine HComp.out.mono ?_;rintro e X4 ⟨v4,rfl,k4,hO4⟩;have H4:=qH (nIX k4 hO4);clear k4 hO4 b3;go_wp2_with fail
  show Q .ret _ _;rw [EQ.out];have hcell:∀W:World,OwnRows w9.heap.size W (.slice ao nL cap) LL->∀k,(Value.slice ao nL cap).ownBlock=some k->w9.heap.size≤k/\fA W k:=fun W h k hk=>by obtain⟨ps,_,h2,_⟩:=h;exact⟨h2.block k hk,h2.cellB k hk⟩
  refine aL0 (lo:=w9.heap.size) ((HZ.out.2.2.2.1.others (xX H3.out.1 fun k hk=>(hcell _ HZ.out.2.2.1 k hk).2)).others (xX H4.out.1 fun k hk=>(hcell _ H3.out.2 k hk).2)) ((HZ.out.2.2.2.2.trans' H3.out.1 fun i hi h=>by have:=(hcell _ HZ.out.2.2.1 i h).1;have:=HOB.out.2;omega).trans' H4.out.1 fun i hi h=>by have:=(hcell _ H3.out.2 i h).1;have:=HOB.out.2;omega) (by have:=HOB.out.2;omega) rfl fun w' kx=>?_;exact(H4.out.2.mono (by have:=HOB.out.2;omega)).kpc kx fun g h=>h.2
end
section
open Go.RowKit Go.Shelf
set_option maxHeartbeats 1000000 in
theorem wC{w:World}{tb b off i d lc kn kc n:Nat}{ka:Option Addr}(t0:w.cell? ⟨tb,0,none⟩=some (.slice (some ⟨b,off,none⟩) d lc))(hi:i<d)(l0:w.cell? ⟨b,off+i*2,none⟩=some (.slice ka kn kc)):
 Calls Tryz.prog 178 #[.pointer (some ⟨tb,0,none⟩),.int .i64 i,.int .i64 n] w (RetN w fun w' v=>v= .int .i64 kn):=by
 go_enter Tryz.func178,Tryz.ntmps178;go_wp2;go_ret;exact RetN.mk (Kp.refl _) rfl
set_option maxHeartbeats 1000000 in
theorem sT{w:World}{tb i d lc n:Nat}{la:Option Addr}(t0:w.cell? ⟨tb,0,none⟩=some (.slice la d lc))(hi:¬i<d):
 Calls Tryz.prog 178 #[.pointer (some ⟨tb,0,none⟩),.int .i64 i,.int .i64 n] w (RetN w fun w' v=>v= .int .i64 n):=by
 go_enter Tryz.func178,Tryz.ntmps178;go_wp2;go_ret;exact RetN.mk (Kp.refl _) rfl
end
section
open Go.RowKit Go.Shelf
attribute [local go_sem] Oper.semAt_some
def lI(kv fv:Nat->Value)(d:Nat):List Value:=(List.range d).flatMap fun i=> [kv i,fv i]
theorem rZ(kv fv:Nat->Value)(d:Nat):(lI kv fv d).length=d*2:=by
 induction d with
 |zero=>rfl
 |succ d ih=>
  unfold lI at*;rw [List.range_succ,List.flatMap_append,List.length_append,ih];simp;omega
theorem jH(kv fv:Nat->Value)(d:Nat):lI kv fv (d+1)=lI kv fv d++ [kv d,fv d]:=by unfold lI;rw [List.range_succ,List.flatMap_append];simp
theorem dM(kv fv:Nat->Value){d i:Nat}(hi:i<d):(lI kv fv d)[i*2]?=some (kv i)/\(lI kv fv d)[i*2+1]?=some (fv i):=by
 induction d with
 |zero=>omega
 |succ d ih=>
  rw [jH];by_cases h:i<d
  ·have hl:=rZ kv fv d;rw [List.getElem?_append_left (by omega),List.getElem?_append_left (by omega)];exact ih h
  ·obtain rfl:i=d:=by omega
   have hl:=rZ kv fv i;rw [List.getElem?_append_right (by omega),List.getElem?_append_right (by omega),hl,Nat.sub_self,show i*2+1-i*2=1 by omega];exact⟨rfl,rfl⟩
theorem xS{kv fv kv' fv':Nat->Value}{d:Nat}(h:∀i,i<d->kv i=kv' i/\fv i=fv' i):lI kv fv d=lI kv' fv' d:=by unfold lI;rw [List.flatMap_def,List.flatMap_def,List.map_congr_left fun i hi=>by obtain⟨h1,h2⟩:=h i (List.mem_range.1 hi);rw [h1,h2]]
theorem aJz(kv fv:Nat->Value){d i:Nat}(hi:i<d)(v:Value):(lI kv fv d).set (i*2) v=lI (dQ kv i v) fv d:=by
 induction d with
 |zero=>omega
 |succ d ih=>
  rw [jH,jH];have hl:=rZ kv fv d;by_cases h:i<d
  ·rw [List.set_append_left _ _ (by omega),ih h,aH _ _ (by omega)]
  ·obtain rfl:i=d:=by omega
   rw [List.set_append_right _ _ (by omega),hl,Nat.sub_self,List.set_cons_zero,upd_same,xS (kv':=kv) (fv':=fv) (kv:=dQ kv i v) (fv:=fv) fun j hj=>⟨aH _ _ (by omega),rfl⟩]
theorem aJ0(kv fv:Nat->Value){d i:Nat}(hi:i<d)(v:Value):(lI kv fv d).set (i*2+1) v=lI kv (dQ fv i v) d:=by
 induction d with
 |zero=>omega
 |succ d ih=>
  rw [jH,jH];have hl:=rZ kv fv d;by_cases h:i<d
  ·rw [List.set_append_left _ _ (by omega),ih h,aH _ _ (by omega)]
  ·obtain rfl:i=d:=by omega
   rw [List.set_append_right _ _ (by omega),hl,show i*2+1-i*2=1 by omega,List.set_cons_succ,List.set_cons_zero,upd_same,xS (kv':=kv) (fv':=fv) (kv:=kv) (fv:=dQ fv i v) fun j hj=>⟨rfl,aH _ _ (by omega)⟩]
structure LevSt(w0 w:World)(tb lb d n:Nat)(ks:Nat->List ByteArray)(fs:Nat->List Int)(kv fv:Nat->Value):Prop where
 tri:Blk w tb [.slice (some ⟨lb,0,none⟩) d d,.int .i64 n,.bool true] 241
 blk:Blk w lb (lI kv fv d) 244
 keys:∀i,i<d->Row w 9 1 (kv i) (ks i).length (strs (ks i)) (New w0)
 froms:∀i,i<d->Row w 3 1 (fv i) (fs i).length (ints (fs i)) (New w0)
 kfar:∀i j,i<d->j<d->i≠j->∀g,(kv i).ownBlock=some g->(kv j).ownBlock≠some g
 ffar:∀i j,i<d->j<d->i≠j->∀g,(fv i).ownBlock=some g->(fv j).ownBlock≠some g
 new:w0.heap.size≤tb/\w0.heap.size≤lb
 kp:Ext w0 w
theorem tY:241≠244/\241≠9/\241≠3/\244≠9/\244≠3/\9≠3:=by decide
section
variable {w0 w w':World}{tb lb d n:Nat}{ks:Nat->List ByteArray}{fs:Nat->List Int}{kv fv:Nat->Value}
theorem LevSt.ext(h:LevSt w0 w tb lb d n ks fs kv fv)(hk:Ext w w'):LevSt w0 w' tb lb d n ks fs kv fv:=
 ⟨h.tri.ext hk,h.blk.ext hk,fun i hi=>(h.keys i hi).ext hk,fun i hi=>(h.froms i hi).ext hk,h.kfar,h.ffar,h.new,h.kp.trans hk⟩
theorem LevSt.congr{ks':Nat->List ByteArray}{fs':Nat->List Int}(h:LevSt w0 w tb lb d n ks fs kv fv)(h1:∀i,i<d->ks i=ks' i)(h2:∀i,i<d->fs i=fs' i):LevSt w0 w tb lb d n ks' fs' kv fv:=
 ⟨h.tri,h.blk,fun i hi=>by rw [<-h1 i hi];exact h.keys i hi,fun i hi=>by rw [<-h2 i hi];exact h.froms i hi,h.kfar,h.ffar,h.new,h.kp⟩
theorem LevSt.putK(h:LevSt w0 w tb lb d n ks fs kv fv){i:Nat}(hi:i<d){x:ByteArray}{v':Value}(hr:Row w' 9 1 v' ((ks i).length+1) (strs (ks i)++ [.string x]) (fun g=>(kv i).ownBlock=some g\/w.heap.size≤g))(hk:Kp (fun g=>(kv i).ownBlock=some g) w w'):
 LevSt w0 (w'.setCell ⟨lb,i*2,none⟩ v') tb lb d n (dQ ks i (ks i++ [x])) fs (dQ kv i v') fv:=by
 obtain⟨t1,t2,t3,t4,t5,t6⟩:=tY;have ks':Kp (fun k=>k=lb) w' (w'.setCell ⟨lb,i*2,none⟩ v'):=Kp.setCell (F:=fun k=>k=lb) (p:=⟨lb,i*2,none⟩) (Kp.refl w') (fun _=>rfl) _;have own:∀g,(kv i).ownBlock=some g->∃cs,Blk w g cs 9:=fun g hg=>aV (h.keys i hi) hg;have htri:Blk w' tb _ 241:=h.tri.kp hk fun hg=>by obtain⟨cs,hb⟩:=own _ hg;exact t2 (aQ h.tri hb)
 have hblk:Blk w' lb (lI kv fv d) 244:=h.blk.kp hk fun hg=>by obtain⟨cs,hb⟩:=own _ hg;exact t4 (aQ h.blk hb)
 have hkp:Ext w0 w':=h.kp.trans' hk fun g hg e=>by have h2:w0.heap.size≤g:=(h.keys i hi).block g e;omega
 refine⟨htri.kp ks' fun e=>t1 (by have e':tb=lb:=e;rw [e']at htri;exact aQ htri hblk),?_,fun j hj=>?_,fun j hj=>?_,fun j l hj hl hne g h1 h2=>?_,h.ffar,h.new,hkp.trans' ks' fun g hg e=>by have e':g=lb:=e;have:=h.new.2;omega⟩
 ·rw [<-aJz kv fv hi];exact hblk.set _ _
 ·by_cases e:j=i
  ·subst e;rw [upd_same,upd_same,List.length_append,List.length_singleton];have e1:strs (ks j++ [x])=strs (ks j)++ [.string x]:=by simp [strs]
   rw [e1];refine(hr.kp' ks' fun g hg _ e=>?_).mono fun g hg=>?_
   ·obtain⟨cs,hb⟩:=aV hr hg;have e':g=lb:=e;rw [e']at hb;exact t4 (aQ hblk hb)
   ·rcases hg with hg|hg
    ·exact(h.keys j hi).block g hg
    ·exact Nat.le_trans h.kp.size hg
  ·rw [aH _ _ e,aH _ _ e];have h1:=(h.keys j hj).kp' hk fun g hg _ hf=>h.kfar i j hi hj (fun e2=>e e2.symm) g hf hg;exact h1.kp' ks' fun g hg _ e=>by obtain⟨cs,hb⟩:=aV h1 hg;have e':g=lb:=e;rw [e']at hb;exact t4 (aQ hblk hb)
 ·have h1:=(h.froms j hj).kp' hk fun g hg _ hf=>by
   obtain⟨cs,hb⟩:=own _ hf;obtain⟨cs2,hb2⟩:=aV (h.froms j hj) hg;exact t6 (aQ hb hb2)
  exact h1.kp' ks' fun g hg _ e=>by obtain⟨cs,hb⟩:=aV h1 hg;have e':g=lb:=e;rw [e']at hb;exact t5 (aQ hblk hb)
 ·by_cases e1:j=i
  ·subst e1;rw [upd_same]at h1;rw [aH _ _ (fun e=>hne e.symm)]at h2;rcases hr.block g h1 with h3|h3
   ·exact h.kfar j l hj hl hne g h3 h2
   ·have:=(h.keys l hl).lt g h2;omega
  ·rw [aH _ _ e1]at h1;by_cases e2:l=i
   ·subst e2;rw [upd_same]at h2;rcases hr.block g h2 with h3|h3
    ·exact h.kfar j l hj hl hne g h1 h3
    ·have:=(h.keys j hj).lt g h1;omega
   ·rw [aH _ _ e2]at h2;exact h.kfar j l hj hl hne g h1 h2
theorem LevSt.putF(h:LevSt w0 w tb lb d n ks fs kv fv){i:Nat}(hi:i<d){x:Int}{v':Value}(hr:Row w' 3 1 v' ((fs i).length+1) (ints (fs i)++ [.int .i64 x]) (fun g=>(fv i).ownBlock=some g\/w.heap.size≤g))(hk:Kp (fun g=>(fv i).ownBlock=some g) w w'):
 LevSt w0 (w'.setCell ⟨lb,i*2+1,none⟩ v') tb lb d n ks (dQ fs i (fs i++ [x])) kv (dQ fv i v'):=by
 obtain⟨t1,t2,t3,t4,t5,t6⟩:=tY;have ks':Kp (fun k=>k=lb) w' (w'.setCell ⟨lb,i*2+1,none⟩ v'):=Kp.setCell (F:=fun k=>k=lb) (p:=⟨lb,i*2+1,none⟩) (Kp.refl w') (fun _=>rfl) _;have own:∀g,(fv i).ownBlock=some g->∃cs,Blk w g cs 3:=fun g hg=>aV (h.froms i hi) hg;have htri:Blk w' tb _ 241:=h.tri.kp hk fun hg=>by obtain⟨cs,hb⟩:=own _ hg;exact t3 (aQ h.tri hb)
 have hblk:Blk w' lb (lI kv fv d) 244:=h.blk.kp hk fun hg=>by obtain⟨cs,hb⟩:=own _ hg;exact t5 (aQ h.blk hb)
 have hkp:Ext w0 w':=h.kp.trans' hk fun g hg e=>by have h2:w0.heap.size≤g:=(h.froms i hi).block g e;omega
 refine⟨htri.kp ks' fun e=>t1 (by have e':tb=lb:=e;rw [e']at htri;exact aQ htri hblk),?_,fun j hj=>?_,fun j hj=>?_,h.kfar,fun j l hj hl hne g h1 h2=>?_,h.new,hkp.trans' ks' fun g hg e=>by have e':g=lb:=e;have:=h.new.2;omega⟩
 ·rw [<-aJ0 kv fv hi];exact hblk.set _ _
 ·have h1:=(h.keys j hj).kp' hk fun g hg _ hf=>by
   obtain⟨cs,hb⟩:=own _ hf;obtain⟨cs2,hb2⟩:=aV (h.keys j hj) hg;exact t6 (aQ hb2 hb)
  exact h1.kp' ks' fun g hg _ e=>by obtain⟨cs,hb⟩:=aV h1 hg;have e':g=lb:=e;rw [e']at hb;exact t4 (aQ hblk hb)
 ·by_cases e:j=i
  ·subst e;rw [upd_same,upd_same,List.length_append,List.length_singleton];have e1:ints (fs j++ [x])=ints (fs j)++ [.int .i64 x]:=by simp [ints]
   rw [e1];refine(hr.kp' ks' fun g hg _ e=>?_).mono fun g hg=>?_
   ·obtain⟨cs,hb⟩:=aV hr hg;have e':g=lb:=e;rw [e']at hb;exact t5 (aQ hblk hb)
   ·rcases hg with hg|hg
    ·exact(h.froms j hi).block g hg
    ·exact Nat.le_trans h.kp.size hg
  ·rw [aH _ _ e,aH _ _ e];have h1:=(h.froms j hj).kp' hk fun g hg _ hf=>h.ffar i j hi hj (fun e2=>e e2.symm) g hf hg;exact h1.kp' ks' fun g hg _ e=>by obtain⟨cs,hb⟩:=aV h1 hg;have e':g=lb:=e;rw [e']at hb;exact t5 (aQ hblk hb)
 ·by_cases e1:j=i
  ·subst e1;rw [upd_same]at h1;rw [aH _ _ (fun e=>hne e.symm)]at h2;rcases hr.block g h1 with h3|h3
   ·exact h.ffar j l hj hl hne g h3 h2
   ·have:=(h.froms l hl).lt g h2;omega
  ·rw [aH _ _ e1]at h1;by_cases e2:l=i
   ·subst e2;rw [upd_same]at h2;rcases hr.block g h2 with h3|h3
    ·exact h.ffar j l hj hl hne g h1 h3
    ·have:=(h.froms j hj).lt g h1;omega
   ·rw [aH _ _ e2]at h2;exact h.ffar j l hj hl hne g h1 h2
theorem LevSt.done{W:aD}(h:LevSt w0 w tb lb d n ks fs kv fv)(hnW:n=W.length)(hd:d≤64)(hW:W.length≤65536)(hk:∀i,i<d->ks i=cB W d i W.length)(hf:∀i,i<d->fs i=cL W d i W.length++ [(aR W d (i+1) W.length:Int)]):
 Fast w0.heap.size w.heap.size w fun X=>TrieAt X tb W d:=fun X hX=>by
 subst hnW;have noF:∀k,w0.heap.size≤k->k<w.heap.size->¬¬(w0.heap.size≤k/\k<w.heap.size):=fun k h1 h2 h3=>h3 ⟨h1,h2⟩;have htri:=h.tri.kp hX (noF _ h.new.1 h.tri.lt);have hblk:=h.blk.kp hX (noF _ h.new.2 h.blk.lt);refine⟨⟨some ⟨lb,0,none⟩,d,by rw [htri.cell'];rfl,by rw [htri.cell'];rfl,by rw [htri.cell'];rfl,fun i hi=>⟨lb,0,rfl,?_⟩⟩,by omega,by omega⟩;have hkr:=(h.keys i hi).kp' hX fun g hg hM=>noF g hM ((h.keys i hi).lt g hg);have hfr:=(h.froms i hi).kp' hX fun g hg hM=>noF g hM ((h.froms i hi).lt g hg);rw [hk i hi,fV]at hkr;rw [hf i hi,List.length_append,iS,List.length_singleton]at hfr;obtain⟨ka,kc,e1,c1,l1⟩:=hkr.shape;obtain⟨fa,fc,e2,c2,l2⟩:=hfr.shape;refine⟨⟨ka,kc,fa,fc,?_,?_,l1,c1,c2⟩⟩
 ·rw [hblk.cell',Nat.zero_add,(dM kv fv hi).1,e1]
 ·rw [hblk.cell',Nat.zero_add,(dM kv fv hi).2,e2]
end
end
end Go.Proofs.YtinnmeiphbdogaaGreat
