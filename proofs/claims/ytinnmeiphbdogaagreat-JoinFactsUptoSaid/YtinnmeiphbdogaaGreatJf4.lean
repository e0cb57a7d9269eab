/- Texts joined for a claim (BaseAt, RowWith, BaseV, LaidPlain, TrieAt, CurAt, CurDo, CurSeek, CurOpen, CurOpen0, CurStep, MatchAt, WalkAt, JoinRef, JoinRef2, JoinList, CmpTest, MissTest, WalkPlain). -/
import Derived.Test.YtinnmeiphbdogaaGreatJf3
import Derived.Deep.RegionWith
import Derived.StillTailTactics
set_option linter.unusedVariables false
set_option linter.unusedSimpArgs false
set_option maxRecDepth 100000
namespace Go.Proofs.YtinnmeiphbdogaaGreat
section
open Go.RowKit
structure Ent where
 name:ByteArray
 b:Nat
 iv:Value
 ar:Nat
 LL:List (List ByteArray)
def Ent.ptr(e:Ent):Value:= .pointer (some ⟨e.b,0,none⟩)
def Ent.cnt(e:Ent):aZ:=(e.name,e.ar,e.LL)
def Ent.own(e:Ent):Nat->Prop:=dY e.b e.iv
def eT(E:List Ent):List (ByteArray×Value):=E.map fun e=>(e.name,e.ptr)
def aS(E:List Ent):List aZ:=E.map Ent.cnt
def bS(E:List Ent)(s:ByteArray):Option Ent:=E.find? fun e=>decide (e.name=s)
theorem lO(E:List Ent)(s:ByteArray):yG (eT E) s=(bS E s).map Ent.ptr:=by unfold yG eT bS;rw [List.find?_map,Option.map_map];rfl
theorem oS(E:List Ent)(s:ByteArray):bL (aS E) s=(bS E s).map fun e=>(e.ar,e.LL):=by unfold bL aS bS;rw [List.find?_map,Option.map_map];rfl
theorem qW(E:List Ent):(eT E).map (·.1)=(aS E).map (·.1):=by unfold eT aS;rw [List.map_map,List.map_map];rfl
theorem cZ{E:List Ent}{s:ByteArray}{e:Ent}(h:bS E s=some e):e∈E/\e.name=s:=⟨List.mem_of_find?_eq_some h,by have:=List.find?_some h;simpa using this⟩
theorem fF{E:List Ent}{s:ByteArray}{e:Ent}(h:bS E s=some e):bL (aS E) s=some (e.ar,e.LL)/\bG (aS E) s=e.LL:=by
 have h1:bL (aS E) s=some (e.ar,e.LL):=by rw [oS,h];rfl
 exact⟨h1,iG h1⟩
theorem gG{E:List Ent}{s:ByteArray}(h:bS E s=none):bL (aS E) s=none/\bG (aS E) s= []:=by
 have h1:bL (aS E) s=none:=by rw [oS,h];rfl
 exact⟨h1,gI h1⟩
theorem lE{E:List Ent}{e:Ent}(h:e∈E):e.cnt∈aS E:=List.mem_map.2 ⟨e,h,rfl⟩
def OwnE(E:List Ent)(k:Nat):Prop:=∃e∈E,e.own k
def iA(bb r:Nat)(E:List Ent)(k:Nat):Prop:=k=bb\/k=r\/OwnE E k
structure BaseAt(S:Nat->Prop)(w:World)(bb r:Nat)(E:List Ent):Prop where
 blk:Blk w bb [.map (some r),.int .i64 (aX (aS E):Nat)] 129
 map:MapIs w r (eT E)
 rows:∀e∈E,RowsAt S w e.b e.iv e.ar e.LL
 apart:E.Pairwise fun e f=>∀k,e.own k->¬f.own k
 inS:∀k,S k->k<w.heap.size
 notS:¬S bb/\¬S r
 ne:bb≠r
 off:∀e∈E,∀k,e.own k->k≠bb/\k≠r
 ok:BaseOk (aS E)
section
variable {S S':Nat->Prop}{w w':World}{bb r:Nat}{E:List Ent}
theorem BaseAt.kp{F:Nat->Prop}(h:BaseAt S w bb r E)(hk:Kp F w w')(hF:∀k,F k->¬iA bb r E k)(hS:∀k,F k->¬S k):BaseAt S w' bb r E:=
 {blk:=h.blk.kp hk fun hf=>hF _ hf (.inl rfl)
  map:=h.map.kp hk fun hf=>hF _ hf (.inr (.inl rfl))
  rows:=fun e he=>(h.rows e he).move hk (fun k hf ho=>hF k hf (.inr (.inr ⟨e,he,ho⟩))) hS (fun _ x=>x) (fun k hk'=>Nat.lt_of_lt_of_le (h.inS k hk') hk.size) (h.rows e he).notS
  apart:=h.apart
  inS:=fun k hk'=>Nat.lt_of_lt_of_le (h.inS k hk') hk.size
  notS:=h.notS,ne:=h.ne,off:=h.off,ok:=h.ok}
theorem BaseAt.ext(h:BaseAt S w bb r E)(hk:Ext w w'):BaseAt S w' bb r E:=h.kp hk (fun _ x=>x.elim) (fun _ x=>x.elim)
theorem BaseAt.ownLt(h:BaseAt S w bb r E):∀k,iA bb r E k->k<w.heap.size:=by
 rintro k (rfl|rfl|⟨e,he,ho⟩)
 ·exact h.blk.lt
 ·exact h.map.lt
 ·exact(RowsQ.ownLt (z:=True) (h.rows e he).q) k ho
theorem BaseAt.notOwn(h:BaseAt S w bb r E):∀k,iA bb r E k->¬S k:=by
 rintro k (rfl|rfl|⟨e,he,ho⟩)
 ·exact h.notS.1
 ·exact h.notS.2
 ·exact(h.rows e he).notS k ho
theorem BaseAt.strict(h:BaseAt S w bb r E){e:Ent}(he:e∈E):Strict aC e.LL:=(h.ok.all _ (lE he)).strict
theorem BaseAt.few(h:BaseAt S w bb r E){e:Ent}(he:e∈E):e.LL.length≤65536:=(h.ok.all _ (lE he)).few
theorem BaseAt.new(S:Nat->Prop)(hS:∀k,S k->k<w.heap.size){wb:World}(hx:Ext w wb){bb r:Nat}(hb:w.heap.size≤bb)(hr:w.heap.size≤r)(hne:bb≠r)(hB:Blk wb bb [.map (some r),.int .i64 0] 129)(hm:MapIs wb r []):BaseAt S wb bb r []:=
 {blk:=hB,map:=hm,rows:=fun e he=>by simp at he
  apart:=List.Pairwise.nil
  inS:=fun k hk=>Nat.lt_of_lt_of_le (hS k hk) hx.size
  notS:=⟨fun h=>by have:=hS _ h;omega,fun h=>by have:=hS _ h;omega⟩
  ne:=hne,off:=fun e he=>by simp at he,ok:=qO}
theorem BaseAt.turn{pre post:List Ent}{e:Ent}(h:BaseAt S w bb r (pre++e::post)){iv':Value}{LL':List (List ByteArray)}(hk:Kp e.own w w')(hs:∀k,S k->S' k)(hnew:∀k,S' k->S k\/w.heap.size≤k)
 (hr:RowsAt S' w' e.b iv' e.ar LL')(hiv:∀k,iv'.ownBlock=some k->e.iv.ownBlock=some k\/w.heap.size≤k){n:Nat}{W:World}(hW:Kp (fun k=>k=bb\/k=r) w' W)(hm:MapIs W r (eT (pre++e::post)))(hB:Blk W bb [.map (some r),.int .i64 (n:Nat)] 129)(hn:n=aX (aS (pre++{e with iv:=iv',LL:=LL'}::post)))(hok:BaseOk (aS (pre++{e with iv:=iv',LL:=LL'}::post))):
 BaseAt S' W bb r (pre++{e with iv:=iv',LL:=LL'}::post):=by
 have hin':=hr.inS;have hown:∀f∈pre++e::post,∀k,f.own k->k<w.heap.size/\¬S' k:=fun f hf k ho=>by
  have h1:=h.ownLt k (.inr (.inr ⟨f,hf,ho⟩));refine⟨h1,fun hs'=>?_⟩;rcases hnew k hs' with h2|h2
  ·exact(h.rows f hf).notS k ho h2
  ·omega
 have hbb:=h.ownLt bb (.inl rfl);have hrr:=h.ownLt r (.inr (.inl rfl));have hem:e∈pre++e::post:=List.mem_append_right _ List.mem_cons_self;have hebb:¬S' bb:=fun hs'=>by rcases hnew _ hs' with h2|h2;exact h.notS.1 h2;omega
 have herr:¬S' r:=fun hs'=>by rcases hnew _ hs' with h2|h2;exact h.notS.2 h2;omega
 have hiv2:∀k,dY e.b iv' k->e.own k\/w.heap.size≤k:=fun k ho=>by
  rcases ho with ho|ho
  ·exact .inl (.inl ho)
  ·rcases hiv k ho with h2|h2
   ·exact .inl (.inr h2)
   ·exact .inr h2
 have hoff':∀k,dY e.b iv' k->k≠bb/\k≠r:=fun k ho=>by
  rcases hiv2 k ho with h2|h2
  ·exact h.off e hem k h2
  ·omega
 obtain⟨ap1,ap2,ap3⟩:=List.pairwise_append.1 h.apart;obtain⟨ap4,ap5⟩:=List.pairwise_cons.1 ap2;have hother:∀f,(f∈pre\/f∈post)->(∀k,e.own k->¬f.own k)/\f∈pre++e::post:=fun f hf=>by
  rcases hf with hf|hf
  ·exact⟨fun k h1 h2=>ap3 f hf e List.mem_cons_self k h2 h1,List.mem_append_left _ hf⟩
  ·exact⟨fun k h1 h2=>ap4 f hf k h1 h2,List.mem_append_right _ (List.mem_cons_of_mem _ hf)⟩
 have hF:∀k,k=bb\/k=r->¬S' k:=fun k e=>by
  rcases e with rfl|rfl
  ·exact hebb
  ·exact herr
 have hrows:∀f,(f∈pre\/f∈post)->RowsAt S' W f.b f.iv f.ar f.LL:=fun f hf=>by
  obtain⟨h1,h2⟩:=hother f hf;have h3:=(h.rows f h2).move (S':=S') hk h1 (fun k hf=>(h.rows e hem).notS k hf) hs (fun k hk'=>hin' k hk') (fun k ho=>(hown f h2 k ho).2);exact h3.move hW (fun k e2 ho=>by
   have h4:=h.off f h2 k ho;rcases e2 with e2|e2
   ·exact h4.1 e2
   ·exact h4.2 e2) hF (fun _ x=>x) (fun k hk'=>Nat.lt_of_lt_of_le (hin' k hk') hW.size) h3.notS
 refine{blk:=by rw [hn]at hB;exact hB,map:=?_,rows:=fun f hf=>?_,apart:=?_,inS:=fun k hk'=>Nat.lt_of_lt_of_le (hin' k hk') hW.size,notS:=⟨hebb,herr⟩,ne:=h.ne,off:=fun f hf=>?_,ok:=hok}
 ·have h2:eT (pre++{e with iv:=iv',LL:=LL'}::post)=eT (pre++e::post):=by simp [eT,Ent.ptr]
  rw [h2];exact hm
 ·rcases List.mem_append.1 hf with hf|hf
  ·exact hrows f (.inl hf)
  ·rcases List.mem_cons.1 hf with rfl|hf
   ·exact hr.move hW (fun k e2 ho=>by
     have h4:=hoff' k ho;rcases e2 with e2|e2
     ·exact h4.1 e2
     ·exact h4.2 e2) hF (fun _ x=>x) (fun k hk'=>Nat.lt_of_lt_of_le (hin' k hk') hW.size) hr.notS
   ·exact hrows f (.inr hf)
 ·refine List.pairwise_append.2 ⟨ap1,List.pairwise_cons.2 ⟨fun f hf k ho hf2=>?_,ap5⟩,fun f hf g hg k ho hg2=>?_⟩
  ·rcases hiv2 k ho with h2|h2
   ·exact ap4 f hf k h2 hf2
   ·have:=(hown f (hother f (.inr hf)).2 k hf2).1;omega
  ·rcases List.mem_cons.1 hg with rfl|hg
   ·rcases hiv2 k hg2 with h2|h2
    ·exact ap3 f hf e List.mem_cons_self k ho h2
    ·have:=(hown f (hother f (.inl hf)).2 k ho).1;omega
   ·exact ap3 f hf g (List.mem_cons_of_mem _ hg) k ho hg2
 ·rcases List.mem_append.1 hf with hf|hf
  ·exact h.off f (hother f (.inl hf)).2
  ·rcases List.mem_cons.1 hf with rfl|hf
   ·exact hoff'
   ·exact h.off f (hother f (.inr hf)).2
theorem BaseAt.push(h:BaseAt S w bb r E){e:Ent}(hx:Ext w w')(hs:∀k,S k->S' k)(hnew:∀k,S' k->S k\/w.heap.size≤k)(hr:RowsAt S' w' e.b e.iv e.ar e.LL)(ho:∀k,e.own k->w.heap.size≤k)
 {n:Nat}{W:World}(hW:Kp (fun k=>k=bb\/k=r) w' W)(hB:Blk W bb [.map (some r),.int .i64 (n:Nat)] 129)(hm:MapIs W r (eT (E++ [e])))(hn:n=aX (aS (E++ [e])))(hok:BaseOk (aS (E++ [e]))):BaseAt S' W bb r (E++ [e]):=by
 have hbb:=h.ownLt bb (.inl rfl);have hrr:=h.ownLt r (.inr (.inl rfl));have hin':=hr.inS;have hno:∀k,iA bb r E k->¬S' k:=fun k ho hs'=>by
  rcases hnew k hs' with h2|h2
  ·exact h.notOwn k ho h2
  ·have:=h.ownLt k ho;omega
 have hF:∀k,k=bb\/k=r->¬S' k:=fun k hk=>hno k (hk.elim .inl fun h=> .inr (.inl h));refine{blk:=by rw [hn]at hB;exact hB,map:=hm,rows:=fun f hf=>?_,apart:=?_,inS:=fun k hk'=>Nat.lt_of_lt_of_le (hin' k hk') hW.size,notS:=⟨hF _ (.inl rfl),hF _ (.inr rfl)⟩,ne:=h.ne,off:=fun f hf=>?_,ok:=hok}
 ·rcases List.mem_append.1 hf with hf|hf
  ·have h3:=(h.rows f hf).move (S':=S') hx (fun _ x=>x.elim) (fun _ x=>x.elim) hs (fun k hk'=>hin' k hk') (fun k ho=>hno k (.inr (.inr ⟨f,hf,ho⟩)));exact h3.move hW (fun k e2 ho=>by
    have h4:=h.off f hf k ho;rcases e2 with e2|e2
    ·exact h4.1 e2
    ·exact h4.2 e2) hF (fun _ x=>x) (fun k hk'=>Nat.lt_of_lt_of_le (hin' k hk') hW.size) h3.notS
  ·obtain rfl:=List.mem_singleton.1 hf;exact hr.move hW (fun k e2 ho2=>by have:=ho k ho2;omega) hF (fun _ x=>x) (fun k hk'=>Nat.lt_of_lt_of_le (hin' k hk') hW.size) hr.notS
 ·refine List.pairwise_append.2 ⟨h.apart,List.pairwise_singleton _ _,fun f hf g hg k h1 h2=>?_⟩;obtain rfl:=List.mem_singleton.1 hg;have h3:=h.ownLt k (.inr (.inr ⟨f,hf,h1⟩));have h4:=ho k h2;omega
 ·rcases List.mem_append.1 hf with hf|hf
  ·exact h.off f hf
  ·obtain rfl:=List.mem_singleton.1 hf;intro k hk;have:=ho k hk;omega
theorem kN{E:List Ent}{s:ByteArray}{e:Ent}(h:bS E s=some e):∃pre post,E=pre++e::post:=by obtain⟨_,pre,post,h2,_⟩:=List.find?_eq_some_iff_append.1 h;exact⟨pre,post,h2⟩
theorem aE1{pre post:List Ent}{e:Ent}{s:ByteArray}(h:bS (pre++e::post) s=some e)(hn:((aS (pre++e::post)).map (·.1)).Nodup)(iv':Value)(LL':List (List ByteArray)):jB (aS (pre++e::post)) s (e.ar,LL')=aS (pre++{e with iv:=iv',LL:=LL'}::post):=by
 have hs:e.name=s:=(cZ h).2;have h1:(bL (aS (pre++e::post)) s).isSome=true:=by rw [oS,h];rfl
 unfold jB;rw [if_pos h1];have hid:∀q:Ent,q.name≠s->(if q.cnt.1=s then(q.cnt.1,(e.ar,LL'))else q.cnt)=q.cnt:=fun q hq=>if_neg hq;unfold aS at hn ⊢;rw [List.map_append,List.map_cons,List.map_append,List.map_cons]at hn;obtain⟨_,hn2,hn3⟩:=List.nodup_append.1 hn;obtain⟨hn4,_⟩:=List.nodup_cons.1 hn2;rw [List.map_append,List.map_append,List.map_cons,List.map_cons,List.map_append,List.map_cons]
 congr 1
 ·rw [List.map_map];apply List.map_congr_left;intro q hq;refine hid q fun e2=>?_;exact hn3 q.name (List.mem_map.2 ⟨q.cnt,List.mem_map.2 ⟨q,hq,rfl⟩,rfl⟩) e.name List.mem_cons_self (by rw [e2,hs])
 ·congr 1
  ·show(if e.name=s then(e.name,(e.ar,LL'))else e.cnt)=_;rw [if_pos hs];rfl
  ·rw [List.map_map];apply List.map_congr_left;intro q hq;refine hid q fun e2=>?_;exact hn4 (List.mem_map.2 ⟨q.cnt,List.mem_map.2 ⟨q,hq,rfl⟩,by show q.name=e.name;rw [e2,hs]⟩)
theorem aKt{E:List Ent}{s:ByteArray}(h:bS E s=none)(b:Nat)(iv:Value)(ar:Nat)(LL:List (List ByteArray)):jB (aS E) s (ar,LL)=aS (E++ [{name:=s,b:=b,iv:=iv,ar:=ar,LL:=LL}]):=by unfold jB;rw [(gG h).1,if_neg (by simp)];unfold aS;rw [List.map_append];rfl
theorem aEu{E:List Ent}{s:ByteArray}{e:Ent}(h:bS E s=some e)(hn:((eT E).map (·.1)).Nodup):mG (eT E) s e.ptr=eT E:=by
 obtain⟨pre,post,rfl⟩:=kN h;have hs:e.name=s:=(cZ h).2;unfold mG;rw [lO,h,if_pos (by rfl)];unfold eT at hn ⊢;rw [List.map_append,List.map_cons,List.map_append,List.map_cons]at hn;obtain⟨_,hn2,hn3⟩:=List.nodup_append.1 hn;obtain⟨hn4,_⟩:=List.nodup_cons.1 hn2;rw [List.map_append,List.map_append,List.map_cons,List.map_cons];have hid:∀q:Ent,q.name≠s->(if(q.name,q.ptr).1=s then((q.name,q.ptr).1,e.ptr)else(q.name,q.ptr))=(q.name,q.ptr):=fun q hq=>if_neg hq
 congr 1
 ·rw [List.map_map];apply List.map_congr_left;intro q hq;refine hid q fun e2=>?_;exact hn3 q.name (List.mem_map.2 ⟨(q.name,q.ptr),List.mem_map.2 ⟨q,hq,rfl⟩,rfl⟩) e.name List.mem_cons_self (by rw [e2,hs])
 ·congr 1
  ·exact if_pos hs
  ·rw [List.map_map];apply List.map_congr_left;intro q hq;refine hid q fun e2=>?_;exact hn4 (List.mem_map.2 ⟨(q.name,q.ptr),List.mem_map.2 ⟨q,hq,rfl⟩,by show q.name=e.name;rw [e2,hs]⟩)
theorem aBi{E:List Ent}{s:ByteArray}(h:bS E s=none)(b:Nat)(iv:Value)(ar:Nat)(LL:List (List ByteArray)):mG (eT E) s (.pointer (some ⟨b,0,none⟩))=eT (E++ [{name:=s,b:=b,iv:=iv,ar:=ar,LL:=LL}]):=by unfold mG;rw [lO,h,if_neg (by simp)];unfold eT;rw [List.map_append];rfl
end
end
section
open Go.RowKit Go.Shelf
def lS(lo:Nat)(w:World)(v:Value)(LL:List (List ByteArray)):Prop:=
 ∃Bs iv,v= .func (.func 171) #[] #[.pointer (some ⟨Bs,0,none⟩)]/\lo≤Bs/\Blk w Bs [iv] 69/\OwnRows lo w iv LL/\LL.length≤1048576*1048576
section
variable {z z1 z2:Prop}{S:Nat->Prop}{w w':World}{b b1 b2:Nat}{iv iv1 iv2:Value}{arity arity2:Nat}{LL L1 L2:List (List ByteArray)}
theorem RowsAt.len(h:RowsAt S w b iv arity LL):LL.length≤1048576*1048576:=by obtain⟨con,zs,hc,hs,hl⟩:=h;rw [<-hl,List.length_map];exact hs.len
theorem aB5(w:World):Calls Tryz.prog 175 #[.pointer none] w (RetN w fun w' v=>lS w.heap.size w' v []):=by
 go_enter Tryz.func175,Tryz.ntmps175;go_wp2_with fail
 refine(aDf w).mono ?_;rintro e w1 ⟨v,rfl,hk,h1⟩;obtain⟨ao,cap,ev,_⟩:=h1.shape;subst ev;have HK:=qH (nIX hk h1);clear hk h1;go_wp2_with fail
 refine(kT _ _ _ w1).mono ?_;rintro e w2 ⟨v,rfl,hk2,rfl,ew⟩;subst ew;go_wp2;go_ret;exact RetN.mk (HK.out.1.alloc _) ⟨_,_,rfl,HK.out.1.size,Blk.new w1 [_] _,HK.out.2.ext ((Kp.refl w1).alloc _),by simp⟩
theorem wU(h:RowsQ z S w b iv arity LL):
 Calls Tryz.prog 175 #[.pointer (some ⟨b,0,none⟩)] w (RetF (FQ z b) w fun w' v=>RowsAt S w' b iv arity LL/\lS w.heap.size w' v LL):=by
 have H:=qH (aAo h);clear h;go_enter Tryz.func175,Tryz.ntmps175;go_wp2_with fail
 refine H.out.mono ?_;rintro e w1 ⟨v,rfl,hk,h1,h2⟩;obtain⟨ao,cap,ev,_⟩:=h2.shape;subst ev;have HK:=qH (nIX hk (nIX h1 h2));clear hk h1 h2;go_wp2_with fail
 refine(kT _ _ _ w1).mono ?_;rintro e w2 ⟨v,rfl,hk2,rfl,ew⟩;subst ew;go_wp2;go_ret;obtain⟨hk,h1,h2⟩:=HK.out;exact RetF.mk (hk.alloc _) ⟨h1.ext ((Kp.refl w1).alloc _),_,_,rfl,hk.size,Blk.new w1 [_] _,h2.ext ((Kp.refl w1).alloc _),h1.len⟩
theorem RowsAt.boxed{w0:World}{con:gZ->List ByteArray}{zs:List gZ}{te:TypeId}(h:SetAtRow Tryz.prog S w b (.func (Fn.func 124) #[] #[]) iv [] te (aAa S w0) (fun x y=>aC (con x) (con y)) zs)(h0:Ext w0 w)
 (hc:∀x ss,ReadsAs w0 x ss->con x=ss)(arity:Nat):RowsAt S (w.alloc (.cells #[.func (Fn.func 124) #[] #[],iv,.int .i64 arity] 135)) w.heap.size iv arity (zs.map con):=by
 have hk:Ext w (w.alloc (.cells #[.func (Fn.func 124) #[] #[],iv,.int .i64 arity] 135)):=(Kp.refl w).alloc _;obtain⟨con',hc'⟩:=yZ (w.alloc (.cells #[.func (Fn.func 124) #[] #[],iv,.int .i64 arity] 135));have e:∀x∈zs,con' x=con x:=fun x hx=>by obtain⟨ss,h1,h2,h3⟩:=h.all x hx;rw [hc x ss h1,hc' x ss ⟨h1.1,h1.2.ext (h0.trans hk)⟩]
 refine⟨con',zs,hc',⟨Blk.new w [_,_,_] _,h.row.ext hk,fun e=>?_,fun k hS=>?_,fun k ho hS=>?_,lA hc',fun x hx=>?_,h.len⟩,List.map_congr_left e⟩
 ·have:=h.row.lt _ e;omega
 ·have:=h.inS k hS;rw [aJ];omega
 ·rcases ho with rfl|ho
  ·have:=h.inS _ hS;omega
  ·exact h.notS k (.inr ho) hS
 ·obtain⟨ss,h1,h2,h3⟩:=h.all x hx;exact⟨ss,⟨h1.1,h1.2.ext (h0.trans hk)⟩,h2,h3⟩
set_option maxHeartbeats 1000000 in
theorem aF1(h:RowsQ z S w b iv arity LL):
 Calls Tryz.prog 91 #[.pointer (some ⟨b,0,none⟩)] w (RetF (FQ z b) w fun w' v=>RowsAt S w' b iv arity LL/\
  ∃b' iv',v= .pointer (some ⟨b',0,none⟩)/\w.heap.size≤b'/\(∀k,iv'.ownBlock=some k->w.heap.size≤k)/\RowsAt S w' b' iv' arity LL):=by
 have c2:=h.ar;have HS:=qH (fun W (hW:Ext w W)=>jG (h.ext hW));clear h;go_enter Tryz.func91,Tryz.ntmps91;go_wp2_with fail
 go_region_with
  (first
   |(go_at_call 99;refine(HS.out _ ((Kp.refl w).drew)).mono ?_;rintro e w1 ⟨v1,rfl,hk1,rfl,h1⟩;have d2:=h1.q (z:=False)|>.ar;have HK1:=qH (nIX hk1 h1);obtain⟨con,zs,hc,hs,hl⟩:=h1;have HC:=qH (wN hs);have HE:=qH (nIX hc hl);clear hk1 hc hs hl)
   |(go_at_call 130;refine HC.out.mono ?_;rintro e w2 ⟨v2,rfl,hk2,b2,iv2,rfl,hb2,hi2,hs2⟩;have e2:=hk2.cell d2 id;obtain⟨q1,q2⟩:=hs2.cells;obtain⟨ao2,n2,cap2,ei,_⟩:∃ao n cap,iv2= .slice ao n cap/\True:=(by obtain⟨ao,cap,e,_⟩:=hs2.row.shape;exact⟨_,_,_,e,trivial⟩);subst ei;have HS2:=qH (nIX hk2 (nIX hb2 (nIX hi2 hs2)));clear hk2 hb2 hi2 hs2))
 all_goals
  go_wp2;go_ret;obtain⟨hk1,h1⟩:=HK1.out;obtain⟨hk2,hb2,hi2,hs2⟩:=HS2.out;have hz1:=hk1.size;have hz2:=hk2.size;have hz0:w.heap.size≤w1.heap.size:=hz1;refine RetF.mk (((Kp.refl w).drew.trans hk1).ext (hk2.alloc _)) ⟨h1.ext (hk2.alloc _),_,_,rfl,by omega,fun k hk=>Nat.le_trans hz0 (hi2 k hk),?_⟩;have:=RowsAt.boxed hs2 hk2 HE.out.1 arity;rw [HE.out.2]at this;exact this
theorem RowsAt.two(h1:RowsAt S w b1 iv1 arity L1)(h2:RowsAt S w b2 iv2 arity2 L2):∃con,∃zs zs2:List gZ,(∀x ss,ReadsAs w x ss->con x=ss)/\
 SetAtRow Tryz.prog S w b1 (.func (Fn.func 124) #[] #[]) iv1 [.int .i64 arity] 135 (aAa S w) (fun x y=>aC (con x) (con y)) zs/\
 PtrSetRow Tryz.prog S w (.pointer (some ⟨b2,0,none⟩)) zs2/\(∀x∈zs2,aAa S w x)/\zs.map con=L1/\zs2.map con=L2:=by
 obtain⟨con,zs,hc,hs,hl⟩:=h1;obtain⟨con2,zs2,hc2,hs2,hl2⟩:=h2;refine⟨con,zs,zs2,hc,hs,.inr ⟨_,_,_,_,_,_,_,rfl,hs2⟩,hs2.all,hl,?_⟩;rw [<-hl2];refine List.map_congr_left fun x hx=>?_;obtain⟨ss,q1,q2,q3⟩:=hs2.all x hx;rw [hc x ss q1,hc2 x ss q1]
end
end
section
open Go.RowKit
inductive BaseV (S:Nat->Prop) (w:World):Value->List Ent->Prop
 |nil:BaseV S w (.pointer none) []
 |zero (bb:Nat):Blk w bb [.map none,.int .i64 0] 129->(∀k,S k->k<w.heap.size)->¬S bb->BaseV S w (.pointer (some ⟨bb,0,none⟩)) []
 |full (bb r:Nat) (E:List Ent):BaseAt S w bb r E->BaseV S w (.pointer (some ⟨bb,0,none⟩)) E
def aGf:Option Ent->Value
 |some e=>e.ptr
 |none=> .pointer none
def iB:Option Ent->List (List ByteArray)
 |some e=>e.LL
 |none=> []
def aOe(S:Nat->Prop)(w:World)(o:Option Ent):Prop:=∀e,o=some e->RowsAt S w e.b e.iv e.ar e.LL/\Strict aC e.LL
section
variable {S:Nat->Prop}{w w':World}{o:Option Ent}{v:Value}{E:List Ent}
theorem BaseV.opt(h:BaseV S w v E)(s:ByteArray):aOe S w (bS E s):=fun e he=>by
 cases h with
 |nil=>cases he
 |zero=>cases he
 |full bb r E h=>
  have hm:=(cZ he).1;exact⟨h.rows e hm,h.strict hm⟩
theorem BaseV.ok(h:BaseV S w v E):BaseOk (aS E):=by
 cases h with
 |nil=>exact qO
 |zero=>exact qO
 |full bb r E h=>exact h.ok
theorem BaseV.ext(h:BaseV S w v E)(hk:Ext w w'):BaseV S w' v E:=by
 cases h with
 |nil=>exact .nil
 |zero bb hb hi hs=>exact .zero bb (hb.ext hk) (fun k hk'=>Nat.lt_of_lt_of_le (hi k hk') hk.size) hs
 |full bb r E h=>exact .full bb r E (h.ext hk)
theorem vL{P:Program}{t k e:TypeId}(ht:P.underlying t=some (.map k e))(hk:P.underlying k=some .string){z:Value}(hz:(zeroValue e).run P w= .ok z w)(s:ByteArray):
 (Instr.lookup t (.map none) (.string s) false).run P w= .ok z w:=by
 have hc:=fS (P:=P) (w:=w) hk s true 9999;have hf:=gQ (P:=P) (w:=w) hk s (es:= []) (r:=none) rfl;simp [Instr.lookup,run_underlying ht,hc,hz,hf,Result.andThen]
theorem aOk(h:BaseV S w v E)(s:ByteArray):Calls Tryz.prog 108 #[v,.string s] w (Ret (aGf (bS E s)) w):=by
 cases h with
 |nil=>
  go_enter Tryz.func108,Tryz.ntmps108;go_wp2;go_ret;exact Ret.mk rfl
 |zero bb hb hi hs=>
  have c0:=hb.cell 0 (by simp);have hlk:=vL (P:=Tryz.prog) (w:=w) Tryz.underlying127 Tryz.underlying9 (z:= .pointer none) (by kernel_rfl) s;simp only [List.getElem_cons_zero]at c0;clear hb hi hs;go_enter Tryz.func108,Tryz.ntmps108;go_wp2;go_ret;exact Ret.mk rfl
 |full bb r E h=>
  have c0:=h.blk.cell 0 (by simp);have hlk:=jQ (P:=Tryz.prog) Tryz.underlying127 Tryz.underlying9 (z:= .pointer none) (by kernel_rfl) h.map s;rw [lO]at hlk;have he:((bS E s).map Ent.ptr).getD (.pointer none)=aGf (bS E s):=by cases bS E s<;>rfl
  rw [he]at hlk;simp only [List.getElem_cons_zero]at c0;clear h he;go_enter Tryz.func108,Tryz.ntmps108;go_wp2;go_ret;exact Ret.mk rfl
theorem aDy(h:aOe S w o):Calls Tryz.prog 175 #[aGf o] w (RetN w fun w' v=>lS w.heap.size w' v (iB o)):=by
 cases o with
 |none=>exact aB5 w
 |some e=>
  refine(wU (z:=False) (h e rfl).1.q).mono ?_;rintro e w' ⟨v,rfl,hk,_,h2⟩;exact RetN.mk (Kp.fq hk) h2
theorem aCm(h:BaseV S w v E)(s:ByteArray):
 Calls Tryz.prog 149 #[v,.string s] w (RetN w fun w' v=>lS w.heap.size w' v (iB (bS E s))):=by
 have HO:=qH (aOk h s);have HH:=qH (aDy (h.opt s));clear h;go_enter Tryz.func149,Tryz.ntmps149;go_wp2_with fail
 refine HO.out.mono ?_;rintro e w1 ⟨rfl,rfl⟩;go_wp2_with fail
 refine HH.out.mono ?_;rintro e w1 ⟨v,rfl,hk,hc⟩;go_wp2;go_ret;exact RetN.mk hk hc
end
def fP(N:List ByteArray)(ts:List aE)(i:Nat):List Nat:=(List.range i).filter fun j=>ts.any (isV (N.getD j ByteArray.empty))
theorem aCw{N:List ByteArray}{ts:List aE}{i:Nat}{s:ByteArray}(h:N[i]?=some s):fP N ts (i+1)=if ts.any (isV s)=true then fP N ts i++ [i]else fP N ts i:=by
 unfold fP;rw [List.range_succ,List.filter_append,List.filter_cons,List.filter_nil,bM h];split
 ·rfl
 ·rw [List.append_nil]
theorem aFk(N:List ByteArray)(ts:List aE)(i:Nat):(fP N ts i).length≤i:=by unfold fP;exact Nat.le_trans (List.length_filter_le _ _) (by rw [List.length_range];exact Nat.le_refl _)
theorem aNr{α β:Type} [DecidableEq β]{l:List α}{m:List β}(f:α->β)(hn:l.Nodup)(hi:∀a∈l,∀b∈l,f a=f b->a=b)(hm:∀a∈l,f a∈m):l.length≤m.length:=by
 induction l generalizing m with
 |nil=>exact Nat.zero_le _
 |cons a l ih=>
  obtain⟨h1,h2⟩:=List.nodup_cons.1 hn;have h3:=ih (m:=m.erase (f a)) h2 (fun x hx y hy=>hi x (List.mem_cons_of_mem _ hx) y (List.mem_cons_of_mem _ hy)) fun b hb=>by have hne:f b≠f a:=fun e=>h1 (by rw [<-hi b (List.mem_cons_of_mem _ hb) a (List.mem_cons_self ..) e];exact hb);exact(List.mem_erase_of_ne hne).2 (hm b (List.mem_cons_of_mem _ hb))
  have h4:=List.length_erase_of_mem (hm a (List.mem_cons_self ..));have h5:=List.length_pos_of_mem (hm a (List.mem_cons_self ..));rw [List.length_cons];omega
theorem pA{N:List ByteArray}{ts:List aE}(hN:N.Nodup):(aY N ts).length≤ts.length:=by
 have hl:∀v∈aY N ts,N[v]?=some (bK N v):=fun v hv=>by have:=(eD.1 hv).1;unfold bK;rw [List.getD_eq_getElem?_getD,qG this];rfl
 have h:=aNr (l:=aY N ts) (m:=ts.map fun t=>t.2.1) (bK N) ((List.nodup_range).filter _) (fun a ha b hb e=>by
  have h1:=hl a ha;have h2:=hl b hb;rw [<-e]at h2;exact(List.getElem?_inj (eD.1 ha).1 hN).1 (h1.trans h2.symm)) fun a ha=>by
  obtain⟨_,i,t,hi,_,h2⟩:=eD.1 ha;exact List.mem_map.2 ⟨t,List.mem_of_getElem? hi,h2⟩
 rw [List.length_map]at h;exact h
open Classical in
theorem aC2(N:List ByteArray)(ts:List aE)(R:aD)(x:List ByteArray):dU N ts (R++ [x])=if x.length=ts.length/\qA ts x then bT aC (dU N ts R) (iR N ts x)else dU N ts R:=by
 unfold dU;rw [List.filter_append,List.filter_cons,List.filter_nil];by_cases h:x.length=ts.length/\qA ts x
 ·rw [if_pos (by simpa using h),if_pos h,List.map_append,List.map_singleton];unfold vN;rw [List.foldl_append];rfl
 ·rw [if_neg (by simpa using h),if_neg h,List.append_nil]
theorem aNi(N:List ByteArray)(ts:List aE):dU N ts []= []:=by unfold dU;rfl
open Classical in
theorem aC3{N:List ByteArray}{ts:List aE}{R:aD}(h:∀x∈R,x.length≠ts.length):dU N ts R= []:=by
 unfold dU;have e:(R.filter fun x=>decide (x.length=ts.length/\qA ts x))= []:=by rw [List.filter_eq_nil_iff];intro x hx;simp only [decide_eq_true_eq,not_and];exact fun e=>absurd e (h x hx)
 rw [e];rfl
theorem aLa(l:aD)(x:List ByteArray):(bT aC l x).length≤l.length+1:=by
 unfold bT;split
 ·omega
 ·rw [List.length_append,List.length_cons,List.length_take,List.length_drop];omega
theorem aA6:∀(xs acc:aD),(xs.foldl (bT aC) acc).length≤acc.length+xs.length
 | [],acc=>Nat.le_refl _
 |x::xs,acc=>by have h1:=aA6 xs (bT aC acc x);have h2:=aLa acc x;rw [List.foldl_cons,List.length_cons];omega
open Classical in
theorem vT(N:List ByteArray)(ts:List aE)(R:aD):(dU N ts R).length≤R.length:=by unfold dU vN;have h1:=aA6 ((R.filter fun x=>decide (x.length=ts.length/\qA ts x)).map (iR N ts)) [];have h2:=List.length_filter_le (fun x:List ByteArray=>decide (x.length=ts.length/\qA ts x)) R;rw [List.length_map]at h1;simp only [List.length_nil]at h1;omega
theorem aNs{x:List ByteArray}(h:bP x=true)(i:Nat):(bK x i).size≤4096:=by
 unfold bK;rw [List.getD_eq_getElem?_getD];cases hx:x[i]? with
 |none=>exact Nat.zero_le _
 |some s=>
  have:=List.all_eq_true.1 h s (List.mem_of_getElem? hx);simpa using this
theorem aLz{N:List ByteArray}{ts:List aE}{x:List ByteArray}(h:bP x=true):bP (iR N ts x)=true:=by refine List.all_eq_true.2 fun s hs=>?_;unfold iR at hs;obtain⟨v,_,rfl⟩:=List.mem_map.1 hs;exact decide_eq_true (aNs h _)
theorem aM1{N:List ByteArray}{ts:List aE}{R:aD}{x:List ByteArray}{n:Nat}(hn:n=(aY N ts).length)(hx:bP x=true)(hR:R.length<65536):aP n (dU N ts R) (iR N ts x)=bT aC (dU N ts R) (iR N ts x):=by
 have h1:(iR N ts x).length=n:=by unfold iR;rw [List.length_map,hn]
 have h2:=vT N ts R;have e:(aI n (dU N ts R) (iR N ts x)).2=0:=by unfold aI;rw [if_neg (by rw [h1];simp),if_neg (by rw [aLz hx];simp),if_neg (by omega)]
 unfold aP;rw [if_pos e]
def yJ(ts:List aE)(x:List ByteArray)(i:Nat):Prop:=∀(j:Nat) (t:aE),j<i->ts[j]?=some t->(t.1=3->bK x j=t.2.1)/\(t.1=1->bK x (fQ ts t.2.1)=bK x j)
theorem aG3{ts:List aE}{x:List ByteArray}:yJ ts x ts.length↔qA ts x:=⟨fun h i t hi=>h i t (List.getElem?_eq_some_iff.1 hi).1 hi,fun h j t _ hi=>h j t hi⟩
theorem aEm(ts:List aE)(x:List ByteArray):yJ ts x 0:=fun j t h=>by omega
theorem oN{ts:List aE}{x:List ByteArray}{i:Nat}{t:aE}(h:yJ ts x i)(hi:ts[i]?=some t)(h3:t.1=3->bK x i=t.2.1)(h1:t.1=1->bK x (fQ ts t.2.1)=bK x i):yJ ts x (i+1):=fun j u hj hu=>by
 rcases Nat.lt_or_eq_of_le (Nat.le_of_lt_succ hj)with h2|h2
 ·exact h j u h2 hu
 ·subst h2;rw [hi]at hu;cases hu;exact⟨h3,h1⟩
theorem yN{ts:List aE}{s:ByteArray}(h:ts.any (isV s)=true):dH (isT 1 s) ts=(fQ ts s:Nat)/\fQ ts s<ts.length:=by
 refine⟨?_,?_⟩
 ·unfold dH fQ;rw [show isT 1 s=isV s from rfl,if_pos h]
 ·unfold fQ;obtain⟨t,ht,hq⟩:=List.any_eq_true.1 h;exact List.findIdx_lt_length_of_exists ⟨t,ht,hq⟩
def fA(w:World):Nat->Prop:=fun k=>∃o:Obj,w.heap[k]?=some o/\o.isCells=true
theorem RowsAt.tight{S:Nat->Prop}{w:World}{b:Nat}{iv:Value}{arity:Nat}{LL:aD}(h:RowsAt S w b iv arity LL):RowsAt (fun k=>S k/\fA w k) w b iv arity LL:=by
 obtain⟨con,zs,hc,hs,hl⟩:=h;refine⟨con,zs,hc,⟨hs.blk,hs.row,hs.apart,fun k hk=>hs.inS k hk.1,fun k h1 h2=>hs.notS k h1 h2.1,lA hc,fun z hz=>?_,hs.len⟩,hl⟩;obtain⟨ss,h1,h2,h3⟩:=hs.all z hz;refine⟨ss,h1,h2,fun a e hne=>⟨h3 a e hne,?_⟩⟩;have hpos:0<ss.length:=by rw [<-h1.1];omega
 obtain⟨b',o',e',c'⟩:=h1.2 0 (.string ss[0]) (by simp [strs,qG hpos]);rw [e]at e';cases e';unfold World.cell? at c';unfold fA;cases ho:w.heap[b']? with
 |none=>rw [ho]at c';simp at c'
 |some o=>
  refine⟨o,rfl,?_⟩;rw [ho]at c';cases o<;>first|rfl|(simp at c')
theorem RowsAt.cellOwn{S:Nat->Prop}{w:World}{b:Nat}{iv:Value}{arity:Nat}{LL:aD}(h:RowsAt S w b iv arity LL):∀k,dY b iv k->fA w k:=by
 obtain⟨con,zs,hc,hs,hl⟩:=h;intro k hk;rcases hk with rfl|hk
 ·exact⟨_,hs.blk,rfl⟩
 ·obtain⟨cs,hb,_⟩:=hs.row.has hk;exact⟨_,hb,rfl⟩
end
section
open Go.RowKit Go.Shelf
structure LevelAt(w:World)(b off i:Nat)(W:aD)(d:Nat):Prop where
 ex:∃ka kc fa fc,w.cell? ⟨b,off+i*2,none⟩=some (.slice ka (aR W d i W.length) kc)/\w.cell? ⟨b,off+i*2+1,none⟩=some (.slice fa (aR W d i W.length+1) fc)/\aR W d i W.length≤kc/\
  CellsAt w ka (strs (cB W d i W.length))/\CellsAt w fa (ints (cL W d i W.length++ [(aR W d (i+1) W.length:Int)]))
theorem LevelAt.ext{w w':World}{b off i:Nat}{W:aD}{d:Nat}(h:LevelAt w b off i W d)(hk:Ext w w'):LevelAt w' b off i W d:=by obtain⟨ka,kc,fa,fc,h1,h2,h3,h4,h5⟩:=h.ex;exact⟨ka,kc,fa,fc,hk.cell h1 id,hk.cell h2 id,h3,h4.ext hk,h5.ext hk⟩
structure TrieAt(w:World)(tb:Nat)(W:aD)(d:Nat):Prop where
 ex:∃la lc,w.cell? ⟨tb,0,none⟩=some (.slice la d lc)/\w.cell? ⟨tb,1,none⟩=some (.int .i64 W.length)/\w.cell? ⟨tb,2,none⟩=some (.bool true)/\∀i,i<d->∃b off,la=some ⟨b,off,none⟩/\LevelAt w b off i W d
 few:W.length≤1048576
 dep:d≤1048576
theorem TrieAt.ext{w w':World}{tb:Nat}{W:aD}{d:Nat}(h:TrieAt w tb W d)(hk:Ext w w'):TrieAt w' tb W d:=by obtain⟨⟨la,lc,h1,h2,h3,h4⟩,h5,h6⟩:=h;exact⟨⟨la,lc,hk.cell h1 id,hk.cell h2 id,hk.cell h3 id,fun i hi=>by obtain⟨b,off,e,hl⟩:=h4 i hi;exact⟨b,off,e,hl.ext hk⟩⟩,h5,h6⟩
theorem aI0(tb:Nat)(w:World):(binOp .eql 187 (.pointer (some ⟨tb,0,none⟩)) (.pointer none)).run Tryz.prog w= .ok (.bool false) w:=by kernel_rfl
set_option maxHeartbeats 1000000 in
theorem xJ{w:World}{tb:Nat}{W:aD}{d:Nat}(h:TrieAt w tb W d):Calls Tryz.prog 155 #[.pointer (some ⟨tb,0,none⟩)] w (RetN w fun w' v=>v= .bool false):=by have hq:=aI0 tb;obtain⟨⟨la,lc,-,-,h3,-⟩,-,-⟩:=h;go_enter Tryz.func155,Tryz.ntmps155;go_wp2;go_ret;exact RetN.mk (Kp.refl _) rfl
set_option maxHeartbeats 1000000 in
theorem aBn{w:World}{tb:Nat}{W:aD}{d:Nat}(h:TrieAt w tb W d):Calls Tryz.prog 183 #[.pointer (some ⟨tb,0,none⟩)] w (RetN w fun w' v=>v= .int .i64 d):=by
 have HN:=qH (xJ h);have HT:=qH h;clear h;go_enter Tryz.func183,Tryz.ntmps183;go_wp2_with fail
 refine HN.out.mono ?_;rintro e w1 ⟨v,rfl,hk,rfl⟩;obtain⟨⟨la,lc,h1,-,-,-⟩,-,-⟩:=HT.out.ext hk;have HK:=qH hk;clear hk;go_wp2;go_ret;exact RetN.mk HK.out rfl
set_option maxHeartbeats 1000000 in
theorem aIe{w:World}{tb:Nat}{W:aD}{d:Nat}(h:TrieAt w tb W d):Calls Tryz.prog 184 #[.pointer (some ⟨tb,0,none⟩)] w (RetN w fun w' v=>v= .int .i64 W.length):=by
 have HN:=qH (xJ h);have HT:=qH h;clear h;go_enter Tryz.func184,Tryz.ntmps184;go_wp2_with fail
 refine HN.out.mono ?_;rintro e w1 ⟨v,rfl,hk,rfl⟩;obtain⟨⟨la,lc,-,h2,-,-⟩,-,-⟩:=HT.out.ext hk;have HK:=qH hk;clear hk;go_wp2;go_ret;exact RetN.mk HK.out rfl
def jO(e:Nat×Nat):List Value:= [.int .i64 e.1,.int .i64 e.2]
theorem iF(e:Nat×Nat):(jO e).length=2:=rfl
structure CurAt(w:World)(cb tb:Nat)(st:List (Nat×Nat))(ov:Value)(M:Nat->Prop):Prop where
 box:Blk w cb [.pointer (some ⟨tb,0,none⟩),ov] 218
 row:Row w 249 2 ov st.length (st.flatMap jO) M
theorem CurAt.ext{w w':World}{cb tb:Nat}{st:List (Nat×Nat)}{ov:Value}{M:Nat->Prop}(h:CurAt w cb tb st ov M)(hk:Ext w w'):CurAt w' cb tb st ov M:=⟨h.box.ext hk,h.row.ext hk⟩
theorem oR(cb:Nat)(w:World):(binOp .eql 188 (.pointer (some ⟨cb,0,none⟩)) (.pointer none)).run Tryz.prog w= .ok (.bool false) w:=by kernel_rfl
theorem wZ{w:World}{e:TypeId}{k:Nat}{v:Value}{n:Nat}{xs:List Value}{M:Nat->Prop}(h:Row w e k v n xs M):∃ao cap,v= .slice ao n cap/\CellsAt w ao xs/\n≤cap/\cap≤maxLen:=by
 obtain⟨h1,⟨rfl,rfl⟩|⟨g,cap,rest,rfl,b,c,d,e,f⟩⟩:=h
 ·have:xs= []:=List.eq_nil_of_length_eq_zero (by simpa using h1);subst this;exact⟨none,0,rfl,CellsAt.nil _ _,Nat.le_refl _,Nat.zero_le _⟩
 ·exact⟨_,cap,rfl,CellsAt.pre c,e,f⟩
set_option maxHeartbeats 1000000 in
theorem lJ{w:World}{cb tb:Nat}{st:List (Nat×Nat)}{g c m:Nat}{M:Nat->Prop}(h:CurAt w cb tb st (.slice (some ⟨g,0,none⟩) (m+1) c) M):
 Calls Tryz.prog 185 #[.pointer (some ⟨cb,0,none⟩)] w (RetN w fun w' v=>v= .pointer (some ⟨g,m*2,none⟩)):=by
 have hq:=oR cb;have c1:=h.box.c1;have hmx:m+1≤maxLen:=by obtain⟨a,cc,e,h1,h2,h3⟩:=wZ h.row;rw [Value.slice.injEq]at e;omega
 have hw:IntKind.i64.wrap (m:Int)=(m:Int):=IntWalk.i64_in _ (by unfold maxLen at hmx;omega);have hz:¬((m:Int)+1)=0:=by omega
 clear hmx;clear h;go_enter Tryz.func185,Tryz.ntmps185;go_wp2;go_quiet (fail)
 go_wp2;go_ret;exact RetN.mk ((Kp.refl _).drewN _) rfl
set_option maxHeartbeats 1000000 in
theorem aA0{w:World}{cb tb:Nat}{ao:Option Addr}{c:Nat}{M:Nat->Prop}(h:CurAt w cb tb [] (.slice ao 0 c) M):
 Calls Tryz.prog 185 #[.pointer (some ⟨cb,0,none⟩)] w (RetN w fun w' v=>v= .pointer none):=by
 have hq:=oR cb;have c1:=h.box.c1;clear h;go_enter Tryz.func185,Tryz.ntmps185;go_wp2;go_ret;exact RetN.mk (Kp.refl _) rfl
structure CurIn(w:World)(cb tb:Nat)(st:List (Nat×Nat))(g c m a b:Nat)(M:Nat->Prop):Prop where
 at_:CurAt w cb tb st (.slice (some ⟨g,0,none⟩) (m+1) c) M
 last:st[m]?=some (a,b)
theorem CurIn.len{w:World}{cb tb:Nat}{st:List (Nat×Nat)}{g c m a b:Nat}{M:Nat->Prop}(h:CurIn w cb tb st g c m a b M):st.length=m+1:=by obtain⟨ao,cc,e,h1,h2,h3⟩:=wZ h.at_.row;rw [Value.slice.injEq]at e;omega
theorem CurIn.ext{w w':World}{cb tb:Nat}{st:List (Nat×Nat)}{g c m a b:Nat}{M:Nat->Prop}(h:CurIn w cb tb st g c m a b M)(hk:Ext w w'):CurIn w' cb tb st g c m a b M:=⟨h.at_.ext hk,h.last⟩
theorem aAi(st:List (Nat×Nat)){m:Nat}{e:Nat×Nat}(h:st[m]?=some e):(st.flatMap jO)[m*2]?=some (.int .i64 e.1)/\(st.flatMap jO)[m*2+1]?=some (.int .i64 e.2):=by
 induction st generalizing m with
 |nil=>simp at h
 |cons x st ih=>
  cases m with
  |zero=>cases h;exact⟨rfl,rfl⟩
  |succ m=>
   have h2:=ih (by simpa using h);refine⟨?_,?_⟩
   ·rw [List.flatMap_cons,List.getElem?_append_right (by rw [iF];omega),iF,show(m+1)*2-2=m*2 by omega];exact h2.1
   ·rw [List.flatMap_cons,List.getElem?_append_right (by rw [iF];omega),iF,show(m+1)*2+1-2=m*2+1 by omega];exact h2.2
theorem CurIn.cells{w:World}{cb tb:Nat}{st:List (Nat×Nat)}{g c m a b:Nat}{M:Nat->Prop}(h:CurIn w cb tb st g c m a b M):w.cell? ⟨g,m*2,none⟩=some (.int .i64 a)/\w.cell? ⟨g,m*2+1,none⟩=some (.int .i64 b)/\w.frozen? ⟨g,m*2,none⟩=false:=by
 obtain⟨h1,h2⟩:=aAi st h.last;obtain⟨_,⟨e1,_⟩|⟨g',cap,rest,e1,hM,hB,h3⟩⟩:=h.at_.row
 ·cases e1
 ·simp only [Value.slice.injEq,Option.some.injEq,Addr.mk.injEq,and_true]at e1;obtain⟨rfl,_⟩:=e1;have l1:=(List.getElem?_eq_some_iff.1 h1).1;have l2:=(List.getElem?_eq_some_iff.1 h2).1;exact⟨by rw [hB.cell',List.getElem?_append_left l1];exact h1,by rw [hB.cell',List.getElem?_append_left l2];exact h2,hB.free _⟩
theorem aNw(a b:Nat):((a:Int)==(b:Int))=decide (a=b):=by
 by_cases h:a=b
 ·subst h;simp
 ·rw [decide_eq_false h];have:¬(a:Int)=b:=by omega
  simp [this]
theorem aAj(g o:Nat)(w:World):(binOp .neq 250 (.pointer (some ⟨g,o,none⟩)) (.pointer none)).run Tryz.prog w= .ok (.bool true) w:=by kernel_rfl
theorem mC(g o:Nat)(w:World):(binOp .eql 250 (.pointer (some ⟨g,o,none⟩)) (.pointer none)).run Tryz.prog w= .ok (.bool false) w:=by kernel_rfl
set_option maxHeartbeats 1000000 in
theorem iL{w:World}{cb tb:Nat}{st:List (Nat×Nat)}{g c m a b:Nat}{M:Nat->Prop}(h:CurIn w cb tb st g c m a b M):
 Calls Tryz.prog 181 #[.pointer (some ⟨cb,0,none⟩)] w (RetN w fun w' v=>v= .bool (decide (a=b))):=by
 have HL:=qH (lJ h.at_);have HC:=qH h;clear h;go_enter Tryz.func181,Tryz.ntmps181;go_wp2_with fail
 refine HL.out.mono ?_;rintro e w1 ⟨v,rfl,hk,rfl⟩;obtain⟨z0,z1,-⟩:=(HC.out.ext hk).cells;have hq:=aAj g (m*2);have HK:=qH hk;clear hk;go_wp2;go_quiet (fail)
 go_wp2;go_ret;exact RetN.mk (HK.out.drewN _) (congrArg Value.bool (aNw a b))
theorem mY{m:Nat}(h:m≤maxLen):IntKind.i64.wrap (m:Int)=(m:Int):=IntWalk.i64_in _ (by unfold maxLen at h;omega)
theorem CurIn.small{w:World}{cb tb:Nat}{st:List (Nat×Nat)}{g c m a b:Nat}{M:Nat->Prop}(h:CurIn w cb tb st g c m a b M):m≤maxLen:=by obtain⟨ao,cc,e,h1,h2,h3⟩:=wZ h.at_.row;rw [Value.slice.injEq]at e;have:=h.len;omega
set_option maxHeartbeats 1000000 in
theorem aNq{w:World}{cb tb:Nat}{st:List (Nat×Nat)}{g c m a b d:Nat}{W:aD}{M:Nat->Prop}{x:ByteArray}(h:CurIn w cb tb st g c m a b M)(ht:TrieAt w tb W d)(hm:m<d)(hab:a≠b)(hx:(cB W d m W.length)[a]?=some x):
 Calls Tryz.prog 187 #[.pointer (some ⟨cb,0,none⟩)] w (RetN w fun w' v=>v= .string x):=by
 have HL:=qH (lJ h.at_);have HE:=qH (fun(W:World) (hW:Ext w W)=>iL (h.ext hW));have HC:=qH h;have HT:=qH ht;have hw:=mY h.small;have hn:=(List.getElem?_eq_some_iff.1 hx).1;rw [fV]at hn;have HX:=qH hx;have hd:decide (a=b)=false:=decide_eq_false hab;rw [hd]at HE;clear h ht hx hab hd;go_enter Tryz.func187,Tryz.ntmps187;go_wp2_with fail
 refine HL.out.mono ?_;rintro e w1 ⟨v,rfl,hk,rfl⟩;have hq:=mC g (m*2);have H1:=qH hk;clear hk;go_wp2_with (go_at_call 181;refine Halted.out ?_)
 refine Halted.mk ((HE.out w1 H1.out).mono ?_);rintro e w2 ⟨v,rfl,hk,rfl⟩;have H2:=qH (H1.out.trans hk);clear hk H1;obtain⟨z0,z1,-⟩:=(HC.out.ext H2.out).cells;have hb:=(HC.out.at_.box.ext H2.out);have c0:=hb.c0;have c1:=hb.c1;obtain⟨⟨la,lc,t0,-,-,hlev⟩,-,-⟩:=HT.out.ext H2.out;obtain⟨bl,ol,ela,hL⟩:=hlev m hm;subst ela;obtain⟨ka,kc,fa,fc,l0,-,-,hk1,-⟩:=hL.ex;obtain⟨kb,ko,eka,k0⟩:=hk1 a (.string x) (by simp [strs,HX.out]);subst eka;generalize aR W d m W.length=nk at*;clear hL hk1 hlev hb z1;go_wp2;go_quiet (fail)
 go_wp2;go_ret;exact RetN.mk (H2.out.drewN _) rfl
theorem aOj{w:World}{e:TypeId}{k:Nat}{g m c n:Nat}{xs:List Value}{M:Nat->Prop}(h:Row w e k (.slice (some ⟨g,0,none⟩) m c) n xs M)(i:Nat)(hi:i<xs.length)(v:Value):Row (w.setCell ⟨g,i,none⟩ v) e k (.slice (some ⟨g,0,none⟩) m c) n (xs.set i v) M:=by
 obtain⟨h1,⟨e1,_⟩|⟨g',cap,rest,e1,hM,hB,h2,h3⟩⟩:=h
 ·cases e1
 ·cases e1;refine⟨by rw [List.length_set];exact h1,.inr ⟨g,c,rest,rfl,hM,?_,by simpa using h2,h3⟩⟩;have:=hB.set i v;rw [List.set_append_left _ _ hi]at this;exact this
theorem aQ{w:World}{g:Nat}{cs cs':List Value}{e e':TypeId}(h:Blk w g cs e)(h':Blk w g cs' e'):e=e':=by unfold Blk at h h';rw [h]at h';cases h';rfl
theorem sU:218≠249:=by decide
theorem CurAt.apart{w:World}{cb tb g n c:Nat}{st:List (Nat×Nat)}{M:Nat->Prop}(h:CurAt w cb tb st (.slice (some ⟨g,0,none⟩) n c) M):cb≠g/\M g/\g<w.heap.size:=by
 obtain⟨hb,_,⟨e1,_⟩|⟨g',cap,rest,e1,hM,hB,h3⟩⟩:=h
 ·cases e1
 ·simp only [Value.slice.injEq,Option.some.injEq,Addr.mk.injEq,and_true]at e1;obtain⟨rfl,_⟩:=e1;exact⟨fun e=>by subst e;exact sU (aQ hb hB),hM,hB.lt⟩
theorem aAh:∀(st:List (Nat×Nat)) (m a b a':Nat),st[m]?=some (a,b)->(st.set m (a',b)).flatMap jO=(st.flatMap jO).set (m*2) (.int .i64 a')
 | [],m,a,b,a',h=>by simp at h
 |x::st,0,a,b,a',h=>by cases h;rfl
 |x::st,m+1,a,b,a',h=>by
  rw [List.set_cons_succ,List.flatMap_cons,List.flatMap_cons,aAh st m a b a' (by simpa using h),List.set_append_right _ _ (by rw [iF];omega),iF]
  congr 2
  omega
theorem CurIn.put{w:World}{cb tb:Nat}{st:List (Nat×Nat)}{g c m a b:Nat}{M:Nat->Prop}(h:CurIn w cb tb st g c m a b M)(a':Nat):CurIn (w.setCell ⟨g,m*2,none⟩ (.int .i64 a')) cb tb (st.set m (a',b)) g c m a' b M:=by have hap:=h.at_.apart;have hks:Kp (fun k=>k=g) w (w.setCell ⟨g,m*2,none⟩ (.int .i64 a')):=Kp.setCell (F:=fun k=>k=g) (p:=⟨g,m*2,none⟩) (Kp.refl w) (fun _=>rfl) _;have hml:m<st.length:=(List.getElem?_eq_some_iff.1 h.last).1;refine⟨⟨h.at_.box.kp hks hap.1,?_⟩,by rw [List.getElem?_set_self hml]⟩;rw [aAh st m a b a' h.last,List.length_set];exact aOj h.at_.row (m*2) (List.getElem?_eq_some_iff.1 (aAi st h.last).1).1 _
set_option maxHeartbeats 1000000 in
theorem aL5{w:World}{cb tb:Nat}{st:List (Nat×Nat)}{g c m a b:Nat}{M:Nat->Prop}(h:CurIn w cb tb st g c m a b M)(hab:a<b)(hb:b≤1048576):
 Calls Tryz.prog 189 #[.pointer (some ⟨cb,0,none⟩)] w (RetF (fun k=>k=g) w fun w' v=>v= .bool (decide (a+1≠b))/\CurIn w' cb tb (st.set m (a+1,b)) g c m (a+1) b M):=by
 have HL:=qH (lJ h.at_);have HE:=qH (fun(W:World) (hW:Ext w W)=>iL (h.ext hW));have HC:=qH h;have hd:decide (a=b)=false:=decide_eq_false (by omega);rw [hd]at HE;clear h hd;go_enter Tryz.func189,Tryz.ntmps189;go_wp2_with fail
 refine HL.out.mono ?_;rintro e w1 ⟨v,rfl,hk,rfl⟩;have hq:=mC g (m*2);have H1:=qH hk;clear hk;go_wp2_with (go_at_call 181;refine Halted.out ?_)
 refine Halted.mk ((HE.out w1 H1.out).mono ?_);rintro e w2 ⟨v,rfl,hk,rfl⟩;have H2:=qH (H1.out.trans hk);clear hk H1;obtain⟨z0,-,f0⟩:=(HC.out.ext H2.out).cells;obtain⟨w3,e3⟩:=nm (w2.setCell ⟨g,m*2,none⟩ (.int .i64 ((a:Int)+1)));have hc3:CurIn w3 cb tb (st.set m (a+1,b)) g c m (a+1) b M:=by rw [<-e3];exact(HC.out.ext H2.out).put (a+1)
 have H3:=qH (nIX hc3 (show Kp (fun k=>k=g) w w3 from by rw [<-e3];exact Kp.setCell (F:=fun k=>k=g) (p:=⟨g,m*2,none⟩) (Ext.kp H2.out) (fun _=>rfl) _));have HE3:=qH (iL hc3);clear hc3;go_wp2_with fail
 refine HE3.out.mono ?_;rintro e w4 ⟨v,rfl,hk,rfl⟩;have H4:=qH (nIX (H3.out.1.ext hk) (H3.out.2.ext hk));clear hk e3 z0 f0;by_cases he:a+1=b
 ·rw [decide_eq_true he];have HE5:=qH (show decide (a+1≠b)=false from decide_eq_false fun h=>h he);clear he;go_wp2;go_ret;exact RetF.mk H4.out.2 ⟨by rw [HE5.out];rfl,H4.out.1⟩
 ·rw [decide_eq_false he];have HE5:=qH (show decide (a+1≠b)=true from decide_eq_true he);clear he;go_wp2;go_ret;exact RetF.mk H4.out.2 ⟨by rw [HE5.out];rfl,H4.out.1⟩
theorem CurIn.up{w:World}{cb tb:Nat}{st:List (Nat×Nat)}{g c m a b:Nat}{M:Nat->Prop}(h:CurIn w cb tb st g c m a b M):CurAt (w.setCell ⟨cb,1,none⟩ (.slice (some ⟨g,0,none⟩) m c)) cb tb (st.take m) (.slice (some ⟨g,0,none⟩) m c) M:=by
 have hap:=h.at_.apart;have hks:Kp (fun k=>k=cb) w (w.setCell ⟨cb,1,none⟩ (.slice (some ⟨g,0,none⟩) m c)):=kSa;have hl:=h.len;refine⟨?_,?_⟩
 ·have:=h.at_.box.set 1 (.slice (some ⟨g,0,none⟩) m c);exact this
 ·have hr:Row w 249 2 (.slice (some ⟨g,0,none⟩) m c) (st.take m).length ((st.take m).flatMap jO) M:=by
   have et:(st.take m).length=m:=by rw [List.length_take];omega
   rw [et];obtain⟨h1,⟨e1,_⟩|⟨g',cap,rest,e1,hM,hB,h2,h3,h4⟩⟩:=h.at_.row
   ·cases e1
   ·simp only [Value.slice.injEq,Option.some.injEq,Addr.mk.injEq,and_true]at e1;obtain⟨rfl,e2,rfl⟩:=e1;have es:st.flatMap jO=(st.take m).flatMap jO++(st.drop m).flatMap jO:=by rw [<-List.flatMap_append,List.take_append_drop]
    rw [es,List.append_assoc]at hB;rw [es]at h2;have hfl:∀l:List (Nat×Nat),(l.flatMap jO).length=l.length*2:=fun l=>by
     induction l with
     |nil=>rfl
     |cons x l ih=>rw [List.flatMap_cons,List.length_append,iF,ih,List.length_cons];omega
    refine⟨by rw [hfl,et],.inr ⟨g,c,_,rfl,hM,hB,?_,by omega,h4⟩⟩;rw [List.length_append]at h2 ⊢;rw [List.length_append,<-Nat.add_assoc];rw [List.length_append]at h2;omega
  exact hr.kp' hks fun g' hg _ e=>by have e3:some g=some g':=hg;exact hap.1 (e.symm.trans (Option.some.inj e3).symm)
set_option maxHeartbeats 1000000 in
theorem aOg{w:World}{cb tb:Nat}{st:List (Nat×Nat)}{g c m a b:Nat}{M:Nat->Prop}(h:CurIn w cb tb st g c m a b M):
 Calls Tryz.prog 159 #[.pointer (some ⟨cb,0,none⟩)] w (RetF (fun k=>k=cb) w fun w' v=>v= .bool true/\CurAt w' cb tb (st.take m) (.slice (some ⟨g,0,none⟩) m c) M):=by
 have HL:=qH (lJ h.at_);have HC:=qH h;have hw:=mY h.small;obtain⟨hmc,hcm⟩:m≤c/\c≤maxLen:=by obtain⟨ao,cc,e,h1,h2,h3⟩:=wZ h.at_.row;rw [Value.slice.injEq]at e;have:=h.len;omega
 clear h;go_enter Tryz.func159,Tryz.ntmps159;go_wp2_with fail
 refine HL.out.mono ?_;rintro e w1 ⟨v,rfl,hk,rfl⟩;have hq:=mC g (m*2);have H1:=qH hk;have hb:=HC.out.at_.box.ext hk;have c1:=hb.c1;have f1:=hb.free 1;clear hb hk;go_wp2;go_still_tail 14,(by kernel_rfl)
 go_wp2;go_ret;exact RetF.mk ((Kp.setCell (F:=fun k=>k=cb) (p:=⟨cb,1,none⟩) (Ext.kp H1.out) (fun _=>rfl) _).drew) ⟨rfl,(HC.out.ext H1.out).up.ext ((Kp.refl _).drew)⟩
set_option maxHeartbeats 1000000 in
theorem aLj{w:World}{tb:Nat}{W:aD}{d:Nat}(h:TrieAt w tb W d):Calls Tryz.prog 122 #[.pointer (some ⟨tb,0,none⟩)] w (RetN w fun w' v=>∃cb,v= .pointer (some ⟨cb,0,none⟩)/\w.heap.size≤cb/\CurAt w' cb tb [] (.slice none 0 0) (fun k=>w.heap.size≤k)):=by
 have HN:=qH (xJ h);clear h;go_enter Tryz.func122,Tryz.ntmps122;go_wp2_with fail
 refine HN.out.mono ?_;rintro e w1 ⟨v,rfl,hk,rfl⟩;have HK:=qH hk;clear hk;go_wp2;go_ret;exact RetN.mk (HK.out.alloc _) ⟨_,rfl,HK.out.size,Blk.new w1 _ _,Row.nil _ _ _ _⟩
def aNc(K:List ByteArray)(t:ByteArray)(a b:Nat)(w0:World)(lv sv:Value)(w:World):Prop:=∃low:Nat,a≤low/\low≤b/\lv= .int .i64 low/\sv= .int .i64 (low-a+1:Nat)/\Hid (∀x,a<low->K[low-1]?=some x->bE x.toList t.toList<0)/\Hid (Ext w0 w)
def iO(K:List ByteArray)(t:ByteArray)(a b p:Nat):Prop:=a≤p/\p≤b/\(∀x,a<p->K[p-1]?=some x->bE x.toList t.toList<0)/\∀x,p<b->K[p]?=some x->0≤bE x.toList t.toList
theorem fX{K:List ByteArray}{low mm j:Nat}(hj:j<mm-low):((K.drop low).take (mm-low))[j]?=K[low+j]?:=by rw [List.getElem?_take_of_lt hj,List.getElem?_drop]
theorem yM{K:List ByteArray}{t:ByteArray}{a b low mm n:Nat}(h1:a≤low)(h2:low≤mm)(h3:mm≤b)(hbe:∀x,a<low->K[low-1]?=some x->bE x.toList t.toList<0)(hmm:mm=b\/ (low<mm/\∃x,K[mm-1]?=some x/\0≤bE x.toList t.toList))
 (hn:n≤mm-low)(hs1:∀x,0<n->((K.drop low).take (mm-low))[n-1]?=some x->bE x.toList t.toList<0)(hs2:∀x,((K.drop low).take (mm-low))[n]?=some x->0≤bE x.toList t.toList):iO K t a b (low+n):=by
 refine⟨by omega,by omega,fun x hx he=>?_,fun x hx he=>?_⟩
 ·by_cases h0:0<n
  ·refine hs1 x h0 ?_;rw [fX (by omega),show low+(n-1)=low+n-1 by omega];exact he
  ·have:n=0:=by omega
   subst this;exact hbe x (by omega) (by rw [Nat.add_zero]at he;exact he)
 ·by_cases hlt:n<mm-low
  ·exact hs2 x (by rw [fX hlt];exact he)
  ·rcases hmm with h|⟨h,y,hy,hy2⟩
   ·omega
   ·have h4:=hs1 y (by omega) (by rw [fX (by omega),show low+(n-1)=mm-1 by omega];exact hy);omega
set_option maxHeartbeats 4000000 in
theorem aI7{w:World}{tb:Nat}{W:aD}{d i a b:Nat}(t:ByteArray)(h:TrieAt w tb W d)(hi:i<d)(hab:a<b)(hb:b≤aR W d i W.length):
 Calls Tryz.prog 204 #[.pointer (some ⟨tb,0,none⟩),.int .i64 i,.agg #[.int .i64 a,.int .i64 b],.string t] w (RetN w fun w' v=>∃p:Nat,v= .int .i64 p/\iO (cB W d i W.length) t a b p):=by
 have hwl:=dV W d i W.length;have hbig:b≤1048576:=by have:=h.few;unfold aR at hb;omega
 obtain⟨⟨la,lc,t0,-,-,hlev⟩,-,-⟩:=h;obtain⟨bl,ol,ela,hL⟩:=hlev i hi;subst ela;obtain⟨ka,kc,fa,fc,l0,-,hkc,hk1,-⟩:=hL.ex;obtain⟨nk,enk⟩:=nm (aR W d i W.length);have hkl:(cB W d i W.length).length=nk:=by rw [fV,enk]
 rw [enk]at l0 hkc hb;obtain⟨K,eK⟩:=nm (cB W d i W.length);rw [eK]at hk1 hkl ⊢;have HK:=qH (nIX hk1 hkl);clear hk1 hkl eK enk hlev hL hwl;obtain⟨kb,ko,eka⟩:∃kb ko,ka=some ⟨kb,ko,none⟩:=by obtain⟨x,hx⟩:∃x,K[0]?=some x:=⟨_,qG (by have:=HK.out.2;omega)⟩;obtain⟨kb,ko,e,-⟩:=HK.out.1 0 (.string x) (by simp [strs,hx]);exact⟨kb,ko,e⟩
 subst eka;go_enter Tryz.func204,Tryz.ntmps204;obtain⟨w1,e1⟩:=nm (w.alloc (.cells #[.int .i64 a,.int .i64 b] 249));obtain⟨g0,eg0⟩:=nm w.heap.size;have hB:=bNX eg0 e1;have hx1:Ext w w1:=xAX e1;have s0:w1.cell? ⟨g0,0,none⟩=some (.int .i64 a):=by rw [hB.cell'];rfl
 have s1:w1.cell? ⟨g0,1,none⟩=some (.int .i64 b):=by rw [hB.cell'];rfl
 have t0':=hx1.cell t0 id;have l0':=hx1.cell l0 id;have H1:=qH (nIX hx1 hB);clear hx1 hB t0 l0;go_wp2
 go_step3
 go_wp2
 go_step3
 go_wp2;clear e1 eg0 t0' l0';go_loopw [10,11] (fun lv sv wr=>aNc K t a b w1 lv sv wr) (fun lv _ _=>b- (intOf lv).toNat)
 case atStart=>exact⟨a,Nat.le_refl _,Nat.le_of_lt hab,rfl,by rw [Nat.sub_self];rfl,qH fun x hx=>by omega,qH (Kp.refl _)⟩
 case round=>
  clear s0 s1;obtain⟨low,hlo,hhi,rfl,rfl,hbe,hex⟩:=hrel;have hb2:=H1.out.2.ext hex.out;have s1:wr.cell? ⟨g0,1,none⟩=some (.int .i64 b):=by rw [hb2.cell'];rfl
  obtain⟨st,est⟩:=nm (low-a+1);rw [est];have hst1:1≤st:=by omega
  clear hb2;by_cases hlt:low+st≤b
  ·obtain⟨x,hx⟩:∃x,K[low+st-1]?=some x:=⟨_,qG (by have:=HK.out.2;omega)⟩;obtain⟨kb',ko',eka,k0⟩:=HK.out.1 (low+st-1) (.string x) (by simp [strs,hx]);cases eka;replace k0:=hex.out.cell (H1.out.1.cell k0 id) id;by_cases hc:Op.bytesLess x.toList t.toList=true
   ·have HX:=qH (nIX hx (eI.2 hc));clear hx;go_wp2;go_roundw
    case rel=>exact⟨low+st,by omega,hlt,nMX,nMX,qH fun y _ hy=>by rw [HX.out.1]at hy;cases hy;exact HX.out.2,hex⟩
    case measure=>simp [intOf];omega
   ·rw [Bool.not_eq_true]at hc;have HX:=qH (nIX hx (show 0≤bE x.toList t.toList from Int.not_lt.1 fun h=>by rw [eI,hc]at h;cases h));clear hx;have HS:=qH (fun(cp:Nat)=>nO ((K.drop low).take ((low+st)-low)) t (some ⟨kb,ko+low,none⟩) ((low+st)-low) cp wr (by have:=HK.out.2;simp;omega) (fun j u hu=>by
     obtain⟨v,hv,ev⟩:=List.mem_map.1 (List.mem_of_getElem? hu);have hu2:=hu;unfold strs at hu2;rw [List.getElem?_map]at hu2;have hj':j< (low+st)-low:=by
      rcases Nat.lt_or_ge j ((low+st)-low)with h|h
      ·exact h
      ·rw [List.getElem?_eq_none (by simp;omega)]at hu2;cases hu2
     rw [fX hj']at hu2;obtain⟨kb',ko',ek,hc2⟩:=HK.out.1 (low+j) u (by unfold strs;rw [List.getElem?_map];exact hu2);cases ek;exact⟨kb,ko+low,rfl,by rw [Nat.add_assoc];exact hex.out.cell (H1.out.1.cell hc2 id) id⟩) (by omega))
    have HB:=qH hbe.out;clear hbe;go_wp2_with (go_at_call 210;refine Halted.out ?_)
    clear hc k0;rw [show(low+st-low)=st by omega]at HS;try rw [show(min ((low:Int)+(st:Int)) (b:Int)).toNat-low=st by omega]
    refine Halted.mk ((HS.out _).mono ?_);rintro e w2 ⟨v,rfl,hk2,n,bb,rfl,hn,hs1,hs2⟩;have HFin:=qH (show iO K t a b (low+n)from yM (mm:=low+st) hlo (by omega) hlt HB.out (.inr ⟨by omega,x,HX.out.1,HX.out.2⟩) (by omega) (by rw [show(low+st-low)=st by omega];exact hs1) (by rw [show(low+st-low)=st by omega];exact hs2));have HX2:=qH (H1.out.1.trans (hex.out.trans hk2));clear hs1 hs2 hk2;go_wp2;go_ret;exact RetN.mk HX2.out ⟨low+n,rfl,HFin.out⟩
  ·have HB:=qH hbe.out;have HS:=qH (fun(cp:Nat)=>nO ((K.drop low).take (b-low)) t (some ⟨kb,ko+low,none⟩) (b-low) cp wr (by have:=HK.out.2;simp;omega) (fun j u hu=>by
    obtain⟨v,hv,ev⟩:=List.mem_map.1 (List.mem_of_getElem? hu);have hu2:=hu;unfold strs at hu2;rw [List.getElem?_map]at hu2;have hj':j<b-low:=by
     rcases Nat.lt_or_ge j (b-low)with h|h
     ·exact h
     ·rw [List.getElem?_eq_none (by simp;omega)]at hu2;cases hu2
    rw [fX hj']at hu2;obtain⟨kb',ko',ek,hc2⟩:=HK.out.1 (low+j) u (by unfold strs;rw [List.getElem?_map];exact hu2);cases ek;exact⟨kb,ko+low,rfl,by rw [Nat.add_assoc];exact hex.out.cell (H1.out.1.cell hc2 id) id⟩) (by omega))
   clear hbe;by_cases hlk:low<kc
   ·go_wp2_with (go_at_call 210;refine Halted.out ?_)
    try rw [show(min ((low:Int)+(st:Int)) (b:Int)).toNat-low=b-low by omega]
    refine Halted.mk ((HS.out _).mono ?_);rintro e w2 ⟨v,rfl,hk2,n,bb,rfl,hn,hs1,hs2⟩;have HFin:=qH (show iO K t a b (low+n)from yM (mm:=b) hlo hhi (Nat.le_refl _) HB.out (.inl rfl) hn hs1 hs2);have HX2:=qH (H1.out.1.trans (hex.out.trans hk2));clear hs1 hs2 hk2;go_wp2;go_ret;exact RetN.mk HX2.out ⟨low+n,rfl,HFin.out⟩
   ·have elb:low=b:=by omega
    subst elb;rw [Nat.sub_self]at HS;have HS2:=qH (nO [] t (some ⟨kb,ko,none⟩) 0 0 wr rfl (CellsAt.nil _ _) (by omega));go_wp2_with (go_at_call 210;refine Halted.out ?_)
    try rw [show(min ((low:Int)+(st:Int)) (low:Int)).toNat-low=0 by omega]
    refine Halted.mk ((HS2.out).mono ?_);rintro e w2 ⟨v,rfl,hk2,n,bb,rfl,hn,hs1,hs2⟩;have hn0:n=0:=by omega
    subst hn0;have HFin:=qH (show iO K t a low (low+0)from yM (mm:=low) hlo (Nat.le_refl _) (Nat.le_refl _) HB.out (.inl rfl) (Nat.zero_le _) (fun x h=>by omega) (fun x h=>by rw [Nat.sub_self,List.take_zero]at h;simp at h));have HX2:=qH (H1.out.1.trans (hex.out.trans hk2));clear hs1 hs2 hk2;go_wp2;go_ret;exact RetN.mk HX2.out ⟨low+0,rfl,HFin.out⟩
set_option maxHeartbeats 4000000 in
theorem aKr{w:World}{cb tb:Nat}{st:List (Nat×Nat)}{g c m a b d:Nat}{W:aD}{M:Nat->Prop}(t:ByteArray)(h:CurIn w cb tb st g c m a b M)(ht:TrieAt w tb W d)(hm:m<d)(hab:a<b)(hb:b≤aR W d m W.length):
 Calls Tryz.prog 188 #[.pointer (some ⟨cb,0,none⟩),.string t] w (RetF (fun k=>k=g) w fun w' v=>∃p:Nat,iO (cB W d m W.length) t a b p/\v= .bool (decide (p≠b))/\CurIn w' cb tb (st.set m (p,b)) g c m p b M):=by
 have HL:=qH (lJ h.at_);have HE:=qH (fun(W:World) (hW:Ext w W)=>iL (h.ext hW));have HSk:=qH (fun(W':World) (hW:Ext w W')=>aI7 t (ht.ext hW) hm hab hb);have HC:=qH h;have hw:=mY h.small;have hd:decide (a=b)=false:=decide_eq_false (by omega);rw [hd]at HE;clear h hd ht;go_enter Tryz.func188,Tryz.ntmps188;go_wp2_with fail
 refine HL.out.mono ?_;rintro e w1 ⟨v,rfl,hk,rfl⟩;have hq:=mC g (m*2);have H1:=qH hk;clear hk;go_wp2_with (go_at_call 181;refine Halted.out ?_)
 refine Halted.mk ((HE.out w1 H1.out).mono ?_);rintro e w2 ⟨v,rfl,hk,rfl⟩;have H2:=qH (H1.out.trans hk);clear hk H1;have HJ:=qH (show ∀w',Ext w2 w'->(fun w':World=>w'.cell? ⟨cb,0,none⟩=some (.pointer (some ⟨tb,0,none⟩))/\w'.cell? ⟨cb,1,none⟩=some (.slice (some ⟨g,0,none⟩) (m+1) c)/\w'.cell? ⟨g,m*2,none⟩=some (.int .i64 a)/\w'.cell? ⟨g,m*2+1,none⟩=some (.int .i64 b)/\w'.frozen? ⟨g,m*2,none⟩=false) w' from fun w' hw'=>by have hc:=HC.out.ext (H2.out.trans hw');obtain⟨z0,z1,f0⟩:=hc.cells;exact⟨by rw [hc.at_.box.cell'];rfl,by rw [hc.at_.box.cell'];rfl,z0,z1,f0⟩);go_wp2;refine aT (fun w':World=>w'.cell? ⟨cb,0,none⟩=some (.pointer (some ⟨tb,0,none⟩))/\w'.cell? ⟨cb,1,none⟩=some (.slice (some ⟨g,0,none⟩) (m+1) c)/\w'.cell? ⟨g,m*2,none⟩=some (.int .i64 a)/\w'.cell? ⟨g,m*2+1,none⟩=some (.int .i64 b)/\w'.frozen? ⟨g,m*2,none⟩=false) [18] (by kernel_rfl) (HJ.out _ (Kp.refl w2).drew) (fun hHeld=>?_);refine eFX 0 ?_;refine eFX 1 ?_;refine eFX 2 ?_;refine eFX 3 ?_;refine eIX 4 ?_;refine eFX 5 ?_;refine eFX 6 ?_;refine eFX 7 ?_;refine eIX 8 ?_;refine eIX 9 ?_;refine eFX 10 ?_;refine eFX 11 ?_;refine eFX 12 ?_;refine eIX 13 ?_;refine eFX 14 ?_;refine eTX 15 fun K hK=>?_;go_simp
 (refine(HSk.out _ (H2.out.trans ((Kp.refl w2).drew))).mono ?_;rintro e w3 ⟨v,rfl,hk3,p,rfl,hp⟩;have X3:=qH (show Ext w2 w3 from((Kp.refl w2).drew).trans hk3);have HP:=qH hp;clear hk3 hp)
 go_wp2_with fail
 refine hK.out _ _ (HJ.out _ X3.out) fun hHeld=>?_;clear hK K;refine eFX 16 ?_;refine eFX 17 ?_;refine eLX 18 fun K hK=>?_;go_simp;refine hK.out _ _ ?_;clear hK K;refine aK (by kernel_rfl) ?_ _;clear hHeld hw;obtain⟨w4,e4⟩:=nm (w3.setCell ⟨g,m*2,none⟩ (.int .i64 p));have hc4:CurIn w4 cb tb (st.set m (p,b)) g c m p b M:=by rw [<-e4];exact(HC.out.ext (H2.out.trans X3.out)).put p
 have H4:=qH (nIX hc4 (show Kp (fun k=>k=g) w w4 from by rw [<-e4];exact Kp.setCell (F:=fun k=>k=g) (p:=⟨g,m*2,none⟩) (Ext.kp (H2.out.trans X3.out)) (fun _=>rfl) _));have HE4:=qH (iL hc4);rw [e4];clear hc4 e4;go_wp2_with fail
 refine HE4.out.mono ?_;rintro e w5 ⟨v,rfl,hk,rfl⟩;have H5:=qH (nIX (H4.out.1.ext hk) (H4.out.2.ext hk));clear hk;by_cases he:p=b
 ·rw [decide_eq_true he];have HE5:=qH (show decide (p≠b)=false from decide_eq_false fun h=>h he);clear he;go_wp2;go_ret;exact RetF.mk H5.out.2 ⟨p,HP.out,by rw [HE5.out];rfl,H5.out.1⟩
 ·rw [decide_eq_false he];have HE5:=qH (show decide (p≠b)=true from decide_eq_true he);clear he;go_wp2;go_ret;exact RetF.mk H5.out.2 ⟨p,HP.out,by rw [HE5.out];rfl,H5.out.1⟩
set_option maxHeartbeats 1000000 in
theorem aMz{w:World}{cb tb:Nat}{st:List (Nat×Nat)}{ao:Option Addr}{n c:Nat}{M:Nat->Prop}(h:CurAt w cb tb st (.slice ao n c) M):
 Calls Tryz.prog 182 #[.pointer (some ⟨cb,0,none⟩)] w (RetN w fun w' v=>v= .int .i64 n):=by
 have hq:=oR cb;have c1:=h.box.c1;clear h;go_enter Tryz.func182,Tryz.ntmps182;go_wp2;go_ret;exact RetN.mk (Kp.refl _) rfl
set_option maxHeartbeats 4000000 in
theorem aKz{w:World}{tb:Nat}{W:aD}{d i k f t:Nat}(h:TrieAt w tb W d)(hi:i<d)(hf:(cL W d i W.length++ [(aR W d (i+1) W.length:Int)])[k]?=some ((f:Nat):Int))(ht:(cL W d i W.length++ [(aR W d (i+1) W.length:Int)])[k+1]?=some ((t:Nat):Int)):
 Calls Tryz.prog 186 #[.pointer (some ⟨tb,0,none⟩),.int .i64 i,.int .i64 k] w (RetN w fun w' v=>v= .agg #[.int .i64 f,.int .i64 t]):=by
 have hfew:=h.few;obtain⟨⟨la,lc,t0,-,-,hlev⟩,-,-⟩:=h;obtain⟨bl,ol,ela,hL⟩:=hlev i hi;subst ela;obtain⟨ka,kc,fa,fc,-,l1,-,-,hf1⟩:=hL.ex;have hkl:=(List.getElem?_eq_some_iff.1 ht).1;rw [List.length_append,iS,List.length_singleton]at hkl;have hwl:=dV W d i W.length;obtain⟨fb,fo,efa,k0⟩:=hf1 k (.int .i64 f) (by unfold ints;rw [List.getElem?_map,hf];rfl);obtain⟨fb',fo',efa',k1⟩:=hf1 (k+1) (.int .i64 t) (by unfold ints;rw [List.getElem?_map,ht];rfl);subst efa;cases efa';obtain⟨nk,enk⟩:=nm (aR W d i W.length);have hnk:nk≤1048576:=by unfold aR at enk;omega
 rw [enk]at l1 hkl;have hw:IntKind.i64.wrap ((k:Int)+1)=(k:Int)+1:=IntWalk.i64_in _ (by omega);have hk1:k<nk+1:=by omega
 have hk5:(k:Int)< (nk:Int)+1:=by omega
 have hk6:k<nk:=by omega
 have hk7:k≤nk:=by omega
 have hk8:(k:Int)< ((nk+1:Nat):Int):=by omega
 have hk2:(0:Int)≤(k:Int)+1:=by omega
 have hk3:(k:Int)+1< ((nk+1:Nat):Int):=by omega
 have hk4:((k:Int)+1).toNat=k+1:=by omega
 clear hf ht hlev hL hf1 hwl enk hfew;go_enter Tryz.func186,Tryz.ntmps186;obtain⟨w1,e1⟩:=nm (w.alloc (.cells #[.int .i64 0,.int .i64 0] 249));obtain⟨g0,eg0⟩:=nm w.heap.size;have hB:=bNX eg0 e1;have hx1:Ext w w1:=xAX e1;have s0:=hB.c0;have s1:=hB.c1;have f0:=hB.free 0;have f1:=hB.free 1;replace t0:=hx1.cell t0 id;replace l1:=hx1.cell l1 id;replace k0:=hx1.cell k0 id;replace k1:=hx1.cell k1 id;have H1:=qH (nIX hx1 (nIX hB eg0));clear hx1 hB;go_wp2;go_still_tail 24,(by kernel_rfl)
 go_wp2;generalize hw9:World.setCell (World.setCell _ _ _) _ _=w9;have hD:Blk w9 g0 [.int .i64 f,.int .i64 t] 249:=by rw [<-hw9];exact(H1.out.2.1.set 0 _).set 1 _
 have hk9:Ext w w9:=by rw [<-hw9];have h:=H1.out.2.2;exact Kp.setCell (p:=⟨g0,1,none⟩) (Kp.setCell (p:=⟨g0,0,none⟩) H1.out.1 (fun h2=>by have h3:g0<w.heap.size:=h2;omega) _) (fun h2=>by have h3:g0<w.heap.size:=h2;omega) _
 have r0:=(hD.ext ((Kp.refl w9).drew)).c0;have r1:=(hD.ext ((Kp.refl w9).drew)).c1;clear hw9;refine bodyPost_ret (v:= .agg #[.int .i64 f,.int .i64 t]) (by simp [results,Tryz.results186,go_sem,r0,r1]) rfl ?_;exact RetN.mk hk9.drew rfl
theorem jD{P:Program}{t e:TypeId}{k bytes:Nat}{z:Value}(E:cW P t e k bytes z){l:List Oper}{a:Act}{w:World}{Q:Exit->Act->World->Prop}{o:Oper}{K:Act->World->Prop}{El:Prop}(hgd:o.guard=none)(s x:Operand)
 (ho:o.op= .call {callee:= .builtin .append,args:=#[s,x],argTypes:=#[t,t]})
 {v:Value}{n:Nat}{xs:List Value}{M:Nat->Prop}(hs:a.eval s=v)(hr:Row w e k v n xs M)
 {ao:Option Addr}{m c:Nat}{news:List Value}(hx:a.eval x= .slice ao m c)(hsrc:CellsAt w ao news)(hl:news.length=m*k)(h1:∀u∈news,u.oneCell'=true)
 (hb:(n+m)*bytes≤140737488355328)(h63:n+m≤maxLen)
 (h:∀v' w',Row w' e k v' (n+m) (xs++news) (fun g=>v.ownBlock=some g\/w.heap.size≤g)->Kp (fun g=>v.ownBlock=some g) w w'->K (a.put o.dst v') w'):
 if Region.wanted o (yielded l.toArray a.tmps)=true then Oper.wp P o a w K Q else El:=by
 obtain⟨v',w',hrun,h2,h3,h4⟩:=pG (P:=P) E o.type hr hl hsrc h1 hb h63 (c:=c);exact aEz hgd s x ho hs hx hrun (h v' w' h2 h3)
theorem pH{w:World}{e:TypeId}{k:Nat}{v:Value}{n:Nat}{xs:List Value}{M:Nat->Prop}(h:Row w e k v n xs M)(hn:0<n):∃g c,v= .slice (some ⟨g,0,none⟩) n c/\M g:=by
 obtain⟨h1,⟨e1,h0⟩|⟨g',cap,rest,e1,hM,_⟩⟩:=h
 ·omega
 ·exact⟨g',cap,e1,hM⟩
theorem aBl:cW Tryz.prog 216 249 2 16 (.agg #[.int .i64 0,.int .i64 0]):=⟨by kernel_rfl,by kernel_rfl,rfl,by decide⟩
set_option maxHeartbeats 4000000 in
theorem aL3{w:World}{cb tb:Nat}{st:List (Nat×Nat)}{g c m a b d f t:Nat}{W:aD}{M:Nat->Prop}(h:CurIn w cb tb st g c m a b M)(ht:TrieAt w tb W d)(hab:a≠b)(hm:m+1<d)(hW:0<W.length)
 (hf:(cL W d m W.length++ [(aR W d (m+1) W.length:Int)])[a]?=some ((f:Nat):Int))(hto:(cL W d m W.length++ [(aR W d (m+1) W.length:Int)])[a+1]?=some ((t:Nat):Int)):
 Calls Tryz.prog 157 #[.pointer (some ⟨cb,0,none⟩)] w (RetF (fun k=>k=cb\/k=g) w fun w' v=>v= .bool true/\∃g' c',CurAt w' cb tb (st++ [(f,t)]) (.slice (some ⟨g',0,none⟩) (m+2) c') (fun k=>k=g\/w.heap.size≤k)):=by
 have HE:=qH (fun(W:World) (hW:Ext w W)=>iL (h.ext hW));have HA:=qH (fun(W:World) (hW:Ext w W)=>aMz (h.at_.ext hW));have HD:=qH (fun(W':World) (hW:Ext w W')=>aBn (ht.ext hW));have HLn:=qH (fun(W':World) (hW:Ext w W')=>aIe (ht.ext hW));have hd:decide (a=b)=false:=decide_eq_false hab;rw [hd]at HE;have hq:=oR cb;have HJ:=qH (show ∀w',Ext w w'->(fun w':World=>w'.cell? ⟨cb,0,none⟩=some (.pointer (some ⟨tb,0,none⟩))) w' from fun w' hw'=>by show w'.cell? ⟨cb,0,none⟩=some (.pointer (some ⟨tb,0,none⟩));rw [(h.at_.box.ext hw').cell'];rfl);have HC:=qH h;have HL:=qH (fun(W:World) (hW:Ext w W)=>lJ (h.at_.ext hW));have HBl:=qH (fun(W':World) (hW:Ext w W')=>aKz (ht.ext hW) (by omega) hf hto);have HT:=qH ht;have c0:=HJ.out w (Kp.refl _);have hwl:=mY h.small;have e1:((m:Int)+1==(d:Int))=false:=by
  have:¬(m:Int)+1=d:=by omega
  simp [this]
 obtain⟨nw,enw⟩:=nm W.length;have e2:((nw:Int)==0)=false:=by
  have hz:¬(nw:Int)=0:=by omega
  have hz2:¬nw=0:=by omega
  simp [hz2]
 rw [enw]at HLn;clear h hd;go_enter Tryz.func157,Tryz.ntmps157;go_wp2;refine aT (fun w':World=>w'.cell? ⟨cb,0,none⟩=some (.pointer (some ⟨tb,0,none⟩))) [] (by kernel_rfl) (HJ.out _ (Kp.refl w).drew) (fun hHeld=>?_);refine eFX 0 ?_;refine eFX 1 ?_;refine eFX 2 ?_;refine eGX 3 ?_;refine eTX 4 fun K hK=>?_;go_simp
 (refine(HE.out _ (Kp.refl w).drew).mono ?_;rintro e w1 ⟨v,rfl,hk1,rfl⟩;have X1:=qH (show Ext w w1 from((Kp.refl w).drew).trans hk1);clear hk1)
 go_wp2_with fail
 refine hK.out _ _ (HJ.out _ X1.out) fun hHeld=>?_;clear hK K;refine eFX 5 ?_;refine eFX 6 ?_;refine eGX 7 ?_;refine eGX 9 ?_;refine eGX 10 ?_;refine eGX 11 ?_;refine eHX 12 ?_;refine eTX 8 fun K hK=>?_;go_simp
 (refine(HA.out _ X1.out).mono ?_;rintro e w2 ⟨v,rfl,hk2,rfl⟩;have X2:=qH (show Ext w w2 from X1.out.trans hk2);clear hk2)
 go_wp2_with fail
 refine hK.out _ _ (HJ.out _ X2.out) fun hHeld=>?_;clear hK K;refine eTX 13 fun K hK=>?_;go_simp
 (refine(HD.out _ X2.out).mono ?_;rintro e w3 ⟨v,rfl,hk3,rfl⟩;have X3:=qH (show Ext w w3 from X2.out.trans hk3);clear hk3)
 go_wp2_with fail
 refine hK.out _ _ (HJ.out _ X3.out) fun hHeld=>?_;clear hK K;refine eGX 14 ?_;refine eFX 15 ?_;refine eFX 16 ?_;refine eGX 17 ?_;refine eGX 18 ?_;refine eGX 19 ?_;refine eHX 20 ?_;refine eTX 21 fun K hK=>?_;go_simp
 (refine(HLn.out _ X3.out).mono ?_;rintro e w4 ⟨v,rfl,hk4,rfl⟩;have X4:=qH (show Ext w w4 from X3.out.trans hk4);clear hk4)
 go_wp2_with fail
 refine hK.out _ _ (HJ.out _ X4.out) fun hHeld=>?_;clear hK K;refine eGX 22 ?_;refine eFX 23 ?_;refine aK (by kernel_rfl) ?_ _;clear hHeld c0 e1 e2;obtain⟨⟨la,lc,t0,-,-,hlev⟩,-,-⟩:=HT.out.ext X4.out;obtain⟨bl,ol,ela,hL⟩:=hlev 0 (by omega);subst ela;obtain⟨ka,kc,fa,fc,l0,-,-,-,-⟩:=hL.ex;rw [Nat.zero_mul,Nat.add_zero]at l0;generalize aR W d 0 W.length=nk at l0;have c0:=HJ.out w4 X4.out;have hd0:0<d:=by omega
 clear hL hlev hf hto;obtain⟨w5,e5⟩:=nm (w4.alloc (.cells #[.int .i64 0,.int .i64 0] 249));obtain⟨g5,eg5⟩:=nm w4.heap.size;have hB5:=bNX eg5 e5;have hx5:Ext w4 w5:=xAX e5;have s0:=hB5.c0;have s1:=hB5.c1;have f0:=hB5.free 0;have f1:=hB5.free 1;obtain⟨w6,e6⟩:=nm ((w5.setCell ⟨g5,0,none⟩ (.int .i64 0)).setCell ⟨g5,1,none⟩ (.int .i64 nk));have hB6:Blk w6 g5 [.int .i64 0,.int .i64 nk] 249:=by rw [<-e6];exact(hB5.set 0 _).set 1 _
 have hx6:Ext w w6:=by rw [<-e6];have h1:=X4.out.size;exact Kp.setCell (p:=⟨g5,1,none⟩) (Kp.setCell (p:=⟨g5,0,none⟩) (X4.out.trans hx5) (fun h2=>by have h3:g5<w.heap.size:=h2;omega) _) (fun h2=>by have h3:g5<w.heap.size:=h2;omega) _
 have H6:=qH (nIX hx6 (nIX hB6 (show w.heap.size≤g5 by have h1:=X4.out.size;omega)));clear hB5 hx5 hB6 hx6;go_wp2_with fail
 refine(HL.out w6 H6.out.1).mono ?_;rintro e w7 ⟨v,rfl,hk7,rfl⟩;have H7:=qH (nIX (H6.out.1.trans hk7) (H6.out.2.1.ext hk7));have hq2:=aAj g (m*2);have HJ7:=qH (show ∀w',Ext w7 w'->(fun w':World=>w'.cell? ⟨cb,0,none⟩=some (.pointer (some ⟨tb,0,none⟩))/\w'.cell? ⟨cb,1,none⟩=some (.slice (some ⟨g,0,none⟩) (m+1) c)/\w'.cell? ⟨g,m*2,none⟩=some (.int .i64 a)) w' from fun w' hw'=>by have hc:=HC.out.ext (H7.out.1.trans hw');obtain⟨z0,z1,-⟩:=hc.cells;exact⟨by rw [hc.at_.box.cell'];rfl,by rw [hc.at_.box.cell'];rfl,z0⟩);clear hk7 e5 e6 eg5 s0 s1 f0 f1 c0 t0 l0 hd0;go_wp2;refine aT (fun w':World=>w'.cell? ⟨cb,0,none⟩=some (.pointer (some ⟨tb,0,none⟩))/\w'.cell? ⟨cb,1,none⟩=some (.slice (some ⟨g,0,none⟩) (m+1) c)/\w'.cell? ⟨g,m*2,none⟩=some (.int .i64 a)) [15] (by kernel_rfl) (HJ7.out _ (Kp.refl w7).drew) (fun hHeld=>?_);refine eFX 0 ?_;refine eFX 1 ?_;refine eFX 2 ?_;refine eIX 3 ?_;refine eFX 4 ?_;refine eFX 5 ?_;refine eFX 6 ?_;refine eIX 7 ?_;refine eIX 8 ?_;refine eFX 9 ?_;refine eFX 10 ?_;refine eFX 11 ?_;refine eFX 12 ?_;refine eIX 13 ?_;refine eTX 14 fun K hK=>?_;go_simp
 (refine(HBl.out _ (H7.out.1.trans ((Kp.refl w7).drew))).mono ?_;rintro e w8 ⟨v,rfl,hk8,rfl⟩;have X8:=qH (show Ext w7 w8 from((Kp.refl w7).drew).trans hk8);have s0:w8.cell? ⟨g5,0,none⟩=some (.int .i64 0):=(by rw [(H7.out.2.ext X8.out).cell'];rfl);have s1:w8.cell? ⟨g5,1,none⟩=some (.int .i64 nk):=(by rw [(H7.out.2.ext X8.out).cell'];rfl);have f0:=(H7.out.2.ext X8.out).free 0;have f1:=(H7.out.2.ext X8.out).free 1;clear hk8)
 go_wp2_with fail
 refine hK.out _ _ (HJ7.out _ X8.out) fun hHeld=>?_;clear hK K;refine eLX 15 fun K hK=>?_;go_simp;refine hK.out _ _ ?_;clear hK K;refine aK (by kernel_rfl) ?_ _;clear hHeld;obtain⟨w9,e9⟩:=nm ((w8.setCell ⟨g5,0,none⟩ (.int .i64 f)).setCell ⟨g5,1,none⟩ (.int .i64 t));rw [e9];have hB9:Blk w9 g5 [.int .i64 f,.int .i64 t] 249:=by rw [<-e9];exact((H7.out.2.ext X8.out).set 0 _).set 1 _
 have hx9:Ext w w9:=by rw [<-e9];have h1:=H6.out.2.2;exact Kp.setCell (p:=⟨g5,1,none⟩) (Kp.setCell (p:=⟨g5,0,none⟩) (H7.out.1.trans X8.out) (fun h2=>by have h3:g5<w.heap.size:=h2;omega) _) (fun h2=>by have h3:g5<w.heap.size:=h2;omega) _
 have hc9:=HC.out.ext hx9;have hl9:=hc9.len;have hr9:=hc9.at_.row;rw [hl9]at hr9;have hmx:=hc9.small;have hap:=hc9.at_.apart;have HR9:=qH (nIX hr9 (nIX hap (nIX hx9 (nIX hl9 hB9))));have HJ9:=qH (show ∀w',Ext w9 w'->(fun w':World=>w'.cell? ⟨cb,1,none⟩=some (.slice (some ⟨g,0,none⟩) (m+1) c)/\w'.cell? ⟨g5,0,none⟩=some (.int .i64 f)/\w'.cell? ⟨g5,1,none⟩=some (.int .i64 t)) w' from fun w' hw'=>by have hc:=HC.out.ext (HR9.out.2.2.1.trans hw');have hb:=HR9.out.2.2.2.2.ext hw';exact⟨by rw [hc.at_.box.cell'];rfl,by rw [hb.cell'];rfl,by rw [hb.cell'];rfl⟩);have hcb:=hc9.at_.box;have HCB:=qH hcb;clear hB9 hx9 hc9 hl9 hr9 hap hcb e9 s0 s1 f0 f1;go_wp2;refine aT (fun w':World=>w'.cell? ⟨cb,1,none⟩=some (.slice (some ⟨g,0,none⟩) (m+1) c)/\w'.cell? ⟨g5,0,none⟩=some (.int .i64 f)/\w'.cell? ⟨g5,1,none⟩=some (.int .i64 t)) [7,8,9,10] (by kernel_rfl) (HJ9.out _ (Kp.refl w9).drew) (fun hHeld=>?_);refine eFX 0 ?_;refine eFX 1 ?_;refine eFX 2 ?_;refine eFX 3 ?_;refine eIX 4 ?_;refine eIX 5 ?_;refine eTX 6 fun K hK=>?_;go_simp;refine hK.out _ _ (HJ9.out _ (by first|exact((Kp.refl w9).alloc _).drew|exact(Kp.refl w9).drew.alloc _)) fun hHeld=>?_;clear hK K;refine eLX 7 fun K hK=>?_;refine jD (m:=1) (n:=m+1) aBl rfl _ _ rfl rfl ((HR9.out.1.alloc _).drew) rfl ((CellsAt.two w9 (.int .i64 f) (.int .i64 t) 249).ext ((Kp.refl _).drew)) (by rfl) (by simp [Value.oneCell']) (by have:=HT.out.dep;omega) (by have:=HT.out.dep;unfold maxLen;omega) ?_;intro v10 w10 hr10 hk10;obtain⟨g10,c10,e10,hM10⟩:=pH hr10 (by omega);subst e10;have HB10:=qH (show Blk w10 cb [.pointer (some ⟨tb,0,none⟩),.slice (some ⟨g,0,none⟩) (m+1) c] 218 from((HCB.out.alloc _).ext ((Kp.refl _).drew)).kp hk10 (fun h2=>HR9.out.2.1.1 (by have h3:some g=some cb:=h2;exact(Option.some.inj h3).symm)));have HR10:=qH (nIX hr10 hk10);have y1:w10.cell? ⟨cb,1,none⟩=some (.slice (some ⟨g,0,none⟩) (m+1) c):=(by rw [HB10.out.cell'];rfl);have yf:=HB10.out.free 1;clear hr10 hk10 hM10;refine hK.out _ _ ?_;clear hK K;refine eLX 8 fun K hK=>?_;go_simp;refine hK.out _ _ ?_;clear hK K;refine eLX 9 fun K hK=>?_;go_simp;refine hK.out _ _ ?_;clear hK K;refine eLX 10 fun K hK=>?_;go_simp;refine hK.out _ _ ?_;clear hK K;refine aK (by kernel_rfl) ?_ _;clear hHeld y1 yf;obtain⟨w11,e11⟩:=nm (w10.setCell ⟨cb,1,none⟩ (.slice (some ⟨g10,0,none⟩) (m+1+1) c10));rw [e11];have hks:Kp (fun k=>k=cb) w10 w11:=by rw [<-e11];exact kSa
 have hbx:Blk w11 cb [.pointer (some ⟨tb,0,none⟩),.slice (some ⟨g10,0,none⟩) (m+1+1) c10] 218:=by rw [<-e11];exact HB10.out.set 1 _
 have hpool:∀k,((Value.slice (some ⟨g,0,none⟩) (m+1) c).ownBlock=some k\/ (w9.alloc (.cells #[.int .i64 f,.int .i64 t] 249)).drew.heap.size≤k)->k=g\/w.heap.size≤k:=fun k hk=>by
  rcases hk with hk|hk
  ·have h3:some g=some k:=hk;exact .inl (Option.some.inj h3).symm
  ·refine .inr ?_;have h4:=HR9.out.2.2.1.size;have h5:(w9.alloc (.cells #[.int .i64 f,.int .i64 t] 249)).heap.size≤k:=hk;rw [aJ]at h5;omega
 have hrw:Row w11 249 2 (.slice (some ⟨g10,0,none⟩) (m+1+1) c10) (st++ [(f,t)]).length ((st++ [(f,t)]).flatMap jO) (fun k=>k=g\/w.heap.size≤k):=by
  have e1:(st++ [(f,t)]).length=m+1+1:=by rw [List.length_append,HR9.out.2.2.2.1];rfl
  have e2:(st++ [(f,t)]).flatMap jO=st.flatMap jO++ [.int .i64 f,.int .i64 t]:=by rw [List.flatMap_append];rfl
  rw [e1,e2];refine(HR10.out.1.mono hpool).kp' hks fun g' hg _ e=>?_;have h3:some g10=some g':=hg;have h4:=Option.some.inj h3;obtain⟨cs,hb⟩:∃cs,Blk w10 g10 cs 249:=by
   obtain⟨_,⟨e1,h0⟩|⟨g',cap,rest,e1,hM,hB,_⟩⟩:=HR10.out.1
   ·omega
   ·simp only [Value.slice.injEq,Option.some.injEq,Addr.mk.injEq,and_true]at e1;obtain⟨rfl,_⟩:=e1;exact⟨_,hB⟩
  rw [h4,e]at hb;exact sU (aQ HB10.out hb)
 have hkF:Kp (fun k=>k=cb\/k=g) w w11:=by
  have h1:Kp (fun k=>k=cb\/k=g) w w10:=(Ext.kp ((HR9.out.2.2.1.alloc (.cells #[.int .i64 f,.int .i64 t] 249)).drew)).trans' HR10.out.2 fun k _ hk=>by have h3:some g=some k:=hk;exact .inr (Option.some.inj h3).symm
  exact h1.trans' hks fun k _ hk=> .inl hk
 have HFin:=qH (nIX hbx (nIX hrw hkF));clear e11 hks hbx hpool hrw hkF;go_wp2;go_ret;exact RetF.mk HFin.out.2.2 ⟨rfl,g10,c10,HFin.out.1,HFin.out.2.1⟩
theorem aV{w:World}{e:TypeId}{k:Nat}{v:Value}{n:Nat}{xs:List Value}{M:Nat->Prop}(h:Row w e k v n xs M){g:Nat}(hg:v.ownBlock=some g):∃cs,Blk w g cs e:=by
 obtain⟨_,⟨e1,_⟩|⟨g',cap,rest,e1,hM,hB,_⟩⟩:=h
 ·rw [e1]at hg;cases hg
 ·rw [e1]at hg;cases hg;exact⟨_,hB⟩
set_option maxHeartbeats 1000000 in
theorem aHq{w:World}{cb tb:Nat}{ao:Option Addr}{c:Nat}{M:Nat->Prop}(h:CurAt w cb tb [] (.slice ao 0 c) M):
 Calls Tryz.prog 181 #[.pointer (some ⟨cb,0,none⟩)] w (RetN w fun w' v=>v= .bool false):=by
 have HL:=qH (aA0 h);clear h;go_enter Tryz.func181,Tryz.ntmps181;go_wp2_with fail
 refine HL.out.mono ?_;rintro e w1 ⟨v,rfl,hk,rfl⟩;have hq:∀w:World,(binOp .neq 250 (.pointer none) (.pointer none)).run Tryz.prog w= .ok (.bool false) w:=fun _=>by kernel_rfl
 have HK:=qH hk;clear hk;go_wp2;go_quiet (fail)
 go_wp2;go_ret;exact RetN.mk (HK.out.drewN _) rfl
set_option maxHeartbeats 4000000 in
theorem aL2{w:World}{cb tb:Nat}{ao:Option Addr}{c d:Nat}{W:aD}{M:Nat->Prop}(h:CurAt w cb tb [] (.slice ao 0 c) M)(ht:TrieAt w tb W d)(hm:0<d)(hW:0<W.length):
 Calls Tryz.prog 157 #[.pointer (some ⟨cb,0,none⟩)] w (RetF (fun k=>k=cb\/ (Value.slice ao 0 c).ownBlock=some k) w fun w' v=>v= .bool true/\∃g' c',CurAt w' cb tb [(0,aR W d 0 W.length)] (.slice (some ⟨g',0,none⟩) 1 c') (fun k=>(Value.slice ao 0 c).ownBlock=some k\/w.heap.size≤k)):=by
 have HE:=qH (fun(W:World) (hW:Ext w W)=>aHq (h.ext hW));have HA:=qH (fun(W:World) (hW:Ext w W)=>aMz (h.ext hW));have HD:=qH (fun(W':World) (hW:Ext w W')=>aBn (ht.ext hW));have HLn:=qH (fun(W':World) (hW:Ext w W')=>aIe (ht.ext hW));have hq:=oR cb;have HJ:=qH (show ∀w',Ext w w'->(fun w':World=>w'.cell? ⟨cb,0,none⟩=some (.pointer (some ⟨tb,0,none⟩))) w' from fun w' hw'=>by show w'.cell? ⟨cb,0,none⟩=some (.pointer (some ⟨tb,0,none⟩));rw [(h.box.ext hw').cell'];rfl);have HC:=qH h;have HL:=qH (fun(W:World) (hW:Ext w W)=>aA0 (h.ext hW));have HT:=qH ht;have c0:=HJ.out w (Kp.refl _);have e1:((0:Int)==(d:Int))=false:=by
  have:¬(0:Int)=d:=by omega
  simp [this]
 obtain⟨nw,enw⟩:=nm W.length;have e2:((nw:Int)==0)=false:=by
  have hz:¬(nw:Int)=0:=by omega
  have hz2:¬nw=0:=by omega
  simp [hz2]
 rw [enw]at HLn;clear h;go_enter Tryz.func157,Tryz.ntmps157;go_wp2;refine aT (fun w':World=>w'.cell? ⟨cb,0,none⟩=some (.pointer (some ⟨tb,0,none⟩))) [] (by kernel_rfl) (HJ.out _ (Kp.refl w).drew) (fun hHeld=>?_);refine eFX 0 ?_;refine eFX 1 ?_;refine eFX 2 ?_;refine eGX 3 ?_;refine eTX 4 fun K hK=>?_;go_simp
 (refine(HE.out _ (Kp.refl w).drew).mono ?_;rintro e w1 ⟨v,rfl,hk1,rfl⟩;have X1:=qH (show Ext w w1 from((Kp.refl w).drew).trans hk1);clear hk1)
 go_wp2_with fail
 refine hK.out _ _ (HJ.out _ X1.out) fun hHeld=>?_;clear hK K;refine eFX 5 ?_;refine eFX 6 ?_;refine eGX 7 ?_;refine eGX 9 ?_;refine eGX 10 ?_;refine eGX 11 ?_;refine eHX 12 ?_;refine eTX 8 fun K hK=>?_;go_simp
 (refine(HA.out _ X1.out).mono ?_;rintro e w2 ⟨v,rfl,hk2,rfl⟩;have X2:=qH (show Ext w w2 from X1.out.trans hk2);clear hk2)
 go_wp2_with fail
 refine hK.out _ _ (HJ.out _ X2.out) fun hHeld=>?_;clear hK K;refine eTX 13 fun K hK=>?_;go_simp
 (refine(HD.out _ X2.out).mono ?_;rintro e w3 ⟨v,rfl,hk3,rfl⟩;have X3:=qH (show Ext w w3 from X2.out.trans hk3);clear hk3)
 go_wp2_with fail
 refine hK.out _ _ (HJ.out _ X3.out) fun hHeld=>?_;clear hK K;refine eGX 14 ?_;refine eFX 15 ?_;refine eFX 16 ?_;refine eGX 17 ?_;refine eGX 18 ?_;refine eGX 19 ?_;refine eHX 20 ?_;refine eTX 21 fun K hK=>?_;go_simp
 (refine(HLn.out _ X3.out).mono ?_;rintro e w4 ⟨v,rfl,hk4,rfl⟩;have X4:=qH (show Ext w w4 from X3.out.trans hk4);clear hk4)
 go_wp2_with fail
 refine hK.out _ _ (HJ.out _ X4.out) fun hHeld=>?_;clear hK K;refine eGX 22 ?_;refine eFX 23 ?_;refine aK (by kernel_rfl) ?_ _;clear hHeld c0 e1 e2;obtain⟨⟨la,lc,t0,-,-,hlev⟩,-,-⟩:=HT.out.ext X4.out;obtain⟨bl,ol,ela,hL⟩:=hlev 0 (by omega);subst ela;obtain⟨ka,kc,fa,fc,l0,-,-,-,-⟩:=hL.ex;rw [Nat.zero_mul,Nat.add_zero]at l0;obtain⟨nk,enk⟩:=nm (aR W d 0 W.length);rw [enk]at l0;have HNk:=qH enk;clear enk;have c0:=HJ.out w4 X4.out;have hd0:0<d:=by omega
 clear hL hlev;obtain⟨w5,e5⟩:=nm (w4.alloc (.cells #[.int .i64 0,.int .i64 0] 249));obtain⟨g5,eg5⟩:=nm w4.heap.size;have hB5:=bNX eg5 e5;have hx5:Ext w4 w5:=xAX e5;have s0:=hB5.c0;have s1:=hB5.c1;have f0:=hB5.free 0;have f1:=hB5.free 1;obtain⟨w6,e6⟩:=nm ((w5.setCell ⟨g5,0,none⟩ (.int .i64 0)).setCell ⟨g5,1,none⟩ (.int .i64 nk));have hB6:Blk w6 g5 [.int .i64 0,.int .i64 nk] 249:=by rw [<-e6];exact(hB5.set 0 _).set 1 _
 have hx6:Ext w w6:=by rw [<-e6];have h1:=X4.out.size;exact Kp.setCell (p:=⟨g5,1,none⟩) (Kp.setCell (p:=⟨g5,0,none⟩) (X4.out.trans hx5) (fun h2=>by have h3:g5<w.heap.size:=h2;omega) _) (fun h2=>by have h3:g5<w.heap.size:=h2;omega) _
 have H6:=qH (nIX hx6 (nIX hB6 (show w.heap.size≤g5 by have h1:=X4.out.size;omega)));clear hB5 hx5 hB6 hx6;go_wp2_with fail
 refine(HL.out w6 H6.out.1).mono ?_;rintro e w7 ⟨v,rfl,hk7,rfl⟩;have H7:=qH (nIX (H6.out.1.trans hk7) (H6.out.2.1.ext hk7));have hq2:∀w:World,(binOp .neq 250 (.pointer none) (.pointer none)).run Tryz.prog w= .ok (.bool false) w:=fun _=>by kernel_rfl
 clear hk7 e5 e6 eg5 s0 s1 f0 f1 c0 t0 l0 hd0;obtain⟨w9,e9⟩:∃x,x=w7:=⟨_,rfl⟩;subst e9;have hB9:=H7.out.2;have hx9:=H7.out.1;have hc9:=HC.out.ext hx9;have hr9:=hc9.row;have hap:∀k,(Value.slice ao 0 c).ownBlock=some k->k≠cb:=fun k hk e=>by subst e;obtain⟨cs,hb⟩:=aV hc9.row hk;exact sU (aQ hc9.box hb)
 have HR9:=qH (nIX hr9 (nIX hap (nIX hx9 hB9)));have HJ9:=qH (show ∀w',Ext w9 w'->(fun w':World=>w'.cell? ⟨cb,1,none⟩=some (.slice ao 0 c)/\w'.cell? ⟨g5,0,none⟩=some (.int .i64 0)/\w'.cell? ⟨g5,1,none⟩=some (.int .i64 nk)) w' from fun w' hw'=>by have hc:=HC.out.ext (HR9.out.2.2.1.trans hw');have hb:=HR9.out.2.2.2.ext hw';exact⟨by rw [hc.box.cell'];rfl,by rw [hb.cell'];rfl,by rw [hb.cell'];rfl⟩);have hcb:=hc9.box;have HCB:=qH hcb;clear hB9 hx9 hc9 hr9 hap hcb;go_wp2;refine aT (fun w':World=>w'.cell? ⟨cb,1,none⟩=some (.slice ao 0 c)/\w'.cell? ⟨g5,0,none⟩=some (.int .i64 0)/\w'.cell? ⟨g5,1,none⟩=some (.int .i64 nk)) [7,8,9,10] (by kernel_rfl) (HJ9.out _ (Kp.refl w9).drew) (fun hHeld=>?_);refine eFX 0 ?_;refine eFX 1 ?_;refine eFX 2 ?_;refine eFX 3 ?_;refine eIX 4 ?_;refine eIX 5 ?_;refine eTX 6 fun K hK=>?_;go_simp;refine hK.out _ _ (HJ9.out _ (by first|exact((Kp.refl w9).alloc _).drew|exact(Kp.refl w9).drew.alloc _)) fun hHeld=>?_;clear hK K;refine eLX 7 fun K hK=>?_;refine jD (m:=1) (n:=0) aBl rfl _ _ rfl rfl ((HR9.out.1.alloc _).drew) rfl ((CellsAt.two w9 (.int .i64 0) (.int .i64 nk) 249).ext ((Kp.refl _).drew)) (by rfl) (by simp [Value.oneCell']) (by have:=HT.out.dep;omega) (by have:=HT.out.dep;unfold maxLen;omega) ?_;intro v10 w10 hr10 hk10;obtain⟨g10,c10,e10,hM10⟩:=pH hr10 (by omega);subst e10;have HB10:=qH (show Blk w10 cb [.pointer (some ⟨tb,0,none⟩),.slice ao 0 c] 218 from((HCB.out.alloc _).ext ((Kp.refl _).drew)).kp hk10 (fun h2=>HR9.out.2.1 cb h2 rfl));have HR10:=qH (nIX hr10 hk10);have y1:w10.cell? ⟨cb,1,none⟩=some (.slice ao 0 c):=(by rw [HB10.out.cell'];rfl);have yf:=HB10.out.free 1;clear hr10 hk10 hM10;refine hK.out _ _ ?_;clear hK K;refine eLX 8 fun K hK=>?_;go_simp;refine hK.out _ _ ?_;clear hK K;refine eLX 9 fun K hK=>?_;go_simp;refine hK.out _ _ ?_;clear hK K;refine eLX 10 fun K hK=>?_;go_simp;refine hK.out _ _ ?_;clear hK K;refine aK (by kernel_rfl) ?_ _;clear hHeld y1 yf;obtain⟨w11,e11⟩:=nm (w10.setCell ⟨cb,1,none⟩ (.slice (some ⟨g10,0,none⟩) (0+1) c10));rw [e11];have hks:Kp (fun k=>k=cb) w10 w11:=by rw [<-e11];exact kSa
 have hbx:Blk w11 cb [.pointer (some ⟨tb,0,none⟩),.slice (some ⟨g10,0,none⟩) (0+1) c10] 218:=by rw [<-e11];exact HB10.out.set 1 _
 have hpool:∀k,((Value.slice ao 0 c).ownBlock=some k\/ (w9.alloc (.cells #[.int .i64 0,.int .i64 nk] 249)).drew.heap.size≤k)->(Value.slice ao 0 c).ownBlock=some k\/w.heap.size≤k:=fun k hk=>by
  rcases hk with hk|hk
  ·exact .inl hk
  ·refine .inr ?_;have h4:=HR9.out.2.2.1.size;have h5:(w9.alloc (.cells #[.int .i64 0,.int .i64 nk] 249)).heap.size≤k:=hk;rw [aJ]at h5;omega
 have hrw:Row w11 249 2 (.slice (some ⟨g10,0,none⟩) (0+1) c10) [(0,nk)].length ([(0,nk)].flatMap jO) (fun k=>(Value.slice ao 0 c).ownBlock=some k\/w.heap.size≤k):=by
  refine Row.kp' (HR10.out.1.mono hpool) hks fun g' hg _ e=>?_;have h3:some g10=some g':=hg;have h4:=Option.some.inj h3;obtain⟨cs,hb⟩:∃cs,Blk w10 g10 cs 249:=by
   obtain⟨_,⟨e1,h0⟩|⟨g',cap,rest,e1,hM,hB,_⟩⟩:=HR10.out.1
   ·omega
   ·simp only [Value.slice.injEq,Option.some.injEq,Addr.mk.injEq,and_true]at e1;obtain⟨rfl,_⟩:=e1;exact⟨_,hB⟩
  rw [h4,e]at hb;exact sU (aQ HB10.out hb)
 have hkF:Kp (fun k=>k=cb\/ (Value.slice ao 0 c).ownBlock=some k) w w11:=by have h1:Kp (fun k=>k=cb\/ (Value.slice ao 0 c).ownBlock=some k) w w10:=(Ext.kp ((HR9.out.2.2.1.alloc (.cells #[.int .i64 0,.int .i64 nk] 249)).drew)).trans' HR10.out.2 fun k _ hk=> .inr hk;exact h1.trans' hks fun k _ hk=> .inl hk
 have HFin:=qH (nIX hbx (nIX hrw hkF));clear e11 hks hbx hpool hrw hkF;go_wp2;go_ret;exact RetF.mk HFin.out.2.2 ⟨rfl,g10,c10,HFin.out.1,by rw [HNk.out];exact HFin.out.2.1⟩
abbrev CurS(w:World)(cb tb:Nat)(st:List (Nat×Nat))(ov:Value):Prop:=CurAt w cb tb st ov (fun k=>ov.ownBlock=some k)
def iV(cb:Nat)(ov:Value):Nat->Prop:=fun k=>k=cb\/ov.ownBlock=some k
theorem Row.ownB{w:World}{e:TypeId}{k n:Nat}{v:Value}{xs:List Value}{M:Nat->Prop}(h:Row w e k v n xs M):Row w e k v n xs (fun g=>v.ownBlock=some g):=by
 obtain⟨h1,h2|⟨g,cap,rest,rfl,b,c⟩⟩:=h
 ·exact⟨h1,.inl h2⟩
 ·exact⟨h1,.inr ⟨g,cap,rest,rfl,rfl,c⟩⟩
theorem CurAt.own{w:World}{cb tb:Nat}{st:List (Nat×Nat)}{ov:Value}{M:Nat->Prop}(h:CurAt w cb tb st ov M):CurS w cb tb st ov:=⟨h.box,h.row.ownB⟩
theorem CurAt.kp{F:Nat->Prop}{w w':World}{cb tb:Nat}{st:List (Nat×Nat)}{ov:Value}{M:Nat->Prop}(h:CurAt w cb tb st ov M)(hk:Kp F w w')(hf:∀k,iV cb ov k->¬F k):CurAt w' cb tb st ov M:=
 ⟨h.box.kp hk (hf _ (.inl rfl)),h.row.kp' hk fun g hg _=>hf g (.inr hg)⟩
theorem CurAt.foot{w:World}{cb tb:Nat}{st:List (Nat×Nat)}{ov:Value}{M:Nat->Prop}(h:CurAt w cb tb st ov M):∀k,iV cb ov k->k<w.heap.size:=fun k hk=>by
 rcases hk with rfl|hk
 ·exact h.box.lt
 ·obtain⟨cs,hb⟩:=aV h.row hk;exact hb.lt
theorem CurS.inn{w:World}{cb tb a b:Nat}{st:List (Nat×Nat)}{ov:Value}(h:CurS w cb tb (st++ [(a,b)]) ov):∃g c,ov= .slice (some ⟨g,0,none⟩) (st.length+1) c/\CurIn w cb tb (st++ [(a,b)]) g c st.length a b (fun k=>ov.ownBlock=some k):=by
 obtain⟨g,c,e,_⟩:=pH h.row (by simp);have el:(st++ [(a,b)]).length=st.length+1:=by simp
 rw [el]at e;subst e;exact⟨g,c,rfl,h,by simp⟩
theorem CurIn.outS{w:World}{cb tb g c m a b:Nat}{st:List (Nat×Nat)}{M:Nat->Prop}(h:CurIn w cb tb st g c m a b M):CurS w cb tb st (.slice (some ⟨g,0,none⟩) (m+1) c):=h.at_.own
section
variable {w:World}{cb tb a b d:Nat}{st:List (Nat×Nat)}{ov:Value}{W:aD}
theorem aMp(h:CurS w cb tb (st++ [(a,b)]) ov):Calls Tryz.prog 181 #[.pointer (some ⟨cb,0,none⟩)] w (RetN w fun w' v=>v= .bool (decide (a=b))):=by obtain⟨g,c,rfl,hi⟩:=h.inn;exact iL hi
theorem aMf{x:ByteArray}(h:CurS w cb tb (st++ [(a,b)]) ov)(ht:TrieAt w tb W d)(hm:st.length<d)(hab:a≠b)(hx:(cB W d st.length W.length)[a]?=some x):
 Calls Tryz.prog 187 #[.pointer (some ⟨cb,0,none⟩)] w (RetN w fun w' v=>v= .string x):=by
 obtain⟨g,c,rfl,hi⟩:=h.inn;exact aNq hi ht hm hab hx
theorem aC8(st:List (Nat×Nat))(x y:Nat×Nat):(st++ [x]).set st.length y=st++ [y]:=by rw [List.set_append_right _ _ (Nat.le_refl _),Nat.sub_self];rfl
theorem aI8(t:ByteArray)(h:CurS w cb tb (st++ [(a,b)]) ov)(ht:TrieAt w tb W d)(hm:st.length<d)(hab:a<b)(hb:b≤aR W d st.length W.length):
 Calls Tryz.prog 188 #[.pointer (some ⟨cb,0,none⟩),.string t] w (RetF (iV cb ov) w fun w' v=>∃p:Nat,iO (cB W d st.length W.length) t a b p/\v= .bool (decide (p≠b))/\CurS w' cb tb (st++ [(p,b)]) ov):=by
 obtain⟨g,c,rfl,hi⟩:=h.inn;refine(aKr t hi ht hm hab hb).mono ?_;rintro e w' ⟨v,rfl,hk,p,h1,rfl,h2⟩;rw [aC8]at h2;exact RetF.mk (hk.mono fun k _ e=> .inr (by rw [e];rfl)) ⟨p,h1,rfl,h2.outS⟩
theorem aJn(h:CurS w cb tb (st++ [(a,b)]) ov)(hab:a<b)(hb:b≤1048576):
 Calls Tryz.prog 189 #[.pointer (some ⟨cb,0,none⟩)] w (RetF (iV cb ov) w fun w' v=>v= .bool (decide (a+1≠b))/\CurS w' cb tb (st++ [(a+1,b)]) ov):=by
 obtain⟨g,c,rfl,hi⟩:=h.inn;refine(aL5 hi hab hb).mono ?_;rintro e w' ⟨v,rfl,hk,rfl,h2⟩;rw [aC8]at h2;exact RetF.mk (hk.mono fun k _ e=> .inr (by rw [e];rfl)) ⟨rfl,h2.outS⟩
theorem aNh(h:CurS w cb tb (st++ [(a,b)]) ov):
 Calls Tryz.prog 159 #[.pointer (some ⟨cb,0,none⟩)] w (RetF (iV cb ov) w fun w' v=>v= .bool true/\∃ov',ov'.ownBlock=ov.ownBlock/\CurS w' cb tb st ov'):=by
 obtain⟨g,c,rfl,hi⟩:=h.inn;refine(aOg hi).mono ?_;rintro e w' ⟨v,rfl,hk,rfl,h2⟩;rw [List.take_left]at h2;exact RetF.mk (hk.mono fun k _ e=> .inl e) ⟨rfl,.slice (some ⟨g,0,none⟩) st.length c,rfl,h2.own⟩
theorem aJk{q:List ByteArray}(h:CurS w cb tb st ov)(ht:TrieAt w tb W d)(hW:WaysOk W d)(hne:0<W.length)(hp:PathOk W d q st)(hq:q.length<d):
 Calls Tryz.prog 157 #[.pointer (some ⟨cb,0,none⟩)] w (RetF (iV cb ov) w fun w' v=>v= .bool true/\∃ov' f t,CurS w' cb tb (st++ [(f,t)]) ov'/\SpanOf W d q f t/\f<t/\∀k,ov'.ownBlock=some k->ov.ownBlock=some k\/w.heap.size≤k):=by
 obtain⟨f,t,hs,hft,h1|⟨m,e,hqm,he,h1,h2⟩⟩:=hp.open hW hne hq
 ·obtain⟨rfl,rfl,rfl⟩:=h1;have est:st= []:=List.eq_nil_of_length_eq_zero (by rw [hp.len];rfl);subst est;obtain⟨ao,cap,rfl,_⟩:=wZ h.row;refine(aL2 h ht hq hne).mono ?_;rintro e w' ⟨v,rfl,hk,rfl,g',c',h2⟩;refine RetF.mk (hk.mono fun k _ e=>e) ⟨rfl,_,0,_,h2.own,hs,hft,fun k hk'=>?_⟩;exact h2.row.block k hk'
 ·obtain⟨a',x,p1,p2,p3,p4,p5⟩:=hp.at_ m e he;obtain⟨g,c,e1,hM⟩:=pH h.row (by rw [hp.len];omega);rw [hp.len,hqm]at e1;subst e1;refine(aL3 (a:=e.1) (b:=e.2) ⟨h,he⟩ ht (by omega) (by omega) hne h1 h2).mono ?_;rintro e' w' ⟨v,rfl,hk,rfl,g',c',h3⟩;refine RetF.mk (hk.mono fun k _ e=>by rcases e with e|e;exact .inl e;exact .inr (by rw [e];rfl)) ⟨rfl,_,f,t,h3.own,hs,hft,fun k hk'=>?_⟩;rcases h3.row.block k hk' with h4|h4
  ·exact .inl (by rw [h4];rfl)
  ·exact .inr h4
end
structure TestZ where
 fn:Nat
 cap:Array Value
 last:Int
 ask:List ByteArray->Bool
def TestZ.val(t:TestZ):Value:= .func (Fn.func t.fn) #[] t.cap
def mU(t:TestZ):List Value:= [.int .i64 t.last,t.val]
structure TestOk(w:World)(nv:Nat)(t:TestZ):Prop where
 ent:∀args w,(callFunc t.fn args).run Tryz.prog w= .ok (Next.enter t.fn args) w
 tells:∀W,Ext w W->∀(ra:Option Addr) (cp:Nat) (V:List ByteArray),V.length=nv->CellsAt W ra (strs V)->Calls Tryz.prog t.fn (#[.slice ra nv cp]++t.cap) W (RetN W fun w' v=>v= .bool (t.ask V))
theorem TestOk.ext{w w':World}{nv:Nat}{t:TestZ}(h:TestOk w nv t)(hk:Ext w w'):TestOk w' nv t:=⟨h.ent,fun W hW=>h.tells W (hk.trans hW)⟩
theorem aH0{α:Type}(f:α->List Value)(hf:∀x,(f x).length=2):∀(l:List α) {m:Nat} {x:α},l[m]?=some x->∀(a b:Value),f x= [a,b]->(l.flatMap f)[m*2]?=some a/\(l.flatMap f)[m*2+1]?=some b
 | [],m,x,h,a,b,_=>by simp at h
 |y::l,0,x,h,a,b,e=>by cases h;rw [List.flatMap_cons,e];exact⟨rfl,rfl⟩
 |y::l,m+1,x,h,a,b,e=>by
  obtain⟨h1,h2⟩:=aH0 f hf l (m:=m) (x:=x) (by simpa using h) a b e;have hl:=hf y;refine⟨?_,?_⟩
  ·rw [List.flatMap_cons,List.getElem?_append_right (by omega),hl,show(m+1)*2-2=m*2 by omega];exact h1
  ·rw [List.flatMap_cons,List.getElem?_append_right (by omega),hl,show(m+1)*2+1-2=m*2+1 by omega];exact h2
theorem aLm{w:World}{ta:Option Addr}{ts:List TestZ}(h:CellsAt w ta (ts.flatMap mU)){i:Nat}{t:TestZ}(hi:ts[i]?=some t):∃b off,ta=some ⟨b,off,none⟩/\w.cell? ⟨b,off+i*2,none⟩=some (.int .i64 t.last)/\w.cell? ⟨b,off+i*2+1,none⟩=some t.val:=by obtain⟨h1,h2⟩:=aH0 mU (fun _=>rfl) ts hi _ _ rfl;obtain⟨b,off,e,c1⟩:=h _ _ h1;obtain⟨b',off',e',c2⟩:=h _ _ h2;rw [e]at e';cases e';exact⟨b,off,e,c1,by rw [Nat.add_assoc];exact c2⟩
set_option maxHeartbeats 1000000 in
theorem aGa{w:World}{nv bb wb cp:Nat}{ra:Option Addr}{V:List ByteArray}(t:TestZ)(ht:TestOk w nv t)(hb:w.cell? ⟨bb,0,none⟩=some (.pointer (some ⟨wb,0,none⟩)))(hr:w.cell? ⟨wb,2,none⟩=some (.slice ra nv cp))(hc:CellsAt w ra (strs V))(hV:V.length=nv):
 Calls Tryz.prog 180 #[.agg #[.int .i64 t.last,t.val],.pointer (some ⟨bb,0,none⟩)] w (RetN w fun w' v=>v= .bool (!t.ask V)):=by
 have HT:=qH (fun W (hW:Ext w W)=>ht.tells W hW ra cp V hV (hc.ext hW));have hent:=ht.ent;obtain⟨f,cap,last,ask⟩:=t;unfold TestZ.val at*;simp only at HT hent;clear ht hc hV;obtain⟨r,er⟩:=nm (ask V);rw [er]at HT;simp only [er];go_enter Tryz.func180,Tryz.ntmps180;obtain⟨w1,e1⟩:=nm (w.alloc (.cells #[.int .i64 last,.func (Fn.func f) #[] cap] 180));obtain⟨g0,eg0⟩:=nm w.heap.size;have hB:=bNX eg0 e1;have hx:Ext w w1:=xAX e1;have b0:=hx.cell hb id;have r0:=hx.cell hr id;have f0:=hB.c1;have HX:=qH hx;clear hx hB hb hr;go_wp2;go_still_tail 6,(by kernel_rfl)
 go_wp2_with fail
 refine(HT.out _ (HX.out.drew)).mono ?_;rintro e w1 ⟨v,rfl,hk,rfl⟩;have HK:=qH (HX.out.drew.trans hk);clear hk b0 r0 f0;go_wp2;go_ret;exact RetN.mk HK.out rfl
def NoneP(w0:World)(V:List ByteArray)(ts:List TestZ)(n:Nat)(iv:Value)(w:World):Prop:=∃i:Nat,i≤n/\iv= .int .i64 i/\Hid (∀(j:Nat) u,j<i->ts[j]?=some u->(!TestZ.ask u V)=false)/\Hid (Ext w0 w)
theorem aHr{α:Type}{l:List α}{q:α->Bool}{n:Nat}(hn:n=l.length)(h:∀(j:Nat) u,j<n->l[j]?=some u->q u=false):l.any q=false:=by rw [List.any_eq_false];intro t ht;obtain⟨j,hj,rfl⟩:=List.mem_iff_getElem.1 ht;rw [h j _ (by omega) (qG hj)];decide
theorem aK6{α:Type}{l:List α}{q:α->Bool}{i:Nat}{u:α}(h:l[i]?=some u)(hq:q u=true):l.any q=true:=List.any_eq_true.2 ⟨u,List.mem_of_getElem? h,hq⟩
set_option maxHeartbeats 1000000 in
theorem aGx{w:World}{nv bb wb cp n tc:Nat}{ra ta:Option Addr}{V:List ByteArray}(ts:List TestZ)(hn:n=ts.length)(h:CellsAt w ta (ts.flatMap mU))(ht:∀t∈ts,TestOk w nv t)(hb:w.cell? ⟨bb,0,none⟩=some (.pointer (some ⟨wb,0,none⟩)))(hr:w.cell? ⟨wb,2,none⟩=some (.slice ra nv cp))(hc:CellsAt w ra (strs V))(hV:V.length=nv)(hl:n≤1048576):
 Calls Tryz.prog 203 #[.slice ta n tc,.func (Fn.func 180) #[] #[.pointer (some ⟨bb,0,none⟩)]] w (RetN w fun w' v=>∃z:Int,v= .int .i64 z/\decide (0≤z)=ts.any fun t=>!t.ask V):=by
 have HN:=qH hn;have HE:=qH h;have HQ:=qH (fun W (hW:Ext w W) t (hm:t∈ts)=>aGa t ((ht t hm).ext hW) (hW.cell hb id) (hW.cell hr id) (hc.ext hW) hV);clear hn h ht hb hr hc hV;go_enter Tryz.func203,Tryz.ntmps203;go_wp2;go_loopw [8] (fun iv wr=>NoneP w V ts n iv wr) (fun iv _=>n- (intOf iv).toNat)
 case atStart=>exact⟨0,Nat.zero_le _,rfl,fun j u h=>by omega,Kp.refl w⟩
 case round=>
  obtain⟨i,hi,rfl,hno,hex⟩:=hrel;by_cases hlt:i<n
  ·have hlt':i<ts.length:=by rw [<-HN.out];exact hlt
   obtain⟨t,ht⟩:∃t,ts[i]?=some t:=⟨_,qG hlt'⟩;obtain⟨b,off,eao,hc0,hc1⟩:=aLm (HE.out.ext hex.out) ht;subst eao;have HC:=qH (HQ.out wr hex.out t (List.mem_of_getElem? ht));obtain⟨r,er⟩:∃r:Bool,(!t.ask V)=r:=⟨_,rfl⟩;rw [er]at HC;obtain⟨la,ela⟩:=nm t.last;obtain⟨tv,etv⟩:=nm t.val;rw [ela]at hc0 HC;rw [etv]at hc1 HC;have HT:=qH (nIX ht er);clear ht hlt' er ela;unfold TestZ.val at etv;subst etv;cases r
   ·go_wp2_with fail
    refine HC.out.mono ?_;rintro e w1 ⟨v,rfl,hk1,rfl⟩;have HX:=qH (hex.out.trans hk1);clear hk1 hc0 hc1;go_wp2;go_roundw
    case rel=>
     refine⟨i+1,by omega,nMX,fun j u hj hu=>?_,HX⟩;by_cases e:j=i
     ·subst e;rw [HT.out.1]at hu;cases hu;exact HT.out.2
     ·exact hno.out j u (by omega) hu
    case measure=>simp [intOf];omega
   ·go_wp2_with fail
    refine HC.out.mono ?_;rintro e w1 ⟨v,rfl,hk1,rfl⟩;have HX:=qH (hex.out.trans hk1);clear hk1 hc0 hc1;go_wp2;go_ret;exact RetN.mk HX.out ⟨i,rfl,by rw [aK6 HT.out.1 HT.out.2];simp⟩
  ·go_wp2;go_ret;exact RetN.mk hex.out ⟨-1,rfl,by rw [aHr HN.out fun j u hj=>hno.out j u (by omega)];decide⟩
theorem zW{w:World}{nv bb wb cp n tc:Nat}{ra ta:Option Addr}{V:List ByteArray}(ts:List TestZ)(hn:n=ts.length)(h:CellsAt w ta (ts.flatMap mU))(ht:∀t∈ts,TestOk w nv t)(hb:w.cell? ⟨bb,0,none⟩=some (.pointer (some ⟨wb,0,none⟩)))(hr:w.cell? ⟨wb,2,none⟩=some (.slice ra nv cp))(hc:CellsAt w ra (strs V))(hV:V.length=nv)(hl:n≤1048576):
 Calls Tryz.prog 179 #[.slice ta n tc,.func (Fn.func 180) #[] #[.pointer (some ⟨bb,0,none⟩)]] w (RetN w fun w' v=>v= .bool (ts.any fun t=>!t.ask V)):=by
 have HI:=qH (aGx (tc:=tc) ts hn h ht hb hr hc hV hl);clear hn h ht hb hr hc hV hl;go_enter Tryz.func179,Tryz.ntmps179;go_wp2_with fail
 refine HI.out.mono ?_;rintro e w1 ⟨v,rfl,hk,z,rfl,hz⟩;go_wp2;go_ret;exact RetN.mk hk (congrArg Value.bool (by first|exact hz|simp [<-hz]))
set_option maxHeartbeats 1000000 in
theorem aF9{w:World}{nv wb mb k cp n tc sc sb so:Nat}{ra ta:Option Addr}{V:List ByteArray}(ts:List TestZ)(hn:n=ts.length)(h:CellsAt w ta (ts.flatMap mU))(ht:∀t∈ts,TestOk w nv t)(hm:w.cell? ⟨wb,0,none⟩=some (.pointer (some ⟨mb,0,none⟩)))(hs:w.cell? ⟨mb,3,none⟩=some (.slice (some ⟨sb,so,none⟩) (nv+1) sc))(hk:k≤nv)(hk2:w.cell? ⟨sb,so+k,none⟩=some (.slice ta n tc))(hr:w.cell? ⟨wb,2,none⟩=some (.slice ra nv cp))(hc:CellsAt w ra (strs V))(hV:V.length=nv)(hl:n≤1048576)(hl2:nv≤1048576):
 Calls Tryz.prog 156 #[.pointer (some ⟨wb,0,none⟩),.int .i64 k] w (RetN w fun w' v=>v= .bool (!ts.any fun t=>!t.ask V)):=by
 go_enter Tryz.func156,Tryz.ntmps156;obtain⟨w1,e1⟩:=nm (w.alloc (.cells #[.pointer (some ⟨wb,0,none⟩)] 183));obtain⟨g0,eg0⟩:=nm w.heap.size;have hB:=bNX eg0 e1;have hx:Ext w w1:=xAX e1;have b0:=hB.c0;have m0:=hx.cell hm id;have s0:=hx.cell hs id;have k0:=hx.cell hk2 id;have HC:=qH (zW (tc:=tc) ts hn (h.ext hx) (fun t hm=>(ht t hm).ext hx) b0 (hx.cell hr id) (hc.ext hx) hV hl);have HX:=qH hx;clear hx hB hm hs hk2 hr hc hV ht h hn;go_wp2_with fail
 refine HC.out.mono ?_;rintro e w2 ⟨v,rfl,hk3,rfl⟩;have HK:=qH (HX.out.trans hk3);clear hk3;go_wp2;go_ret;exact RetN.mk HK.out rfl
structure TrieZ where
 tb:Nat
 vs:List Nat
 W:aD
structure MatchZ where
 N:List ByteArray
 Ts:List TrieZ
 tests:Nat->List TestZ
def noT:TrieZ:=⟨0,[],[]⟩
def atL(Ts:List TrieZ)(v:Nat):List Nat:=(List.range Ts.length).filter fun j=>(Ts.getD j noT).vs.contains v
theorem vY{Ts:List TrieZ}{v j:Nat}:j∈atL Ts v↔∃t,Ts[j]?=some t/\v∈t.vs:=by
 unfold atL;rw [List.mem_filter,List.mem_range];refine⟨fun⟨h1,h2⟩=>⟨Ts[j],qG h1,?_⟩,fun⟨t,h1,h2⟩=>⟨(List.getElem?_eq_some_iff.1 h1).1,?_⟩⟩
 ·rw [bM (qG h1)]at h2;exact List.contains_iff_mem.1 h2
 ·rw [bM h1];exact List.contains_iff_mem.2 h2
theorem aBq(Ts:List TrieZ)(v:Nat):(atL Ts v).Nodup:=(List.nodup_range).filter _
def mX(M:MatchZ)(V:List ByteArray):Prop:=V.length=M.N.length/\(∀t∈M.Ts,t.vs.map (bK V)∈t.W)/\∀k≤M.N.length,∀t∈M.tests k,t.ask V=true
structure MatchOk(M:MatchZ):Prop where
 ways:∀t∈M.Ts,WaysOk t.W t.vs.length/\t.vs.Pairwise (· < ·)/\t.vs≠ []/\(∀x∈t.vs,x<M.N.length)/\0<t.W.length
 all:∀v,v<M.N.length->∃t∈M.Ts,v∈t.vs
 local_:∀k≤M.N.length,∀t∈M.tests k,∀V V':List ByteArray,V.length=M.N.length->V'.length=M.N.length->V.take k=V'.take k->t.ask V=t.ask V'
def lW(t:TrieZ):Value:= .pointer (some ⟨t.tb,0,none⟩)
structure MAddr where
 na:Option Addr
 nc:Nat
 ta:Option Addr
 tc:Nat
 aa:Option Addr
 ac:Nat
 sa:Option Addr
 sc:Nat
 ia:Nat->Option Addr
 ic:Nat->Nat
 ya:Nat->Option Addr
 yc:Nat->Nat
structure MatchAt(w:World)(mb:Nat)(M:MatchZ)(A:MAddr):Prop where
 c0:w.cell? ⟨mb,0,none⟩=some (.slice A.na M.N.length A.nc)
 c1:w.cell? ⟨mb,1,none⟩=some (.slice A.ta M.Ts.length A.tc)
 c2:w.cell? ⟨mb,2,none⟩=some (.slice A.aa M.N.length A.ac)
 c3:w.cell? ⟨mb,3,none⟩=some (.slice A.sa (M.N.length+1) A.sc)
 ptrs:CellsAt w A.ta (M.Ts.map lW)
 ats:∀v,v<M.N.length->∃b o,A.aa=some ⟨b,o,none⟩/\w.cell? ⟨b,o+v,none⟩=some (.slice (A.ia v) (atL M.Ts v).length (A.ic v))/\CellsAt w (A.ia v) (ints ((atL M.Ts v).map fun(j:Nat)=>(j:Int)))
 slots:∀k,k≤M.N.length->∃b o,A.sa=some ⟨b,o,none⟩/\w.cell? ⟨b,o+k,none⟩=some (.slice (A.ya k) (M.tests k).length (A.yc k))/\CellsAt w (A.ya k) ((M.tests k).flatMap mU)
 tries:∀t∈M.Ts,TrieAt w t.tb t.W t.vs.length
 tests:∀k,k≤M.N.length->∀t∈M.tests k,TestOk w M.N.length t
 few:M.N.length≤1048576/\M.Ts.length≤1048576/\∀k,k≤M.N.length->(M.tests k).length≤1048576
def yW(cb:Nat->Nat)(n:Nat):List Value:=(List.range n).map fun j=> .pointer (some ⟨cb j,0,none⟩)
structure WalkAt(w:World)(wb mb:Nat)(M:MatchZ)(yv cv:Value)(rb:Nat)(R:List ByteArray)(cb:Nat->Nat)(ov:Nat->Value)(st:Nat->List (Nat×Nat)):Prop where
 box:Blk w wb [.pointer (some ⟨mb,0,none⟩),cv,.slice (some ⟨rb,0,none⟩) M.N.length M.N.length,yv] 186
 rowB:Blk w rb (strs R) 9
 rowL:R.length=M.N.length
 curs:Row w 188 1 cv M.Ts.length (yW cb M.Ts.length) (fun k=>cv.ownBlock=some k)
 cur:∀(j:Nat) t,M.Ts[j]?=some t->CurS w (cb j) t.tb (st j) (ov j)
 apart:∀i j,i<M.Ts.length->j<M.Ts.length->i≠j->cb i≠cb j/\∀k,(ov i).ownBlock=some k->(ov j).ownBlock≠some k
def aLe(wb rb n:Nat)(cv:Value)(cb:Nat->Nat)(ov:Nat->Value):Nat->Prop:=fun k=>k=wb\/k=rb\/cv.ownBlock=some k\/∃j,j<n/\iV (cb j) (ov j) k
def dQ{α:Type}(f:Nat->α)(j:Nat)(x:α):Nat->α:=fun i=>if i=j then x else f i
theorem upd_same{α:Type}(f:Nat->α)(j:Nat)(x:α):dQ f j x j=x:=if_pos rfl
theorem aH{α:Type}(f:Nat->α){j i:Nat}(x:α)(h:i≠j):dQ f j x i=f i:=if_neg h
section
variable {w w':World}{wb mb rb:Nat}{M:MatchZ}{yv cv:Value}{R:List ByteArray}{cb:Nat->Nat}{ov:Nat->Value}{st:Nat->List (Nat×Nat)}
theorem WalkAt.kp{F:Nat->Prop}(h:WalkAt w wb mb M yv cv rb R cb ov st)(hk:Kp F w w')(hf:∀k,aLe wb rb M.Ts.length cv cb ov k->¬F k):WalkAt w' wb mb M yv cv rb R cb ov st:=
 ⟨h.box.kp hk (hf _ (.inl rfl)),h.rowB.kp hk (hf _ (.inr (.inl rfl))),h.rowL,h.curs.kp' hk fun g hg _=>hf g (.inr (.inr (.inl hg))),fun j t ht=>(h.cur j t ht).kp hk fun k hk'=>hf k (.inr (.inr (.inr ⟨j,(List.getElem?_eq_some_iff.1 ht).1,hk'⟩))),h.apart⟩
theorem WalkAt.ext(h:WalkAt w wb mb M yv cv rb R cb ov st)(hk:Ext w w'):WalkAt w' wb mb M yv cv rb R cb ov st:=h.kp hk fun _ _=>id
theorem WalkAt.lt(h:WalkAt w wb mb M yv cv rb R cb ov st):∀k,aLe wb rb M.Ts.length cv cb ov k->k<w.heap.size:=fun k hk=>by
 rcases hk with rfl|rfl|hk|⟨j,hj,hk⟩
 ·exact h.box.lt
 ·exact h.rowB.lt
 ·obtain⟨cs,hb⟩:=aV h.curs hk;exact hb.lt
 ·exact(h.cur j _ (qG hj)).foot k hk
theorem aHy:186≠218/\186≠249/\9≠218/\9≠249/\188≠218/\188≠249/\186≠9/\188≠9/\186≠188:=by decide
theorem CurAt.notB{tb:Nat}{c:Nat}{s:List (Nat×Nat)}{o:Value}{M':Nat->Prop}(h:CurAt w c tb s o M'){g:Nat}{cs:List Value}{e:TypeId}(hb:Blk w g cs e)(h1:e≠218)(h2:e≠249):¬iV c o g:=fun hk=>by
 rcases hk with rfl|hk
 ·exact h1 (aQ hb h.box)
 ·obtain⟨cs',hb'⟩:=aV h.row hk;exact h2 (aQ hb hb')
theorem WalkAt.turn(h:WalkAt w wb mb M yv cv rb R cb ov st){j:Nat}{t:TrieZ}(ht:M.Ts[j]?=some t)(hk:Kp (iV (cb j) (ov j)) w w'){ov':Value}{st':List (Nat×Nat)}(hc:CurS w' (cb j) t.tb st' ov')(ho:∀k,ov'.ownBlock=some k->(ov j).ownBlock=some k\/w.heap.size≤k):
 WalkAt w' wb mb M yv cv rb R cb (dQ ov j ov') (dQ st j st'):=by
 have hcj:=h.cur j t ht;have hj:=(List.getElem?_eq_some_iff.1 ht).1;obtain⟨t1,t2,t3,t4,t5,t6,-⟩:=aHy;have far:∀i,i<M.Ts.length->i≠j->∀k,iV (cb i) (ov i) k->¬iV (cb j) (ov j) k:=fun i hi hne k h1 h2=>by
  obtain⟨a1,a2⟩:=h.apart i j hi hj hne;rcases h1 with rfl|h1
  ·rcases h2 with h2|h2
   ·exact a1 h2
   ·obtain⟨cs,hb⟩:=aV hcj.row h2;exact sU (aQ (h.cur i _ (qG hi)).box hb)
  ·rcases h2 with rfl|h2
   ·obtain⟨cs,hb⟩:=aV (h.cur i _ (qG hi)).row h1;exact sU (aQ hcj.box hb)
   ·exact a2 k h1 h2
 refine⟨h.box.kp hk (hcj.notB h.box t1 t2),h.rowB.kp hk (hcj.notB h.rowB t3 t4),h.rowL,h.curs.kp' hk fun g hg _=>?_,fun i u hi=>?_,fun i l hi hl hne=>⟨(h.apart i l hi hl hne).1,fun k h1 h2=>?_⟩⟩
 ·obtain⟨cs,hb⟩:=aV h.curs hg;exact hcj.notB hb t5 t6
 ·by_cases e:i=j
  ·subst e;rw [ht]at hi;cases hi;rw [upd_same,upd_same];exact hc
  ·rw [aH _ _ e,aH _ _ e];exact(h.cur i u hi).kp hk (far i (List.getElem?_eq_some_iff.1 hi).1 e)
 ·have old:∀i,i<M.Ts.length->∀k,(ov i).ownBlock=some k->k<w.heap.size:=fun i hi k hk=>(h.cur i _ (qG hi)).foot k (.inr hk);by_cases e:i=j
  ·subst e;rw [upd_same]at h1;rw [aH _ _ (fun e=>hne e.symm)]at h2;rcases ho k h1 with h3|h3
   ·exact(h.apart i l hi hl hne).2 k h3 h2
   ·have:=old l hl k h2;omega
  ·rw [aH _ _ e]at h1;by_cases e2:l=j
   ·subst e2;rw [upd_same]at h2;rcases ho k h2 with h3|h3
    ·exact(h.apart i l hi hl hne).2 k h1 h3
    ·have:=old i hi k h1;omega
   ·rw [aH _ _ e2]at h2;exact(h.apart i l hi hl hne).2 k h1 h2
theorem WalkAt.own_turn{ov':Value}{j n:Nat}(ho:∀k,ov'.ownBlock=some k->(ov j).ownBlock=some k\/w.heap.size≤k):∀k,aLe wb rb n cv cb (dQ ov j ov') k->aLe wb rb n cv cb ov k\/w.heap.size≤k:=fun k hk=>by
 rcases hk with hk|hk|hk|⟨i,hi,hk⟩
 ·exact .inl (.inl hk)
 ·exact .inl (.inr (.inl hk))
 ·exact .inl (.inr (.inr (.inl hk)))
 ·by_cases e:i=j
  ·subst e;rw [upd_same]at hk;rcases hk with hk|hk
   ·exact .inl (.inr (.inr (.inr ⟨i,hi,.inl hk⟩)))
   ·rcases ho k hk with h|h
    ·exact .inl (.inr (.inr (.inr ⟨i,hi,.inr h⟩)))
    ·exact .inr h
  ·rw [aH _ _ e]at hk;exact .inl (.inr (.inr (.inr ⟨i,hi,hk⟩)))
theorem WalkAt.put(h:WalkAt w wb mb M yv cv rb R cb ov st)(v:Nat)(x:ByteArray):WalkAt (w.setCell ⟨rb,v,none⟩ (.string x)) wb mb M yv cv rb (R.set v x) cb ov st/\Kp (fun k=>k=rb) w (w.setCell ⟨rb,v,none⟩ (.string x)):=by
 have hk:Kp (fun k=>k=rb) w (w.setCell ⟨rb,v,none⟩ (.string x)):=kSa;obtain⟨t1,t2,t3,t4,t5,t6,t7,t8,t9⟩:=aHy;refine⟨⟨h.box.kp hk fun e=>?_,?_,by rw [List.length_set];exact h.rowL,h.curs.kp' hk fun g hg _ e=>?_,fun j t ht=>(h.cur j t ht).kp hk fun k hf e=>?_,h.apart⟩,hk⟩
 ·have h1:=h.box;rw [e]at h1;exact t7 (aQ h1 h.rowB)
 ·have:=h.rowB.set v (.string x);have e:(strs R).set v (.string x)=strs (R.set v x):=by unfold strs;rw [List.map_set]
  rw [e]at this;exact this
 ·obtain⟨cs,hb⟩:=aV h.curs hg;rw [e]at hb;exact t8 (aQ hb h.rowB)
 ·have e':k=rb:=e;rw [e']at hf;exact(h.cur j t ht).notB h.rowB t3 t4 hf
theorem WalkAt.ptr(h:WalkAt w wb mb M yv cv rb R cb ov st):∃ca cc,cv= .slice ca M.Ts.length cc/\∀j,j<M.Ts.length->∃b o,ca=some ⟨b,o,none⟩/\w.cell? ⟨b,o+j,none⟩=some (.pointer (some ⟨cb j,0,none⟩)):=by obtain⟨ca,cc,e,hc,_⟩:=h.curs.shape;refine⟨ca,cc,e,fun j hj=>?_⟩;exact hc j _ (by unfold yW;rw [List.getElem?_map,List.getElem?_range hj];rfl)
end
end
section
def bH(e:bV)(ts:List aE)(R:aD):aD:=vN aC (R.filterMap fun x=>(bU e ts x ts.length).map (·.2))
theorem wE{e:bV}{ts:List aE}{R:aD}{q:List ByteArray}:q∈bH e ts R↔∃x∈R,∃f,bU e ts x ts.length=some f/\f.2=q:=by
 unfold bH;rw [aD0,List.mem_filterMap];refine⟨fun⟨x,hx,h⟩=>?_,fun⟨x,hx,f,hf,e⟩=>⟨x,hx,by rw [hf,<-e];rfl⟩⟩;cases hf:bU e ts x ts.length with
 |none=>rw [hf]at h;cases h
 |some f=>rw [hf]at h;exact⟨x,hx,f,hf,Option.some.inj h⟩
theorem aCy(e:bV)(ts:List aE)(R:aD):Strict aC (bH e ts R):=Strict.new dX _
theorem tX(e:bV)(ts:List aE)(R:aD)(x:List ByteArray):bH e ts (R++ [x])=match bU e ts x ts.length with|some f=>bT aC (bH e ts R) f.2|none=>bH e ts R:=by
 unfold bH;rw [List.filterMap_append];cases h:bU e ts x ts.length with
 |none=>simp [h]
 |some f=>simp [h,aJo]
section
variable {ls:List aL}{R:Nat->aD}{i:Nat}{e:bV}{l:aL}
theorem FromOk.each(h:FromOk ls R i e)(hl:ls[i]?=some l)(hk:l.1=1){R':aD}(hR:∀x,x∈R'↔x∈R i/\x.length=(aA l).length){q:List ByteArray}(hq:q∈bH e (aA l) R'):
 FromOk ls R (i+1) (aB (ls.take (i+1)),q)/\q.take e.2.length=e.2/\q.length=(aB (ls.take (i+1))).length:=by
 obtain⟨x,hx,f,hf,rfl⟩:=wE.1 hq;obtain⟨h1,h2⟩:=(hR x).1 hx;obtain⟨h3,h4⟩:=h.next hl hk h1 h2 hf
 have e1:f=(aB (ls.take (i+1)),f.2):=by rw [<-h3.names]
 rw [<-e1];exact⟨h3,h4.vals,h3.len⟩
theorem FromOk.whole(h:FromOk ls R i e)(hl:ls[i]?=some l)(hk:l.1=1){R':aD}(hR:∀x,x∈R'↔x∈R i/\x.length=(aA l).length){V:List ByteArray}(hV:dN ls R V)(hp:V.take e.2.length=e.2):V.take (aB (ls.take (i+1))).length∈bH e (aA l) R':=by
 obtain⟨x,hx,hxl,f,hf,hfv⟩:=h.has hl hk hV hp;obtain⟨h3,h4⟩:=h.next hl hk hx hxl hf
 have e1:=h3.len;rw [<-e1,hfv];exact wE.2 ⟨x,(hR x).2 ⟨hx,hxl⟩,f,hf,rfl⟩
theorem aKy{V:List ByteArray}(hV:dN ls R V)(i:Nat):(aB (ls.take i)).length≤V.length:=by have h:=congrArg List.length (jT ls i);rw [List.length_take]at h;rw [hV.1];omega
theorem aLx(h:FromOk ls R i e)(hl:ls[i]?=some l)(hk:l.1=1){R':aD}(hR:∀x,x∈R'↔x∈R i/\x.length=(aA l).length){k:Nat}{q:List ByteArray}(hq:(bH e (aA l) R')[k]?=some q){L L':aD}
 (hL:PartQ (dN ls R) e.2 (aB (ls.take (i+1))).length (fun y=>y∈(bH e (aA l) R').take k) L)(hL':AllB (dN ls R) q L'):PartQ (dN ls R) e.2 (aB (ls.take (i+1))).length (fun y=>y∈(bH e (aA l) R').take (k+1)) (L++L'):=by
 obtain⟨h1,h2,h3⟩:=h.each hl hk hR (List.mem_of_getElem? hq);have hle:e.2.length≤(aB (ls.take (i+1))).length:=by have:=congrArg List.length h2;rw [List.length_take]at this;omega
 refine(hL.next h3 h2 hle (fun V hV=>aKy hV _) hL' fun y hy=>?_).congr fun y=>?_
 ·obtain⟨j,hj⟩:=List.mem_iff_getElem?.1 hy;have hjk:j<k:=by
   have:=(List.getElem?_eq_some_iff.1 hj).1;rw [List.length_take]at this;omega
  rw [List.getElem?_take_of_lt hjk]at hj;obtain⟨l1,e1⟩:=List.getElem?_eq_some_iff.1 hj;obtain⟨l2,e2⟩:=List.getElem?_eq_some_iff.1 hq;have:=List.pairwise_iff_getElem.1 (aCy e (aA l) R') j k l1 l2 hjk;rw [e1,e2]at this;exact this
 ·rw [List.take_add_one,hq,List.mem_append];simp
theorem aNm(h:FromOk ls R i e)(hl:ls[i]?=some l)(hk:l.1=1){R':aD}(hR:∀x,x∈R'↔x∈R i/\x.length=(aA l).length){L:aD}
 (hL:PartQ (dN ls R) e.2 (aB (ls.take (i+1))).length (fun y=>y∈bH e (aA l) R') L):AllB (dN ls R) e.2 L:=hL.all fun V hV hp=>h.whole hl hk hR hV hp
end
theorem oE:∀(ts:List aE) (a:List ByteArray),(∀t∈ts,t.1=1->t.2.1∈a)->cE a ts=a
 | [],_,_=>rfl
 |t::ts,a,h=>by
  have e:bI a t=a:=by unfold bI;refine if_neg fun h1=>?_;have h2:=dB.2 (h t (List.mem_cons_self ..) h1.1);rw [h2]at h1;cases h1.2
  show cE (bI a t) ts=a;rw [e];exact oE ts a fun u hu=>h u (List.mem_cons_of_mem _ hu)
theorem aBa{e:bV}(he:EnvOk e){ts:List aE}{x:List ByteArray}(hin:∀t∈ts,t.1=1->t.2.1∈e.1):(∃f,bU e ts x ts.length=some f)↔aEo e.1 e.2 ts x:=by
 refine⟨fun⟨f,hf⟩=>?_,fun h=>?_⟩
 ·obtain⟨h1,h2,h3,h4⟩:=iI he hf;rw [List.take_length,oE ts e.1 hin]at h3;have hl:f.2.length=e.2.length:=by rw [h1.len,h3,he.len]
  have h5:f.2=e.2:=by have:=h2.vals;rw [<-hl,List.take_length]at this;exact this
  have e1:f=e:=Prod.ext h3 h5;subst e1;exact fun i t hi=>h4 i t (List.getElem?_eq_some_iff.1 hi).1 hi
 ·obtain⟨f,hf,_⟩:=tN (x:=x) he he (EnvLe.refl e) (Nat.le_refl ts.length) (by rw [List.take_length,oE ts e.1 hin,List.take_length]) h;exact⟨f,hf⟩
def pS(e:bV)(t:aE):ByteArray:=if t.1=3 then t.2.1 else(ofE e t.2.1).getD ByteArray.empty
theorem vR{e:bV}{t:aE}(h:t.1=1/\t.2.1∈e.1\/t.1=3):pS e t=mZ e.1 e.2 t:=by
 unfold pS mZ;rcases h with⟨h1,h2⟩|h1
 ·rw [if_neg (by omega),if_pos h1];unfold ofE;rw [if_pos (dB.2 h2)];rfl
 ·rw [if_pos h1,if_neg (by omega)]
theorem rG{r:cG}(h:aU r=0){l:aL}(hl:l∈r.2.1)(hk:l.1=3):∀t,t=leftOf l\/t=aN l->t.1=1/\t.2.1∈aB r.2.1\/t.1=3:=fun t ht=>by
 unfold aU at h;split at h
 ·rename_i hp;split at h
  ·rename_i hs;unfold cU at hp;unfold iZ at hs;rw [Bool.and_eq_true]at hp hs;have h1:=List.all_eq_true.1 hp.2 l hl;have h2:=List.all_eq_true.1 hs.2 l hl;unfold fC at h1;rw [if_neg (by omega),if_pos hk,Bool.and_eq_true]at h1;unfold eH at h2;rw [if_pos hk,Bool.and_eq_true]at h2;have h3:decide (1≤t.1/\t.1≤3)=true:=by
    have h4:=h1.2;unfold kinds at h4;rw [List.all_eq_true]at h4;rcases ht with ht|ht
    ·rw [ht];exact h4 _ (by simp)
    ·rw [ht];exact h4 _ (by simp)
   have h5:=of_decide_eq_true h3;have h6:cD (aB r.2.1) false t=true:=by
    rcases ht with ht|ht
    ·rw [ht];exact h2.1
    ·rw [ht];exact h2.2
   unfold cD at h6;split at h6
   ·cases h6
   ·rename_i h7;rcases of_decide_eq_true h6 with h8|h8|h8
    ·exact .inr h8
    ·omega
    ·by_cases h9:t.1=3
     ·exact .inr h9
     ·exact .inl ⟨by omega,dB.1 h8⟩
  ·cases h
 ·cases h
theorem aJw{r:cG}(h:aU r=0){l:aL}(hl:l∈r.2.1):l.1=1\/l.1=2\/ (l.1=3/\1≤gM l/\gM l≤4):=by
 unfold aU at h;split at h
 ·rename_i hp;unfold cU at hp;rw [Bool.and_eq_true]at hp;have h1:=List.all_eq_true.1 hp.2 l hl;unfold fC at h1;split at h1
  ·rename_i h2;omega
  ·split at h1
   ·rename_i h3;rw [Bool.and_eq_true]at h1;have:=of_decide_eq_true h1.1;exact .inr (.inr ⟨h3,this⟩)
   ·cases h1
 ·cases h
def yD(e:bV)(R:aD)(l:aL):Prop:=
 if l.1=2 then ∀x∈R,bU e (aA l) x (aA l).length=none
 else rR (gM l) (pS e (leftOf l)) (pS e (aN l))
theorem yC{r:cG}(h:aU r=0){l:aL}(hl:l∈r.2.1)(hk:l.1≠1){e:bV}(he:EnvOk e)(hn:e.1=aB r.2.1){R R':aD}(hR:∀x,x∈R'↔x∈R/\x.length=(aA l).length):yD e R' l↔mM (aB r.2.1) e.2 R l:=by
 unfold yD mM;rw [if_neg hk];by_cases h2:l.1=2
 ·rw [if_pos h2,if_pos h2];have hin:∀t∈aA l,t.1=1->t.2.1∈e.1:=by rw [hn];exact aB1 h hl (.inr h2)
  refine⟨fun h3 ⟨x,hx,hxl,hf⟩=>?_,fun h3 x hx=>?_⟩
  ·rw [<-hn]at hf;obtain⟨f,hf'⟩:=(aBa he hin).2 hf;rw [h3 x ((hR x).2 ⟨hx,hxl⟩)]at hf';cases hf'
  ·cases hf:bU e (aA l) x (aA l).length with
   |none=>rfl
   |some f=>
    have h4:=(aBa he hin).1 ⟨f,hf⟩;obtain⟨h5,h6⟩:=(hR x).1 hx;rw [hn]at h4;exact absurd ⟨x,h5,h6,h4⟩ h3
 ·rw [if_neg h2,if_neg h2];have h3:l.1=3:=by
   rcases aJw h hl with h4|h4|h4
   ·exact absurd h4 hk
   ·exact absurd h4 h2
   ·exact h4.1
  have hs:=rG h hl h3;rw [<-hn]at hs;rw [vR (hs _ (.inl rfl)),vR (hs _ (.inr rfl)),hn]
def bR(ts:List aE)(R:aD):aD:=R.filter fun x=>decide (x.length=ts.length)
theorem gJ{ts:List aE}{R:aD}(x:List ByteArray):x∈bR ts R↔x∈R/\x.length=ts.length:=by unfold bR;rw [List.mem_filter,decide_eq_true_iff]
def opB(op:Int)(x y:ByteArray):Bool:=if op=1 then decide (x=y)else if op=2 then decide (x≠y)else if op=3 then Op.bytesLess x.toList y.toList else !Op.bytesLess y.toList x.toList
theorem aH8{op:Int}{x y:ByteArray}:opB op x y=true↔rR op x y:=by
 unfold opB rR;split
 ·exact decide_eq_true_iff
 ·split
  ·exact decide_eq_true_iff
  ·split
   ·exact Iff.rfl
   ·rw [Bool.not_eq_true']
def fD(e:bV)(R:aD)(l:aL):Bool:=if l.1=2 then R.all fun x=>(bU e (aA l) x (aA l).length).isNone else opB (gM l) (pS e (leftOf l)) (pS e (aN l))
theorem mN{e:bV}{R:aD}{l:aL}:fD e R l=true↔yD e R l:=by
 unfold fD yD;split
 ·rw [List.all_eq_true];exact⟨fun h x hx=>Option.isNone_iff_eq_none.1 (h x hx),fun h x hx=>Option.isNone_iff_eq_none.2 (h x hx)⟩
 ·exact aH8
def lK(e:bV)(R:Nat->aD):Nat->List aL->Bool
 |_,[]=>true
 |i,l::ls=>(if l.1=1 then true else fD e (bR (aA l) (R i)) l) && lK e R (i+1) ls
theorem pJ{e:bV}{R:Nat->aD}:∀{ls:List aL} {i:Nat},lK e R i ls=true↔∀(j:Nat) (l:aL),ls[j]?=some l->l.1≠1->yD e (bR (aA l) (R (i+j))) l
 | [],i=>⟨fun _ j l h=>by simp at h,fun _=>rfl⟩
 |l::ls,i=>by
  unfold lK;rw [Bool.and_eq_true,pJ];refine⟨fun⟨h1,h2⟩ j m hm hk=>?_,fun h=>⟨?_,fun j m hm hk=>?_⟩⟩
  ·cases j with
   |zero=>
    cases hm;rw [if_neg hk]at h1;exact mN.1 h1
   |succ j=>
    have:=h2 j m (by simpa using hm) hk;rw [show i+(j+1)=i+1+j by omega];exact this
  ·split
   ·rfl
   ·rename_i hk;exact mN.2 (h 0 l rfl hk)
  ·have:=h (j+1) m (by simpa using hm) hk;rw [show i+(j+1)=i+1+j by omega]at this;exact this
def bY(all:List aL)(R:Nat->aD):List aL->Nat->bV->aD
 | [],_,e=>if lK e R 0 all then [e.2]else []
 |l::rest,i,e=>if l.1=1 then(bH e (aA l) (bR (aA l) (R i))).flatMap fun q=>bY all R rest (i+1) (cE e.1 (aA l),q)else bY all R rest (i+1) e
def aIn(r:cG)(R:Nat->aD):aD:=bY r.2.1 R r.2.1 0 ([],[])
theorem oB{r:cG}(hc:aU r=0)(R:Nat->aD):∀(rest:List aL) (i:Nat) (e:bV),r.2.1.drop i=rest->i≤r.2.1.length->FromOk r.2.1 R i e->AllB (dN r.2.1 R) e.2 (bY r.2.1 R rest i e)
 | [],i,e,hd,hi,h=>by
  have hil:i=r.2.1.length:=by have:=congrArg List.length hd;rw [List.length_drop]at this;simp at this;omega
  subst hil;obtain⟨hn,hb,hl⟩:=h.last;unfold bY;have hiff:lK e R 0 r.2.1=true↔dN r.2.1 R e.2:=by
   rw [pJ,hb];refine⟨fun h1 j l hj hk=>?_,fun h1 j l hj hk=>?_⟩
   ·have h2:=h1 j l hj hk;rw [Nat.zero_add]at h2;exact(yC hc (List.mem_of_getElem? hj) hk h.ok hn fun x=>gJ x).1 h2
   ·rw [Nat.zero_add];exact(yC hc (List.mem_of_getElem? hj) hk h.ok hn fun x=>gJ x).2 (h1 j l hj hk)
  split
  ·rename_i h1;exact AllB.one (hiff.1 h1) hl
  ·rename_i h1;refine AllB.none fun V hV hp=>h1 (hiff.2 ?_);have:V=e.2:=by rw [<-hp,<-hl V hV,List.take_length]
   rw [<-this];exact hV
 |l::rest,i,e,hd,hi,h=>by
  have hl:r.2.1[i]?=some l:=by
   have:(r.2.1.drop i)[0]?=some l:=by rw [hd];rfl
   rw [List.getElem?_drop]at this;exact this
  have hil:=(List.getElem?_eq_some_iff.1 hl).1;have hd2:r.2.1.drop (i+1)=rest:=by have:=congrArg (List.drop 1) hd;rw [List.drop_drop]at this;exact this
  unfold bY;split
  ·rename_i hk;have hnx:cE e.1 (aA l)=aB (r.2.1.take (i+1)):=by
    rw [h.names,gK hl];unfold bQ;rw [if_pos hk]
   rw [hnx];refine aNm h hl hk (R':=bR (aA l) (R i)) (fun x=>gJ x) ?_;have key:∀k,k≤(bH e (aA l) (bR (aA l) (R i))).length->PartQ (dN r.2.1 R) e.2 (aB (r.2.1.take (i+1))).length (fun y=>y∈(bH e (aA l) (bR (aA l) (R i))).take k) (((bH e (aA l) (bR (aA l) (R i))).take k).flatMap fun q=>bY r.2.1 R rest (i+1) (aB (r.2.1.take (i+1)),q)):=by
    intro k;induction k with
    |zero=>exact fun _=>PartQ.none.congr fun y=>by simp
    |succ k ih=>
     intro hk2;obtain⟨q,hq⟩:∃q,(bH e (aA l) (bR (aA l) (R i)))[k]?=some q:=⟨_,qG (by omega)⟩;have hf:=(h.each hl hk (fun x=>gJ x) (List.mem_of_getElem? hq)).1;have h1:=aLx h hl hk (fun x=>gJ x) hq (ih (by omega)) (oB hc R rest (i+1) _ hd2 hil hf);have e1:(bH e (aA l) (bR (aA l) (R i))).take (k+1)=(bH e (aA l) (bR (aA l) (R i))).take k++ [q]:=by rw [List.take_add_one,hq];rfl
     have e2:∀(f:List ByteArray->aD) (a:aD),(a++ [q]).flatMap f=a.flatMap f++f q:=fun f a=>by simp
     rw [e1,e2,<-e1];exact h1
   have h2:=key _ (Nat.le_refl _);rw [List.take_length]at h2;exact h2
  ·rename_i hk;exact oB hc R rest (i+1) e hd2 hil (h.skip hl hk)
theorem aE4{r:cG}(hc:aU r=0)(R:Nat->aD):IsBinds r.2.1 R (aIn r R):=oB hc R r.2.1 0 ([],[]) rfl (Nat.zero_le _) (FromOk.start _ _)
end
section
open Go.RowKit Go.Shelf
theorem rH{P:Program}{w:World}{a:Addr}{m:Mode}(f:Fn)(x y:Array Value):(store a (.func f x y) m).run P w=stored P w a (.func f x y) m:=run_store P w a _ m rfl
attribute [local go_sem] rH
def Fast(a b:Nat)(w:World)(P:World->Prop):Prop:=∀W,Kp (fun k=>¬(a≤k/\k<b)) w W->P W
theorem Fast.here{a b:Nat}{w:World}{P:World->Prop}(h:Fast a b w P):P w:=h w (Kp.refl _)
theorem Fast.kp{a b:Nat}{w w':World}{P:World->Prop}{G:Nat->Prop}(h:Fast a b w P)(hk:Kp G w w')(hG:∀k,G k->¬(a≤k/\k<b)):Fast a b w' P:=fun W hW=>h W ((hk.mono fun k _ hg=>hG k hg).trans hW)
theorem Fast.mono{a b a' b':Nat}{w:World}{P:World->Prop}(h:Fast a b w P)(ha:a'≤a)(hb:b≤b'):Fast a' b' w P:=fun W hW=>h W (hW.mono fun k _ hk h2=>hk ⟨by omega,by omega⟩)
theorem Fast.ext{a b:Nat}{w w':World}{P:World->Prop}(h:Fast a b w P)(hk:Ext w w'):Fast a b w' P:=h.kp hk fun _ h=>h.elim
def fT(V:List ByteArray)(a:Int)(s:ByteArray):ByteArray:=if a<0 then s else bK V a.toNat
set_option maxHeartbeats 1000000 in
theorem aBp{w:World}{ra:Option Addr}{cp nv:Nat}{V:List ByteArray}(a:Int)(k:Int)(s:ByteArray)(hV:V.length=nv)(hc:CellsAt w ra (strs V))(ha:a<nv)(hn:nv≤1048576)(ha2: -1≤a):
 Calls Tryz.prog 153 #[.slice ra nv cp,.int .i64 a,wH k s] w (RetN w fun w' v=>v= .string (fT V a s)):=by
 go_enter Tryz.func153,Tryz.ntmps153;obtain⟨w1,e1⟩:=nm (w.alloc (.cells #[.int .i64 k,.string s] 38));obtain⟨g0,eg0⟩:=nm w.heap.size;have hB:=bNX eg0 e1;have hx:Ext w w1:=xAX e1;have b1:=hB.c1;have H1:=qH hx;have hc1:=hc.ext hx;clear hx hB hc;by_cases h0:a<0
 ·have HP:=qH (show fT V a s=s from if_pos h0);clear hc1 ha ha2;go_wp2;go_ret;exact RetN.mk H1.out (by rw [HP.out];rfl)
 ·obtain⟨i,rfl⟩:∃i:Nat,a=i:=⟨a.toNat,by omega⟩;have hi:i<nv:=by omega
  obtain⟨x,hx⟩:∃x,V[i]?=some x:=⟨_,qG (by omega)⟩;have HP:=qH (show fT V (i:Int) s=x from by unfold fT bK;rw [if_neg h0,Int.toNat_natCast,List.getD_eq_getElem?_getD,hx];rfl);obtain⟨b,o,e,c0⟩:=hc1 i (.string x) (by simp [strs,hx]);subst e;clear hc1 ha ha2 hx;go_wp2;go_ret;exact RetN.mk H1.out (by rw [HP.out];rfl)
theorem aId(x y:ByteArray):(Op.bytesLess x.toList y.toList||x.toList==y.toList)=!Op.bytesLess y.toList x.toList:=by
 have sw:=dK x.toList y.toList;have no:∀{u v:List UInt8},¬bE u v<0->Op.bytesLess u v=false:=fun{u v} h=>by
  cases h2:Op.bytesLess u v with
  |false=>rfl
  |true=>exact absurd (eI.2 h2) h
 rcases kA x.toList y.toList with h|h|h
 ·rw [eI.1 (by omega:bE x.toList y.toList<0),no (by omega:¬bE y.toList x.toList<0)];rfl
 ·have e:=dL (eO h);subst e;rw [no (by rw [fL];omega:¬bE x.toList x.toList<0)];simp
 ·have h2:bE y.toList x.toList<0:=by omega
  have hne:¬x=y:=fun e=>by subst e;rw [fL]at h2;omega
  rw [eI.1 h2,no (by omega:¬bE x.toList y.toList<0),kU hne];rfl
set_option maxHeartbeats 4000000 in
theorem aKu{w:World}{ra:Option Addr}{cp nv ob ab lb bb:Nat}{V:List ByteArray}(a b op lk rk:Int)(lt rt:ByteArray)(hV:V.length=nv)(hc:CellsAt w ra (strs V))(ha:a<nv)(hb:b<nv)(hn:nv≤1048576)(ha2: -1≤a)(hb2: -1≤b)
 (o0:w.cell? ⟨ob,0,none⟩=some (.func (Fn.func 153) #[] #[]))(a0:w.cell? ⟨ab,0,none⟩=some (.int .i64 a))(b0:w.cell? ⟨bb,0,none⟩=some (.int .i64 b))
 (l3:w.cell? ⟨lb,3,none⟩=some (.int .i64 op))(l4:w.cell? ⟨lb,4,none⟩=some (.int .i64 lk))(l5:w.cell? ⟨lb,5,none⟩=some (.string lt))(l6:w.cell? ⟨lb,6,none⟩=some (.int .i64 rk))(l7:w.cell? ⟨lb,7,none⟩=some (.string rt)):
 Calls Tryz.prog 154 (#[.slice ra nv cp]++#[.pointer (some ⟨ob,0,none⟩),.pointer (some ⟨ab,0,none⟩),.pointer (some ⟨lb,0,none⟩),.pointer (some ⟨bb,0,none⟩)]) w (RetN w fun w' v=>v= .bool (opB op (fT V a lt) (fT V b rt))):=by
 have HL:=qH (fun W (hW:Ext w W)=>aBp (cp:=cp) a lk lt hV (hc.ext hW) ha hn ha2);have HR:=qH (fun W (hW:Ext w W)=>aBp (cp:=cp) b rk rt hV (hc.ext hW) hb hn hb2);obtain⟨x,ex⟩:=nm (fT V a lt);obtain⟨y,ey⟩:=nm (fT V b rt);rw [ex]at HL;rw [ey]at HR;rw [ex,ey];have HJ:=qH (show ∀w',Ext w w'->(fun w':World=>w'.cell? ⟨ob,0,none⟩=some (.func (Fn.func 153) #[] #[])/\w'.cell? ⟨ab,0,none⟩=some (.int .i64 a)/\w'.cell? ⟨bb,0,none⟩=some (.int .i64 b)/\w'.cell? ⟨lb,4,none⟩=some (.int .i64 lk)/\w'.cell? ⟨lb,5,none⟩=some (.string lt)/\w'.cell? ⟨lb,6,none⟩=some (.int .i64 rk)/\w'.cell? ⟨lb,7,none⟩=some (.string rt)) w' from fun w' hw'=>
  ⟨hw'.cell o0 id,hw'.cell a0 id,hw'.cell b0 id,hw'.cell l4 id,hw'.cell l5 id,hw'.cell l6 id,hw'.cell l7 id⟩)
 have HL3:=qH l3;clear hc ha hb ha2 hb2 hV ex ey l3;go_enter Tryz.func154,Tryz.ntmps154;go_wp2;refine aT (fun w':World=>w'.cell? ⟨ob,0,none⟩=some (.func (Fn.func 153) #[] #[])/\w'.cell? ⟨ab,0,none⟩=some (.int .i64 a)/\w'.cell? ⟨bb,0,none⟩=some (.int .i64 b)/\w'.cell? ⟨lb,4,none⟩=some (.int .i64 lk)/\w'.cell? ⟨lb,5,none⟩=some (.string lt)/\w'.cell? ⟨lb,6,none⟩=some (.int .i64 rk)/\w'.cell? ⟨lb,7,none⟩=some (.string rt)) [] (by kernel_rfl) (HJ.out _ (Kp.refl w).drew) (fun hHeld=>?_);refine eIX 0 ?_;refine eFX 1 ?_;refine eIX 2 ?_;refine eFX 3 ?_;refine eIX 4 ?_;refine eIX 6 ?_;refine eFX 7 ?_;refine eIX 8 ?_;refine eFX 9 ?_;refine eIX 10 ?_;refine eTX 5 fun K hK=>?_;go_simp
 (refine(HL.out _ (Kp.refl w).drew).mono ?_;rintro e w1 ⟨v1,rfl,hk1,rfl⟩;have X1:=qH (show Ext w w1 from((Kp.refl w).drew).trans hk1);clear hk1)
 go_wp2_with fail
 refine hK.out _ _ (HJ.out _ X1.out) fun hHeld=>?_;clear hK K;refine eTX 11 fun K hK=>?_;go_simp
 (refine(HR.out _ X1.out).mono ?_;rintro e w2 ⟨v2,rfl,hk2,rfl⟩;have X2:=qH (show Ext w w2 from X1.out.trans hk2);clear hk2)
 go_wp2_with fail
 refine hK.out _ _ (HJ.out _ X2.out) fun hHeld=>?_;clear hK K;refine eFX 12 ?_;refine eFX 13 ?_;refine aK (by kernel_rfl) ?_ _;clear hHeld;have l3:=X2.out.cell HL3.out id;by_cases h1:op=1
 ·subst h1;have hq:=lY x y;go_wp2;go_ret;exact RetN.mk X2.out (congrArg Value.bool (by unfold opB;rw [if_pos rfl]))
 ·have g1:(op==1)=false:=by simp [h1]
  by_cases h2:op=2
  ·subst h2;have hq:=lY x y;go_wp2;go_ret;exact RetN.mk X2.out (congrArg Value.bool (by unfold opB;rw [if_neg (by decide),if_pos rfl];simp))
  ·have g2:(op==2)=false:=by simp [h2]
   by_cases h3:op=3
   ·subst h3;clear h1 h2;go_wp2;go_ret;exact RetN.mk X2.out (congrArg Value.bool (by unfold opB;rw [if_neg (by decide),if_neg (by decide),if_pos rfl]))
   ·have g3:(op==3)=false:=by simp [h3]
    have HN:=qH (nIX h1 (nIX h2 h3));clear h1 h2 h3;go_wp2;go_ret;exact RetN.mk X2.out (congrArg Value.bool (by unfold opB;rw [if_neg HN.out.1,if_neg HN.out.2.1,if_neg HN.out.2.2];exact aId x y))
def dR(N:List ByteArray)(k:Int)(s:ByteArray):Int:=if k=1 then dH (fun x=>decide (x=s)) N else-1
theorem aKj{α:Type}(q:α->Bool)(l:List α):dH q l<l.length/\ -1≤dH q l:=by
 unfold dH;split
 ·rename_i h;obtain⟨x,hx,hq⟩:=List.any_eq_true.1 h;have:=List.findIdx_lt_length_of_exists ⟨x,hx,hq⟩;omega
 ·omega
theorem aAs(N:List ByteArray)(k:Int)(s:ByteArray):dR N k s<N.length/\ -1≤dR N k s:=by
 unfold dR;split
 ·exact aKj _ _
 ·omega
structure CmpAt(w X:World)(g0:Nat)(lc:List Value)(A B:Int):Prop where
 lit:Blk X g0 lc 40
 res:Blk X (g0+1) [.int .i64 0,.nilFunc] 180
 a:Blk X (g0+1+1) [.int .i64 A] 3
 b:Blk X (g0+1+1+1) [.int .i64 B] 3
 kp:Ext w X
theorem CmpAt.ext{w X Y:World}{g0:Nat}{lc:List Value}{A B:Int}(h:CmpAt w X g0 lc A B)(hk:Ext X Y):CmpAt w Y g0 lc A B:=⟨h.lit.ext hk,h.res.ext hk,h.a.ext hk,h.b.ext hk,h.kp.trans hk⟩
theorem CmpAt.putA{w X:World}{g0:Nat}{lc:List Value}{A B:Int}(h:CmpAt w X g0 lc A B)(hg:w.heap.size≤g0)(z:Int):CmpAt w (X.setCell ⟨g0+1+1,0,none⟩ (.int .i64 z)) g0 lc z B:=
 ⟨h.lit.other (by show g0≠g0+1+1;omega) _,h.res.other (by show g0+1≠g0+1+1;omega) _,h.a.set 0 _,h.b.other (by show g0+1+1+1≠g0+1+1;omega) _,h.kp.setCell (p:=⟨g0+1+1,0,none⟩) (fun h2=>by have h3:g0+1+1<w.heap.size:=h2;omega) _⟩
theorem CmpAt.putB{w X:World}{g0:Nat}{lc:List Value}{A B:Int}(h:CmpAt w X g0 lc A B)(hg:w.heap.size≤g0)(z:Int):CmpAt w (X.setCell ⟨g0+1+1+1,0,none⟩ (.int .i64 z)) g0 lc A z:=
 ⟨h.lit.other (by show g0≠g0+1+1+1;omega) _,h.res.other (by show g0+1≠g0+1+1+1;omega) _,h.a.other (by show g0+1+1≠g0+1+1+1;omega) _,h.b.set 0 _,h.kp.setCell (p:=⟨g0+1+1+1,0,none⟩) (fun h2=>by have h3:g0+1+1+1<w.heap.size:=h2;omega) _⟩
theorem CmpAt.close{w X:World}{g0 nn:Nat}{k op lk rk:Int}{p lt rt:ByteArray}{sl:Value}{A B:Int}(h:CmpAt w X g0 [.int .i64 k,.string p,sl,.int .i64 op,.int .i64 lk,.string lt,.int .i64 rk,.string rt] A B)(hg:w.heap.size=g0)(hA:A<nn/\ -1≤A)(hB:B<nn/\ -1≤B)(hn:nn≤1048576):
 ∃t:TestZ,Value.agg #[.int .i64 (max A B),.func (Fn.func 154) #[] #[.pointer (some ⟨X.heap.size,0,none⟩),.pointer (some ⟨g0+1+1,0,none⟩),.pointer (some ⟨g0,0,none⟩),.pointer (some ⟨g0+1+1+1,0,none⟩)]]= .agg #[.int .i64 t.last,t.val]/\t.last=max A B/\(∀V,t.ask V=opB op (fT V A lt) (fT V B rt))/\
  ∀W,Blk W g0 [.int .i64 k,.string p,sl,.int .i64 op,.int .i64 lk,.string lt,.int .i64 rk,.string rt] 40->Blk W (g0+1+1) [.int .i64 A] 3->Blk W (g0+1+1+1) [.int .i64 B] 3->Blk W X.heap.size [.func (Fn.func 153) #[] #[]] 215->TestOk W nn t:=by
 refine⟨⟨154,#[.pointer (some ⟨X.heap.size,0,none⟩),.pointer (some ⟨g0+1+1,0,none⟩),.pointer (some ⟨g0,0,none⟩),.pointer (some ⟨g0+1+1+1,0,none⟩)],max A B,fun V=>opB op (fT V A lt) (fT V B rt)⟩,rfl,rfl,fun V=>rfl,fun W b1 b2 b3 b4=>⟨enters_of Tryz.func154 (by kernel_rfl) rfl,fun W2 hW2 ra cp V hV hc=>?_⟩⟩;replace b1:=b1.ext hW2;replace b2:=b2.ext hW2;replace b3:=b3.ext hW2;replace b4:=b4.ext hW2;exact aKu A B op lk rk lt rt hV hc hA.1 hB.1 hn hA.2 hB.2 (by rw [b4.cell'];rfl) (by rw [b2.cell'];rfl) (by rw [b3.cell'];rfl) (by rw [b1.cell'];rfl) (by rw [b1.cell'];rfl) (by rw [b1.cell'];rfl) (by rw [b1.cell'];rfl) (by rw [b1.cell'];rfl)
theorem kO{w X9:World}{g0 nn gX:Nat}{k op lk rk A B M:Int}{p lt rt:ByteArray}{sl:Value}{tm:Array Value}(H9:CmpAt w X9 g0 [.int .i64 k,.string p,sl,.int .i64 op,.int .i64 lk,.string lt,.int .i64 rk,.string rt] A B/\Blk X9 gX [.func (Fn.func 153) #[] #[]] 215)(hg:w.heap.size=g0)(hgX:g0+1+1+1<gX)(hM:max A B=M)(ht:tm[4]?.getD undef= .pointer (some ⟨g0+1,0,none⟩))
 (HT:∃t:TestZ,Value.agg #[.int .i64 (max A B),.func (Fn.func 154) #[] #[.pointer (some ⟨gX,0,none⟩),.pointer (some ⟨g0+1+1,0,none⟩),.pointer (some ⟨g0,0,none⟩),.pointer (some ⟨g0+1+1+1,0,none⟩)]]= .agg #[.int .i64 t.last,t.val]/\t.last=max A B/\(∀V,t.ask V=opB op (fT V A lt) (fT V B rt))/\
  ∀W,Blk W g0 [.int .i64 k,.string p,sl,.int .i64 op,.int .i64 lk,.string lt,.int .i64 rk,.string rt] 40->Blk W (g0+1+1) [.int .i64 A] 3->Blk W (g0+1+1+1) [.int .i64 B] 3->Blk W gX [.func (Fn.func 153) #[] #[]] 215->TestOk W nn t):
 bodyPost Tryz.prog Tryz.f121 (RetN w fun w' v=>∃t:TestZ,v= .agg #[.int .i64 t.last,t.val]/\t.last=max A B/\(∀V,t.ask V=opB op (fT V A lt) (fT V B rt))/\Fast g0 w'.heap.size w' fun W=>TestOk W nn t) .ret
  {tmps:=tm,defers:= []} ((X9.setCell ⟨g0+1,0,none⟩ (.int .i64 M)).setCell ⟨g0+1,1,none⟩ (.func (Fn.func 154) #[] #[.pointer (some ⟨gX,0,none⟩),.pointer (some ⟨g0+1+1,0,none⟩),.pointer (some ⟨g0,0,none⟩),.pointer (some ⟨g0+1+1+1,0,none⟩)])):=by
 obtain⟨t,et,htl,hask,hok⟩:=HT;obtain⟨fv,efv⟩:=nm (Value.func (Fn.func 154) #[] #[.pointer (some ⟨gX,0,none⟩),.pointer (some ⟨g0+1+1,0,none⟩),.pointer (some ⟨g0,0,none⟩),.pointer (some ⟨g0+1+1+1,0,none⟩)]);rw [efv,hM]at et;rw [efv];obtain⟨X,eX⟩:=nm ((X9.setCell ⟨g0+1,0,none⟩ (.int .i64 M)).setCell ⟨g0+1,1,none⟩ fv);have hres:Blk X (g0+1) [.int .i64 M,fv] 180:=by rw [<-eX];exact(H9.1.res.set 0 _).set 1 _
 have hkp:Kp (fun k=>k=g0+1) X9 X:=by rw [<-eX];exact kSb
 rw [eX];have u0:=hres.c0;have u1:=hres.c1;refine bodyPost_ret (v:= .agg #[.int .i64 M,fv]) (by simp [results,Tryz.results121,go_sem,ht,u0,u1]) rfl ?_;refine RetN.mk (H9.1.kp.trans' hkp fun i hi e=>?_) ⟨t,et,htl,hask,fun W hW=>?_⟩
 ·have e':i=g0+1:=e;omega
 ·have inn:∀{g:Nat} {cs:List Value} {e:TypeId},Blk X9 g cs e->g≠g0+1->g0≤g->Blk W g cs e:=fun{g cs e} hb hne hge=>by
   have hbX:=hb.kp hkp hne;exact hbX.kp hW fun h=>h ⟨by omega,hbX.lt⟩
  exact hok W (inn H9.1.lit (by omega) (Nat.le_refl _)) (inn H9.1.a (by omega) (by omega)) (inn H9.1.b (by omega) (by omega)) (inn H9.2 (by omega) (by omega))
set_option maxHeartbeats 4000000 in
theorem aCk{w:World}{na a:Option Addr}{m cap nn nc:Nat}(N:List ByteArray)(k:Int)(p:ByteArray)(op lk:Int)(lt:ByteArray)(rk:Int)(rt:ByteArray)(hN:nn=N.length)(hc:CellsAt w na (strs N))(hn:nn≤1048576):
 Calls Tryz.prog 121 #[litV k p a m cap op lk lt rk rt,.slice na nn nc] w (RetN w fun w' v=>∃t:TestZ,v= .agg #[.int .i64 t.last,t.val]/\t.last=max (dR N lk lt) (dR N rk rt)/\(∀V,t.ask V=opB op (fT V (dR N lk lt) lt) (fT V (dR N rk rt) rt))/\Fast w.heap.size w'.heap.size w' fun W=>TestOk W nn t):=by
 have HIL:=qH (fun W (hW:Ext w W)=>oL N lt na nn nc W hN (hc.ext hW) (by omega));have HIR:=qH (fun W (hW:Ext w W)=>oL N rt na nn nc W hN (hc.ext hW) (by omega));have HPL:=qH (show dR N lk lt<nn/\ -1≤dR N lk lt from by rw [hN];exact aAs N lk lt);have HPR:=qH (show dR N rk rt<nn/\ -1≤dR N rk rt from by rw [hN];exact aAs N rk rt);clear hc hN;obtain⟨w4,e4⟩:=nm ((((w.alloc (.cells #[.int .i64 k,.string p,.slice a m cap,.int .i64 op,.int .i64 lk,.string lt,.int .i64 rk,.string rt] 40)).alloc (.cells #[.int .i64 0,.nilFunc] 180)).alloc (.cells #[.int .i64 (-1)] 3)).alloc (.cells #[.int .i64 (-1)] 3));obtain⟨g0,eg0⟩:=nm w.heap.size;obtain⟨w1,e1⟩:=nm (w.alloc (.cells #[.int .i64 k,.string p,.slice a m cap,.int .i64 op,.int .i64 lk,.string lt,.int .i64 rk,.string rt] 40));obtain⟨w2,e2⟩:=nm (w1.alloc (.cells #[.int .i64 0,.nilFunc] 180));obtain⟨w3,e3⟩:=nm (w2.alloc (.cells #[.int .i64 (-1)] 3));rw [e1,e2,e3]at e4;have s1:w1.heap.size=g0+1:=by rw [<-e1,aJ,eg0]
 have s2:w2.heap.size=g0+1+1:=by rw [<-e2,aJ,s1]
 have s3:w3.heap.size=g0+1+1+1:=by rw [<-e3,aJ,s2]
 have x1:Ext w w1:=xAX e1;have x2:Ext w1 w2:=xAX e2;have x3:Ext w2 w3:=xAX e3;have x4:Ext w3 w4:=xAX e4;have hC:=qH (show CmpAt w w4 g0 [.int .i64 k,.string p,.slice a m cap,.int .i64 op,.int .i64 lk,.string lt,.int .i64 rk,.string rt] (-1) (-1)from
  ⟨Blk.ext (by have h:=Blk.new w [.int .i64 k,.string p,.slice a m cap,.int .i64 op,.int .i64 lk,.string lt,.int .i64 rk,.string rt] 40;rw [eg0]at h;rw [<-e1];exact h) (x2.trans (x3.trans x4)),
   Blk.ext (by have h:=Blk.new w1 [.int .i64 0,.nilFunc] 180;rw [s1]at h;rw [<-e2];exact h) (x3.trans x4),
   Blk.ext (by have h:=Blk.new w2 [.int .i64 (-1)] 3;rw [s2]at h;rw [<-e3];exact h) x4,
   by have h:=Blk.new w3 [.int .i64 (-1)] 3;rw [s3]at h;rw [<-e4];exact h,x1.trans (x2.trans (x3.trans x4))⟩)
 clear x1 x2 x3 x4 s1 s2 s3;have ew4:(((w.alloc (.cells #[.int .i64 k,.string p,.slice a m cap,.int .i64 op,.int .i64 lk,.string lt,.int .i64 rk,.string rt] 40)).alloc (.cells #[.int .i64 0,.nilFunc] 180)).alloc (.cells #[.int .i64 (-1)] 3)).alloc (.cells #[.int .i64 (-1)] 3)=w4:=by rw [e1,e2,e3,e4]
 clear e1 e2 e3 e4 w1 w2 w3;have t0:=hC.out.lit.c4;have t1:=hC.out.lit.c5;have t2:=hC.out.lit.c6;by_cases hl:lk=1
 ·subst hl;by_cases hr:rk=1
  ·subst hr;have eL:dR N 1 lt=dH (fun x=>decide (x=lt)) N:=if_pos rfl;have eR:dR N 1 rt=dH (fun x=>decide (x=rt)) N:=if_pos rfl;obtain⟨za,eza⟩:=nm (dH (fun x=>decide (x=lt)) N);rw [eza]at HIL eL;obtain⟨zb,ezb⟩:=nm (dH (fun x=>decide (x=rt)) N);rw [ezb]at HIR eR;rw [eL]at HPL ⊢;rw [eR]at HPR ⊢;clear eL eR eza ezb;go_enter Tryz.func121,Tryz.ntmps121;go_wp2_with fail
   refine(HIL.out w4 hC.out.kp).mono ?_;rintro e w5 ⟨v,rfl,hk5,rfl⟩;have H5:=qH (hC.out.ext hk5);obtain⟨X5,eX5⟩:=nm (w5.setCell ⟨g0+1+1,0,none⟩ (.int .i64 za));have H6:=qH (show CmpAt w X5 g0 [.int .i64 k,.string p,.slice a m cap,.int .i64 op,.int .i64 1,.string lt,.int .i64 1,.string rt] za (-1)from by rw [<-eX5];exact H5.out.putA (by omega) za);have u0:=H5.out.a.c0;have u1:=H5.out.a.free 0;clear hk5 t0 t1 t2;have v2:=H6.out.lit.c6;have v3:=H6.out.lit.c7;go_wp2_with fail
   refine(HIR.out X5 H6.out.kp).mono ?_;rintro e w6 ⟨v,rfl,hk6,rfl⟩;have H7:=qH (H6.out.ext hk6);obtain⟨X7,eX7⟩:=nm (w6.setCell ⟨g0+1+1+1,0,none⟩ (.int .i64 zb));have H8:=qH (show CmpAt w X7 g0 [.int .i64 k,.string p,.slice a m cap,.int .i64 op,.int .i64 1,.string lt,.int .i64 1,.string rt] za zb from by rw [<-eX7];exact H7.out.putB (by omega) zb);have y0:=H7.out.b.c0;have y1:=H7.out.b.free 0;clear hk6 v2 v3 u0 u1;obtain⟨X8,eX8⟩:=nm (X7.alloc (.cells #[.nilFunc] 215));obtain⟨gX,egX⟩:=nm X7.heap.size;have B8:=bNX egX eX8;have x8:Ext X7 X8:=xAX eX8;have z0:=B8.c0;have z1:=B8.free 0;obtain⟨X9,eX9⟩:=nm (X8.setCell ⟨gX,0,none⟩ (.func (Fn.func 153) #[] #[]));have B9:Blk X9 gX [.func (Fn.func 153) #[] #[]] 215:=by rw [<-eX9];exact B8.set 0 _
   have hgX:g0+1+1+1<gX:=by rw [<-egX];exact H8.out.b.lt
   have x9:Ext X7 X9:=by rw [<-eX9];exact x8.setCell (p:=⟨gX,0,none⟩) (fun h2=>by have h3:gX<X7.heap.size:=h2;omega) _
   have H9:=qH (nIX (H8.out.ext x9) B9);have a9:=H9.out.1.a.c0;have b9:=H9.out.1.b.c0;have r0:=H9.out.1.res.c0;have r1:=H9.out.1.res.c1;have rf0:=H9.out.1.res.free 0;have rf1:=H9.out.1.res.free 1;have HT:=qH (CmpAt.close (nn:=nn) H8.out eg0 HPL.out HPR.out hn);rw [egX]at HT;have HGX:=qH (nIX hgX eg0);clear B8 x8 B9 x9 hgX;go_wp2
   all_goals
    first|(rw [HGX.out.2];refine kO H9.out HGX.out.2 HGX.out.1 ?_ rfl HT.out)|refine kO H9.out HGX.out.2 HGX.out.1 ?_ rfl HT.out
    omega
  ·skip
   have br:(rk==1)=false:=by simp [hr]
   have eL:dR N 1 lt=dH (fun x=>decide (x=lt)) N:=if_pos rfl;have eR:dR N rk rt= -1:=if_neg hr;obtain⟨za,eza⟩:=nm (dH (fun x=>decide (x=lt)) N);rw [eza]at HIL eL;rw [eL]at HPL ⊢;rw [eR]at HPR ⊢;clear eL eR eza hr;go_enter Tryz.func121,Tryz.ntmps121;go_wp2_with fail
   refine(HIL.out w4 hC.out.kp).mono ?_;rintro e w5 ⟨v,rfl,hk5,rfl⟩;have H5:=qH (hC.out.ext hk5);obtain⟨X5,eX5⟩:=nm (w5.setCell ⟨g0+1+1,0,none⟩ (.int .i64 za));have H6:=qH (show CmpAt w X5 g0 [.int .i64 k,.string p,.slice a m cap,.int .i64 op,.int .i64 1,.string lt,.int .i64 rk,.string rt] za (-1)from by rw [<-eX5];exact H5.out.putA (by omega) za);have u0:=H5.out.a.c0;have u1:=H5.out.a.free 0;clear hk5 t0 t1 t2;have v2:=H6.out.lit.c6;have H8:=H6;obtain⟨X8,eX8⟩:=nm (X5.alloc (.cells #[.nilFunc] 215));obtain⟨gX,egX⟩:=nm X5.heap.size;have B8:=bNX egX eX8;have x8:Ext X5 X8:=xAX eX8;have z0:=B8.c0;have z1:=B8.free 0;obtain⟨X9,eX9⟩:=nm (X8.setCell ⟨gX,0,none⟩ (.func (Fn.func 153) #[] #[]));have B9:Blk X9 gX [.func (Fn.func 153) #[] #[]] 215:=by rw [<-eX9];exact B8.set 0 _
   have hgX:g0+1+1+1<gX:=by rw [<-egX];exact H8.out.b.lt
   have x9:Ext X5 X9:=by rw [<-eX9];exact x8.setCell (p:=⟨gX,0,none⟩) (fun h2=>by have h3:gX<X5.heap.size:=h2;omega) _
   have H9:=qH (nIX (H8.out.ext x9) B9);have a9:=H9.out.1.a.c0;have b9:=H9.out.1.b.c0;have r0:=H9.out.1.res.c0;have r1:=H9.out.1.res.c1;have rf0:=H9.out.1.res.free 0;have rf1:=H9.out.1.res.free 1;have HT:=qH (CmpAt.close (nn:=nn) H8.out eg0 HPL.out HPR.out hn);rw [egX]at HT;have HGX:=qH (nIX hgX eg0);clear B8 x8 B9 x9 hgX;go_wp2
   all_goals
    first|(rw [HGX.out.2];refine kO H9.out HGX.out.2 HGX.out.1 ?_ rfl HT.out)|refine kO H9.out HGX.out.2 HGX.out.1 ?_ rfl HT.out
    omega
 ·by_cases hr:rk=1
  ·subst hr;have bl:(lk==1)=false:=by simp [hl]
   have eL:dR N lk lt= -1:=if_neg hl;have eR:dR N 1 rt=dH (fun x=>decide (x=rt)) N:=if_pos rfl;obtain⟨zb,ezb⟩:=nm (dH (fun x=>decide (x=rt)) N);rw [ezb]at HIR eR;rw [eL]at HPL ⊢;rw [eR]at HPR ⊢;clear eL eR hl ezb;go_enter Tryz.func121,Tryz.ntmps121;have H6:=hC;clear t1;have v2:=H6.out.lit.c6;have v3:=H6.out.lit.c7;go_wp2_with fail
   refine(HIR.out w4 H6.out.kp).mono ?_;rintro e w6 ⟨v,rfl,hk6,rfl⟩;have H7:=qH (H6.out.ext hk6);obtain⟨X7,eX7⟩:=nm (w6.setCell ⟨g0+1+1+1,0,none⟩ (.int .i64 zb));have H8:=qH (show CmpAt w X7 g0 [.int .i64 k,.string p,.slice a m cap,.int .i64 op,.int .i64 lk,.string lt,.int .i64 1,.string rt] (-1) zb from by rw [<-eX7];exact H7.out.putB (by omega) zb);have y0:=H7.out.b.c0;have y1:=H7.out.b.free 0;clear hk6 v2 v3;obtain⟨X8,eX8⟩:=nm (X7.alloc (.cells #[.nilFunc] 215));obtain⟨gX,egX⟩:=nm X7.heap.size;have B8:=bNX egX eX8;have x8:Ext X7 X8:=xAX eX8;have z0:=B8.c0;have z1:=B8.free 0;obtain⟨X9,eX9⟩:=nm (X8.setCell ⟨gX,0,none⟩ (.func (Fn.func 153) #[] #[]));have B9:Blk X9 gX [.func (Fn.func 153) #[] #[]] 215:=by rw [<-eX9];exact B8.set 0 _
   have hgX:g0+1+1+1<gX:=by rw [<-egX];exact H8.out.b.lt
   have x9:Ext X7 X9:=by rw [<-eX9];exact x8.setCell (p:=⟨gX,0,none⟩) (fun h2=>by have h3:gX<X7.heap.size:=h2;omega) _
   have H9:=qH (nIX (H8.out.ext x9) B9);have a9:=H9.out.1.a.c0;have b9:=H9.out.1.b.c0;have r0:=H9.out.1.res.c0;have r1:=H9.out.1.res.c1;have rf0:=H9.out.1.res.free 0;have rf1:=H9.out.1.res.free 1;have HT:=qH (CmpAt.close (nn:=nn) H8.out eg0 HPL.out HPR.out hn);rw [egX]at HT;have HGX:=qH (nIX hgX eg0);clear B8 x8 B9 x9 hgX;go_wp2
   all_goals
    first|(rw [HGX.out.2];refine kO H9.out HGX.out.2 HGX.out.1 ?_ rfl HT.out)|refine kO H9.out HGX.out.2 HGX.out.1 ?_ rfl HT.out
    omega
  ·skip
   have bl:(lk==1)=false:=by simp [hl]
   have br:(rk==1)=false:=by simp [hr]
   have eL:dR N lk lt= -1:=if_neg hl;have eR:dR N rk rt= -1:=if_neg hr;rw [eL]at HPL ⊢;rw [eR]at HPR ⊢;clear eL eR hl hr;go_enter Tryz.func121,Tryz.ntmps121;have H6:=hC;clear t1;have v2:=H6.out.lit.c6;have H8:=H6;obtain⟨X8,eX8⟩:=nm (w4.alloc (.cells #[.nilFunc] 215));obtain⟨gX,egX⟩:=nm w4.heap.size;have B8:=bNX egX eX8;have x8:Ext w4 X8:=xAX eX8;have z0:=B8.c0;have z1:=B8.free 0;obtain⟨X9,eX9⟩:=nm (X8.setCell ⟨gX,0,none⟩ (.func (Fn.func 153) #[] #[]));have B9:Blk X9 gX [.func (Fn.func 153) #[] #[]] 215:=by rw [<-eX9];exact B8.set 0 _
   have hgX:g0+1+1+1<gX:=by rw [<-egX];exact H8.out.b.lt
   have x9:Ext w4 X9:=by rw [<-eX9];exact x8.setCell (p:=⟨gX,0,none⟩) (fun h2=>by have h3:gX<w4.heap.size:=h2;omega) _
   have H9:=qH (nIX (H8.out.ext x9) B9);have a9:=H9.out.1.a.c0;have b9:=H9.out.1.b.c0;have r0:=H9.out.1.res.c0;have r1:=H9.out.1.res.c1;have rf0:=H9.out.1.res.free 0;have rf1:=H9.out.1.res.free 1;have HT:=qH (CmpAt.close (nn:=nn) H8.out eg0 HPL.out HPR.out hn);rw [egX]at HT;have HGX:=qH (nIX hgX eg0);clear B8 x8 B9 x9 hgX;go_wp2
   all_goals
    first|(rw [HGX.out.2];refine kO H9.out HGX.out.2 HGX.out.1 ?_ rfl HT.out)|refine kO H9.out HGX.out.2 HGX.out.1 ?_ rfl HT.out
    omega
end
section
open Go.RowKit Go.Shelf
attribute [local go_sem] rH
def aA1(vs:List Nat):Int:=match vs.getLast? with|some u=>(u:Int)|none=> -1
structure TableAt(S:Nat->Prop)(w:World)(va:Option Addr)(rb:Nat)(iv:Value)(vs:List Nat)(LL:aD):Prop where
 vars:CellsAt w va (ints (vs.map fun(v:Nat)=>(v:Int)))
 rows:RowsAt S w rb iv vs.length LL
 rise:Strict aC LL
theorem TableAt.ext{S:Nat->Prop}{w w':World}{va:Option Addr}{rb:Nat}{iv:Value}{vs:List Nat}{LL:aD}(h:TableAt S w va rb iv vs LL)(hk:Ext w w'):TableAt S w' va rb iv vs LL:=⟨h.vars.ext hk,h.rows.ext hk,h.rise⟩
def aOx(w0:World)(V:List ByteArray)(vs:List Nat)(n:Nat)(xv iv:Value)(w:World):Prop:=∃i:Nat,i≤n/\iv= .int .i64 i/\Hid (Row w 9 1 xv i (strs ((vs.take i).map (bK V))) (New w0))/\Hid (Ext w0 w)
theorem CellsAt.of_eq{w:World}{ao:Option Addr}{xs ys:List Value}(h:CellsAt w ao xs)(e:xs=ys):CellsAt w ao ys:=e▸h
set_option maxHeartbeats 4000000 in
theorem aGn{S:Nat->Prop}{w:World}{ra va:Option Addr}{cp nv tb n vc rb:Nat}{iv:Value}{V:List ByteArray}{vs:List Nat}{LL:aD}(hT:TableAt S w va rb iv vs LL)(hn:n=vs.length)(hsm:n≤1048576)(hin:∀v∈vs,v<nv)(hV:V.length=nv)(hc:CellsAt w ra (strs V))(hnv:nv≤1048576)
 (t0:w.cell? ⟨tb,0,none⟩=some (.slice va n vc))(t1:w.cell? ⟨tb,1,none⟩=some (.pointer (some ⟨rb,0,none⟩))):
 Calls Tryz.prog 152 (#[.slice ra nv cp]++#[.pointer (some ⟨tb,0,none⟩)]) w (RetN w fun w' v=>v= .bool (!bD aC LL (vs.map (bK V)))):=by
 have HT:=qH hT;have HN:=qH (nIX hn hin);have HV:=qH (nIX hV hc);have HT1:=qH t1;clear hT hn hin hV hc t1;go_enter Tryz.func152,Tryz.ntmps152;go_wp2;go_loopw [4,10] (fun xv iv wr=>aOx w V vs n xv iv wr) (fun _ iv _=>n- (intOf iv).toNat)
 case atStart=>exact⟨0,Nat.zero_le _,rfl,Row.nil _ _ _ _,Kp.refl w⟩
 case round=>
  obtain⟨i,hi,rfl,hrow,hex⟩:=hrel;obtain⟨xa,xc,exv,hxc,_⟩:=hrow.out.shape;subst exv;by_cases hlt:i<n
  ·obtain⟨v,hv⟩:∃v,vs[i]?=some v:=⟨_,qG (by rw [<-HN.out.1];exact hlt)⟩;have hvn:v<nv:=HN.out.2 v (List.mem_of_getElem? hv);obtain⟨x,hx⟩:∃x,V[v]?=some x:=⟨_,qG (by rw [HV.out.1];exact hvn)⟩;obtain⟨b1,o1,e1,c1⟩:=(HT.out.vars.ext hex.out) i (.int .i64 v) (by unfold ints;rw [List.map_map,List.getElem?_map,hv];rfl);obtain⟨b2,o2,e2,c2⟩:=(HV.out.2.ext hex.out) v (.string x) (by simp [strs,hx]);have HX:=qH (nIX hv (show bK V v=x from bM hx));rw [e1,e2];clear hv hx hxc e1 e2;go_wp2_with (first|(at_builtin;refine Halted.out ?_))
   refine Halted.mk (bO dZ rfl _ _ rfl (hex.out.alloc _) rfl (hrow.out.alloc _) rfl (CellsAt.one wr _ _) rfl (by simp;rfl) (by omega) (by unfold maxLen;omega) ?_);intro v2 w2 hr2 hk2 _ _;obtain⟨la,lcap,elv,_,_⟩:=hr2.shape;subst elv;have HR2:=qH (nIX hr2 hk2);clear hr2 hk2 c1 c2;go_wp2;go_roundw
   case rel=>
    refine⟨i+1,by omega,nMX,qH ?_,qH HR2.out.2⟩;have e:vs.take (i+1)=vs.take i++ [v]:=by rw [List.take_add_one,HX.out.1];rfl
    have h:=HR2.out.1;rw [sY,<-HX.out.2,<-List.map_singleton (f:=bK V),<-List.map_append,<-e]at h;exact h
   case measure=>simp [intOf];omega
  ·obtain rfl:i=n:=by omega
   have hall:vs.take i=vs:=List.take_of_length_le (by rw [<-HN.out.1];exact Nat.le_refl _);have hrow2:=hrow.out;rw [hall]at hrow2;have t1:=hex.out.cell HT1.out id;have hT:=HT.out.ext hex.out;have hlo:∀a,xa=some a->i≠0->w.heap.size≤a.block/\a.block<wr.heap.size:=fun a ha hne=>by obtain⟨g,c,e1,hM⟩:=pH hrow2 (by omega);simp only [Value.slice.injEq]at e1;rw [ha]at e1;cases e1.1;obtain⟨cs,hb⟩:=aV hrow2 (g:=g) (by rw [ha];rfl);exact⟨hM,hb.lt⟩
   have hlen:((vs.map (bK V)).length:Nat)=i:=by rw [List.length_map];exact HN.out.1.symm
   have hown:∀k,dY rb iv k->k<w.heap.size:=RowsQ.ownLt (z:=False) HT.out.rows.q;have HH:=qH (aJg (z:=False) (x:=(xa,i,xc)) hT.rows.q hT.rise (ss:=vs.map (bK V)) ⟨⟨hlen.symm,hxc.of_eq (by rw [hall])⟩,by rw [hlen];omega,fun a ha hne=>(hlo a ha hne).2⟩ (fun a ha hne ho=>by have h1:=hown _ ho;have h2:=(hlo a ha hne).1;omega));clear hall hrow2 hT hlo hlen hown hxc;go_wp2_with fail
   refine HH.out.mono ?_;rintro e w3 ⟨v,rfl,hk3,rfl,-⟩;have HK:=qH (hex.out.trans (Kp.fq hk3));clear hk3 t1;go_wp2;go_ret;exact RetN.mk HK.out rfl
theorem rY{S:Nat->Prop}{w w2:World}{va:Option Addr}{nv n vc rb lo g0:Nat}{iv:Value}{vs:List Nat}{LL:aD}{M:Int}{tm:Array Value}(H2:Ext w w2/\Blk w2 g0 [.slice va n vc,.pointer (some ⟨rb,0,none⟩)] 175/\Blk w2 (g0+1) [.int .i64 0,.nilFunc] 180)(hg:w.heap.size=g0)
 (hT:Fast lo w.heap.size w fun W=>TableAt S W va rb iv vs LL)(hn:n=vs.length)(hsm:n≤1048576)(hin:∀v∈vs,v<nv)(hnv:nv≤1048576)(hlo:lo≤w.heap.size)(hM:aA1 vs=M)(ht:tm[2]?.getD undef= .pointer (some ⟨g0+1,0,none⟩)):
 bodyPost Tryz.prog Tryz.f120 (RetN w fun w' v=>∃t:TestZ,v= .agg #[.int .i64 t.last,t.val]/\t.last=aA1 vs/\(∀V,t.ask V=!bD aC LL (vs.map (bK V)))/\Fast lo w'.heap.size w' fun W=>TestOk W nv t) .ret
  {tmps:=tm,defers:= []} ((w2.setCell ⟨g0+1,0,none⟩ (.int .i64 M)).setCell ⟨g0+1,1,none⟩ (.func (Fn.func 152) #[] #[.pointer (some ⟨g0,0,none⟩)])):=by
 obtain⟨fv,efv⟩:=nm (Value.func (Fn.func 152) #[] #[.pointer (some ⟨g0,0,none⟩)]);rw [efv];obtain⟨X,eX⟩:=nm ((w2.setCell ⟨g0+1,0,none⟩ (.int .i64 M)).setCell ⟨g0+1,1,none⟩ fv);have hres:Blk X (g0+1) [.int .i64 M,fv] 180:=by rw [<-eX];exact(H2.2.2.set 0 _).set 1 _
 have hkp:Kp (fun k=>k=g0+1) w2 X:=by rw [<-eX];exact kSb
 rw [eX];have u0:=hres.c0;have u1:=hres.c1;have hx:Ext w X:=H2.1.trans' hkp fun i hi e=>by have e':i=g0+1:=e;omega
 have hbox:Blk X g0 [.slice va n vc,.pointer (some ⟨rb,0,none⟩)] 175:=H2.2.1.kp hkp (by omega);refine bodyPost_ret (v:= .agg #[.int .i64 M,fv]) (by simp [results,Tryz.results120,go_sem,ht,u0,u1]) rfl ?_;refine RetN.mk hx ⟨⟨152,#[.pointer (some ⟨g0,0,none⟩)],M,fun V=>!bD aC LL (vs.map (bK V))⟩,by rw [<-efv];rfl,hM.symm,fun V=>rfl,fun W hW=>?_⟩;refine⟨enters_of Tryz.func152 (by kernel_rfl) rfl,fun W2 hW2 ra cp V hV hc=>?_⟩;have hszX:=hx.size;have hlt:=hbox.lt;have hTX:Fast lo w.heap.size X fun W=>TableAt S W va rb iv vs LL:=hT.ext hx;have hTW:=(hTX.mono (Nat.le_refl _) hszX) W hW;have hbW:Blk W g0 [.slice va n vc,.pointer (some ⟨rb,0,none⟩)] 175:=hbox.kp hW fun h=>h ⟨by omega,hlt⟩;exact aGn (hTW.ext hW2) hn hsm hin hV hc hnv (by rw [(hbW.ext hW2).cell'];rfl) (by rw [(hbW.ext hW2).cell'];rfl)
set_option maxHeartbeats 4000000 in
theorem aD2{S:Nat->Prop}{w:World}{va:Option Addr}{nv n vc rb lo:Nat}{iv:Value}{vs:List Nat}{LL:aD}(hT:Fast lo w.heap.size w fun W=>TableAt S W va rb iv vs LL)(hn:n=vs.length)(hsm:n≤1048576)(hin:∀v∈vs,v<nv)(hnv:nv≤1048576)(hlo:lo≤w.heap.size):
 Calls Tryz.prog 120 #[.agg #[.slice va n vc,.pointer (some ⟨rb,0,none⟩)]] w (RetN w fun w' v=>∃t:TestZ,v= .agg #[.int .i64 t.last,t.val]/\t.last=aA1 vs/\(∀V,t.ask V=!bD aC LL (vs.map (bK V)))/\Fast lo w'.heap.size w' fun W=>TestOk W nv t):=by
 have HT:=qH hT;have HN:=qH (nIX hn (nIX hin hlo));obtain⟨w1,e1⟩:=nm (w.alloc (.cells #[.slice va n vc,.pointer (some ⟨rb,0,none⟩)] 175));obtain⟨g0,eg0⟩:=nm w.heap.size;have B1:=bNX eg0 e1;have x1:Ext w w1:=xAX e1;have s1:w1.heap.size=g0+1:=by rw [<-e1,aJ,eg0]
 obtain⟨w2,e2⟩:=nm (w1.alloc (.cells #[.int .i64 0,.nilFunc] 180));have B2:Blk w2 (g0+1) [.int .i64 0,.nilFunc] 180:=by have h:=Blk.new w1 [.int .i64 0,.nilFunc] 180;rw [s1]at h;rw [<-e2];exact h
 have x2:Ext w1 w2:=xAX e2;have H2:=qH (nIX (x1.trans x2) (nIX (B1.ext x2) B2));have c0:=(B1.ext x2).c0;have r0:=B2.c0;have r1:=B2.c1;have rf0:=B2.free 0;have rf1:=B2.free 1;clear hT hn hin hlo B1 x1 B2 x2;by_cases h0:n=0
 ·have hvs:vs= []:=List.eq_nil_of_length_eq_zero (by rw [<-HN.out.1];exact h0);have HV:=qH (show aA1 vs= -1 from by rw [hvs];rfl);subst h0;clear hvs;go_enter Tryz.func120,Tryz.ntmps120;go_wp2;first
   |(rw [eg0];exact rY H2.out eg0 HT.out HN.out.1 hsm HN.out.2.1 hnv HN.out.2.2 HV.out rfl)
   |exact rY H2.out eg0 HT.out HN.out.1 hsm HN.out.2.1 hnv HN.out.2.2 HV.out rfl
 ·obtain⟨m,rfl⟩:∃m,n=m+1:=⟨n-1,by omega⟩;obtain⟨u,hu⟩:∃u,vs[m]?=some u:=⟨_,qG (by have:=HN.out.1;omega)⟩;have HV:=qH (show aA1 vs=(u:Int)from by
   have e:vs.getLast?=some u:=by rw [List.getLast?_eq_getElem?,<-HN.out.1,Nat.add_sub_cancel];exact hu
   unfold aA1;rw [e])
  obtain⟨b1,o1,ev,c1⟩:=(HT.out.here.vars.ext H2.out.1) m (.int .i64 u) (by unfold ints;rw [List.map_map,List.getElem?_map,hu];rfl);subst ev;have hw:=mY (m:=m) (by unfold maxLen;omega);have hz:¬((m:Int)+1)=0:=by omega
  have hp:(0:Int)< (m:Int)+1:=by omega
  clear hu h0;go_enter Tryz.func120,Tryz.ntmps120;go_wp2;first
   |(rw [eg0];exact rY H2.out eg0 HT.out HN.out.1 hsm HN.out.2.1 hnv HN.out.2.2 HV.out rfl)
   |exact rY H2.out eg0 HT.out HN.out.1 hsm HN.out.2.1 hnv HN.out.2.2 HV.out rfl
end
section
open Go.RowKit
def eU(vs:List Nat)(v:Nat)(p:List ByteArray):List ByteArray:=(vs.filter fun x=>decide (x<v)).map (bK p)
theorem oO:∀{vs:List Nat},vs.Pairwise (· < ·)->∀(v:Nat),v∈vs->∃m:Nat,vs[m]?=some v/\vs.filter (fun x=>decide (x<v))=vs.take m/\vs.filter (fun x=>decide (x<v+1))=vs.take (m+1)
 | [],_,v,h=>by simp at h
 |a::vs,hp,v,h=>by
  obtain⟨h1,h2⟩:=List.pairwise_cons.1 hp;rcases List.mem_cons.1 h with rfl|h3
  ·have nn:∀n,n≤v+1->vs.filter (fun x=>decide (x<n))= []:=fun n hn=>by
    rw [List.filter_eq_nil_iff];intro x hx;have:=h1 x hx;simp;omega
   refine⟨0,rfl,?_,?_⟩
   ·rw [List.filter_cons,if_neg (by simp),nn v (by omega)];rfl
   ·rw [List.filter_cons,if_pos (by simp),nn _ (Nat.le_refl _)];rfl
  ·obtain⟨m,e1,e2,e3⟩:=oO h2 v h3;have h4:=h1 v h3;refine⟨m+1,by simpa using e1,?_,?_⟩
   ·rw [List.filter_cons,if_pos (by simp;omega),e2];rfl
   ·rw [List.filter_cons,if_pos (by simp;omega),e3];rfl
theorem uO{vs:List Nat}{v:Nat}{p V:List ByteArray}(hp:V.take v=p):(vs.filter fun x=>decide (x<v)).map (bK V)=eU vs v p:=by
 refine List.map_congr_left fun x hx=>?_;have hxv:x<v:=by have:=(List.mem_filter.1 hx).2;simpa using this
 unfold bK;rw [List.getD_eq_getElem?_getD,List.getD_eq_getElem?_getD,<-hp,List.getElem?_take_of_lt hxv]
theorem vX{vs:List Nat}(hr:vs.Pairwise (· < ·)){v:Nat}(hv:v∈vs){p:List ByteArray}(hp:p.length=v)(x:ByteArray):eU vs (v+1) (p++ [x])=eU vs v p++ [x]/\(eU vs v p).length<vs.length:=by
 obtain⟨m,e1,e2,e3⟩:=oO hr v hv;have hm:=(List.getElem?_eq_some_iff.1 e1).1;have e4:(p++ [x]).take v=p:=by rw [<-hp];exact List.take_left
 refine⟨?_,?_⟩
 ·rw [<-uO (V:=p++ [x]) e4];unfold eU;rw [e3,e2,List.take_add_one,e1];simp only [Option.toList,List.map_append,List.map_cons,List.map_nil]
  congr 2
  unfold bK;rw [List.getD_eq_getElem?_getD,List.getElem?_append_right (by omega),hp,Nat.sub_self];rfl
 ·unfold eU;rw [e2,List.length_map,List.length_take];omega
theorem aMx{vs:List Nat}{v:Nat}(hv:v∉vs){p p':List ByteArray}(hp:p'.take v=p):eU vs (v+1) p'=eU vs v p:=by
 rw [<-uO hp];unfold eU
 congr 1
 refine List.filter_congr fun x hx=>decide_eq_decide.2 ⟨fun h=>?_,fun h=>by omega⟩;have:x≠v:=fun e=>hv (e▸hx);omega
theorem aK0(vs:List Nat):eU vs 0 []= []:=by unfold eU;rw [List.filter_eq_nil_iff.2 (by intro x _;simp)];rfl
theorem aMy{vs:List Nat}{p:List ByteArray}(h:∀x∈vs,x<p.length):eU vs p.length p=vs.map (bK p):=by unfold eU;rw [List.filter_eq_self.2 (by intro x hx;simpa using h x hx)]
theorem PathOk.way{W:aD}{d:Nat}(hW:WaysOk W d){q:List ByteArray}{st:List (Nat×Nat)}(h:PathOk W d q st)(hq:q.length=d)(hd:0<d):q∈W:=by
 obtain⟨m,rfl⟩:∃m,d=m+1:=⟨d-1,by omega⟩;obtain⟨e,he⟩:∃e,st[m]?=some e:=⟨_,qG (by rw [h.len];omega)⟩;obtain⟨a,x,h1,h2,h3,h4,h5⟩:=h.at_ m e he;have hl:(q.take m).length=m:=by rw [List.length_take];omega
 obtain⟨s,r,x',k1,k2,k3,k4,k5⟩:=h1.place hW (by omega) h2 h3;rw [hl]at k3 k4;rw [h5]at k4;cases k4;have e1:q.take m++ [x]=q:=by
  have:q.take (m+1)=q.take m++ [x]:=by rw [List.take_add_one,h4];rfl
  rw [<-this,<-hq,List.take_length]
 rw [e1]at k3;have hrl:=hW.len r (List.mem_of_getElem? k2);rw [List.take_of_length_le (by omega)]at k3;rw [<-k3];exact List.mem_of_getElem? k2
def PathsAt(M:MatchZ)(v:Nat)(p:List ByteArray)(st:Nat->List (Nat×Nat)):Prop:=∀(j:Nat) t,M.Ts[j]?=some t->PathOk t.W t.vs.length (eU t.vs v p) (st j)
def Seen(M:MatchZ)(v:Nat)(p:List ByteArray):Prop:=∀k,k<v->∀t∈M.tests k,∀V:List ByteArray,V.length=M.N.length->V.take v=p->t.ask V=true
section
variable {M:MatchZ}{v:Nat}{p:List ByteArray}
theorem Seen.next(hM:MatchOk M)(h:Seen M v p)(hv:v≤M.N.length){R:List ByteArray}(hR:R.length=M.N.length)(hp:R.take v=p)(ha:∀t∈M.tests v,t.ask R=true){p':List ByteArray}(hp':p'.take v=p):Seen M (v+1) p':=fun k hk t ht V hV he=>by
 have e1:V.take v=p:=by have:=congrArg (List.take v) he;rw [List.take_take,hp',show min v (v+1)=v by omega]at this;exact this
 rcases Nat.lt_or_eq_of_le (Nat.le_of_lt_succ hk)with h1|h1
 ·exact h k h1 t ht V hV e1
 ·subst h1;rw [hM.local_ k hv t ht V R hV hR (e1.trans hp.symm)];exact ha t ht
theorem aOl(hM:MatchOk M)(hv:v≤M.N.length){R:List ByteArray}(hR:R.length=M.N.length)(hp:R.take v=p){t:TestZ}(ht:t∈M.tests v)(ha:t.ask R=false)(hl:p.length=v):AllB (mX M) p []:=
 AllB.none fun V hV he=>by rw [hl]at he;have h1:=hV.2.2 v hv t ht;rw [hM.local_ v hv t ht V R hV.1 hR (he.trans hp.symm),ha]at h1;cases h1
theorem aMj(hM:MatchOk M){st:Nat->List (Nat×Nat)}(hs:Seen M M.N.length p)(hP:PathsAt M M.N.length p st)(hl:p.length=M.N.length)(ha:∀t∈M.tests M.N.length,t.ask p=true):AllB (mX M) p [p]:=by
 refine AllB.one ⟨hl,fun t ht=>?_,fun k hk t ht=>?_⟩ fun V hV=>by rw [hV.1,hl]
 ·obtain⟨j,hj⟩:=List.mem_iff_getElem?.1 ht;obtain⟨h1,h2,h3,h4,h5⟩:=hM.ways t ht;have h6:=hP j t hj;have e:eU t.vs M.N.length p=t.vs.map (bK p):=by
   rw [<-hl];exact aMy fun x hx=>by rw [hl];exact h4 x hx
  rw [e]at h6;exact h6.way h1 (by rw [List.length_map]) (by cases ht2:t.vs with|nil=>exact absurd ht2 h3|cons a l=>simp)
 ·rcases Nat.lt_or_eq_of_le hk with h1|h1
  ·exact hs k h1 t ht p hl (by rw [<-hl,List.take_length])
  ·subst h1;exact ha t ht
theorem aKs(hM:MatchOk M)(hv:v<M.N.length)(hl:p.length=v){js:List Nat}(hjs:∀j∈js,∃t,M.Ts[j]?=some t/\v∈t.vs){sp:Nat->Nat×Nat}{Cs:List CurZ}(hCs:Cs=js.map fun j=>⟨cB (M.Ts.getD j noT).W (M.Ts.getD j noT).vs.length (eU (M.Ts.getD j noT).vs v p).length (M.Ts.getD j noT).W.length,(sp j).1,(sp j).2⟩)
 (hsp:∀j∈js,SpanOf (M.Ts.getD j noT).W (M.Ts.getD j noT).vs.length (eU (M.Ts.getD j noT).vs v p) (sp j).1 (sp j).2):
 (∀c∈Cs,CurOk c)/\∀V,mX M V->V.take p.length=p->∃x,V[p.length]?=some x/\∀(k:Nat) (c:CurZ),Cs[k]?=some c->lR c c.lo x:=by
 subst hCs;have key:∀j∈js,∃t,M.Ts[j]?=some t/\M.Ts.getD j noT=t/\v∈t.vs/\WaysOk t.W t.vs.length/\t.vs.Pairwise (· < ·)/\(eU t.vs v p).length<t.vs.length:=fun j hj=>by obtain⟨t,h1,h2⟩:=hjs j hj;obtain⟨h3,h4,h5,h6,h7⟩:=hM.ways t (List.mem_of_getElem? h1);exact⟨t,h1,bM h1,h2,h3,h4,(vX h4 h2 hl ByteArray.empty).2⟩
 refine⟨fun c hc=>?_,fun V hV he=>?_⟩
 ·obtain⟨j,hj,rfl⟩:=List.mem_map.1 hc;obtain⟨t,h1,h2,h3,h4,h5,h6⟩:=key j hj;have:=hsp j hj;rw [h2]at this ⊢;exact aOq h4 this h6
 ·rw [hl]at he ⊢;have hvl:v<V.length:=by rw [hV.1];exact hv
  refine⟨V[v],qG hvl,fun k c hk=>?_⟩;rw [List.getElem?_map]at hk;cases hj:js[k]? with
  |none=>rw [hj]at hk;cases hk
  |some j=>
   rw [hj]at hk;cases hk;have hjm:=List.mem_of_getElem? hj;obtain⟨t,h1,h2,h3,h4,h5,h6⟩:=key j hjm;have hs:=hsp j hjm;show lR ⟨cB (M.Ts.getD j noT).W (M.Ts.getD j noT).vs.length (eU (M.Ts.getD j noT).vs v p).length (M.Ts.getD j noT).W.length,(sp j).1,(sp j).2⟩ (sp j).1 V[v];rw [h2]at hs ⊢;refine aHj h4 hs h6 (hV.2.1 t (List.mem_of_getElem? h1)) ?_;obtain⟨m,e1,e2,e3⟩:=oO h5 v h3;have e4:(eU t.vs v p).length=m:=by unfold eU;rw [e2,List.length_map,List.length_take];have:=(List.getElem?_eq_some_iff.1 e1).1;omega
   have h7:=aFj h5 e1 he hvl;rw [e4,h7];unfold eU;rw [e2]
   congr 2
   unfold bK;rw [List.getD_eq_getElem?_getD,qG hvl];rfl
theorem PathsAt.next(hM:MatchOk M){st0 st:Nat->List (Nat×Nat)}(h:PathsAt M v p st0)(hl:p.length=v){key:ByteArray}(hin:∀(j:Nat) t,M.Ts[j]?=some t->v∈t.vs->∃a b k,SpanOf t.W t.vs.length (eU t.vs v p) a b/\a≤k/\k<b/\(cB t.W t.vs.length (eU t.vs v p).length t.W.length)[k]?=some key/\st j=st0 j++ [(k,b)])
 (hout:∀(j:Nat) t,M.Ts[j]?=some t->v∉t.vs->st j=st0 j):PathsAt M (v+1) (p++ [key]) st:=fun j t hj=>by
 have ht:=List.mem_of_getElem? hj;obtain⟨h3,h4,h5,h6,h7⟩:=hM.ways t ht;by_cases hv:v∈t.vs
 ·obtain⟨a,b,k,h8,h9,h10,h11,h12⟩:=hin j t hj hv;obtain⟨e1,e2⟩:=vX h4 hv hl key;rw [e1,h12];exact(h j t hj).push e2 h8 h9 h10 h11
 ·rw [hout j t hj hv,aMx hv (p:=p) (by rw [<-hl];exact List.take_left)];exact h j t hj
end
def sE(Cs:List CurZ)(key:ByteArray):Nat:=(Cs.map fun c=>((c.keys.take c.hi).filter fun x=>decide (bE key.toList x.toList<0)).length).sum
theorem sum_lt{α:Type}{f g:α->Nat}:∀{l:List α},(∀x∈l,f x≤g x)->(∃x∈l,f x<g x)->(l.map f).sum< (l.map g).sum
 | [],_,h=>by obtain⟨x,hx,_⟩:=h;simp at hx
 |y::l,h,⟨x,hx,hlt⟩=>by
  have le:∀l:List α,(∀x∈l,f x≤g x)->(l.map f).sum≤(l.map g).sum:=fun l=>by
   induction l with
   |nil=>intro _;exact Nat.le_refl _
   |cons z l ih=>
    intro hz;have h1:=hz z (List.mem_cons_self ..);have h2:=ih fun x hx=>hz x (List.mem_cons_of_mem _ hx);simp only [List.map_cons,List.sum_cons];omega
  simp only [List.map_cons,List.sum_cons];rcases List.mem_cons.1 hx with rfl|hx
  ·have:=le l fun z hz=>h z (List.mem_cons_of_mem _ hz);omega
  ·have h1:=h y (List.mem_cons_self ..);have h2:=sum_lt (fun z hz=>h z (List.mem_cons_of_mem _ hz)) ⟨x,hx,hlt⟩;omega
theorem aIf{Cs:List CurZ}{key key2:ByteArray}(h:bE key.toList key2.toList<0){c:CurZ}(hc:c∈Cs){m:Nat}(hm:m<c.hi)(hk:c.keys[m]?=some key2):sE Cs key2<sE Cs key:=by
 have imp:∀x:ByteArray,bE key2.toList x.toList<0->bE key.toList x.toList<0:=fun x hx=>jZ h hx;have le:∀l:List ByteArray,(l.filter fun x=>decide (bE key2.toList x.toList<0)).length≤(l.filter fun x=>decide (bE key.toList x.toList<0)).length:=fun l=>by rw [<-List.countP_eq_length_filter,<-List.countP_eq_length_filter];exact List.countP_mono_left fun x _ hx=>by simp at hx ⊢;exact imp x hx
 have lt:∀l:List ByteArray,key2∈l->(l.filter fun x=>decide (bE key2.toList x.toList<0)).length< (l.filter fun x=>decide (bE key.toList x.toList<0)).length:=fun l=>by
  induction l with
  |nil=>intro h;simp at h
  |cons y l ih=>
   intro hy;rcases List.mem_cons.1 hy with rfl|hy
   ·rw [List.filter_cons,if_neg (by rw [fL];simp),List.filter_cons,if_pos (by simpa using h),List.length_cons];have:=le l;omega
   ·have h1:=ih hy;rw [List.filter_cons,List.filter_cons];by_cases h2:bE key2.toList y.toList<0
    ·rw [if_pos (by simpa using h2),if_pos (by simpa using imp y h2)];simp only [List.length_cons];omega
    ·rw [if_neg (by simpa using h2)];split
     ·simp only [List.length_cons];omega
     ·exact h1
 unfold sE;refine sum_lt (fun x _=>le _) ⟨c,hc,lt _ ?_⟩;refine List.mem_of_getElem? (i:=m) ?_;rw [List.getElem?_take_of_lt hm];exact hk
theorem AllB.split{Sol:List ByteArray->Prop}{p:List ByteArray}{D:ByteArray->Prop}{key:ByteArray}{Lp Lk L:aD}(hp:AllB Sol p Lp)(h:PartB Sol p D L)(hk:AllB Sol (p++ [key]) Lk)(hlow:∀V,Sol V->V.take p.length=p->∀y,V[p.length]?=some y->D y->bE y.toList key.toList<0)
 (hup:∀V,Sol V->V.take p.length=p->∃x,V[p.length]?=some x/\(D x\/¬bE x.toList key.toList<0)):∃R,L++Lk++R=Lp:=by
 classical
 have h2:=h.next hk hlow
 refine⟨Lp.filter fun V=>decide (¬∃x,V[p.length]?=some x/\(D x\/x=key)),?_⟩;refine Strict.unique dX ?_ hp.rise fun V=>?_
 ·refine List.pairwise_append.2 ⟨h2.rise,hp.rise.filter _,fun a ha b hb=>?_⟩;obtain⟨hb1,hb2⟩:=List.mem_filter.1 hb;have hb3:=of_decide_eq_true hb2;obtain⟨a1,a2,x,a3,a4⟩:=(h2.iff a).1 ha;obtain⟨b1,b2⟩:=(hp.iff b).1 hb1;obtain⟨y,b3,b4⟩:=hup b b1 b2;have ny:¬(D y\/y=key):=fun e=>hb3 ⟨y,b3,e⟩;have hky:bE key.toList y.toList<0:=by
   rcases b4 with b4|b4
   ·exact absurd (.inl b4) ny
   ·rcases kA key.toList y.toList with h5|h5|h5
    ·omega
    ·exact absurd (.inr (dL (eO h5)).symm) ny
    ·have:=dK key.toList y.toList;omega
  obtain⟨r,rfl⟩:=rD a2 a3;obtain⟨s,rfl⟩:=rD b2 b3;refine oV p x y r s ?_;rcases a4 with a4|a4
  ·exact jZ (hlow _ a1 a2 x a3 a4) hky
  ·rw [a4];exact hky
 ·rw [List.mem_append,h2.iff V,List.mem_filter,hp.iff V,decide_eq_true_iff];refine⟨fun h3=>?_,fun h3=>?_⟩
  ·rcases h3 with h3|h3
   ·exact⟨h3.1,h3.2.1⟩
   ·exact h3.1
  ·by_cases h4:∃x,V[p.length]?=some x/\(D x\/x=key)
   ·exact .inl ⟨h3.1,h3.2,h4⟩
   ·exact .inr ⟨h3,h4⟩
end
end Go.Proofs.YtinnmeiphbdogaaGreat
