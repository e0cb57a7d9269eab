/- Texts joined for a claim (Th, Base, Same, Marks, Arr, Keep, SetLaw, Arr2, Sl, Sl2, Cmp, SetLaw2, Lend, Takes, LawsPlain, Flo, CostPlain, SearchS, Draw, RangeOwn, FloCmp, CostPlain2, Read, Bulk, Shape, Arg, Rule, JoinT, Map, JoinL, Flat, LawMem). -/
import Derived.Deep.RegionHeld3
import Derived.Lib.Hide
import Derived.WalkKit
import Derived.WalkLawsBesides
import Derived.WalkSpells
import Derived.RangeFuncNested
import Derived.RangeFuncBound
import Derived.RangeFuncCalls
import Derived.RangeFuncLeaves
import Derived.Shelf.Abstract
import Derived.Shelf.RegionOpen
import Derived.OwnWalkIn
import Derived.TacticsInMore
import Derived.LoopNIn
import Derived.LoopIn
import Derived.Lib.SliceRun
import Derived.Lib.Overlaps
import Derived.Lib.AppendZerosOnto
import Derived.Laws.Externs
import Derived.Laws.CopyOwn
import Derived.StillTailTactics
import Derived.Deep.QuietTactic
import Derived.BigQuiet
import Derived.Test.YtinnmeiphbdogaaGreatProg
import Derived.Laws.FloatArith
import Derived.RangeFuncWrites
import Derived.ProofKit
import Derived.OpenShut
import Derived.ShutString
import Derived.ChangeOld
import Derived.Carry
import Derived.SliceStrings
import Derived.SizedLaws
import Derived.JoinedCond
import Derived.Deep.Slices
import Derived.Test.YtinnmeiphbdogaaGreatRows
import Derived.ChangeArms
import Derived.WideKeyRuns
import Derived.MapKept
set_option linter.unusedVariables false
set_option linter.unusedSimpArgs false
set_option maxRecDepth 100000
namespace Go.Proofs.YtinnmeiphbdogaaGreat
section
theorem sI{α:Type _}(a:α)(l:List α)(i:Nat):l.toArray.setIfInBounds i a=(l.set i a).toArray:=List.setIfInBounds_toArray ..
theorem sZ{α:Type _}{b a:α}{zs:List α}:(a::zs).set 0 b=b::zs:=rfl
theorem sS{α:Type _}{b a:α}{n:Nat}{zs:List α}:(a::zs).set (n+1) b=a::zs.set n b:=rfl
theorem qH{p:Prop}(h:p):RowKit.Hid p:=h
theorem qG{α:Type _}{l:List α}{i:Nat}(h:i<l.length):l[i]?=some l[i]:=List.getElem?_eq_getElem h
theorem nMX{a b:Value}(h:a=b:=by first|rfl|(congr 1;done)|(congr 1;omega)):a=b:=h
theorem nIX{a b:Prop}(x:a)(y:b):a/\b:=⟨x,y⟩
theorem nm{α:Sort _}(a:α):∃x,a=x:=⟨a,rfl⟩
end
section
open Go.RowKit
def Ret(v:Value)(w:World)(e:Ending)(w':World):Prop:=e= .returned v/\w=w'
theorem Ret.mk{v v':Value}{w:World}(h:v=v'):Ret v w (.returned v') w:=⟨by rw [h],rfl⟩
def RetD(v:Value)(w:World)(e:Ending)(w':World):Prop:=e= .returned v/\∃n,w'=w.drewN n
theorem nQ(w:World)(n m:Nat):∃k,(w.drewN n).drewN m=w.drewN k:=⟨_,World.drewN_drewN w n m⟩
theorem nP(w:World)(n m:Nat):∃k,((w.drewN n).drewN m).drew=w.drewN k:=⟨_,by rw [World.drewN_drewN,World.drew_drewN]⟩
theorem RetD.mk'{v v':Value}{w w':World}(h:v=v')(hw:∃n,w'=w.drewN n):RetD v w (.returned v') w':=⟨by rw [h],hw⟩
structure Kp(F:Nat->Prop)(w w':World):Prop where
 os:w'.os=w.os
 tape:w'.tape=w.tape
 output:w'.output=w.output
 size:w.heap.size≤w'.heap.size
 block:∀k,k<w.heap.size->¬F k->w'.heap[k]?=w.heap[k]?
abbrev Ext(w w':World):Prop:=Kp (fun _=>False) w w'
abbrev New(w:World):Nat->Prop:=fun g=>w.heap.size≤g
theorem Kp.refl{F:Nat->Prop}(w:World):Kp F w w:=⟨rfl,rfl,rfl,Nat.le_refl _,fun _ _ _=>rfl⟩
theorem Kp.trans'{F G:Nat->Prop}{a b c:World}(h:Kp F a b)(k:Kp G b c)(hg:∀i,i<a.heap.size->G i->F i):Kp F a c:=
 ⟨k.os.trans h.os,k.tape.trans h.tape,k.output.trans h.output,Nat.le_trans h.size k.size,fun i hi hf=>
  (k.block i (Nat.lt_of_lt_of_le hi h.size) (fun g=>hf (hg i hi g))).trans (h.block i hi hf)⟩
theorem Kp.trans{F:Nat->Prop}{a b c:World}(h:Kp F a b)(k:Kp F b c):Kp F a c:=h.trans' k fun _ _ g=>g
theorem Kp.mono{F G:Nat->Prop}{a b:World}(h:Kp F a b)(hg:∀i,i<a.heap.size->F i->G i):Kp G a b:=
 ⟨h.os,h.tape,h.output,h.size,fun i hi hf=>h.block i hi fun x=>hf (hg i hi x)⟩
theorem Kp.ext{F:Nat->Prop}{a b c:World}(h:Kp F a b)(k:Ext b c):Kp F a c:=h.trans' k fun _ _ g=>g.elim
theorem Ext.kp{F:Nat->Prop}{a b:World}(h:Ext a b):Kp F a b:=h.mono fun _ _ x=>x.elim
theorem Kp.alloc{F:Nat->Prop}{a b:World}(h:Kp F a b)(o:Obj):Kp F a (b.alloc o):=
 h.ext ⟨rfl,rfl,rfl,by simp,fun k hk _=>Below.heap_alloc _ _ _ hk⟩
theorem xAX{w w':World}{o:Obj}(e:w.alloc o=w'):Ext w w':=by subst e;exact(Kp.refl w).alloc o
theorem Kp.drew{F:Nat->Prop}{a b:World}(h:Kp F a b):Kp F a b.drew:=⟨h.os,h.tape,h.output,h.size,h.block⟩
theorem Kp.drewN{F:Nat->Prop}{a b:World}(h:Kp F a b)(n:Nat):Kp F a (b.drewN n):=⟨h.os,h.tape,h.output,h.size,h.block⟩
theorem Kp.setCell{F:Nat->Prop}{a b:World}(h:Kp F a b){p:Addr}(hp:p.block<a.heap.size->F p.block)(u:Value):Kp F a (b.setCell p u):=by refine h.trans' (G:=fun k=>k=p.block) ⟨rfl,rfl,rfl,by simp [World.setCell],fun k hk hf=>Below.heap_setCell _ _ _ _ hf⟩ ?_;rintro i hi rfl;exact hp hi
theorem Kp.below{w w':World}(h:Ext w w'):Below w.heap.size w w':=⟨h.os,h.tape,h.output,h.size,fun k hk=>h.block k hk id⟩
theorem Kp.of_below{w w':World}(h:Below w.heap.size w w'):Ext w w':=⟨h.os,h.tape,h.output,h.size,fun k hk _=>h.block k hk⟩
theorem Kp.grown{F:Nat->Prop}{a b c:World}{row:Option Nat}(h:Kp F a b)(hg:b.grownBy c row)(hr:∀k,row=some k->k<a.heap.size->F k):Kp F a c:=
 h.trans' (G:=fun k=>row=some k) ⟨hg.os,hg.tape,hg.output,hg.size,fun k hk hf=>hg.block k hk fun e=>hf e.symm⟩ fun i hi e=>hr i e hi
theorem Kp.cell{F:Nat->Prop}{w w':World}(h:Kp F w w'){b o:Nat}{v:Value}(hc:w.cell? ⟨b,o,none⟩=some v)(hf:¬F b):w'.cell? ⟨b,o,none⟩=some v:=by have hb:b<w.heap.size:=World.block_lt_of_cell? _ _ hc;rw [World.cell?_of_block (w:=w) (h.block b hb hf)];exact hc
def Blk(w:World)(g:Nat)(cs:List Value)(e:TypeId):Prop:=w.heap[g]?=some (.cells cs.toArray e (0,0))
section
variable {w w':World}{g:Nat}{cs:List Value}{e:TypeId}
theorem Blk.lt(h:Blk w g cs e):g<w.heap.size:=lt_of_block h
theorem Blk.cell(h:Blk w g cs e)(i:Nat)(hi:i<cs.length):w.cell? ⟨g,i,none⟩=some cs[i]:=by unfold Blk at h;simp [World.cell?,h,hi]
theorem Blk.cell'(h:Blk w g cs e)(i:Nat):w.cell? ⟨g,i,none⟩=cs[i]?:=by unfold Blk at h;simp [World.cell?,h]
theorem Blk.c0{a0:Value}{l:List Value}(h:Blk w g (a0::l) e):w.cell? ⟨g,0,none⟩=some a0:=by rw [h.cell'];rfl
theorem Blk.c1{a0 a1:Value}{l:List Value}(h:Blk w g (a0::a1::l) e):w.cell? ⟨g,1,none⟩=some a1:=by rw [h.cell'];rfl
theorem Blk.c2{a0 a1 a2:Value}{l:List Value}(h:Blk w g (a0::a1::a2::l) e):w.cell? ⟨g,2,none⟩=some a2:=by rw [h.cell'];rfl
theorem Blk.c3{a0 a1 a2 a3:Value}{l:List Value}(h:Blk w g (a0::a1::a2::a3::l) e):w.cell? ⟨g,3,none⟩=some a3:=by rw [h.cell'];rfl
theorem Blk.c4{a0 a1 a2 a3 a4:Value}{l:List Value}(h:Blk w g (a0::a1::a2::a3::a4::l) e):w.cell? ⟨g,4,none⟩=some a4:=by rw [h.cell'];rfl
theorem Blk.c5{a0 a1 a2 a3 a4 a5:Value}{l:List Value}(h:Blk w g (a0::a1::a2::a3::a4::a5::l) e):w.cell? ⟨g,5,none⟩=some a5:=by rw [h.cell'];rfl
theorem Blk.c6{a0 a1 a2 a3 a4 a5 a6:Value}{l:List Value}(h:Blk w g (a0::a1::a2::a3::a4::a5::a6::l) e):w.cell? ⟨g,6,none⟩=some a6:=by rw [h.cell'];rfl
theorem Blk.c7{a0 a1 a2 a3 a4 a5 a6 a7:Value}{l:List Value}(h:Blk w g (a0::a1::a2::a3::a4::a5::a6::a7::l) e):w.cell? ⟨g,7,none⟩=some a7:=by rw [h.cell'];rfl
theorem Blk.c8{a0 a1 a2 a3 a4 a5 a6 a7 a8:Value}{l:List Value}(h:Blk w g (a0::a1::a2::a3::a4::a5::a6::a7::a8::l) e):w.cell? ⟨g,8,none⟩=some a8:=by rw [h.cell'];rfl
theorem kSa{w:World}{g i:Nat}{v:Value}:Kp (fun k=>k=g) w (w.setCell ⟨g,i,none⟩ v):=Kp.setCell (F:=fun k=>k=g) (p:=⟨g,i,none⟩) (Kp.refl w) (fun _=>rfl) _
theorem kSb{w:World}{g i j:Nat}{u v:Value}:Kp (fun k=>k=g) w ((w.setCell ⟨g,i,none⟩ u).setCell ⟨g,j,none⟩ v):=Kp.setCell (F:=fun k=>k=g) (p:=⟨g,j,none⟩) kSa (fun _=>rfl) _
theorem Blk.free(h:Blk w g cs e)(i:Nat):w.frozen? ⟨g,i,none⟩=false:=by unfold Blk at h;simp [World.frozen?,h]
theorem Blk.kp{F:Nat->Prop}(h:Blk w g cs e)(k:Kp F w w')(hf:¬F g):Blk w' g cs e:=(k.block g h.lt hf).trans h
theorem Blk.ext(h:Blk w g cs e)(k:Ext w w'):Blk w' g cs e:=h.kp k id
theorem Blk.alloc(h:Blk w g cs e)(o:Obj):Blk (w.alloc o) g cs e:=h.ext ((Kp.refl w).alloc o)
theorem Blk.drew(h:Blk w g cs e):Blk w.drew g cs e:=h
theorem Blk.new(w:World)(cs:List Value)(e:TypeId):Blk (w.alloc (.cells cs.toArray e)) w.heap.size cs e:=by show(w.heap.push _)[w.heap.size]?=_;simp
theorem bNX{w w1:World}{g:Nat}{cs:List Value}{t:TypeId}(eg:w.heap.size=g)(e:w.alloc (.cells cs.toArray t)=w1):Blk w1 g cs t:=by subst eg e;exact Blk.new w cs t
theorem Blk.set(h:Blk w g cs e)(i:Nat)(v:Value):Blk (w.setCell ⟨g,i,none⟩ v) g (cs.set i v) e:=by unfold Blk at*;simp only [World.setCell,Array.getElem?_modify,h];simp
theorem Blk.congrL{cs':List Value}(h:Blk w g cs e)(hc:cs=cs'):Blk w g cs' e:=hc▸h
theorem Blk.other(h:Blk w g cs e){p:Addr}(hp:g≠p.block)(v:Value):Blk (w.setCell p v) g cs e:=by unfold Blk at*;rw [Below.heap_setCell _ _ _ _ hp];exact h
end
def CellsAt(w:World)(ao:Option Addr)(vs:List Value):Prop:=
 ∀i u,vs[i]?=some u->∃b off,ao=some ⟨b,off,none⟩/\w.cell? ⟨b,off+i,none⟩=some u
def Off(F:Nat->Prop)(ao:Option Addr):Prop:=∀a,ao=some a->¬F a.block
section
variable {w w':World}{ao:Option Addr}{vs:List Value}
theorem CellsAt.nil(w:World)(ao:Option Addr):CellsAt w ao []:=fun i u h=>by simp at h
theorem CellsAt.kp{F:Nat->Prop}(h:CellsAt w ao vs)(k:Kp F w w')(hf:Off F ao):CellsAt w' ao vs:=fun i u hu=>by obtain⟨b,off,h1,h2⟩:=h i u hu;exact⟨b,off,h1,k.cell h2 (hf _ h1)⟩
theorem CellsAt.ext(h:CellsAt w ao vs)(k:Ext w w'):CellsAt w' ao vs:=h.kp k fun _ _=>id
theorem CellsAt.alloc(h:CellsAt w ao vs)(o:Obj):CellsAt (w.alloc o) ao vs:=h.ext ((Kp.refl w).alloc o)
theorem CellsAt.drewN(h:CellsAt w ao vs)(n:Nat):CellsAt (w.drewN n) ao vs:=h.ext ((Kp.refl w).drewN n)
theorem CellsAt.getv(h:CellsAt w ao vs){k:Nat}(hk:k<vs.length):∃b off,ao=some ⟨b,off,none⟩/\w.cell? ⟨b,off+k,none⟩=some vs[k]:=
 h k _ (qG hk)
theorem CellsAt.off(h:CellsAt w ao vs)(hv:vs≠ []):∃b off,ao=some ⟨b,off,none⟩/\b<w.heap.size:=by
 have hk:0<vs.length:=by cases vs<;>simp_all
 obtain⟨b,off,h1,h2⟩:=h.getv hk;exact⟨b,off,h1,World.block_lt_of_cell? _ _ h2⟩
theorem CellsAt.blk{g off:Nat}{cs:List Value}{e:TypeId}(h:Blk w g cs e)(n:Nat):CellsAt w (some ⟨g,off,none⟩) ((cs.drop off).take n):=fun i u hu=>by
 refine⟨g,off,rfl,?_⟩;rw [h.cell'];rw [List.getElem?_take]at hu;split at hu
 ·rw [List.getElem?_drop]at hu;exact hu
 ·cases hu
theorem CellsAt.pre{g:Nat}{xs rest:List Value}{e:TypeId}(h:Blk w g (xs++rest) e):CellsAt w (some ⟨g,0,none⟩) xs:=by have:=CellsAt.blk (off:=0) h xs.length;simpa using this
theorem CellsAt.one(w:World)(x:Value)(e:TypeId):CellsAt (w.alloc (.cells #[x] e)) (some ⟨w.heap.size,0,none⟩) [x]:=by have:=Blk.new w [x] e;exact CellsAt.pre (rest:= []) this
theorem CellsAt.two(w:World)(x y:Value)(e:TypeId):CellsAt (w.alloc (.cells #[x,y] e)) (some ⟨w.heap.size,0,none⟩) [x,y]:=by have:=Blk.new w [x,y] e;exact CellsAt.pre (rest:= []) this
end
def strs(ss:List ByteArray):List Value:=ss.map Value.string
def ints(zs:List Int):List Value:=zs.map (Value.int .i64)
theorem aHl(ss:List ByteArray)(k:Nat)(hk:k<ss.length):(strs ss)[k]?=some (.string ss[k]):=by simp [strs,hk]
theorem dR(ss:List ByteArray):(strs ss).length=ss.length:=by simp [strs]
theorem aC6(ss:List Int):(ints ss).length=ss.length:=by simp [ints]
theorem CellsAt.str{w:World}{ao:Option Addr}{ss:List ByteArray}(h:CellsAt w ao (strs ss)){k:Nat}(hk:k<ss.length):∃b off,ao=some ⟨b,off,none⟩/\w.cell? ⟨b,off+k,none⟩=some (.string ss[k]):=
 h k _ (aHl ss k hk)
def Row(w:World)(e:TypeId)(k:Nat)(v:Value)(n:Nat)(xs:List Value)(M:Nat->Prop):Prop:=
 xs.length=n*k/\(v= .slice none 0 0/\n=0\/
  ∃g cap rest,v= .slice (some ⟨g,0,none⟩) n cap/\M g/\Blk w g (xs++rest) e/\(xs++rest).length=cap*k/\n≤cap/\cap≤maxLen)
section
variable {w w':World}{e:TypeId}{k:Nat}{v:Value}{n:Nat}{xs:List Value}{M:Nat->Prop}
theorem Row.nil(w:World)(e:TypeId)(k:Nat)(M:Nat->Prop):Row w e k (.slice none 0 0) 0 [] M:=⟨by simp,.inl ⟨rfl,rfl⟩⟩
theorem Row.mono{M':Nat->Prop}(h:Row w e k v n xs M)(hm:∀g,M g->M' g):Row w e k v n xs M':=by
 obtain⟨h1,h2|⟨g,cap,rest,a,b,c⟩⟩:=h
 ·exact⟨h1,.inl h2⟩
 ·exact⟨h1,.inr ⟨g,cap,rest,a,hm g b,c⟩⟩
theorem Row.kp'{F:Nat->Prop}(h:Row w e k v n xs M)(hk:Kp F w w')(hf:∀g,v.ownBlock=some g->M g->¬F g):Row w' e k v n xs M:=by
 obtain⟨h1,h2|⟨g,cap,rest,a,b,c,d⟩⟩:=h
 ·exact⟨h1,.inl h2⟩
 ·exact⟨h1,.inr ⟨g,cap,rest,a,b,c.kp hk (hf g (by rw [a];rfl) b),d⟩⟩
theorem Row.kp{F:Nat->Prop}(h:Row w e k v n xs M)(hk:Kp F w w')(hf:∀g,M g->¬F g):Row w' e k v n xs M:=h.kp' hk fun g _=>hf g
theorem Row.ext(h:Row w e k v n xs M)(hk:Ext w w'):Row w' e k v n xs M:=h.kp hk fun _ _=>id
theorem Row.alloc(h:Row w e k v n xs M)(o:Obj):Row (w.alloc o) e k v n xs M:=h.ext ((Kp.refl w).alloc o)
theorem Row.drew(h:Row w e k v n xs M):Row w.drew e k v n xs M:=h.ext ((Kp.refl w).drew)
theorem Row.drewN(h:Row w e k v n xs M)(m:Nat):Row (w.drewN m) e k v n xs M:=h.ext ((Kp.refl w).drewN m)
theorem Row.shape(h:Row w e k v n xs M):∃ao cap,v= .slice ao n cap/\CellsAt w ao xs/\n≤cap:=by
 obtain⟨h1,⟨rfl,rfl⟩|⟨g,cap,rest,rfl,b,c,d,e,f⟩⟩:=h
 ·have:xs= []:=List.eq_nil_of_length_eq_zero (by simpa using h1);subst this;exact⟨none,0,rfl,CellsAt.nil _ _,Nat.le_refl _⟩
 ·exact⟨_,cap,rfl,CellsAt.pre c,e⟩
theorem Row.empty(w:World)(e:TypeId)(k:Nat)(M:Nat->Prop)(hM:M w.heap.size):Row (w.alloc (.cells #[] e)) e k (.slice (some ⟨w.heap.size,0,none⟩) 0 0) 0 [] M:=
 ⟨by simp,.inr ⟨_,0,[],rfl,hM,Blk.new w [] e,by simp,Nat.le_refl _,by decide⟩⟩
theorem Row.block(h:Row w e k v n xs M):∀g,v.ownBlock=some g->M g:=by
 obtain⟨h1,⟨rfl,rfl⟩|⟨g,cap,rest,rfl,b,c,d⟩⟩:=h
 ·intro g hg;cases hg
 ·intro g' hg;cases hg;exact b
end
def cL(P:Program)(t e:TypeId)(k bytes:Nat)(z:Value):Prop:=
 P.underlying t=some (.slice e)/\(P.info? e).map (fun i=>(i.zero,i.size,i.bytes))=some (some z,k,bytes)/\z.cells.size=k/\0<k
section
variable {P:Program}{w:World}{t e:TypeId}{k bytes:Nat}{z:Value}
theorem kT(E:cL P t e k bytes z)(ty:TypeId){ao:Option Addr}{n cap:Nat}(hc:n≤cap)(ao':Option Addr)(c:Nat):
 (Builtin.append_ #[t,t] ty #[.slice ao n cap,.slice ao' 0 c]).run P w= .ok (.slice ao n cap) w:=by
 obtain⟨ht,hi,hz,hk⟩:=E;obtain⟨i,hi,h1,h2,h3⟩:=info_parts hi;cases ao'<;>cases ao<;>simp [Builtin.append_,run_underlying ht,sizeOf,typeInfo,hi,Builtin.lenOf,Builtin.firstCells,loadCells,loadCellsFrom,hc,storeCells]
theorem oE(E:cL P t e k bytes z)(ty:TypeId){v:Value}{n:Nat}{xs:List Value}{M:Nat->Prop}(hr:Row w e k v n xs M)
 {ao:Option Addr}{m c:Nat}{news:List Value}(hl:news.length=m*k)(hs:CellsAt w ao news)(h1:∀u∈news,u.oneCell'=true)(hb:(n+m)*bytes≤140737488355328)(h63:n+m≤maxLen):
 ∃v' w',(Builtin.append_ #[t,t] ty #[v,.slice ao m c]).run P w= .ok v' w'/\Row w' e k v' (n+m) (xs++news) (fun g=>v.ownBlock=some g\/w.heap.size≤g)/\Kp (fun g=>v.ownBlock=some g) w w'/\(v'= .slice none 0 0↔v= .slice none 0 0/\m=0):=by
 by_cases hm:m=0
 ·subst hm;have hn:news= []:=List.eq_nil_of_length_eq_zero (by simpa using hl);subst hn;obtain⟨ao1,cap1,rfl,_,hcap⟩:=hr.shape;refine⟨_,w,kT E ty hcap _ _,?_,Kp.refl _,by simp⟩;simp only [Nat.add_zero,List.append_nil];obtain⟨h1,h2|⟨g,cap,rest,a,b,c⟩⟩:=hr
  ·exact⟨h1,.inl h2⟩
  ·exact⟨h1,.inr ⟨g,cap,rest,a,.inl (by rw [a];rfl),c⟩⟩
 ·have hne:news≠ []:=by
   rintro rfl;have h0:=Nat.mul_pos (Nat.pos_of_ne_zero hm) E.2.2.2;simp only [List.length_nil]at hl;omega
  obtain⟨b,off,rfl,hlt⟩:=hs.off hne;have hsrc:∀j u,news[j]?=some u->w.cell? ((⟨b,off,none⟩:Addr).add j)=some u:=fun j u hu=>by obtain⟨b',off',he,hc⟩:=hs j u hu;cases he;rw [Addr.add_lit];exact hc
  obtain⟨ht,hi,hz,hk⟩:=E;obtain⟨i,hi,hz1,hz2,hz3⟩:=info_parts hi;have hsmall:n+m≤9223372036854775807:=h63;have grown:∀old,(w.drew.alloc (.cells (xs.toArray++news.toArray++Builtin.zeroCells z.cells (grownCap w (n+m) old e- (n+m))) e)).heap[w.heap.size]?=
   some (.cells ((xs++news)++(Builtin.zeroCells z.cells (grownCap w (n+m) old e- (n+m))).toList).toArray e (0,0)):=fun old=>by
   show(w.heap.push _)[w.heap.size]?=_;simp
  have lens:∀old,((xs++news)++(Builtin.zeroCells z.cells (grownCap w (n+m) old e- (n+m))).toList).length=grownCap w (n+m) old e*k:=fun old=>by
   have hge:=grownCap_ge w (n+m) old e;simp only [List.length_append,Array.length_toList,size_zeroCells,hz,hr.1,hl,<-Nat.add_mul]
   congr 1;omega
  obtain⟨hx,⟨rfl,rfl⟩|⟨g,cap,rest,rfl,hM,hB,hlen,hnc,hcm⟩⟩:=hr
  ·have hx0:xs= []:=List.eq_nil_of_length_eq_zero (by simpa using hx);subst hx0;have hr:=run_append_nil (P:=P) w t ty e i z ht hi hz1 ⟨b,off,none⟩ m c news (by rw [hz2];exact hl) hsrc (by omega) (by omega) (by rw [hz3];simp only [Nat.zero_add]at hb;omega);refine⟨_,_,hr,?_,⟨rfl,rfl,rfl,by simp,fun k hk _=>Below.heap_alloc w.drew _ k hk⟩,by simp [hm]⟩;have h0:=grown 0;have h2:=lens 0;simp only [Nat.zero_add,List.nil_append,Array.empty_append]at h0 h2 ⊢;exact⟨hl,.inr ⟨_,_,_,rfl,.inr (Nat.le_refl _),h0,h2,grownCap_ge w m 0 e,grownCap_le_maxLen w m 0 e (by omega)⟩⟩
  ·by_cases hroom:n+m≤cap
   ·have hr:=run_append_room (P:=P) w t ty e i ht hi g n cap _ hB ⟨b,off,none⟩ m c news (by rw [hz2];exact hl) hsrc h1 hroom (by
     simp only [hz2,List.size_toArray,hlen,hl,<-Nat.add_mul];exact Nat.mul_le_mul_right _ hroom)
    refine⟨_,_,hr,⟨by rw [List.length_append,hx,hl,Nat.add_mul],.inr ⟨g,cap,rest.drop news.length,rfl,.inl rfl,?_,?_,hroom,hcm⟩⟩,⟨rfl,rfl,rfl,by simp,fun k _ hk=>setRow_other w g k _ (fun e=>hk (by simp [Value.ownBlock,e]))⟩,by simp⟩
    ·show _=_;rw [setRow_heap w g _ _ e _ hB]
     congr 2
     simp only [hz2];rw [<-hx];simp
    ·have:news.length≤rest.length:=by
      have:=hlen;simp only [List.length_append,hx]at this;have h3:(n+m)*k≤cap*k:=Nat.mul_le_mul_right _ hroom;rw [Nat.add_mul]at h3;omega
     simp only [List.length_append,List.length_drop]at hlen ⊢;omega
   ·have holds:∀j u,xs[j]?=some u->w.cell? ((⟨g,0,none⟩:Addr).add j)=some u:=fun j u hu=>by
     rw [Addr.add_lit,Nat.zero_add,hB.cell',List.getElem?_append_left (List.getElem?_eq_some_iff.1 hu).1];exact hu
    have hr:=run_append_grow (P:=P) w t ty e i z ht hi hz1 ⟨g,0,none⟩ n cap xs (by rw [hz2];exact hx) holds ⟨b,off,none⟩ m c news (by rw [hz2];exact hl) hsrc (by omega) (by omega) (by rw [hz3];exact growslice_fits (by omega) hb);exact⟨_,_,hr,⟨by rw [List.length_append,hx,hl,Nat.add_mul],.inr ⟨_,_,_,rfl,.inr (Nat.le_refl _),grown cap,lens cap,grownCap_ge w (n+m) cap e,grownCap_le_maxLen w (n+m) cap e (by omega)⟩⟩,⟨rfl,rfl,rfl,by simp,fun k hk _=>Below.heap_alloc w.drew _ k hk⟩,by simp⟩
theorem rA(E:cL P t e k bytes z){ops:Array Oper}{rest:List Oper}{o:Oper}{a:Act}{Q:Exit->Act->World->Prop}(hgd:o.guard=none)(s x:Operand)
 (ho:o.op= .call {callee:= .builtin .append,args:=#[s,x],argTypes:=#[t,t]})
 {F:Nat->Prop}{w0:World}(hkp:Kp F w0 w){M:Nat->Prop}(hM:∀g,M g->g<w0.heap.size->F g)(hN:∀g,w.heap.size≤g->M g)
 {v:Value}{n:Nat}{xs:List Value}(hs:a.eval s=v)(hr:Row w e k v n xs M)
 {ao:Option Addr}{m c:Nat}{news:List Value}(hx:a.eval x= .slice ao m c)(hl:news.length=m*k)(hsrc:CellsAt w ao news)(h1:∀u∈news,u.oneCell'=true)
 (hb:(n+m)*bytes≤140737488355328)(h63:n+m≤maxLen)
 (h:∀v' w',Row w' e k v' (n+m) (xs++news) M->Kp F w0 w'->Kp (fun g=>v.ownBlock=some g) w w'->(v'= .slice none 0 0↔v= .slice none 0 0/\m=0)->wpList P ops Q rest (a.put o.dst v') w'):wpList P ops Q (o::rest) a w:=by
 refine wpList_plain hgd fun K hK=>?_;obtain⟨v',w',hrun,h2,h3,h4⟩:=oE (P:=P) E o.type hr hl hsrc h1 hb h63 (c:=c);unfold Oper.wp execOp;simp only [ho,resolve,invoke,builtin,Sem.run_bind,Sem.run_pure,Result.andThen_ok,List.map_toArray,List.map_cons,List.map_nil,hs,hx,hrun];refine hK _ _ (h v' w' (h2.mono fun g hg=>?_) (hkp.trans' h3 fun i hi hg=>hM i (hr.block i hg) hi) h3 h4);rcases hg with hg|hg
 ·exact hr.block g hg
 ·exact hN g hg
theorem bQ(E:cL P t e k bytes z){ops:Array Oper}{rest:List Oper}{o:Oper}{a:Act}{Q:Exit->Act->World->Prop}(hgd:o.guard=none)(s x:Operand)
 (ho:o.op= .call {callee:= .builtin .append,args:=#[s,x],argTypes:=#[t,t]})
 {F:Nat->Prop}{w0:World}(hkp:Kp F w0 w)
 {v:Value}{n:Nat}{xs:List Value}(hs:a.eval s=v)(hr:Row w e k v n xs (New w0))
 {ao:Option Addr}{m c:Nat}{news:List Value}(hx:a.eval x= .slice ao m c)(hsrc:CellsAt w ao news)(hl:news.length=m*k)(h1:∀u∈news,u.oneCell'=true)
 (hb:(n+m)*bytes≤140737488355328)(h63:n+m≤maxLen)
 (h:∀v' w',Row w' e k v' (n+m) (xs++news) (New w0)->Kp F w0 w'->Kp (fun g=>v.ownBlock=some g) w w'->(v'= .slice none 0 0↔v= .slice none 0 0/\m=0)->wpList P ops Q rest (a.put o.dst v') w'):wpList P ops Q (o::rest) a w:=
 rA E hgd s x ho hkp (fun g h1 h2=>absurd h2 (Nat.not_lt.2 h1)) (fun g h1=>Nat.le_trans hkp.size h1) hs hr hx hl hsrc h1 hb h63 h
end
def Halted(p:Prop):Prop:=p
theorem Halted.out{p:Prop}(h:Halted p):p:=h
theorem Halted.mk{p:Prop}(h:p):Halted p:=h
def RetN(w:World)(P:World->Value->Prop)(e:Ending)(w':World):Prop:=∃v,e= .returned v/\Ext w w'/\P w' v
theorem RetN.mk{w w':World}{P:World->Value->Prop}{v:Value}(h:Ext w w')(hp:P w' v):RetN w P (.returned v) w':=⟨v,rfl,h,hp⟩
def RetF(F:Nat->Prop)(w:World)(P:World->Value->Prop)(e:Ending)(w':World):Prop:=∃v,e= .returned v/\Kp F w w'/\P w' v
theorem RetF.mk{F:Nat->Prop}{w w':World}{P:World->Value->Prop}{v:Value}(h:Kp F w w')(hp:P w' v):RetF F w P (.returned v) w':=⟨v,rfl,h,hp⟩
def Same(S:Nat->Prop)(w0 w:World):Prop:=∀k,S k->k<w0.heap.size/\w.heap[k]?=w0.heap[k]?
section
variable {S S':Nat->Prop}{w0 w w':World}
theorem Same.refl(h:∀k,S k->k<w.heap.size):Same S w w:=fun k hk=>⟨h k hk,rfl⟩
theorem Same.trans(h:Same S w0 w)(h':Same S w w'):Same S w0 w':=fun k hk=>⟨(h k hk).1,(h' k hk).2.trans (h k hk).2⟩
theorem Kp.same{F:Nat->Prop}(h:Kp F w w')(hS:∀k,S k->k<w.heap.size)(hd:∀k,S k->¬F k):Same S w w':=fun k hk=>⟨hS k hk,h.block k (hS k hk) (hd k hk)⟩
end
theorem Row.lt{w:World}{e:TypeId}{k:Nat}{v:Value}{n:Nat}{xs:List Value}{M:Nat->Prop}(h:Row w e k v n xs M):∀g,v.ownBlock=some g->g<w.heap.size:=by
 obtain⟨_,⟨rfl,_⟩|⟨g,cap,rest,rfl,_,hb,_⟩⟩:=h
 ·intro g hg;cases hg
 ·intro g' hg;have e:g=g':=Option.some.inj hg;rw [<-e];exact hb.lt
theorem aI(w:World)(o:Obj):(w.alloc o).heap.size=w.heap.size+1:=by simp
def eY(b:Nat)(iv:Value)(k:Nat):Prop:=k=b\/iv.ownBlock=some k
end
section
open Go.RowKit Go.Shelf
def SameOn(S:Nat->Prop)(w w':World):Prop:=w.heap.size≤w'.heap.size/\∀k,S k->w'.heap[k]?=w.heap[k]?
theorem SameOn.refl(S:Nat->Prop)(w:World):SameOn S w w:=⟨Nat.le_refl _,fun _ _=>rfl⟩
theorem SameOn.trans{S:Nat->Prop}{a b c:World}(h:SameOn S a b)(k:SameOn S b c):SameOn S a c:=⟨Nat.le_trans h.1 k.1,fun i hi=>(k.2 i hi).trans (h.2 i hi)⟩
theorem SameOn.put{S:Nat->Prop}{w:World}(hS:∀k,S k->k<w.heap.size)(W:World)(l:Nat)(o o':Obj)(hl:w.heap.size≤l)(h:W.heap[l]?=some o)(_:o.isCells=false)(_:o.isWalk=false):SameOn S W (W.putObj l o'):=by have hg:=grownBy_putObj' W l o';refine⟨hg.size,fun k hk=>hg.block k ?_ fun e=>by have:=hS k hk;cases e;omega⟩;have:=hS k hk;have:=(Array.getElem?_eq_some_iff.1 h).1;omega
theorem SameOn.of_kp{F:Nat->Prop}{S:Nat->Prop}{w w':World}(h:Kp F w w')(hS:∀k,S k->k<w.heap.size)(hd:∀k,S k->¬F k):SameOn S w w':=⟨h.size,fun k hk=>h.block k (hS k hk) (hd k hk)⟩
theorem SameOn.cell{S:Nat->Prop}{w w':World}(h:SameOn S w w'){b o:Nat}(hb:S b):w'.cell? ⟨b,o,none⟩=w.cell? ⟨b,o,none⟩:=World.cell?_of_block (h.2 b hb)
def Marks(lo:Nat)(w:World)(ds:List Deferred):Prop:=
 ∃Ds:List Nat,ds=Ds.map (fun D=>{target:= .collected D,args:=#[]})/\Ds.Nodup/\∀D∈Ds,lo≤D/\w.heap[D]?=some (.deferred (some []))
theorem Marks.nil(lo:Nat)(w:World):Marks lo w []:=⟨[],rfl,List.nodup_nil,by simp⟩
theorem Marks.kp{F:Nat->Prop}{lo:Nat}{w w':World}{ds:List Deferred}(h:Marks lo w ds)(hk:Kp F w w')(hF:∀k,F k->k<lo):Marks lo w' ds:=by obtain⟨Ds,e,hn,h⟩:=h;refine⟨Ds,e,hn,fun D hD=>⟨(h D hD).1,?_⟩⟩;obtain⟨h1,h2⟩:=h D hD;exact(hk.block D (lt_of_block h2) fun hf=>by have:=hF D hf;omega).trans h2
theorem Marks.others{lo:Nat}{w w':World}{ds:List Deferred}(h:Marks lo w ds)(hk:KeepsOthers w w'):Marks lo w' ds:=by obtain⟨Ds,e,hn,h⟩:=h;exact⟨Ds,e,hn,fun D hD=>⟨(h D hD).1,hk.same D _ (h D hD).2 rfl⟩⟩
theorem Marks.push{lo:Nat}{w w':World}{ds:List Deferred}{D:Nat}(h:Marks lo w ds)(hk:∀(k:Nat) (o:Obj),w.heap[k]?=some o->o.isCells=false->w'.heap[k]?=some o)(hD:w.heap.size≤D)(hlo:lo≤D)(hd:w'.heap[D]?=some (.deferred (some []))):
 Marks lo w' ({target:= .collected D,args:=#[]}::ds):=by
 obtain⟨Ds,e,hn,h⟩:=h;refine⟨D::Ds,by rw [e];rfl,List.nodup_cons.2 ⟨fun hm=>?_,hn⟩,fun D' hD'=>?_⟩
 ·have:=lt_of_block (h D hm).2;omega
 ·rcases List.mem_cons.1 hD' with rfl|hD'
  ·exact⟨hlo,hd⟩
  ·exact⟨(h D' hD').1,hk D' _ (h D' hD').2 rfl⟩
theorem fD{P:Program}{F:Fence}{n:Nat}{fn:Func}{tmps:Array Value}{R:Ending->World->Prop}{lo:Nat}{w:World}{ds:List Deferred}(h:Marks lo w ds)
 (hR:∀w',w'.os=w.os->w'.tape=w.tape->w'.output=w.output->w'.heap.size=w.heap.size->(∀k:Nat,k<lo->w'.heap[k]?=w.heap[k]?)->(∀(k:Nat) (o:Obj),w.heap[k]?=some o->o.isCells=true->w'.heap[k]?=some o)->
  LeavesIn F n P fn tmps R [] .returning w'):LeavesInM F n P fn tmps R ds .returning w:=by
 obtain⟨Ds,rfl,hn,h⟩:=h;induction Ds generalizing w with
 |nil=>exact hR w rfl rfl rfl rfl (fun _ _=>rfl) (fun _ _ h _=>h)
 |cons D Ds ih=>
  obtain⟨h1,h2⟩:=List.nodup_cons.1 hn;obtain⟨hlo,hD⟩:=h D (by simp);have hg:=grownBy_putObj' w D (.deferred none);have hlt:=lt_of_block hD;refine⟨by simp,.inl ⟨D,_,rfl,run_takeDeferred hD,?_⟩⟩;have hsz:(w.putObj D (.deferred none)).heap.size=w.heap.size:=by simp [World.putObj]
  refine ih (fun w' e1 e2 e3 e4 e5 e6=>hR w' (e1.trans hg.os) (e2.trans hg.tape) (e3.trans hg.output) (e4.trans hsz) (fun k hk=>(e5 k hk).trans (hg.block k (by omega) (by rintro⟨⟩;omega))) (fun k o hk ho=>?_)) h2 (fun D' hD'=>?_)
  ·refine e6 k o ((hg.block k (lt_of_block hk) ?_).trans hk) ho;rintro⟨⟩;rw [hD]at hk;cases hk;cases ho
  ·obtain⟨h3,h4⟩:=h D' (List.mem_cons_of_mem _ hD');refine⟨h3,(hg.block D' (lt_of_block h4) ?_).trans h4⟩;rintro⟨⟩;exact h1 hD'
theorem uI{P:Program}{FF:Fence}{nF:Nat}{w:World}{t e:TypeId}{k bytes:Nat}{z:Value}(E:cL P t e k bytes z){ops:Array Oper}{rest:List Oper}{o:Oper}{a:Act}{Q:Exit->Act->World->Prop}(hgd:o.guard=none)(s x:Operand)
 (ho:o.op= .call {callee:= .builtin .append,args:=#[s,x],argTypes:=#[t,t]})
 {F:Nat->Prop}{w0:World}(hkp:Kp F w0 w){M:Nat->Prop}(hM:∀g,M g->g<w0.heap.size->F g)(hN:∀g,w.heap.size≤g->M g)
 {v:Value}{n:Nat}{xs:List Value}(hs:a.eval s=v)(hr:Row w e k v n xs M)
 {ao:Option Addr}{m c:Nat}{news:List Value}(hx:a.eval x= .slice ao m c)(hl:news.length=m*k)(hsrc:CellsAt w ao news)(h1:∀u∈news,u.oneCell'=true)
 (hb:(n+m)*bytes≤140737488355328)(h63:n+m≤maxLen)
 (h:∀v' w',Row w' e k v' (n+m) (xs++news) M->Kp F w0 w'->Kp (fun g=>v.ownBlock=some g) w w'->KeepsOthers w w'->(v'= .slice none 0 0↔v= .slice none 0 0/\m=0)->wpListIn FF nF P ops Q rest (a.put o.dst v') w'):wpListIn FF nF P ops Q (o::rest) a w:=by
 refine wpListIn_plain hgd fun K hK=>?_;obtain⟨v',w',hrun,h2,h3,h4⟩:=oE (P:=P) E o.type hr hl hsrc h1 hb h63 (c:=c);unfold Oper.wpIn;refine⟨by simp [Oper.about,ho,resolve,Target.leads,Sem.run_pure],?_⟩;rw [Oper.semAt_plain FF _ _ (by rw [ho];intro c hc';cases hc')];simp only [execOp,ho,resolve,invoke,builtin,Sem.run_bind,Sem.run_pure,Result.andThen_ok,List.map_toArray,List.map_cons,List.map_nil,hs,hx,hrun];refine hK _ _ (h v' w' (h2.mono fun g hg=>?_) (hkp.trans' h3 fun i hi hg=>hM i (hr.block i hg) hi) h3 ⟨h3.size,fun k o hk ho=>?_⟩ h4)
 ·rcases hg with hg|hg
  ·exact hr.block g hg
  ·exact hN g hg
 ·refine(h3.block k (lt_of_block hk) fun hg=>?_).trans hk;obtain⟨_,⟨rfl,_⟩|⟨g,cap,rest',rfl,_,hB,_⟩⟩:=hr
  ·cases hg
  ·cases hg;unfold Blk at hB;rw [hB]at hk;cases hk;cases ho
theorem Row.grown{e:TypeId}{k:Nat}{v:Value}{n:Nat}{xs:List Value}{M:Nat->Prop}{W W':World}{row:Option Nat}(h:Row W e k v n xs M)(hg:W.grownBy W' row)(hr:∀r,row=some r->∃o:Obj,W.heap[r]?=some o/\o.isCells=false):Row W' e k v n xs M:=by
 refine h.kp' (F:=fun i=>row=some i) ((Kp.refl W).grown hg fun i e _=>e) fun g hv _ hrow=>?_;obtain⟨o,ho,hc⟩:=hr g hrow;obtain⟨_,⟨rfl,_⟩|⟨g',cap,rest',rfl,_,hB,_⟩⟩:=h
 ·cases hv
 ·cases hv;unfold Blk at hB;rw [hB]at ho;cases ho;cases hc
theorem Blk.grown{g:Nat}{cs:List Value}{e:TypeId}{W W':World}{row:Option Nat}(h:Blk W g cs e)(hg:W.grownBy W' row)(hr:∀r,row=some r->∃o:Obj,W.heap[r]?=some o/\o.isCells=false):Blk W' g cs e:=by refine h.kp (F:=fun i=>row=some i) ((Kp.refl W).grown hg fun i e _=>e) fun hrow=>?_;obtain⟨o,ho,hc⟩:=hr g hrow;unfold Blk at h;rw [h]at ho;cases ho;cases hc
end
section
open Go.RowKit
theorem wI{k n:Nat}(h:k+1<n)(hn:n≤4611686018427387904):
 IntKind.i64.wrap ((k:Int)+1-1)=(k:Int)/\IntKind.i64.wrap ((k:Int))=(k:Int)/\IntKind.i64.wrap ((k:Int)+1)=(k:Int)+1/\(0:Int)≤(k:Int)+1/\(k:Int)+1< (n:Int)/\((k:Int)+1).toNat=k+1/\k<n:=
 ⟨by rw [IntWalk.i64_in _ (by omega)];omega,IntWalk.i64_in _ (by omega),IntWalk.i64_in _ (by omega),by omega,by omega,by omega,by omega⟩
/-! ### The order of a sort that keeps alike ones in their order: places held against each other -/
structure CmpLaw(c:Nat->Nat->Int):Prop where
 swap:∀i j,c i j<0↔0<c j i
 trans:∀i j k,c i j≤0->c j k≤0->c i k≤0
section
variable {c:Nat->Nat->Int}
variable (L:CmpLaw c)
include L
end
section
variable {c:Nat->Nat->Int}
end
theorem Blk.at{w:World}{g:Nat}{L:List Nat}{f:Nat->Value}{rest:List Value}{e:TypeId}(h:Blk w g (L.map f++rest) e)(t:Nat)(ht:t<L.length):w.cell? ⟨g,t,none⟩=some (f (L.getD t 0)):=by rw [h.cell',List.getElem?_append_left (by simpa using ht)];simp [ht,List.getD]
theorem qO{l:List Nat}{t:Nat}(h:t<l.length):l.getD t 0∈l:=by simp [List.getD,h]
/-! ### Runs: neighbouring parts of the places, each in its order -/
def cI(q:Nat->Nat->Bool)(C:List Nat)(k:Nat):List Nat:=
 ((List.range k).filter fun j=>j==0||!q (C.getD j 0) (C.getD (j-1) 0)).map (C.getD · 0)
section
variable {q:Nat->Nat->Bool}{C:List Nat}
theorem aC4:cI q C 0= []:=rfl
theorem aFg:cI q C 1= [C.getD 0 0]:=rfl
theorem wF{k:Nat}(hk:0<k)(h:q (C.getD k 0) (C.getD (k-1) 0)=true):cI q C (k+1)=cI q C k:=by
 unfold cI;have h0:(k==0)=false:=by simp;omega
 simp only [List.range_succ,List.filter_append,List.filter_cons,List.filter_nil,h,h0,Bool.not_true,Bool.or_false];simp
theorem zC{k:Nat}(h:q (C.getD k 0) (C.getD (k-1) 0)=false):cI q C (k+1)=cI q C k++ [C.getD k 0]:=by unfold cI;simp only [List.range_succ,List.filter_append,List.filter_cons,List.filter_nil,h,Bool.not_false,Bool.or_true];simp
theorem lX{k:Nat}(hk:k≤C.length)(h:∀j,0<j->j<k->q (C.getD j 0) (C.getD (j-1) 0)=false):cI q C k=C.take k:=by
 induction k with
 |zero=>simp [aC4]
 |succ k ih=>
  by_cases h0:k=0
  ·subst h0;cases C with
   |nil=>simp at hk
   |cons x C=>simp [aFg]
  ·rw [zC (h k (by omega) (by omega)),ih (by omega) (fun j h1 h2=>h j h1 (by omega)),List.take_succ_eq_append_getElem (by omega),List.getD_eq_getElem?_getD,qG (by omega)];rfl
end
def aLn(n:Nat)(q:Nat->Nat->Bool)(C:List Nat)(F:Nat->Prop)(w0:World)(kv:Value)(w:World):Prop:=
 ∃k:Nat,1≤k/\k≤n/\kv= .int .i64 k/\(∀j,0<j->j<k->q (C.getD j 0) (C.getD (j-1) 0)=false)/\Kp F w0 w
def aLm(n k0:Nat)(q:Nat->Nat->Bool)(C:List Nat)(w0:World)(g:Nat)(val:Nat->Value)(rest:List Value)(e:TypeId)(kv jv:Value)(w:World):Prop:=
 ∃k j:Nat,1≤j/\k0+j≤n/\kv= .int .i64 k/\jv= .int .i64 j/\k0≤k/\k<k0+j/\(cI q C (k0+j)).length=k/\Kp (fun i=>i=g) w0 w/\
  Blk w g ((cI q C (k0+j)).map val++(C.map val++rest).drop k) e
def aLi(P:Program)(f:FuncId)(first captured:Array Value)(g n:Nat)(w0:World)(val:Nat->Value)(q:Nat->Nat->Bool):Prop:=
 (∀args w,(callFunc f args).run P w= .ok (Next.enter f args) w)/\∀w,Kp (fun k=>k=g) w0 w->∀i j,i<n->j<n->Calls P f (first++(#[val i,val j]++captured)) w fun e w'=>e= .returned (.bool (q i j))/\Ext w w'
theorem qS{K C:List Nat}{val:Nat->Value}{rest:List Value}{k t:Nat}(hk:K.length=k)(ht:k≤t)(htC:t<C.length):
 (K.map val++(C.map val++rest).drop k)[t]?=some (val (C.getD t 0)):=by
 rw [List.getElem?_append_right (by simp;omega),List.getElem?_drop,List.length_map,hk,show k+(t-k)=t by omega,List.getElem?_append_left (by simpa using htC),List.getElem?_map,List.getD_eq_getElem?_getD,qG htC];rfl
theorem aDs{K C:List Nat}{val:Nat->Value}{rest:List Value}{k x:Nat}(hk:K.length=k)(hc:k<C.length):
 (K.map val++(C.map val++rest).drop k).set k (val x)=(K++ [x]).map val++(C.map val++rest).drop (k+1):=by
 rw [List.set_append_right _ _ (by simp;omega),List.length_map,hk,Nat.sub_self,List.drop_eq_getElem_cons (i:=k) (by simp;omega),List.set_cons_zero];simp
end
section
structure OrdLaw{α:Type}(c:α->α->Int):Prop where
 swap:∀x y,c x y<0↔0<c y x
 trans:∀x y z,c x y≤0->c y z≤0->c x z≤0
section
variable {α:Type}{c:α->α->Int}
theorem OrdLaw.idx(L:OrdLaw c){β:Type}(z:β->α):OrdLaw (fun i j=>c (z i) (z j)):=⟨fun i j=>L.swap _ _,fun i j k=>L.trans _ _ _⟩
theorem OrdLaw.zero(L:OrdLaw c){x y:α}(h:c x y=0):c y x=0:=by have:=L.swap x y;have:=L.swap y x;omega
theorem OrdLaw.refl(L:OrdLaw c)(x:α):c x x=0:=by have:=L.swap x x;omega
theorem OrdLaw.asymm(L:OrdLaw c){x y:α}(h:c x y<0)(h':c y x<0):False:=by have:=L.swap x y;omega
theorem OrdLaw.le_of(L:OrdLaw c){x y:α}(h:¬c x y<0):c y x≤0:=by have:=L.swap x y;have:=L.swap y x;omega
theorem OrdLaw.lt_trans(L:OrdLaw c){x y z:α}(h:c x y<0)(h':c y z≤0):c x z<0:=by
 have t:=L.trans x y z (by omega) h';by_cases e:c x z<0
 ·exact e
 ·have e0:=L.zero (show c x z=0 by omega);have:=L.trans y z x h' (by omega);have:=L.swap x y;omega
variable (c)
def aX(L:List α)(x:α):Bool:=L.any fun y=>c y x==0
def below(L:List α)(x:α):Nat:=(L.filter fun y=>decide (c y x<0)).length
def bN(L:List α)(x:α):List α:=if aX c L x then L else L.take (below c L x)++x::L.drop (below c L x)
def iZ(L:List α)(x:α):List α:=if aX c L x then L.take (below c L x)++L.drop (below c L x+1)else L
def tV(xs:List α):List α:=xs.foldl (bN c) []
def Strict(L:List α):Prop:=L.Pairwise fun x y=>c x y<0
variable {c}
theorem below_le(L:List α)(x:α):below c L x≤L.length:=List.length_filter_le _ _
theorem fO{L:List α}{x:α}:aX c L x=true↔∃y∈L,c y x=0:=by simp [aX]
theorem Strict.split(O:OrdLaw c){L:List α}(h:Strict c L)(x:α):(∀y∈L.take (below c L x),c y x<0)/\∀y∈L.drop (below c L x),¬c y x<0:=by
 induction L with
 |nil=>simp [below]
 |cons a L ih=>
  obtain⟨h1,h2⟩:=List.pairwise_cons.1 h;obtain⟨i1,i2⟩:=ih h2;by_cases ha:c a x<0
  ·have e:below c (a::L) x=below c L x+1:=by simp [below,ha]
   rw [e];simp only [List.take_succ_cons,List.drop_succ_cons];refine⟨fun y hy=>?_,i2⟩;rcases List.mem_cons.1 hy with rfl|hy
   ·exact ha
   ·exact i1 y hy
  ·have hL:∀y∈a::L,¬c y x<0:=by
    intro y hy;rcases List.mem_cons.1 hy with rfl|hy
    ·exact ha
    ·intro hyx;exact ha (O.lt_trans (h1 y hy) (by omega))
   have e:below c (a::L) x=0:=by unfold below;rw [List.filter_eq_nil_iff.2 (fun y hy=>by have:=hL y hy;simp;omega)];rfl
   rw [e];exact⟨by simp,hL⟩
theorem Strict.place(O:OrdLaw c){L:List α}(h:Strict c L){x:α}{i:Nat}(hi:i≤L.length)(h1:∀y,0<i->L[i-1]?=some y->c y x<0)(h2:∀y,L[i]?=some y->0≤c y x):
 i=below c L x:=by
 obtain⟨s1,s2⟩:=h.split O x;have hb:=below_le (c:=c) L x;generalize hbb:below c L x=b at*;rcases Nat.lt_trichotomy i b with hlt|heq|hgt
 ·have g:L[i]?=some (L[i]'(by omega)):=qG _;have:=h2 _ g;have:=s1 (L[i]'(by omega)) (List.mem_take_iff_getElem.2 ⟨i,by omega,rfl⟩);omega
 ·exact heq
 ·have g:L[i-1]?=some (L[i-1]'(by omega)):=qG _;have:=h1 _ (by omega) g;have:=s2 (L[i-1]'(by omega)) (List.mem_drop_iff_getElem.2 ⟨i-1-b,by omega,by congr 1;omega⟩);omega
theorem Strict.there(O:OrdLaw c){L:List α}(h:Strict c L)(x:α):aX c L x=true↔∃y,L[below c L x]?=some y/\c y x=0:=by
 obtain⟨s1,s2⟩:=h.split O x;constructor
 ·intro hin;obtain⟨y,hy,hz⟩:=fO.1 hin;obtain⟨t,ht,rfl⟩:=List.mem_iff_getElem.1 hy;have hb:=below_le (c:=c) L x;generalize hbb:below c L x=b at*;rcases Nat.lt_trichotomy t b with hlt|heq|hgt
  ·have:=s1 (L[t]) (List.mem_take_iff_getElem.2 ⟨t,by omega,rfl⟩);omega
  ·exact⟨L[t],by rw [<-heq];exact qG _,hz⟩
  ·have hlt:=List.pairwise_iff_getElem.1 h b t (by omega) ht hgt;have:=s2 (L[b]'(by omega)) (List.mem_drop_iff_getElem.2 ⟨0,by omega,by congr 1⟩);have:=O.lt_trans hlt (show c L[t] x≤0 by omega)
   contradiction
 ·rintro⟨y,hy,hz⟩;exact fO.2 ⟨y,List.mem_of_getElem? hy,hz⟩
theorem nI{L:List α}{x y:α}:y∈bN c L x↔y∈L\/ (y=x/\aX c L x=false):=by
 unfold bN;cases h:aX c L x
 ·simp only [Bool.false_eq_true,if_false];rw [List.mem_append,List.mem_cons];have e:y∈L↔y∈L.take (below c L x)\/y∈L.drop (below c L x):=by rw [<-List.mem_append,List.take_append_drop]
  rw [e];constructor
  ·rintro(h|rfl|h)
   ·exact .inl (.inl h)
   ·exact .inr ⟨rfl,trivial⟩
   ·exact .inl (.inr h)
  ·rintro((h|h)|⟨rfl,_⟩)
   ·exact .inl h
   ·exact .inr (.inr h)
   ·exact .inr (.inl rfl)
 ·simp
theorem Strict.add(O:OrdLaw c){L:List α}(h:Strict c L)(x:α):Strict c (bN c L x):=by
 unfold bN;cases hin:aX c L x
 ·simp only [Bool.false_eq_true,if_false];obtain⟨s1,s2⟩:=h.split O x;have hL:Strict c (L.take (below c L x)++L.drop (below c L x)):=by rw [List.take_append_drop];exact h
  obtain⟨p1,p2,p3⟩:=List.pairwise_append.1 hL;refine List.pairwise_append.2 ⟨p1,List.pairwise_cons.2 ⟨fun y hy=>?_,p2⟩,fun y hy w hw=>?_⟩
  ·have h0:¬c y x=0:=fun e=>by
    have:=fO.2 ⟨y,List.mem_of_mem_drop hy,e⟩;rw [hin]at this;cases this
   have:=s2 y hy;have:=O.swap x y;omega
  ·rcases List.mem_cons.1 hw with rfl|hw
   ·exact s1 y hy
   ·exact p3 y hy w hw
 ·simpa using h
theorem Strict.sub{L L':List α}(h:Strict c L)(hs:L'.Sublist L):Strict c L':=List.Pairwise.sublist hs h
theorem Strict.drop(O:OrdLaw c){L:List α}(h:Strict c L)(x:α):Strict c (iZ c L x):=by
 unfold iZ;split
 ·refine h.sub ?_;conv=>rhs;rw [<-List.take_append_drop (below c L x) L]
  exact List.Sublist.append (List.Sublist.refl _) (by rw [<-List.drop_drop];exact List.drop_sublist _ _)
 ·exact h
theorem fV:Strict c ([]:List α):=List.Pairwise.nil
theorem aH7(xs:List α)(x:α):tV c (xs++ [x])=bN c (tV c xs) x:=by simp [tV]
theorem Strict.new(O:OrdLaw c)(xs:List α):Strict c (tV c xs):=by
 suffices h:∀(ys L:List α),Strict c L->Strict c (ys.foldl (bN c) L)from h xs [] fV
 intro ys;induction ys with
 |nil=>exact fun L h=>h
 |cons y ys ih=>exact fun L h=>ih _ (h.add O y)
theorem Strict.unique(O:OrdLaw c):∀{a b:List α},Strict c a->Strict c b->(∀x,x∈a↔x∈b)->a=b
 | [],[],_,_,_=>rfl
 | [],y::b,_,_,h=>by have:=(h y).2 (by simp);simp at this
 |x::a,[],_,_,h=>by have:=(h x).1 (by simp);simp at this
 |x::a,y::b,ha,hb,h=>by
  obtain⟨a1,a2⟩:=List.pairwise_cons.1 ha;obtain⟨b1,b2⟩:=List.pairwise_cons.1 hb;have e:x=y:=by
   rcases List.mem_cons.1 ((h x).1 (by simp))with e|hx
   ·exact e
   ·rcases List.mem_cons.1 ((h y).2 (by simp))with e|hy
    ·exact e.symm
    ·exact(O.asymm (b1 x hx) (a1 y hy)).elim
  subst e
  congr 1
  refine Strict.unique O a2 b2 fun z=>⟨fun hz=>?_,fun hz=>?_⟩
  ·rcases List.mem_cons.1 ((h z).1 (List.mem_cons_of_mem _ hz))with rfl|hz'
   ·have:=a1 z hz;have:=O.refl z;omega
   ·exact hz'
  ·rcases List.mem_cons.1 ((h z).2 (List.mem_cons_of_mem _ hz))with rfl|hz'
   ·have:=b1 z hz;have:=O.refl z;omega
   ·exact hz'
theorem aCq{xs:List α}{x:α}(h:x∈tV c xs):x∈xs:=by
 suffices g:∀(ys L:List α),x∈ys.foldl (bN c) L->x∈L\/x∈ys from by simpa using g xs [] h
 intro ys;induction ys with
 |nil=>exact fun L h=> .inl h
 |cons y ys ih=>
  intro L h;rcases ih _ h with h|h
  ·rcases nI.1 h with h|⟨rfl,_⟩
   ·exact .inl h
   ·exact .inr (by simp)
  ·exact .inr (List.mem_cons_of_mem _ h)
theorem qX(L:List α)(x:α):(bN c L x).length=L.length+(if aX c L x then 0 else 1):=by
 have:=below_le (c:=c) L x;unfold bN;split<;>simp
 omega
theorem aKg(xs:List α):(tV c xs).length≤xs.length:=by
 suffices g:∀(ys L:List α),(ys.foldl (bN c) L).length≤L.length+ys.length from by simpa [tV]using g xs []
 intro ys;induction ys with
 |nil=>exact fun L=>Nat.le_refl _
 |cons y ys ih=>
  intro L;have h1:=ih (bN c L y);have h2:=qX (c:=c) L y;simp only [List.foldl_cons,List.length_cons];split at h2<;>omega
theorem aLc{β:Type}(z:β->α)(L:List β)(i:β):bN c (L.map z) (z i)=(bN (fun i j=>c (z i) (z j)) L i).map z:=by
 have e1:aX c (L.map z) (z i)=aX (fun i j=>c (z i) (z j)) L i:=by simp [aX,List.any_map,Function.comp_def]
 have e2:below c (L.map z) (z i)=below (fun i j=>c (z i) (z j)) L i:=by simp [below,List.filter_map,Function.comp_def]
 unfold bN;rw [e1,e2];split<;>simp
end
end
section
open Go.RowKit
theorem aEe{i:Int}{b b':Bool}(h:b'=b):Value.tuple #[.int .i64 i,.bool b]= .tuple #[.int .i64 i,.bool b']:=by rw [h]
section
variable {P:Program}{w:World}{t e:TypeId}{bytes:Nat}{z:Value}
theorem jZ{g:Nat}{cur cs:List Value}(h:Blk w g cur e):Blk (w.setRow g cs.toArray) g cs e:=setRow_heap w g _ _ e _ h
theorem lC(g:Nat)(cs:Array Value):Kp (fun k=>k=g) w (w.setRow g cs):=
 ⟨rfl,rfl,rfl,by simp [World.setRow],fun k _ hf=>setRow_other w g k cs hf⟩
theorem qZ{ops:Array Oper}{rest:List Oper}{o:Oper}{a:Act}{Q:Exit->Act->World->Prop}(hgd:o.guard=none)(s x:Operand){t1 t2:TypeId}
 (ho:o.op= .call {callee:= .builtin .append,args:=#[s,x],argTypes:=#[t1,t2]}){v u:Value}(hs:a.eval s=v)(hx:a.eval x=u){v':Value}{w':World}
 (hr:∀ty,(Builtin.append_ #[t1,t2] ty #[v,u]).run P w= .ok v' w')(h:wpList P ops Q rest (a.put o.dst v') w'):wpList P ops Q (o::rest) a w:=by
 refine wpList_plain hgd fun K hK=>?_;unfold Oper.wp execOp;simp only [ho,resolve,invoke,builtin,Sem.run_bind,Sem.run_pure,Result.andThen_ok,List.map_toArray,List.map_cons,List.map_nil,hs,hx,hr];exact hK _ _ h
theorem aBh(E:cL P t e 1 bytes z){ops:Array Oper}{rest:List Oper}{o:Oper}{a:Act}{Q:Exit->Act->World->Prop}(hgd:o.guard=none)(d s:Operand)
 (ho:o.op= .call {callee:= .builtin .copy,args:=#[d,s],argTypes:=#[t,t]})
 {g off dLen dCap:Nat}{cur:List Value}{e':TypeId}(hB:Blk w g cur e'){dp:Option Addr}(hd:a.eval d= .slice dp dLen dCap){sp:Option Addr}{sLen sCap:Nat}(hs:a.eval s= .slice sp sLen sCap)
 {cs:List Value}(hl:cs.length=Nat.min sLen dLen)(hdp:0<cs.length->dp=some ⟨g,off,none⟩)(hsrc:CellsAt w sp cs)(hfit:off+cs.length≤cur.length)(h1:∀u∈cs,u.oneCell'=true)
 (h:∀w',Kp (fun k=>k=g) w w'->Blk w' g (splice cur off cs) e'->wpList P ops Q rest (a.put o.dst (goInt cs.length)) w'):wpList P ops Q (o::rest) a w:=by
 obtain⟨ht,hi,hz,hk⟩:=E;obtain⟨i,hi,hz1,hz2,hz3⟩:=info_parts hi;have hsz:(P.info? e).map (·.size)=some 1:=by rw [hi];simp [hz2]
 by_cases h0:cs.length=0
 ·obtain rfl:cs= []:=List.eq_nil_of_length_eq_zero h0;refine wpList_copy_nothing hgd d s t t ho e ht hsz dp sp dLen dCap sLen sCap hd hs (by simpa using hl.symm) ?_;exact h w (Kp.refl w) (hB.congrL (by simp [splice]))
 ·have hdp:=hdp (by omega);subst hdp;obtain⟨b,off',rfl,hlt⟩:=hsrc.off (by rintro rfl;simp at h0);refine wpList_copy_own hgd d s t t ho e ht hsz g off dLen dCap ⟨b,off',none⟩ sLen sCap hd hs cur.toArray e' hB cs hl (fun j v hj=>?_) (by simpa using hfit) h1 ?_
  ·obtain⟨b',o',he,hc⟩:=hsrc j v hj;cases he;rw [Addr.add_lit];exact hc
  ·have hb:=jZ (cs:=cur.take off++(cs++cur.drop (off+cs.length))) hB;exact h _ (lC g _) (by simpa [splice]using hb)
theorem uV(E:cL P t e 1 bytes z)(hz1:z.oneCell'=true)(hzv:∀w,(zeroValue e).run P w= .ok z w){g off n c:Nat}{cur:List Value}{e':TypeId}(hB:Blk w g cur e'){sp:Option Addr}(hsp:0<n->sp=some ⟨g,off,none⟩)(hfit:off+n≤cur.length):
 ∃w',(∀ty,(Builtin.clear_ #[t] ty #[.slice sp n c]).run P w= .ok (.tuple #[]) w')/\Kp (fun k=>k=g) w w'/\Blk w' g (splice cur off (List.replicate n z)) e':=by
 obtain⟨ht,hi,hzz,hk⟩:=E;by_cases h0:n=0
 ·subst h0;refine⟨w,fun ty=>?_,Kp.refl w,hB.congrL (by simp [splice])⟩;cases sp<;>simp [Builtin.clear_,run_underlying ht]
 ·have hsp:=hsp (by omega);subst hsp;have hzc:z.cells=#[z]:=by cases z<;>simp_all [Value.cells,Value.oneCell']
  have hzz':(Builtin.zeroCells z.cells n).toList=List.replicate n z:=by
   rw [hzc];simp [Builtin.zeroCells];apply List.ext_getElem
   ·simp
   ·intro i h1 h2;simp [Nat.mod_one]
  have hst:=run_storeCells_at P g off e' (List.replicate n z) 0 cur.toArray w hB (by simpa using hfit) (by intro v hv';rw [List.eq_of_mem_replicate hv'];exact hz1);simp only [Nat.add_zero]at hst;obtain⟨m,rfl⟩:∃m,n=m+1:=⟨n-1,by omega⟩;have hb:=jZ (cs:=cur.take off++(List.replicate (m+1) z++cur.drop (off+(m+1)))) hB;refine⟨_,fun ty=>by simp [Builtin.clear_,run_underlying ht,hzv,hzz',hst];rfl,lC g _,?_⟩;simpa [splice]using hb
theorem xV(E:cL P t e 1 bytes z)(hzo:z.oneCell'=true){tn:TypeId}{kn:IntKind}(htn:P.underlying tn=some (.int kn)){ao:Option Addr}{n cap:Nat}{olds:List Value}(hs:CellsAt w ao olds)(hl:olds.length=n)
 {k:Nat}(h0:0<k)(hg:cap<n+k)(hb:(n+k)*bytes≤140737488355328)(h63:n+k≤maxLen):
 ∃w' G,(∀ty,(Builtin.append_ #[t,tn] ty #[.slice ao n cap,.int .i64 k]).run P w= .ok (.slice (some ⟨w.heap.size,0,none⟩) (n+k) G) w')/\n+k≤G/\G≤maxLen/\Ext w w'/\w'.heap.size=w.heap.size+1/\Blk w' w.heap.size (olds++List.replicate (G-n) z) e:=by
 obtain⟨ht,hi,hzz,hk⟩:=E;obtain⟨i,hi,hz1,hz2,hz3⟩:=info_parts hi;have hold:(Builtin.firstCells i.size n (.slice ao n cap)).run P w.drew= .ok olds.toArray w.drew:=by
  by_cases h00:olds= []
  ·subst h00;simp at hl;subst hl;cases ao<;>simp [Builtin.firstCells,loadCells,loadCellsFrom]
  ·obtain⟨b,off,rfl,_⟩:=hs.off h00;exact run_firstCells_some w.drew i.size n _ n cap olds (by rw [hz2,hl,Nat.mul_one]) (fun j v hj=>by obtain⟨b',o',he,hc⟩:=hs j v hj;cases he;rw [Addr.add_lit];exact hc)
 have hrun:=fun ty=>Lib.run_append_grow_zeros (P:=P) w t tn ty e i z .i64 kn ht htn hi hz1 ao n cap olds hold k h0 (by omega) hg (by unfold maxLen at h63;omega) (by rw [hz3];have:k*bytes≤(n+k)*bytes:=Nat.mul_le_mul_right _ (by omega);omega) (by rw [hz3];exact growslice_fits hg hb);have hge:=grownCap_ge w (n+k) cap e;refine⟨_,_,hrun,hge,grownCap_le_maxLen w (n+k) cap e h63,⟨rfl,rfl,rfl,by simp,fun k hk _=>Below.heap_alloc w.drew _ k hk⟩,by simp,?_⟩;have hzc:z.cells=#[z]:=by cases z<;>simp_all [Value.cells,Value.oneCell']
 have hzr:∀m,(Builtin.zeroCells z.cells m).toList=List.replicate m z:=fun m=>by
  rw [hzc];simp [Builtin.zeroCells];apply List.ext_getElem
  ·simp
  ·intro i h1 h2;simp [Nat.mod_one]
 show(w.heap.push _)[w.heap.size]?=_;rw [Array.getElem?_push_size]
 congr 2
 apply Array.ext';simp only [Array.toList_append,hzr];rw [List.append_assoc,List.replicate_append_replicate]
 congr 2;omega
end
section
variable {P:Program}{w:World}{t e:TypeId}{bytes:Nat}{z:Value}
theorem Row.own{k:Nat}{v:Value}{n:Nat}{xs:List Value}{M:Nat->Prop}(h:Row w e k v n xs M):Row w e k v n xs (fun g=>v.ownBlock=some g):=by
 obtain⟨h1,h2|⟨g,cap,rest,a,b,c⟩⟩:=h
 ·exact⟨h1,.inl h2⟩
 ·exact⟨h1,.inr ⟨g,cap,rest,a,by rw [a];rfl,c⟩⟩
theorem oD(E:cL P t e 1 bytes z){g off dLen dCap:Nat}{cur:List Value}{e':TypeId}(hB:Blk w g cur e'){dp sp:Option Addr}{sLen sCap:Nat}
 {cs:List Value}(hl:cs.length=Nat.min sLen dLen)(hdp:0<cs.length->dp=some ⟨g,off,none⟩)(hsrc:CellsAt w sp cs)(hfit:off+cs.length≤cur.length)(h1:∀u∈cs,u.oneCell'=true):
 ∃w',(∀ty,(Builtin.copy_ #[t,t] ty #[.slice dp dLen dCap,.slice sp sLen sCap]).run P w= .ok (goInt cs.length) w')/\Kp (fun k=>k=g) w w'/\Blk w' g (splice cur off cs) e':=by
 obtain⟨ht,hi,hz,hk⟩:=E;obtain⟨i,hi,hz1,hz2,hz3⟩:=info_parts hi;have hsz:(P.info? e).map (·.size)=some 1:=by rw [hi];simp [hz2]
 by_cases h0:cs.length=0
 ·obtain rfl:cs= []:=List.eq_nil_of_length_eq_zero h0;exact⟨w,fun ty=>run_copy_none (P:=P) w t t ty e dp sp dLen dCap sLen sCap ht hsz (by simpa using hl.symm),Kp.refl w,hB.congrL (by simp [splice])⟩
 ·have hdp:=hdp (by omega);subst hdp;obtain⟨b,off',rfl,hlt⟩:=hsrc.off (by rintro rfl;simp at h0);have hb:=jZ (cs:=cur.take off++(cs++cur.drop (off+cs.length))) hB;refine⟨_,fun ty=>run_copy_row (P:=P) w t t ty e g off dLen dCap ⟨b,off',none⟩ sLen sCap cur.toArray e' cs ht hsz hB hl (fun j v hj=>?_) (by simpa using hfit) h1,lC g _,by simpa [splice]using hb⟩;obtain⟨b',o',he,hc⟩:=hsrc j v hj;cases he;rw [Addr.add_lit];exact hc
theorem aAk(E:cL P t e 1 bytes z){g k cap:Nat}{cur:List Value}(hB:Blk w g cur e){ao:Option Addr}{m c:Nat}{news:List Value}(hl:news.length=m)(hs:CellsAt w ao news)(h1:∀u∈news,u.oneCell'=true)
 (hroom:k+m≤cap)(hfit:k+m≤cur.length):
 ∃w',(∀ty,(Builtin.append_ #[t,t] ty #[.slice (some ⟨g,0,none⟩) k cap,.slice ao m c]).run P w= .ok (.slice (some ⟨g,0,none⟩) (k+m) cap) w')/\Kp (fun k=>k=g) w w'/\Blk w' g (splice cur k news) e:=by
 by_cases hm:m=0
 ·subst hm;have hn:news= []:=List.eq_nil_of_length_eq_zero hl;subst hn;exact⟨w,fun ty=>kT E ty (by omega) _ _,Kp.refl w,hB.congrL (by simp [splice])⟩
 ·obtain⟨b,off,rfl,_⟩:=hs.off (by rintro rfl;simp at hl;omega);obtain⟨ht,hi,hz,hk⟩:=E;obtain⟨i,hi,hz1,hz2,hz3⟩:=info_parts hi;have hb:=jZ (cs:=cur.take k++(news++cur.drop (k+news.length))) hB;refine⟨_,fun ty=>run_append_room (P:=P) w t ty e i ht hi g k cap cur.toArray hB ⟨b,off,none⟩ m c news (by rw [hz2,Nat.mul_one];exact hl) (fun j u hj=>?_) h1 hroom (by rw [hz2];simp;omega),lC g _,?_⟩
  ·obtain⟨b',o',he,hc⟩:=hs j u hj;cases he;rw [Addr.add_lit];exact hc
  ·rw [hz2];simpa [splice]using hb
theorem Blk.shape{g:Nat}{cs:List Value}(h:Blk w g cs e):w.shape? g=some (e,cs.length):=by unfold Blk at h;simp [World.shape?,h]
end
theorem jD{α:Type}(a b c cs:List α)(k:Nat)(hk:k=a.length)(h:b.length=cs.length):splice (a++b++c) k cs=a++cs++c:=by subst hk;unfold splice;rw [List.append_assoc,List.take_left,<-h,<-List.length_append,<-List.append_assoc a b c,List.drop_left,List.append_assoc]
theorem aEi{α:Type}(xs rest:List α)(x y:α)(i:Nat)(hi:i<xs.length):
 splice (splice (xs++y::rest) (i+1) (xs.drop i)) i [x]=(xs.take i++x::xs.drop i)++rest:=by
 have h2:(xs.take i).length=i:=by simp;omega
 have e0:xs++y::rest=(xs.take i++ [xs[i]])++(xs.drop (i+1)++ [y])++rest:=by
  have:xs=xs.take i++xs[i]::xs.drop (i+1):=by rw [<-List.drop_eq_getElem_cons hi,List.take_append_drop]
  have h3:xs++y::rest=(xs.take i++xs[i]::xs.drop (i+1))++y::rest:=by rw [<-this]
  rw [h3];simp only [List.append_assoc,List.cons_append,List.nil_append]
 rw [e0,jD _ _ _ _ _ (by simp;omega) (by simp;omega),List.append_assoc,List.append_assoc,<-List.append_assoc,jD _ _ _ _ _ h2.symm (by simp)];simp
theorem aBs{α:Type}(xs:List α)(x z:α)(i G:Nat)(hi:i<xs.length)(hG:xs.length+1≤G):
 splice (splice (xs.take i++List.replicate (G-i) z) i [x]) (i+1) (xs.drop i)=(xs.take i++x::xs.drop i)++List.replicate (G- (xs.length+1)) z:=by
 have h2:(xs.take i).length=i:=by simp;omega
 have e1:List.replicate (G-i) z= [z]++(List.replicate (xs.length-i) z++List.replicate (G- (xs.length+1)) z):=by rw [List.replicate_append_replicate,<-List.replicate_one,List.replicate_append_replicate];congr 1;omega
 rw [e1,<-List.append_assoc,jD _ _ _ _ _ h2.symm (by simp),<-List.append_assoc,jD _ _ _ _ _ (by simp;omega) (by simp)];simp
theorem oY(a:List UInt8):Op.bytesLess a []=false:=by cases a<;>simp [Op.bytesLess]
theorem fH:∀a:List UInt8,Op.bytesLess a a=false
 | []=>by simp [Op.bytesLess]
 |a::x=>by simp [Op.bytesLess,fH x]
theorem fS:∀{a b:List UInt8},Op.bytesLess a b=false->Op.bytesLess b a=false->a=b
 | [],[],_,_=>rfl
 | [],_::_,h,_=>by simp [Op.bytesLess]at h
 |_::_,[],_,h=>by simp [Op.bytesLess]at h
 |x::xs,y::ys,h1,h2=>by
  simp only [Op.bytesLess,Bool.or_eq_false_iff,decide_eq_false_iff_not,Bool.and_eq_false_iff]at h1 h2;have e:x=y:=by have:=h1.1;have:=h2.1;simp only [UInt8.lt_iff_toNat_lt]at*;exact UInt8.toNat_inj.1 (by omega)
  subst e;simp at h1 h2;rw [fS h1 h2]
theorem fR:∀{a b c:List UInt8},Op.bytesLess a b=true->Op.bytesLess b c=true->Op.bytesLess a c=true
 |_,[],_,h,_=>by rw [oY]at h;cases h
 |_,_::_,[],_,h=>by rw [oY]at h;cases h
 | [],_::_,_::_,_,_=>by simp [Op.bytesLess]
 |x::xs,y::ys,z::zs,h1,h2=>by
  simp only [Op.bytesLess,Bool.or_eq_true,decide_eq_true_eq,Bool.and_eq_true,beq_iff_eq,UInt8.lt_iff_toNat_lt]at*;rcases h1 with h1|⟨rfl,h1⟩<;>rcases h2 with h2|⟨rfl,h2⟩
  ·left;omega
  ·left;omega
  ·left;omega
  ·right;exact⟨rfl,fR h1 h2⟩
theorem tX{a b:List UInt8}(h:Op.bytesLess a b=true):Op.bytesLess b a=false:=by
 cases h2:Op.bytesLess b a
 ·rfl
 ·have:=fR h h2;rw [fH]at this;cases this
def aZ(a b:List UInt8):Int:=if Op.bytesLess a b then-1 else if Op.bytesLess b a then 1 else 0
theorem kL{a b:List UInt8}(h:Op.bytesLess a b=true):aZ a b= -1:=by simp [aZ,h]
theorem mC{a b:List UInt8}(h':Op.bytesLess a b=false)(h:Op.bytesLess b a=true):aZ a b=1:=by simp [aZ,h,h']
theorem oL{a b:List UInt8}(h':Op.bytesLess a b=false)(h:Op.bytesLess b a=false):aZ a b=0:=by simp [aZ,h,h']
theorem fG(a:List UInt8):aZ a a=0:=oL (fH a) (fH a)
theorem eD{a b:List UInt8}(h:aZ a b=0):a=b:=by
 cases h1:Op.bytesLess a b
 ·cases h2:Op.bytesLess b a
  ·exact fS h1 h2
  ·rw [mC h1 h2]at h;cases h
 ·rw [kL h1]at h;cases h
theorem cX(a b:List UInt8):aZ b a= -aZ a b:=by
 cases h1:Op.bytesLess a b
 ·cases h2:Op.bytesLess b a
  ·rw [oL h1 h2,oL h2 h1];rfl
  ·rw [mC h1 h2,kL h2]
 ·rw [kL h1,mC (tX h1) h1];rfl
theorem dY{a b:List UInt8}:aZ a b<0↔Op.bytesLess a b=true:=by
 cases h1:Op.bytesLess a b
 ·cases h2:Op.bytesLess b a
  ·rw [oL h1 h2];simp
  ·rw [mC h1 h2];simp
 ·rw [kL h1];simp
theorem jY(a b:List UInt8):aZ a b= -1\/aZ a b=0\/aZ a b=1:=by
 unfold aZ;split
 ·simp
 ·split<;>simp
theorem cY{a b:ByteArray}(h:a.toList=b.toList):a=b:=by rw [ByteArray.toList_eq,ByteArray.toList_eq]at h;exact ByteArray.ext (Array.toList_inj.1 h)
def aB:List ByteArray->List ByteArray->Int
 | [],[]=>0
 | [],_::_=> -1
 |_::_,[]=>1
 |x::xs,y::ys=>if aZ x.toList y.toList≠0 then aZ x.toList y.toList else aB xs ys
theorem nS:∀xs ys,aB ys xs= -aB xs ys
 | [],[]=>rfl
 | [],_::_=>rfl
 |_::_,[]=>rfl
 |x::xs,y::ys=>by
  unfold aB;rw [cX x.toList y.toList];by_cases h:aZ x.toList y.toList=0
  ·rw [if_neg (by simp [h]),if_neg (by simp [h]),nS xs ys]
  ·rw [if_pos (by omega),if_pos h]
theorem tF:∀xs,aB xs xs=0
 | []=>rfl
 |x::xs=>by unfold aB;rw [if_neg (by simp [fG]),tF xs]
theorem kJ:∀{xs ys},aB xs ys=0->xs=ys
 | [],[],_=>rfl
 | [],_::_,h=>by simp [aB]at h
 |_::_,[],h=>by simp [aB]at h
 |x::xs,y::ys,h=>by
  unfold aB at h;by_cases h1:aZ x.toList y.toList=0
  ·rw [if_neg (by simp [h1])]at h;rw [kJ h,cY (eD h1)]
  ·rw [if_pos h1]at h;exact absurd h h1
theorem mA:∀{xs ys zs},aB xs ys≤0->aB ys zs≤0->aB xs zs≤0
 | [],_,[],_,_=>by simp [aB]
 | [],_,_::_,_,_=>by simp [aB]
 |_::_,[],_,h,_=>by simp [aB]at h
 |_::_,_::_,[],_,h=>by simp [aB]at h
 |x::xs,y::ys,z::zs,h1,h2=>by
  unfold aB at h1 h2 ⊢;have c1:=jY x.toList y.toList;have c2:=jY y.toList z.toList;by_cases e1:aZ x.toList y.toList=0
  ·rw [if_neg (by simp [e1])]at h1;rw [eD e1]at*;by_cases e2:aZ y.toList z.toList=0
   ·rw [if_neg (by simp [e2])]at h2 ⊢;exact mA h1 h2
   ·rw [if_pos e2]at h2 ⊢;exact h2
  ·rw [if_pos e1]at h1;have l1:=dY.1 (show aZ x.toList y.toList<0 by omega);by_cases e2:aZ y.toList z.toList=0
   ·rw [<-eD e2,if_pos e1];exact h1
   ·rw [if_pos e2]at h2;have l2:=dY.1 (show aZ y.toList z.toList<0 by omega);have l3:=kL (fR l1 l2);rw [if_pos (by omega),l3];decide
theorem tJ(xs ys:List ByteArray)(k:Nat)(h1:k<xs.length)(h2:k<ys.length):aB (xs.drop k) (ys.drop k)=if aZ xs[k].toList ys[k].toList≠0 then aZ xs[k].toList ys[k].toList else aB (xs.drop (k+1)) (ys.drop (k+1)):=by rw [List.drop_eq_getElem_cons h1,List.drop_eq_getElem_cons h2];rfl
theorem xJ(xs ys:List ByteArray)(k:Nat)(h1:k<xs.length)(h2:ys.length≤k):aB (xs.drop k) (ys.drop k)=1:=by rw [List.drop_eq_getElem_cons h1,List.drop_of_length_le h2];rfl
theorem tI(xs ys:List ByteArray)(k:Nat)(h1:xs.length≤k)(h2:k<ys.length):aB (xs.drop k) (ys.drop k)= -1:=by rw [List.drop_eq_getElem_cons h2,List.drop_of_length_le h1];rfl
theorem tH(xs ys:List ByteArray)(k:Nat)(h1:xs.length≤k)(h2:ys.length≤k):aB (xs.drop k) (ys.drop k)=0:=by rw [List.drop_of_length_le h2,List.drop_of_length_le h1];rfl
theorem lE(s:ByteArray)(w:World):Calls Tryz.prog 205 #[.string s] w (Ret (.bool false) w):=by go_enter Tryz.func205,Tryz.ntmps205;go_wp2;go_ret;exact Ret.mk (by simp)
theorem oX(s t:ByteArray)(w:World):Calls Tryz.prog 190 #[.string s,.string t] w (Ret (.int .i64 (aZ s.toList t.toList)) w):=by
 cases h1:Op.bytesLess s.toList t.toList
 ·cases h2:Op.bytesLess t.toList s.toList
  ·rw [oL h1 h2];have h3:(!(s.toList==t.toList))=false:=by simp [fS h1 h2]
   go_enter Tryz.func190,Tryz.ntmps190;go_wp2_with (go_at_call 205;(with_reducible refine(lE _ _).mono ?_);rintro e w' ⟨rfl,rfl⟩)
   go_ret;exact Ret.mk rfl
  ·rw [mC h1 h2];have h3:(!(s.toList==t.toList))=true:=by
    cases h:(s.toList==t.toList)
    ·rfl
    ·rw [eq_of_beq h]at h1 h2;rw [h1]at h2;cases h2
   go_enter Tryz.func190,Tryz.ntmps190;go_wp2_with (go_at_call 205;(with_reducible refine(lE _ _).mono ?_);rintro e w' ⟨rfl,rfl⟩)
   go_ret;exact Ret.mk rfl
 ·rw [kL h1];go_enter Tryz.func190,Tryz.ntmps190;go_wp2_with (go_at_call 205;(with_reducible refine(lE _ _).mono ?_);rintro e w' ⟨rfl,rfl⟩)
  go_ret;exact Ret.mk rfl
set_option maxHeartbeats 400000 in
theorem kE(xs ys:List ByteArray)(a b:Option Addr)(c d:Nat)(w:World)(ha:CellsAt w a (strs xs))(hb:CellsAt w b (strs ys))(hx:xs.length≤maxLen)(hy:ys.length≤maxLen):
 Calls Tryz.prog 160 #[.slice a xs.length c,.slice b ys.length d] w (Ret (.int .i64 (aB xs ys)) w):=by
 unfold maxLen at hx hy;go_enter Tryz.func160,Tryz.ntmps160;go_wp2
 go_loop [11] (fun i=>∃k:Nat,k≤xs.length/\k≤ys.length/\i= .int .i64 k/\aB xs ys=aB (xs.drop k) (ys.drop k)) (fun i=>xs.length- (intOf i).toNat)
 case atStart=>exact⟨0,Nat.zero_le _,Nat.zero_le _,rfl,rfl⟩
 case round=>
  obtain⟨k,hk,hk2,rfl,hr⟩:=hrel;have H:=qH hr;clear hr;by_cases h1:k<xs.length
  ·obtain⟨b1,o1,rfl,c1⟩:=ha.str h1;by_cases h2:k<ys.length
   ·obtain⟨b2,o2,rfl,c2⟩:=hb.str h2;have hd:=tJ xs ys k h1 h2;generalize hc:aZ xs[k].toList ys[k].toList=c3 at hd;by_cases h3:c3=0
    ·rw [if_neg (by simp [h3])]at hd;have HD:=qH hd;clear hd;subst h3;have HC:=qH hc;clear hc;go_wp2_with (go_at_call 190;refine(oX _ _ _).mono ?_;rintro e w' ⟨rfl,rfl⟩;rw [HC.out])
     go_round
     case rel=>exact⟨k+1,by omega,by omega,by go_num,by rw [H.out,HD.out]⟩
     case measure=>simp [intOf];omega
    ·rw [if_pos h3]at hd;have HD:=qH hd;clear hd;have HC:=qH hc;clear hc;have h4:(c3 !=0)=true:=by simp [h3]
     go_wp2_with (go_at_call 190;refine(oX _ _ _).mono ?_;rintro e w' ⟨rfl,rfl⟩;rw [HC.out])
     go_ret;exact Ret.mk (by rw [H.out,HD.out];rfl)
   ·have hd:=xJ xs ys k h1 (by omega);have HD:=qH hd;clear hd;go_wp2;go_ret;exact Ret.mk (by rw [H.out,HD.out];rfl)
  ·by_cases h2:k<ys.length
   ·have HD:=qH (tI xs ys k (by omega) h2);go_wp2;go_ret;exact Ret.mk (by rw [H.out,HD.out];rfl)
   ·have HD:=qH (tH xs ys k (by omega) (by omega));go_wp2;go_ret;exact Ret.mk (by rw [H.out,HD.out];rfl)
theorem rE(xs ys:List ByteArray)(a b:Option Addr)(c d:Nat)(w:World)(ha:CellsAt w a (strs xs))(hb:CellsAt w b (strs ys))(hx:xs.length≤maxLen)(hy:ys.length≤maxLen):
 Calls Tryz.prog 124 #[.slice a xs.length c,.slice b ys.length d] w (Ret (.int .i64 (aB xs ys)) w):=by
 go_enter Tryz.func124,Tryz.ntmps124;go_wp2_with (go_at_call 160;(with_reducible refine(kE _ _ _ _ _ _ _ ha hb hx hy).mono ?_);rintro e w' ⟨rfl,rfl⟩)
 go_ret;exact Ret.mk rfl
set_option maxHeartbeats 1000000 in
theorem jQ(xs ys:List ByteArray)(a b:Option Addr)(c d:Nat)(w:World)(ha:CellsAt w a (strs xs))(hb:CellsAt w b (strs ys))(hx:xs.length≤maxLen)(hy:ys.length≤maxLen):
 Calls Tryz.prog 170 #[.slice a xs.length c,.slice b ys.length d] w (RetD (.int .i64 (aB xs ys)) w):=by
 unfold maxLen at hx hy;go_enter Tryz.func170,Tryz.ntmps170;go_wp2;go_loopw [5] (fun i wr=>∃k n:Nat,k≤xs.length/\k≤ys.length/\i= .int .i64 k/\wr=w.drewN n/\aB xs ys=aB (xs.drop k) (ys.drop k)) (fun i _=>xs.length- (intOf i).toNat)
 case atStart=>exact⟨0,0,Nat.zero_le _,Nat.zero_le _,rfl,rfl,rfl⟩
 case round=>
  obtain⟨k,n,hk,hk2,rfl,rfl,hr⟩:=hrel;have H:=qH hr;clear hr;by_cases h1:k<xs.length
  ·obtain⟨b1,o1,rfl,c1⟩:=ha.str h1;by_cases h2:k<ys.length
   ·obtain⟨b2,o2,rfl,c2⟩:=hb.str h2;have hd:=tJ xs ys k h1 h2;generalize xs[k]=x at*;generalize ys[k]=y at*;cases e1:Op.bytesLess x.toList y.toList
    ·cases e2:Op.bytesLess y.toList x.toList
     ·rw [if_neg (by simp [oL e1 e2])]at hd;have HD:=qH hd;clear hd;have e3:(!(x.toList==y.toList))=false:=by simp [fS e1 e2]
      go_wp2;go_quiet (fail)
      go_wp2;go_quiet (fail)
      go_wp2;go_roundw
      case rel=>exact⟨k+1,_,by omega,by omega,by go_num,rfl,by rw [H.out,HD.out]⟩
      case measure=>simp [intOf];omega
     ·rw [if_pos (by simp [mC e1 e2]),mC e1 e2]at hd;have HD:=qH hd;clear hd;have e3:(!(x.toList==y.toList))=true:=by
       cases h:(x.toList==y.toList)
       ·rfl
       ·rw [eq_of_beq h]at e1 e2;rw [e1]at e2;cases e2
      go_wp2;go_quiet (fail)
      go_wp2;go_quiet (fail)
      go_wp2;go_ret;refine RetD.mk' ?_ ?_
      ·rw [H.out,HD.out];rfl
      ·first|exact⟨_,rfl⟩|exact nQ _ _ _|exact nP _ _ _|exact⟨_,by rw [World.drewN_drewN,World.drewN_drewN]⟩
    ·rw [if_pos (by simp [kL e1]),kL e1]at hd;have HD:=qH hd;clear hd;go_wp2;go_quiet (fail)
     go_wp2;go_ret;refine RetD.mk' ?_ ?_
     ·rw [H.out,HD.out];rfl
     ·first|exact⟨_,rfl⟩|exact nQ _ _ _|exact nP _ _ _|exact⟨_,by rw [World.drewN_drewN,World.drewN_drewN]⟩
   ·have HD:=qH (xJ xs ys k h1 (by omega));go_wp2;go_ret;refine RetD.mk' ?_ ?_
    ·rw [H.out,HD.out];rfl
    ·first|exact⟨_,rfl⟩|exact nQ _ _ _|exact nP _ _ _|exact⟨_,by rw [World.drewN_drewN,World.drewN_drewN]⟩
  ·by_cases h2:k<ys.length
   ·have HD:=qH (tI xs ys k (by omega) h2);go_wp2;go_ret;refine RetD.mk' ?_ ?_
    ·rw [H.out,HD.out];rfl
    ·first|exact⟨_,rfl⟩|exact nQ _ _ _|exact nP _ _ _|exact⟨_,by rw [World.drewN_drewN,World.drewN_drewN]⟩
   ·have HD:=qH (tH xs ys k (by omega) (by omega));go_wp2;go_ret;refine RetD.mk' ?_ ?_
    ·rw [H.out,HD.out];rfl
    ·first|exact⟨_,rfl⟩|exact nQ _ _ _|exact nP _ _ _|exact⟨_,by rw [World.drewN_drewN,World.drewN_drewN]⟩
end
section
section
variable {α:Type}{c:α->α->Int}
theorem yY{L:List α}{x y:α}(h:y∈iZ c L x):y∈L:=by
 unfold iZ at h;split at h
 ·rcases List.mem_append.1 h with h|h
  ·exact List.mem_of_mem_take h
  ·exact List.mem_of_mem_drop h
 ·exact h
end
end
section
open Go.RowKit
theorem jW:cL Tryz.prog 34 9 1 16 (.string ⟨#[]⟩):=⟨by kernel_rfl,by kernel_rfl,rfl,by decide⟩
theorem gN(ss:List ByteArray):∀u∈strs ss,u.oneCell'=true:=by intro u hu;obtain⟨s,_,rfl⟩:=List.mem_map.1 hu;rfl
end
section
section
variable {P:Program}{l:List Oper}{Q:Exit->Act->World->Prop}{md:Region.Mode}{S:World->Prop}{fuel:Nat}{listed:Array Bool}{a:Act}{w:World}
end
section
variable {α:Type}{c:α->α->Int}
def aHd(c:α->α->Int):Prop:=∀x y,c x y=0->x=y
theorem aKr(O:OrdLaw c)(T:aHd c){L:List α}{x:α}:aX c L x=true↔x∈L:=by
 rw [fO];constructor
 ·rintro⟨y,hy,e⟩;rw [<-T y x e];exact hy
 ·intro h;exact⟨x,h,O.refl x⟩
theorem aKq(O:OrdLaw c)(T:aHd c){L:List α}{x:α}:(!aX c L x)=true↔x∉L:=by rw [<-aKr O T (c:=c)];simp
variable (O:OrdLaw c)(T:aHd c){s o:List α}(hs:Strict c s)(ho:Strict c o)
end
end
section
open Ieee
end
section
abbrev aE:=Int×ByteArray×Unit
abbrev aHg:=ByteArray×List aE×Unit
abbrev aJ:=Int×aHg×Int×aE×aE×Unit
abbrev dC:=aHg×List aJ×Unit
abbrev aA(l:aJ):List aE:=l.2.1.2.1
abbrev bC(l:aJ):ByteArray:=l.2.1.1
abbrev gS(l:aJ):Int:=l.2.2.1
abbrev leftOf(l:aJ):aE:=l.2.2.2.1
abbrev aN(l:aJ):aE:=l.2.2.2.2.1
theorem oI{α σ:Type}(f:σ->α->σ)(s:σ){l:List α}{i:Nat}{x:α}(h:l[i]?=some x):(l.take (i+1)).foldl f s=f ((l.take i).foldl f s) x:=by rw [List.take_add_one,h,List.foldl_append];rfl
def gJ(a:List ByteArray)(s:ByteArray):Bool:=a.any fun x=>decide (x=s)
theorem dA{a:List ByteArray}{s:ByteArray}:gJ a s=true↔s∈a:=by unfold gJ;rw [List.any_eq_true];exact⟨fun⟨x,h,e⟩=>of_decide_eq_true e▸h,fun h=>⟨s,h,decide_eq_true rfl⟩⟩
def bE(a:List ByteArray)(t:aE):List ByteArray:=if t.1=1/\gJ a t.2.1=false then a++ [t.2.1]else a
def bZ(a:List ByteArray)(ts:List aE):List ByteArray:=ts.foldl bE a
def bK(a:List ByteArray)(l:aJ):List ByteArray:=if l.1=1 then bZ a (aA l)else a
def aC(ls:List aJ):List ByteArray:=ls.foldl bK []
def kinds(ts:List aE)(up:Int):Bool:=ts.all fun t=>decide (1≤t.1/\t.1≤up)
def aD1(ts:List aE):Nat:=ts.countP fun t=>decide (4≤t.1)
def fW(ts:List aE):Bool:=kinds ts 7 && decide (aD1 ts<2) && decide (ts.length≤64)
def eO(l:aJ):Bool:=if l.1=1\/l.1=2 then decide ((aA l).length≤64) && kinds (aA l) 3 else if l.1=3 then decide (1≤gS l/\gS l≤4) && kinds [leftOf l,aN l] 3 else false
def cU(r:dC):Bool:=fW r.1.2.1 && r.2.1.all eO
def bY(N:List ByteArray)(blank:Bool)(t:aE):Bool:=if t.1=2 then blank else decide (t.1=3\/t.1=4\/gJ N t.2.1=true)
def dX(N:List ByteArray)(l:aJ):Bool:=if l.1=3 then bY N false (leftOf l) && bY N false (aN l)else if l.1=2 then(aA l).all (bY N true)else true
def jO(r:dC):Bool:=r.1.2.1.all (bY (aC r.2.1) false) && r.2.1.all (dX (aC r.2.1))
def bG(r:dC):Nat:=if cU r=true then if jO r=true then 0 else 111 else 2
end
section
open Go.RowKit
theorem nJ(s t:ByteArray)(w:World):Calls Tryz.prog 223 #[.string s,.string t] w (Ret (.bool (Op.bytesLess s.toList t.toList)) w):=by
 cases h:Op.bytesLess s.toList t.toList
 ·go_enter Tryz.func223,Tryz.ntmps223;go_wp2_with (go_at_call 205;(with_reducible refine(lE _ _).mono ?_);rintro e w' ⟨rfl,rfl⟩)
  go_ret;exact Ret.mk rfl
 ·go_enter Tryz.func223,Tryz.ntmps223;go_wp2_with (go_at_call 205;(with_reducible refine(lE _ _).mono ?_);rintro e w' ⟨rfl,rfl⟩)
  go_ret;exact Ret.mk rfl
theorem wH(s:ByteArray)(w:World):Calls Tryz.prog 224 #[.string s] w (Ret (.bool false) w):=by go_enter Tryz.func224,Tryz.ntmps224;go_wp2;go_ret;exact Ret.mk (by simp)
theorem uC{a b:ByteArray}(h:¬a=b):(a.toList==b.toList)=false:=by
 cases hb:(a.toList==b.toList)with
 |false=>rfl
 |true=>exact absurd (cY (eq_of_beq hb)) h
theorem uD(a:ByteArray):(a.toList==a.toList)=true:=by simp
def SeekB(xs:List ByteArray)(t:ByteArray)(n:Nat)(w0:World)(iv jv:Value)(w:World):Prop:=
 ∃i j:Nat,i≤j/\j≤n/\iv= .int .i64 i/\jv= .int .i64 j/\Hid ((∀x,0<i->xs[i-1]?=some x->aZ x.toList t.toList<0)/\∀x,xs[j]?=some x->0≤aZ x.toList t.toList)/\Hid (Ext w0 w)
def aMd(xs:List ByteArray)(t:ByteArray)(n:Nat)(_:World)(v:Value):Prop:=∃(i:Nat) (b:Bool),v= .tuple #[.int .i64 i,.bool b]/\i≤n/\(∀x,0<i->xs[i-1]?=some x->aZ x.toList t.toList<0)/\∀x,xs[i]?=some x->0≤aZ x.toList t.toList
set_option maxHeartbeats 2000000 in
theorem mS(xs:List ByteArray)(t:ByteArray)(ao:Option Addr)(n cap:Nat)(w:World)(hn:n=xs.length)(h:CellsAt w ao (strs xs))(hl:n≤4611686018427387904):
 Calls Tryz.prog 210 #[.slice ao n cap,.string t] w (RetN w (aMd xs t n)):=by
 have HN:=qH hn;have HC:=qH h;clear hn h;go_enter Tryz.func210,Tryz.ntmps210;go_wp2;go_loopw [7,8] (fun iv jv wr=>SeekB xs t n w iv jv wr) (fun iv jv _=>(intOf jv).toNat- (intOf iv).toNat)
 case atStart=>exact⟨0,n,Nat.zero_le _,Nat.le_refl _,rfl,rfl,qH ⟨fun x hx=>by omega,fun x hx=>by have:=(List.getElem?_eq_some_iff.1 hx).1;have:=HN.out;omega⟩,qH (Kp.refl _)⟩
 case round=>
  obtain⟨i,j,hij,hj,rfl,rfl,hb,hex⟩:=hrel;by_cases hlt:i<j
  ·obtain⟨m,em⟩:∃m,m=(i+j)/2:=⟨_,rfl⟩;have rm:((i:Int)+j)/2=(m:Int):=by omega
   have h1:i≤m:=by omega
   have h2:m<j:=by omega
   clear em;obtain⟨x,hx⟩:∃x,xs[m]?=some x:=⟨_,qG (by have:=HN.out;omega)⟩;obtain⟨bk,off,eao,c0⟩:=HC.out m (.string x) (by simp [strs,hx]);subst eao;replace c0:=hex.out.cell c0 id;have HX:=qH hx;clear hx;by_cases hc:Op.bytesLess x.toList t.toList=true
   ·have HL:=qH (nJ x t wr);rw [hc]at HL;have HCm:=qH (dY.2 hc);clear hc;go_wp2_with fail
    refine HL.out.mono ?_;rintro e w' ⟨rfl,rfl⟩;go_wp2;go_roundw
    case rel=>exact⟨m+1,j,by omega,hj,nMX,rfl,qH ⟨fun y _ hy=>by rw [Nat.add_sub_cancel,HX.out]at hy;cases hy;exact HCm.out,hb.out.2⟩,hex⟩
    case measure=>simp [intOf];omega
   ·have HL:=qH (nJ x t wr);rw [Bool.not_eq_true]at hc;rw [hc]at HL;have HCm:=qH (show 0≤aZ x.toList t.toList from Int.not_lt.1 fun h=>by rw [dY,hc]at h;cases h);clear hc;go_wp2_with fail
    refine HL.out.mono ?_;rintro e w' ⟨rfl,rfl⟩;go_wp2;go_roundw
    case rel=>exact⟨i,m,by omega,by omega,rfl,nMX,qH ⟨hb.out.1,fun y hy=>by rw [HX.out]at hy;cases hy;exact HCm.out⟩,hex⟩
    case measure=>simp [intOf];omega
  ·have eij:i=j:=by omega
   subst eij;by_cases hin:i<n
   ·obtain⟨x,hx⟩:∃x,xs[i]?=some x:=⟨_,qG (by have:=HN.out;omega)⟩;obtain⟨bk,off,eao,c0⟩:=HC.out i (.string x) (by simp [strs,hx]);subst eao;replace c0:=hex.out.cell c0 id;have HI:=qH hij;clear hx hij;by_cases he:x=t
    ·subst he;have hq:=uD x;go_wp2_with (go_at_call 224;(with_reducible refine(wH _ _).mono ?_);rintro e w' ⟨rfl,rfl⟩)
     go_ret2;exact RetN.mk hex.out ⟨i,_,rfl,hj,hb.out.1,hb.out.2⟩
    ·have hq:=uC he;clear he;go_wp2_with (go_at_call 224;(with_reducible refine(wH _ _).mono ?_);rintro e w' ⟨rfl,rfl⟩)
     go_ret2;exact RetN.mk hex.out ⟨i,_,rfl,hj,hb.out.1,hb.out.2⟩
   ·go_wp2;go_ret2;exact RetN.mk hex.out ⟨i,_,rfl,hj,hb.out.1,hb.out.2⟩
end
section
section
variable {P:Program}{ops:Array Oper}{Q:Exit->Act->World->Prop}{md:Region.Mode}{S:World->Prop}{lates:List Nat}
def eM(lates:List Nat)(listed:Array Bool):Bool:=lates.all fun d=>!listed.getD d true
def cN(P:Program)(md:Region.Mode)(ops:Array Oper)(Q:Exit->Act->World->Prop)(S:World->Prop)(lates:List Nat):Nat->Array Bool->Act->World->Prop
 |0,listed,a,w=>Region.ready md ops listed= []/\Q .normal a w
 |fuel+1,listed,a,w=>(Region.ready md ops listed= []->Q .normal a w)/\
  ∀i∈Region.ready md ops listed,wpOp P ops Q i (fun a' w'=>(eM lates (listed.setIfInBounds i true)=true->S w')/\cN P md ops Q S lates fuel (listed.setIfInBounds i true) a' w') a w
theorem pA:∀(fuel:Nat) (listed:Array Bool) (a:Act) (w:World),cN P md ops Q S lates fuel listed a w->wpAny P md ops Q fuel listed a w
 |0,_,_,_,h=>h
 |fuel+1,_,_,_,h=>⟨h.1,fun i hi=>wpOp_mono (fun a' w' h'=>pA fuel _ a' w' h'.2) (h.2 i hi)⟩
def aGj(md:Region.Mode)(ops:Array Oper)(i:Nat):List Nat:=
 (List.range ops.size).foldl (fun D j=>if j==i||(match ops[j]? with|some o=>o.after.any (fun e=>Region.binds md e && D.contains e.on)|none=>false)then j::D else D) []
def aAh(md:Region.Mode)(ops:Array Oper)(listed:Array Bool)(lates:List Nat)(i:Nat)(D:List Nat):Bool:=
 lates.all (fun d=>D.contains d && d !=i) && D.all fun d=>!listed.getD d true && (d==i||match ops[d]? with|some o=>o.after.any (fun e=>Region.binds md e && D.contains e.on)|none=>false)
theorem aD8{listed:Array Bool}{i:Nat}{D:List Nat}(h:aAh md ops listed lates i D=true):
 (∀d∈lates,d∈D/\d≠i)/\(∀d∈D,listed.getD d true=false)/\∀d∈D,d≠i->∀o,ops[d]?=some o->∃e∈o.after,Region.binds md e=true/\e.on∈D:=by
 unfold aAh at h;rw [Bool.and_eq_true,List.all_eq_true,List.all_eq_true]at h;refine⟨fun d hd=>?_,fun d hd=>?_,fun d hd hne o ho=>?_⟩
 ·have:=h.1 d hd;simp only [Bool.and_eq_true,List.contains_iff_mem,bne_iff_ne,ne_eq]at this;exact this
 ·have:=h.2 d hd;rw [Bool.and_eq_true]at this;simpa using this.1
 ·have h1:=h.2 d hd;rw [Bool.and_eq_true,Bool.or_eq_true,ho]at h1;rcases h1.2 with h2|h2
  ·exact absurd (by simpa using h2) hne
  ·obtain⟨e,he,hb⟩:=Array.any_eq_true'.1 h2;rw [Bool.and_eq_true,List.contains_iff_mem]at hb;exact⟨e,he,hb.1,hb.2⟩
theorem aH5{listed:Array Bool}{D:List Nat}(hl:∀d∈lates,d∈D)(h:∀d∈D,listed.getD d true=false):eM lates listed=true:=by unfold eM;rw [List.all_eq_true];intro d hd;rw [h d (hl d hd)];rfl
theorem lV{listed:Array Bool}{i:Nat}(hi:i∉lates):eM lates (listed.setIfInBounds i true)=eM lates listed:=by unfold eM;rw [Bool.eq_iff_iff,List.all_eq_true,List.all_eq_true];have h:∀d∈lates,(listed.setIfInBounds i true).getD d true=listed.getD d true:=fun d hd=>getD_set_ne true (fun e=>hi (e▸hd));exact⟨fun k d hd=>by rw [<-h d hd];exact k d hd,fun k d hd=>by rw [h d hd];exact k d hd⟩
theorem aAg{i:Nat}{oi:Oper}{v:Value}{D:List Nat}(hi:ops[i]?=some oi)(hsel:∀(j:Nat) (o:Oper) cs b,ops[j]?=some o->o.op≠ .select cs b)
 (hQ:∀c a w,Q (.panic c) (a.put oi.dst v) w->Q (.panic c) a w)(hl:∀d∈lates,d∈D/\d≠i)(hD:∀d∈D,d≠i->∀o,ops[d]?=some o->∃e∈o.after,Region.binds md e=true/\e.on∈D):
 ∀(fuel:Nat) (listed:Array Bool) (a:Act) (w:World),
  (∀j oj,ops[j]?=some oj->j≠i->listed.getD j true=false->(∀e∈oj.after,Region.binds md e=true->e.on≠i)->oi.apart ops oj=true)->
  (∀d∈D,listed.getD d true=false)->
  i∈Region.ready md ops listed->YieldsIf P ops S oi v a->S w->
  cN P md ops Q S lates fuel (listed.setIfInBounds i true) (a.put oi.dst v) w->cN P md ops Q S lates (fuel+1) listed a w:=by
 have hil:i∉lates:=fun h=>(hl i h).2 rfl;intro fuel;induction fuel with
 |zero=>
  intro listed a w _ _ hr hy hS H;refine⟨fun h=>(by rw [h]at hr;cases hr),fun j hj=>?_⟩;by_cases hji:j=i
  ·subst hji;exact hy.wpOp hi hS ⟨fun _=>hS,H⟩
  ·have:=ready_mono hj hji;rw [H.1]at this;cases this
 |succ fuel ih=>
  intro listed a w hfree hun0 hr hy hS H;refine⟨fun h=>(by rw [h]at hr;cases hr),fun j hj=>?_⟩;by_cases hji:j=i
  ·subst hji;exact hy.wpOp hi hS ⟨fun _=>hS,H⟩
  ·have h1:=H.2 j (ready_mono hj hji);obtain⟨hjun,oj,hoj,hall⟩:=mem_ready.1 hj;have hjD:j∉D:=fun hjd=>by
    obtain⟨e,he,hb,heD⟩:=hD j hjd hji oj hoj;have h2:=hall e he hb;have h0:=hun0 e.on heD;rcases Nat.lt_or_ge e.on listed.size with h'|h'
    ·simp [h']at h0 h2;rw [h0]at h2;cases h2
    ·simp [Array.getElem?_eq_none h']at h2
   have hnot:∀e∈oj.after,Region.binds md e=true->e.on≠i:=fun e he hb heq=>by
    have h1:=hall e he hb;have h0:=(mem_ready.1 hr).1;rw [heq]at h1;rcases Nat.lt_or_ge i listed.size with h'|h'
    ·simp [h']at h0 h1;rw [h0]at h1;cases h1
    ·simp [Array.getElem?_eq_none h']at h1
   have h2:=wpOp_putIf hoj (hfree j oj hoj hji hjun hnot) (fun cs b=>hsel i oi cs b hi) (fun cs b=>hsel j oj cs b hoj) hQ hy h1;have hfree':∀k ok,ops[k]?=some ok->k≠i->(listed.setIfInBounds j true).getD k true=false->
    (∀e∈ok.after,Region.binds md e=true->e.on≠i)->oi.apart ops ok=true:=fun k ok hk hki hun hno=>by
    refine hfree k ok hk hki ?_ hno;by_cases hjk:j=k
    ·subst hjk;exact hjun
    ·rw [getD_set_ne true hjk]at hun;exact hun
   have hun':∀d∈D,(listed.setIfInBounds j true).getD d true=false:=fun d hd=>by rw [getD_set_ne true (fun e:j=d=>hjD (e.symm▸hd))];exact hun0 d hd
   have hnl:eM lates (listed.setIfInBounds j true)=true:=aH5 (fun d hd=>(hl d hd).1) hun';have hnl2:eM lates ((listed.setIfInBounds i true).setIfInBounds j true)=true:=by rw [Array.setIfInBounds_comm _ _ (Ne.symm hji),lV hil];exact hnl
   refine wpOp_mono (fun a' w' h3=>⟨fun _=>h3.2.1 hnl2,ih (listed.setIfInBounds j true) a' w' hfree' hun' (ready_mono hr (Ne.symm hji)) h3.1 (h3.2.1 hnl2) ?_⟩) h2;rw [Array.setIfInBounds_comm _ _ hji];exact h3.2.2
theorem sD{i:Nat}{oi:Oper}{v:Value}(hi:ops[i]?=some oi)(hsel:∀(j:Nat) (o:Oper) cs b,ops[j]?=some o->o.op≠ .select cs b)
 (hQ:∀c a w,Q (.panic c) (a.put oi.dst v) w->Q (.panic c) a w)(hil:i∉lates):
 ∀(fuel:Nat) (listed:Array Bool) (a:Act) (w:World),
  (∀j oj,ops[j]?=some oj->j≠i->listed.getD j true=false->(∀e∈oj.after,Region.binds md e=true->e.on≠i)->oi.apart ops oj=true)->
  i∈Region.ready md ops listed->YieldsIf P ops (fun _=>True) oi v a->(eM lates listed=true->S w)->
  cN P md ops Q S lates fuel (listed.setIfInBounds i true) (a.put oi.dst v) w->cN P md ops Q S lates (fuel+1) listed a w:=by
 intro fuel;induction fuel with
 |zero=>
  intro listed a w _ hr hy hS H;refine⟨fun h=>(by rw [h]at hr;cases hr),fun j hj=>?_⟩;by_cases hji:j=i
  ·subst hji;exact hy.wpOp hi trivial ⟨fun h=>hS (by rw [lV hil]at h;exact h),H⟩
  ·have:=ready_mono hj hji;rw [H.1]at this;cases this
 |succ fuel ih=>
  intro listed a w hfree hr hy hS H;refine⟨fun h=>(by rw [h]at hr;cases hr),fun j hj=>?_⟩;by_cases hji:j=i
  ·subst hji;exact hy.wpOp hi trivial ⟨fun h=>hS (by rw [lV hil]at h;exact h),H⟩
  ·have h1:=H.2 j (ready_mono hj hji);obtain⟨hjun,oj,hoj,hall⟩:=mem_ready.1 hj;have hnot:∀e∈oj.after,Region.binds md e=true->e.on≠i:=fun e he hb heq=>by
    have h1:=hall e he hb;have h0:=(mem_ready.1 hr).1;rw [heq]at h1;rcases Nat.lt_or_ge i listed.size with h'|h'
    ·simp [h']at h0 h1;rw [h0]at h1;cases h1
    ·simp [Array.getElem?_eq_none h']at h1
   have h2:=wpOp_putIf hoj (hfree j oj hoj hji hjun hnot) (fun cs b=>hsel i oi cs b hi) (fun cs b=>hsel j oj cs b hoj) hQ hy h1;have hfree':∀k ok,ops[k]?=some ok->k≠i->(listed.setIfInBounds j true).getD k true=false->
    (∀e∈ok.after,Region.binds md e=true->e.on≠i)->oi.apart ops ok=true:=fun k ok hk hki hun hno=>by
    refine hfree k ok hk hki ?_ hno;by_cases hjk:j=k
    ·subst hjk;exact hjun
    ·rw [getD_set_ne true hjk]at hun;exact hun
   have hcm:eM lates (listed.setIfInBounds j true)=true->eM lates ((listed.setIfInBounds i true).setIfInBounds j true)=true:=fun h=>by rw [Array.setIfInBounds_comm _ _ (Ne.symm hji),lV hil];exact h
   refine wpOp_mono (fun a' w' h3=>⟨fun h=>h3.2.1 (hcm h),ih (listed.setIfInBounds j true) a' w' hfree' (ready_mono hr (Ne.symm hji)) h3.1 (fun h=>h3.2.1 (hcm h)) ?_⟩) h2;rw [Array.setIfInBounds_comm _ _ hji];exact h3.2.2
theorem aL{listed:Array Bool}{a:Act}{w:World}(hr:Region.ready md ops listed= [])(h:Q .normal a w):∀fuel,cN P md ops Q S lates fuel listed a w
 |0=>⟨hr,h⟩
 |_+1=>⟨fun _=>h,by rw [hr];simp⟩
theorem aY{id:Nat}{a:Act}{w:World}(S:World->Prop)(lates:List Nat)(hm:P.follows .mixedOrders=true)(hS:S w.drew)
 (h:S w.drew->cN P .any ops Q S lates ops.size (Array.replicate ops.size false) a w.drew):(Code.region id ops true).wp P Q a w:=
 wp_region_any hm (pA _ _ _ _ (h hS))
end
section
variable {P:Program}{l:List Oper}{Q:Exit->Act->World->Prop}{md:Region.Mode}{S:World->Prop}{lates:List Nat}{fuel:Nat}{listed:Array Bool}{a:Act}{w:World}
theorem uE{p:Prop}{b:Bool}(h:b=false):b=true->p:=fun e=>by rw [h]at e;cases e
theorem and4{a b c d:Bool}(h:(a && b && c && d)=true):a=true/\b=true/\c=true/\d=true:=by cases a<;>cases b<;>cases c<;>cases d<;>simp_all
theorem opAt{i:Nat}{oi:Oper}(hi:l[i]?=some oi):l.toArray[i]?=some oi:=by rw [List.getElem?_toArray];exact hi
theorem aL3{i:Nat}{oi:Oper}{v:Value}(hi:l[i]?=some oi)(hy:∀w,S w->(execOp a.eval oi).run P w= .ok (.value v) w)
 (h:cN P md l.toArray Q S lates fuel (listed.setIfInBounds i true) (a.put oi.dst v) w)
 (side:(Region.noSelect l.toArray && Region.free md l.toArray listed i && (Region.ready md l.toArray listed).contains i && aAh md l.toArray listed lates i (aGj md l.toArray i))=true:=by kernel_rfl)
 (hw:Region.wanted oi (yielded l.toArray a.tmps)=true:=by rfl)(hQ:∀c a w,Q (.panic c) (a.put oi.dst v) w->Q (.panic c) a w:=by exact fun _ _ _ h=>h)(hS:S w:=by assumption):
 cN P md l.toArray Q S lates (fuel+1) listed a w:=
 let c:=and4 side
 let z:=aD8 c.2.2.2
 aAg (opAt hi) (Region.noSelect_spec c.1) hQ z.1 z.2.2 fuel listed a w (Region.free_spec (opAt hi) c.2.1) z.2.1 (by simpa using c.2.2.1) (.inl ⟨hw,hy⟩) hS h
theorem aI4{i:Nat}{oi:Oper}{v:Value}(hi:l[i]?=some oi)(hy:∀w,(execOp a.eval oi).run P w= .ok (.value v) w)
 (h:cN P md l.toArray Q S lates fuel (listed.setIfInBounds i true) (a.put oi.dst v) w)
 (side:(Region.noSelect l.toArray && Region.free md l.toArray listed i && (Region.ready md l.toArray listed).contains i && !lates.contains i)=true:=by kernel_rfl)
 (hw:Region.wanted oi (yielded l.toArray a.tmps)=true:=by rfl)(hQ:∀c a w,Q (.panic c) (a.put oi.dst v) w->Q (.panic c) a w:=by exact fun _ _ _ h=>h)(hS:eM lates listed=true->S w:=by first|exact fun _=>by assumption|exact uE (by kernel_rfl)):
 cN P md l.toArray Q S lates (fuel+1) listed a w:=
 let c:=and4 side
 sD (opAt hi) (Region.noSelect_spec c.1) hQ (by simpa using c.2.2.2) fuel listed a w (Region.free_spec (opAt hi) c.2.1) (by simpa using c.2.2.1) (.inl ⟨hw,fun w _=>hy w⟩) hS h
theorem aK4{i:Nat}{oi:Oper}(hi:l[i]?=some oi)(h:cN P md l.toArray Q S lates fuel (listed.setIfInBounds i true) (a.put oi.dst undef) w)
 (side:(Region.noSelect l.toArray && Region.free md l.toArray listed i && (Region.ready md l.toArray listed).contains i && !lates.contains i)=true:=by kernel_rfl)
 (hw:Region.wanted oi (yielded l.toArray a.tmps)=false:=by rfl)(hQ:∀c a w,Q (.panic c) (a.put oi.dst undef) w->Q (.panic c) a w:=by exact fun _ _ _ h=>h)(hS:eM lates listed=true->S w:=by first|exact fun _=>by assumption|exact uE (by kernel_rfl)):
 cN P md l.toArray Q S lates (fuel+1) listed a w:=
 let c:=and4 side
 sD (opAt hi) (Region.noSelect_spec c.1) hQ (by simpa using c.2.2.2) fuel listed a w (Region.free_spec (opAt hi) c.2.1) (by simpa using c.2.2.1) (.inr ⟨hw,rfl⟩) hS h
theorem dF(i:Nat){oi:Oper}{v:Value}(h:cN P md l.toArray Q S lates fuel (listed.setIfInBounds i true) (a.put oi.dst v) w)(hi:l[i]?=some oi:=by rfl)
 (hy:∀w,(execOp a.eval oi).run P w= .ok (.value v) w:=by(intro w;go_simp;try with_reducible rfl))
 (side:(Region.noSelect l.toArray && Region.free md l.toArray listed i && (Region.ready md l.toArray listed).contains i && !lates.contains i)=true:=by kernel_rfl)
 (hw:Region.wanted oi (yielded l.toArray a.tmps)=true:=by rfl)(hQ:∀c a w,Q (.panic c) (a.put oi.dst v) w->Q (.panic c) a w:=by exact fun _ _ _ h=>h)(hS:eM lates listed=true->S w:=by first|exact fun _=>by assumption|exact uE (by kernel_rfl)):
 cN P md l.toArray Q S lates (fuel+1) listed a w:=aI4 hi hy h side hw hQ hS
theorem dI(i:Nat){oi:Oper}{v:Value}(h:cN P md l.toArray Q S lates fuel (listed.setIfInBounds i true) (a.put oi.dst v) w)(hi:l[i]?=some oi:=by rfl)
 (hy:∀w,S w->(execOp a.eval oi).run P w= .ok (.value v) w:=by(intro w hSw;(try dsimp only at hSw);go_simp;try with_reducible rfl))
 (side:(Region.noSelect l.toArray && Region.free md l.toArray listed i && (Region.ready md l.toArray listed).contains i && aAh md l.toArray listed lates i (aGj md l.toArray i))=true:=by kernel_rfl)
 (hw:Region.wanted oi (yielded l.toArray a.tmps)=true:=by rfl)(hQ:∀c a w,Q (.panic c) (a.put oi.dst v) w->Q (.panic c) a w:=by exact fun _ _ _ h=>h)(hS:S w:=by assumption):
 cN P md l.toArray Q S lates (fuel+1) listed a w:=aL3 hi hy h side hw hQ hS
theorem dO(i:Nat){oi:Oper}(h:cN P md l.toArray Q S lates fuel (listed.setIfInBounds i true) (a.put oi.dst undef) w)(hi:l[i]?=some oi:=by rfl)
 (side:(Region.noSelect l.toArray && Region.free md l.toArray listed i && (Region.ready md l.toArray listed).contains i && !lates.contains i)=true:=by kernel_rfl)
 (hw:Region.wanted oi (yielded l.toArray a.tmps)=false:=by rfl)(hQ:∀c a w,Q (.panic c) (a.put oi.dst undef) w->Q (.panic c) a w:=by exact fun _ _ _ h=>h)(hS:eM lates listed=true->S w:=by first|exact fun _=>by assumption|exact uE (by kernel_rfl)):
 cN P md l.toArray Q S lates (fuel+1) listed a w:=aK4 hi h side hw hQ hS
theorem eFX(i:Nat){oi:Oper}{v:Value}{a':Act}{l':Array Bool}(h:cN P md l.toArray Q S lates fuel l' a' w)(hi:l[i]?=some oi:=by rfl)
 (hy:∀w,(execOp a.eval oi).run P w= .ok (.value v) w:=by(intro w;go_simp;try with_reducible rfl))
 (side:(Region.noSelect l.toArray && Region.free md l.toArray listed i && (Region.ready md l.toArray listed).contains i && !lates.contains i)=true:=by kernel_rfl)
 (hw:Region.wanted oi (yielded l.toArray a.tmps)=true:=by rfl)(hQ:∀c a w,Q (.panic c) (a.put oi.dst v) w->Q (.panic c) a w:=by exact fun _ _ _ h=>h)(hS:eM lates listed=true->S w:=by first|exact fun _=>by assumption|exact uE (by kernel_rfl))(e:(a.put oi.dst v,listed.setIfInBounds i true)=(a',l'):=by first|(simp only [Act.put,sI,sZ,sS];done)|(simp only [Act.put,sI,sZ,sS];exact rfl)|exact rfl):
 cN P md l.toArray Q S lates (fuel+1) listed a w:=by
 cases e;exact aI4 hi hy h side hw hQ hS
theorem eIX(i:Nat){oi:Oper}{v:Value}{a':Act}{l':Array Bool}(h:cN P md l.toArray Q S lates fuel l' a' w)(hi:l[i]?=some oi:=by rfl)
 (hy:∀w,S w->(execOp a.eval oi).run P w= .ok (.value v) w:=by(intro w hSw;(try dsimp only at hSw);go_simp;try with_reducible rfl))
 (side:(Region.noSelect l.toArray && Region.free md l.toArray listed i && (Region.ready md l.toArray listed).contains i && aAh md l.toArray listed lates i (aGj md l.toArray i))=true:=by kernel_rfl)
 (hw:Region.wanted oi (yielded l.toArray a.tmps)=true:=by rfl)(hQ:∀c a w,Q (.panic c) (a.put oi.dst v) w->Q (.panic c) a w:=by exact fun _ _ _ h=>h)(hS:S w:=by assumption)(e:(a.put oi.dst v,listed.setIfInBounds i true)=(a',l'):=by first|(simp only [Act.put,sI,sZ,sS];done)|(simp only [Act.put,sI,sZ,sS];exact rfl)|exact rfl):
 cN P md l.toArray Q S lates (fuel+1) listed a w:=by
 cases e;exact aL3 hi hy h side hw hQ hS
theorem eOX(i:Nat){oi:Oper}{a':Act}{l':Array Bool}(h:cN P md l.toArray Q S lates fuel l' a' w)(hi:l[i]?=some oi:=by rfl)
 (side:(Region.noSelect l.toArray && Region.free md l.toArray listed i && (Region.ready md l.toArray listed).contains i && !lates.contains i)=true:=by kernel_rfl)
 (hw:Region.wanted oi (yielded l.toArray a.tmps)=false:=by rfl)(hQ:∀c a w,Q (.panic c) (a.put oi.dst undef) w->Q (.panic c) a w:=by exact fun _ _ _ h=>h)(hS:eM lates listed=true->S w:=by first|exact fun _=>by assumption|exact uE (by kernel_rfl))(e:(a.put oi.dst undef,listed.setIfInBounds i true)=(a',l'):=by first|(simp only [Act.put,sI,sZ,sS];done)|(simp only [Act.put,sI,sZ,sS];exact rfl)|exact rfl):
 cN P md l.toArray Q S lates (fuel+1) listed a w:=by
 cases e;exact aK4 hi h side hw hQ hS
theorem eGX(i:Nat){oi:Oper}{v:Value}{a':Act}{l':Array Bool}(h:cN P md l.toArray Q S lates fuel l' a' w)(hi:l[i]?=some oi:=by rfl)
 (hy:(Region.wanted oi (yielded l.toArray a.tmps)=true/\(∀w,(execOp a.eval oi).run P w= .ok (.value v) w)/\((Region.noSelect l.toArray && Region.free md l.toArray listed i && (Region.ready md l.toArray listed).contains i && !lates.contains i))=true/\(eM lates listed=true->S w))\/ (Region.wanted oi (yielded l.toArray a.tmps)=false/\v=undef/\((Region.noSelect l.toArray && Region.free md l.toArray listed i && (Region.ready md l.toArray listed).contains i && !lates.contains i))=true/\(eM lates listed=true->S w)):=by first|exact .inl ⟨by rfl,by(intro w;go_simp;try with_reducible rfl),by kernel_rfl,by first|exact fun _=>by assumption|exact uE (by kernel_rfl)⟩|exact .inr ⟨by rfl,rfl,by kernel_rfl,by first|exact fun _=>by assumption|exact uE (by kernel_rfl)⟩)
 (hQ:∀c a w,Q (.panic c) (a.put oi.dst v) w->Q (.panic c) a w:=by exact fun _ _ _ h=>h)(e:(a.put oi.dst v,listed.setIfInBounds i true)=(a',l'):=by first|(simp only [Act.put,sI,sZ,sS];done)|(simp only [Act.put,sI,sZ,sS];exact rfl)|exact rfl):
 cN P md l.toArray Q S lates (fuel+1) listed a w:=by
 cases e;rcases hy with⟨h1,h2,h3,h4⟩|⟨h1,rfl,h3,h4⟩
 ·exact dF i h hi h2 h3 h1 hQ h4
 ·exact dO i h hi h3 h1 hQ h4
theorem eHX(i:Nat){oi:Oper}{v:Value}{a':Act}{l':Array Bool}(h:cN P md l.toArray Q S lates fuel l' a' w)(hi:l[i]?=some oi:=by rfl)
 (hy:(Region.wanted oi (yielded l.toArray a.tmps)=true/\(∀w,S w->(execOp a.eval oi).run P w= .ok (.value v) w)/\((Region.noSelect l.toArray && Region.free md l.toArray listed i && (Region.ready md l.toArray listed).contains i && aAh md l.toArray listed lates i (aGj md l.toArray i)))=true/\(S w))\/ (Region.wanted oi (yielded l.toArray a.tmps)=false/\v=undef/\((Region.noSelect l.toArray && Region.free md l.toArray listed i && (Region.ready md l.toArray listed).contains i && !lates.contains i))=true/\(eM lates listed=true->S w)):=by first|exact .inl ⟨by rfl,by(intro w hSw;(try dsimp only at hSw);go_simp;try with_reducible rfl),by kernel_rfl,by assumption⟩|exact .inr ⟨by rfl,rfl,by kernel_rfl,by first|exact fun _=>by assumption|exact uE (by kernel_rfl)⟩)
 (hQ:∀c a w,Q (.panic c) (a.put oi.dst v) w->Q (.panic c) a w:=by exact fun _ _ _ h=>h)(e:(a.put oi.dst v,listed.setIfInBounds i true)=(a',l'):=by first|(simp only [Act.put,sI,sZ,sS];done)|(simp only [Act.put,sI,sZ,sS];exact rfl)|exact rfl):
 cN P md l.toArray Q S lates (fuel+1) listed a w:=by
 cases e;rcases hy with⟨h1,h2,h3,h4⟩|⟨h1,rfl,h3,h4⟩
 ·exact dI i h hi h2 h3 h1 hQ h4
 ·exact dO i h hi h3 h1 hQ h4
def Comes(P:Program)(md:Region.Mode)(l:List Oper)(Q:Exit->Act->World->Prop)(S:World->Prop)(lates:List Nat)(fuel:Nat)(listed:Array Bool)(a:Act)(w:World)(i:Nat):Prop:=
 wpOp P l.toArray Q i (fun a' w'=>(eM lates (listed.setIfInBounds i true)=true->S w')/\cN P md l.toArray Q S lates fuel (listed.setIfInBounds i true) a' w') a w
theorem aG{i:Nat}{o:Oper}(ho:l[i]?=some o)
 (h:∀K':Act->World->Prop,Shut (∀a w,S w->(S w->cN P md l.toArray Q S lates fuel (listed.setIfInBounds i true) a w)->K' a w)->if Region.wanted o (yielded l.toArray a.tmps)=true then Oper.wp P o a w K' Q else K' (a.put o.dst undef) w):Comes P md l Q S lates fuel listed a w i:=
 wpOp_step (opAt ho) fun K' hK=>h K' fun a w hS hW=>hK a w ⟨fun _=>hS,hW hS⟩
theorem aK{i:Nat}{o:Oper}(ho:l[i]?=some o)(hi:eM lates (listed.setIfInBounds i true)=false)
 (h:∀K':Act->World->Prop,Shut (∀a w,cN P md l.toArray Q S lates fuel (listed.setIfInBounds i true) a w->K' a w)->if Region.wanted o (yielded l.toArray a.tmps)=true then Oper.wp P o a w K' Q else K' (a.put o.dst undef) w):Comes P md l Q S lates fuel listed a w i:=
 wpOp_step (opAt ho) fun K' hK=>h K' fun a w hW=>hK a w ⟨fun hn=>absurd (hn.symm.trans hi) Bool.noConfusion,hW⟩
theorem aF{i:Nat}(h:Comes P md l Q S lates fuel listed a w i)(hr:Region.ready md l.toArray listed= [i]:=by kernel_rfl):cN P md l.toArray Q S lates (fuel+1) listed a w:=
 ⟨fun h0=>absurd (hr▸h0) (by simp),fun j hj=>by rw [hr]at hj;simp at hj;subst hj;exact h⟩
theorem eCX(i:Nat){o:Oper}(h:∀K':Act->World->Prop,Shut (∀a w,S w->∀{a':Act} {l':Array Bool},(S w->cN P md l.toArray Q S lates fuel l' a' w)->(e:(a,listed.setIfInBounds i true)=(a',l'):=by first|(simp only [Act.put,sI,sZ,sS];done)|(simp only [Act.put,sI,sZ,sS];exact rfl)|exact rfl)->K' a w)->if Region.wanted o (yielded l.toArray a.tmps)=true then Oper.wp P o a w K' Q else K' (a.put o.dst undef) w)(ho:l[i]?=some o:=by rfl):Comes P md l Q S lates fuel listed a w i:=
 aG ho fun K' hK=>h K' fun a w hS a' l' hW e=>by cases e;exact hK a w hS hW
theorem eTX(i:Nat){o:Oper}(h:∀K':Act->World->Prop,Shut (∀a w,S w->∀{a':Act} {l':Array Bool},(S w->cN P md l.toArray Q S lates fuel l' a' w)->(e:(a,listed.setIfInBounds i true)=(a',l'):=by first|(simp only [Act.put,sI,sZ,sS];done)|(simp only [Act.put,sI,sZ,sS];exact rfl)|exact rfl)->K' a w)->if Region.wanted o (yielded l.toArray a.tmps)=true then Oper.wp P o a w K' Q else K' (a.put o.dst undef) w)(ho:l[i]?=some o:=by rfl)(hr:Region.ready md l.toArray listed= [i]:=by kernel_rfl):cN P md l.toArray Q S lates (fuel+1) listed a w:=aF (eCX i h ho) hr
theorem eKX(i:Nat){o:Oper}(h:∀K':Act->World->Prop,Shut (∀a w {a':Act} {l':Array Bool},cN P md l.toArray Q S lates fuel l' a' w->(e:(a,listed.setIfInBounds i true)=(a',l'):=by first|(simp only [Act.put,sI,sZ,sS];done)|(simp only [Act.put,sI,sZ,sS];exact rfl)|exact rfl)->K' a w)->if Region.wanted o (yielded l.toArray a.tmps)=true then Oper.wp P o a w K' Q else K' (a.put o.dst undef) w)(ho:l[i]?=some o:=by rfl)(hi:eM lates (listed.setIfInBounds i true)=false:=by kernel_rfl):Comes P md l Q S lates fuel listed a w i:=
 aK ho hi fun K' hK=>h K' fun a w a' l' hW e=>by cases e;exact hK a w hW
theorem eLX(i:Nat){o:Oper}(h:∀K':Act->World->Prop,Shut (∀a w {a':Act} {l':Array Bool},cN P md l.toArray Q S lates fuel l' a' w->(e:(a,listed.setIfInBounds i true)=(a',l'):=by first|(simp only [Act.put,sI,sZ,sS];done)|(simp only [Act.put,sI,sZ,sS];exact rfl)|exact rfl)->K' a w)->if Region.wanted o (yielded l.toArray a.tmps)=true then Oper.wp P o a w K' Q else K' (a.put o.dst undef) w)(ho:l[i]?=some o:=by rfl)(hi:eM lates (listed.setIfInBounds i true)=false:=by kernel_rfl)(hr:Region.ready md l.toArray listed= [i]:=by kernel_rfl):cN P md l.toArray Q S lates (fuel+1) listed a w:=aF (eKX i h ho hi) hr
theorem wY{i k:Nat}(h:Comes P md l Q S lates fuel listed a w i)(h':Comes P md l Q S lates fuel listed a w k)(hr:Region.ready md l.toArray listed= [i,k]:=by kernel_rfl):cN P md l.toArray Q S lates (fuel+1) listed a w:=
 ⟨fun h0=>absurd (hr▸h0) (by simp),fun j hj=>by
  rw [hr]at hj;simp at hj;rcases hj with rfl|rfl
  ·exact h
  ·exact h'⟩
theorem aDr{o:Oper}{K:Act->World->Prop}{E:Prop}(hgd:o.guard=none)(s x:Operand){t1 t2:TypeId}
 (ho:o.op= .call {callee:= .builtin .append,args:=#[s,x],argTypes:=#[t1,t2]}){v u v':Value}{w':World}(hs:a.eval s=v)(hx:a.eval x=u)
 (hr:(Builtin.append_ #[t1,t2] o.type #[v,u]).run P w= .ok v' w')(h:K (a.put o.dst v') w'):
 if Region.wanted o (yielded l.toArray a.tmps)=true then Oper.wp P o a w K Q else E:=by
 have hw:Region.wanted o (yielded l.toArray a.tmps)=true:=by simp [Region.wanted,hgd]
 rw [if_pos hw];unfold Oper.wp execOp;simp only [ho,resolve,invoke,builtin,Sem.run_bind,Sem.run_pure,Result.andThen_ok,List.map_toArray,List.map_cons,List.map_nil,hs,hx,hr];exact h
end
end
section
open Go.RowKit
def xP(T:Nat->Prop)(W W':World):Nat->Prop:=fun k=>T k\/ (W.heap.size≤k/\k<W'.heap.size)
def fI(Z T:Nat->Prop):Nat->Prop:=fun k=>T k\/Z k
def pP{α:Type}(F:Fence)(n:Nat)(P:Program)(g:Nat)(lb:Array Value)(encs:α->Array Value)(Z:Nat->Prop)(Gv:World->(Nat->Prop)->World->α->Prop)(S Sp:List α->Prop)(w:World):Prop:=
 ∀(l:Nat) (J Jx:(Nat->Prop)->List α->World->Prop) (W:World),Kp (fun k=>¬Z k) w W->
  (∀T T' pre x W1 W2,J T pre W1->Kp T W1 W2->(∀k,T' k->xP T W1 W2 k)->Gv W1 T' W2 x->Sp (pre++ [x])->YieldAt F (n-1) P l (encs x) W2 fun e W'=>
   (e= .returned (.bool true)/\J T' (pre++ [x]) W'/\Kp (fun k=>¬fI Z T' k) W2 W')\/ (e= .returned (.bool false)/\Jx T' (pre++ [x]) W'/\Kp (fun k=>¬fI Z T' k) W2 W'))->
  J (fun _=>False) [] W->
  CallsIn F n P g (#[.func (.yield l) #[] #[]]++lb) W fun e W'=>(∃v,e= .returned v)/\∃T W1,Kp T W1 W'/\((∃xs,S xs/\J T xs W1)\/ (∃pre,Sp pre/\Jx T pre W1))
def aM0:Exit->Option (Option Code)
 | .normal=>some none
 | .ret=>some (some .ret)
 | .exit id=>some (some (.exit id))
 | .goto t=>some (some (.goto t))
 | .panic _=>none
 | .outgrown=>none
def aCm{α:Type}(Z:Nat->Prop)(B:Nat)(T:Nat->Prop)(I:(Nat->Prop)->List α->World->Prop)(Ix:Code->(Nat->Prop)->List α->World->Prop)(xs:List α)(W:World)(e:Exit)(_:Act)(W':World):Prop:=
 match aM0 e with
 |some none=>KeepsFrom B W W'/\Kp (fun k=>¬fI Z T k) W W'/\I T xs W'
 |some (some c)=>KeepsFrom B W W'/\Kp (fun k=>¬fI Z T k) W W'/\Ix c T xs W'
 |none=>False
structure BookT(b:Nat)(r:Loop)(T:Nat->Prop)(W:World):Prop where
 loop:W.heap[b+1]?=some (.loop r)
 later:W.heap[b]?=some (.deferred (some []))
 off:∀k,T k->k≠b/\k≠b+1
theorem BookT.lt{b:Nat}{r:Loop}{T:Nat->Prop}{W:World}(h:BookT b r T W):b+1<W.heap.size:=(Array.getElem?_eq_some_iff.1 h.loop).1
theorem BookT.step{b:Nat}{r:Loop}{T T':Nat->Prop}{W W':World}(h:BookT b r T W)(hs:Kp T W W')(hT:∀k,T' k->xP T W W' k):BookT b r T' W':=by
 have hl:=h.lt;refine⟨(hs.block _ hl fun e=>(h.off _ e).2 rfl).trans h.loop,(hs.block _ (by omega) fun e=>(h.off _ e).1 rfl).trans h.later,fun k hk=>?_⟩;rcases hT k hk with hk|hk
 ·exact h.off k hk
 ·omega
theorem Kp.putF{F:Nat->Prop}{W:World}{l:Nat}(hF:F l)(o:Obj):Kp F W (W.putObj l o):=
 ⟨rfl,rfl,rfl,by simp [World.putObj],fun k hk hf=>World.putObj_heap_other (fun e=>hf (by rw [e];exact hF))⟩
theorem BookT.set{Z:Nat->Prop}{b:Nat}{r:Loop}{T:Nat->Prop}{W:World}(h:BookT b r T W)(hZ:∀k,Z k->k<b)(r':Loop):BookT b r' T (W.putObj (b+1) (.loop r'))/\Kp (fun k=>¬fI Z T k) W (W.putObj (b+1) (.loop r')):=
 ⟨⟨World.putObj_heap_same h.lt,(World.putObj_heap_other (by omega)).trans h.later,h.off⟩,Kp.putF (fun hk=>by
  rcases hk with hk|hk
  ·exact(h.off _ hk).2 rfl
  ·have:=hZ _ hk;omega) _⟩
theorem BookT.keeps{b:Nat}{r:Loop}{T:Nat->Prop}{W W':World}{B:Nat}(h:BookT b r T W)(hB:B≤b)(hk:KeepsFrom B W W'):BookT b r T W':=
 ⟨hk.same _ _ (by omega) h.loop rfl,hk.same _ _ hB h.later rfl,h.off⟩
theorem size_put(W:World)(l:Nat)(o:Obj):(W.putObj l o).heap.size=W.heap.size:=by simp [World.putObj]
theorem Kp.put{F:Nat->Prop}{W W':World}(h:Kp F W W')(l:Nat)(o:Obj)(hl:l<W.heap.size):Kp F (W.putObj l o) (W'.putObj l o):=by
 refine⟨h.os,h.tape,h.output,by rw [size_put,size_put];exact h.size,fun k hk hf=>?_⟩;rw [size_put]at hk;by_cases e:k=l
 ·subst e;rw [World.putObj_heap_same hl,World.putObj_heap_same (Nat.lt_of_lt_of_le hl h.size)]
 ·rw [World.putObj_heap_other e,World.putObj_heap_other e];exact h.block k hk hf
section
variable {F:Fence}{n:Nat}{P:Program}
theorem iI{α:Type}{g:Operand}{ps:Array Tmp}{assign body:Code}{Q:Exit->Act->World->Prop}{a:Act}{w:World}
 (hro:F.round=none)(h1:1≤n){gf:Nat}{lb:Array Value}(hg:a.eval g= .func (.func gf) #[] lb)(hFg:F.fn gf)(eg:∀args w,(callFunc gf args).run P w= .ok (.enter gf args) w)
 {encs:α->Array Value}{Z:Nat->Prop}{Gv:World->(Nat->Prop)->World->α->Prop}{S Sp:List α->Prop}{w0:World}(hseq:pP F (n-1) P gf lb encs Z Gv S Sp w0)(hb0:Kp (fun k=>¬Z k) w0 w)(hZ:∀k,Z k->k<w.heap.size)(hps:∀x,(encs x).size=ps.size)
 (hGv:∀T W1 W2 x l r o,Gv W1 T W2 x->W2.heap[l]?=some r->r.isCells=false->Gv (W1.putObj l o) T (W2.putObj l o) x)
 (I:(Nat->Prop)->List α->World->Prop)(Ix:Code->(Nat->Prop)->List α->World->Prop)
 (hIB:∀T s W l o o',I T s W->¬T l->w.heap.size≤l->W.heap[l]?=some o->o.isCells=false->I T s (W.putObj l o'))
 (hIxB:∀c T s W l o o',Ix c T s W->¬T l->w.heap.size≤l->W.heap[l]?=some o->o.isCells=false->Ix c T s (W.putObj l o'))
 (hIA:∀W o,I (fun _=>False) [] W->I (fun _=>False) [] (W.alloc o))(h0:I (fun _=>False) [] w)(a₁:α->Act)
 (hassign:∀(l:Nat) (x:α) (W:World) (K:Act->World->Prop),K (a₁ x) W->
  assign.wpIn (F.inRound l) (n-1-1) P (Exit.then K (fun _ _ _=>False)) {tmps:=(ps.zip (encs x)).foldl (fun t (p,v)=>t.setIfInBounds p v) a.tmps,defers:= []} W)
 (hbody:∀(l:Nat) (T T':Nat->Prop) (pre:List α) (x:α) (W1 W:World),I T pre W1->(∀k,T k->k<W1.heap.size)->Kp T W1 W->(∀k,T' k->xP T W1 W k)->Gv W1 T' W x->Sp (pre++ [x])->body.wpIn (F.inRound l) (n-1-1) P (aCm Z w.heap.size T' I Ix (pre++ [x]) W) (a₁ x) W)
 (hdone:∀(D:Nat) (T:Nat->Prop) (xs:List α) (W1 W:World),w.heap.size≤D->S xs->I T xs W1->(∀k,T k->k<W1.heap.size)->Kp T W1 W->W.heap[D]?=some (.deferred (some []))->Q .normal {a with defers:={target:= .collected D,args:=#[]}::a.defers} W)
 (hstop:∀(D:Nat) (c:Code) (T:Nat->Prop) (pre:List α) (W1 W:World),w.heap.size≤D->Sp pre->Ix c T pre W1->(∀k,T k->k<W1.heap.size)->Kp T W1 W->W.heap[D]?=some (.deferred (some []))->c.wpIn F n P Q {a with defers:={target:= .collected D,args:=#[]}::a.defers} W):
 (Code.rangeFunc g ps assign body).wpIn F n P Q a w:=by
 refine wpIn_rangeFunc fun fn hfn=>?_;rw [hro];obtain⟨b,eb⟩:=nm w.heap.size;rw [eb]at hIB hIxB hbody hdone hstop hZ
 let rc (st:LoopState) (pe:Option Code):Loop:={state:=st,pending:=pe,fn,tmps:=a.tmps,params:=ps,assign,body,defers:=b}
 obtain⟨W1,hW1⟩:=nm ((w.alloc (.deferred (some []))).alloc (.loop (rc .ready none)));have hB1:BookT b (rc .ready none) (fun _=>False) W1:=by
  refine⟨?_,?_,fun k hk=>hk.elim⟩
  ·have h:=World.alloc_heap_new (w.alloc (.deferred (some []))) (.loop (rc .ready none));rw [World.size_alloc,eb]at h;rw [<-hW1];exact h
  ·have h:=World.alloc_heap_new w (.deferred (some []));rw [eb]at h;rw [<-hW1,<-h];exact Below.heap_alloc _ _ _ (by rw [World.size_alloc];omega)
 have hI1:I (fun _=>False) [] W1:=by rw [<-hW1];exact hIA _ _ (hIA _ _ h0)
 have hX1:Kp (fun k=>¬Z k) w0 W1:=by rw [<-hW1];exact(hb0.alloc _).alloc _
 refine⟨b+1,[{target:= .collected b,args:=#[]}],W1,{target:= .fn (.func gf) lb,args:=#[.func (.yield (b+1)) #[] #[]]},W1,gf,#[.func (.yield (b+1)) #[] #[]]++lb,W1,?_,?_,?_,?_,fun _=>h1,?_⟩
 ·have h:=run_enterLoop_outer (P:=P) (w:=w) fn a.tmps ps assign body;rw [eb]at h;rw [<-hW1];exact h
 ·simp only [resolve,hg];simp [go_sem]
 ·intro f' hf';simp [Target.leads]at hf';subst hf';exact hFg
 ·simp [invoke,go_sem,eg]
 ·refine(hseq (b+1) (fun T pre W=>I T pre W/\BookT b (rc .ready none) T W/\∀k,T k->k<W.heap.size) (fun T pre W=>∃c,Ix c T pre W/\BookT b (rc .done (some c)) T W/\∀k,T k->k<W.heap.size) W1 hX1 ?_ ⟨hI1,hB1,fun k hk=>hk.elim⟩).mono ?_
  ·rintro T T' pre x V W ⟨hi,hbk0,hT0⟩ hkp hsub hgv hlen;have hbk:=hbk0.step hkp hsub;have hT:∀k,T' k->k<W.heap.size:=fun k hk=>by
    rcases hsub k hk with h|h
    ·exact Nat.lt_of_lt_of_le (hT0 k h) hkp.size
    ·exact h.2
   have hy:=run_yield (P:=P) (args:=encs x) hbk.loop (by exact hps x);refine⟨fn,_,assign,body,hy,roundIn_of_wpIn hfn (hassign _ x W _ ⟨_,run_beginRound hbk.loop rfl,?_⟩)⟩;obtain⟨hbk2,hs2⟩:=hbk.set hZ {rc .ready none with state:= .busy};have hi2:=hIB T pre V (b+1) _ (.loop {rc .ready none with state:= .busy}) hi (fun h=>(hbk0.off _ h).2 rfl) (by omega) hbk0.loop rfl;refine wpIn_mono (hbody _ T T' pre x _ _ hi2 (fun k hk=>by rw [size_put];exact hT0 k hk) (hkp.put _ _ hbk0.lt) (fun k hk=>by
    rcases hsub k hk with h|h
    ·exact .inl h
    ·exact .inr (by rw [size_put,size_put];exact h)) (hGv _ _ _ _ _ _ _ hgv hbk.loop rfl) hlen) ?_
   intro e a3 W3 hp;unfold aCm at hp;have fin:∀(jump:Option Code),KeepsFrom b (W.putObj (b+1) (.loop {rc .ready none with state:= .busy})) W3->Kp (fun k=>¬fI Z T' k) (W.putObj (b+1) (.loop {rc .ready none with state:= .busy})) W3->
    (Instr.endRound (b+1) jump).run P W3= .ok (.bool jump.isNone) (W3.putObj (b+1) (.loop (rc (if jump.isNone then .ready else .done) jump)))/\
    BookT b (rc (if jump.isNone then .ready else .done) jump) T' (W3.putObj (b+1) (.loop (rc (if jump.isNone then .ready else .done) jump)))/\
    Kp (fun k=>¬fI Z T' k) W (W3.putObj (b+1) (.loop (rc (if jump.isNone then .ready else .done) jump)))/\W3.heap[b+1]?=some (.loop {rc .ready none with state:= .busy}):=fun jump hk hs=>by
    have hbk3:=hbk2.keeps (Nat.le_refl b) hk;obtain⟨hbk4,hs4⟩:=hbk3.set hZ (rc (if jump.isNone then .ready else .done) jump);exact⟨run_endRound jump hbk3.loop,hbk4,(hs2.trans hs).trans hs4,hbk3.loop⟩
   have leave:∀c:Code,KeepsFrom b (W.putObj (b+1) (.loop {rc .ready none with state:= .busy})) W3/\Kp (fun k=>¬fI Z T' k) (W.putObj (b+1) (.loop {rc .ready none with state:= .busy})) W3/\Ix c T' (pre++ [x]) W3->
    ∃v w',(Instr.endRound (b+1) (some c)).run P W3= .ok v w'/\((Ending.returned v= .returned (.bool true)/\(I T' (pre++ [x]) w'/\BookT b (rc .ready none) T' w'/\∀k,T' k->k<w'.heap.size)/\Kp (fun k=>¬fI Z T' k) W w')\/
     (Ending.returned v= .returned (.bool false)/\(∃c,Ix c T' (pre++ [x]) w'/\BookT b (rc .done (some c)) T' w'/\∀k,T' k->k<w'.heap.size)/\Kp (fun k=>¬fI Z T' k) W w')):=fun c ⟨hk,hs,hx⟩=>by
    obtain⟨hr,hbk4,hs4,hl3⟩:=fin (some c) hk hs;exact⟨_,_,hr,.inr ⟨rfl,⟨c,hIxB c T' _ W3 (b+1) _ _ hx (fun h=>(hbk.off _ h).2 rfl) (by omega) hl3 rfl,hbk4,fun k hk=>Nat.lt_of_lt_of_le (hT k hk) hs4.size⟩,hs4⟩⟩
   cases e with
   |normal=>
    obtain⟨hk,hs,hx⟩:=hp;obtain⟨hr,hbk4,hs4,hl3⟩:=fin none hk hs;exact⟨_,_,hr,.inl ⟨rfl,⟨hIB T' _ W3 (b+1) _ _ hx (fun h=>(hbk.off _ h).2 rfl) (by omega) hl3 rfl,hbk4,fun k hk=>Nat.lt_of_lt_of_le (hT k hk) hs4.size⟩,hs4⟩⟩
   |ret=>exact leave _ hp
   |exit id=>exact leave _ hp
   |goto t=>exact leave _ hp
   |panic ch=>exact hp.elim
   |outgrown=>exact hp.elim
  ·rintro e W2 ⟨⟨v,rfl⟩,T,V,hkp,(⟨xs,hS,hi,hbk,hT⟩|⟨pre,hSp,c,hi,hbk,hT⟩)⟩
   ·have hbk2:=hbk.step (T':=T) hkp fun k hk=> .inl hk;refine⟨none,_,run_endLoop hbk2.loop (by simp [rc]),?_⟩;exact hdone b T xs _ _ (Nat.le_refl _) hS (hIB T _ V (b+1) _ _ hi (fun h=>(hbk.off _ h).2 rfl) (by omega) hbk.loop rfl) (fun k hk=>by rw [size_put];exact hT k hk) (hkp.put _ _ hbk.lt) ((World.putObj_heap_other (by omega)).trans hbk2.later)
   ·have hbk2:=hbk.step (T':=T) hkp fun k hk=> .inl hk;refine⟨some c,_,run_endLoop hbk2.loop (by simp [rc]),?_⟩;exact hstop b c T pre _ _ (Nat.le_refl _) hSp (hIxB c T _ V (b+1) _ _ hi (fun h=>(hbk.off _ h).2 rfl) (by omega) hbk.loop rfl) (fun k hk=>by rw [size_put];exact hT k hk) (hkp.put _ _ hbk.lt) ((World.putObj_heap_other (by omega)).trans hbk2.later)
end
end
section
open Ieee
end
section
end
section
open Go.ChangeShapes Go.WideShapes Go.ChangeAt Go.RowKit
open Go.ChangeMaps (open_string shut_string)
section
variable {H:Type}{enc:TypeId×Value->H}{P:Program}{W:World}
end
end
section
open Go.ChangeShapes Go.WideShapes Go.ChangeAt Go.RowKit
theorem aK7{H:Type}(d:DataW H):1≤Rows.uptoBulk d:=by
 cases d with
 |lit l=>cases l<;>simp [Rows.uptoBulk]
 |nil=>simp [Rows.uptoBulk]
 |ptr d=>simp [Rows.uptoBulk]
 |slice elems spare=>simp [Rows.uptoBulk]
 |agg parts=>simp [Rows.uptoBulk]
 |iface t d=>simp [Rows.uptoBulk]
 |map entries=>simp [Rows.uptoBulk]
 |held h=>simp [Rows.uptoBulk]
structure Shp(P:Program)(α:Type) where
 ty:TypeId
 n:Nat
 At:World->(Nat->Prop)->List Value->α->Prop
 bulk:α->Nat
 cells:P.cellsOf ty=n
 len:∀{w G cs x},At w G cs x->cs.length=n
 kp:∀{w w' G F cs x},At w G cs x->Kp F w w'->(∀k,G k->¬F k)->At w' G cs x
 mono:∀{w G G' cs x},At w G cs x->(∀k,G k->G' k)->At w G' cs x
 read:∀{H:Type} {enc:TypeId×Value->H} {w fuel cs d p},DataW.trod enc P w 0 (fun _=>true) true fuel ty cs=some (d,p)->∃x,At w (fun k=>k<w.heap.size) cs x/\bulk x≤Rows.uptoBulk d
section
variable {P:Program}{α β:Type}
def aGp(t:TypeId)(k:IntKind)(hu:P.underlying t=some (.int k))(hc:P.cellsOf t=1):Shp P Int where
 ty:=t
 n:=1
 At:=fun _ _ cs x=>cs= [.int k x]/\(Lit.int k x).wf=true
 bulk:=fun _=>1
 cells:=hc
 len:=fun h=>by rw [h.1];rfl
 kp:=fun h _ _=>h
 mono:=fun h _=>h
 read:=fun h=>by obtain⟨n,rfl,e,hw⟩:=DataW.trod_int hu h;cases e;exact⟨n,⟨rfl,hw⟩,aK7 _⟩
def aBu(t:TypeId)(hu:P.underlying t=some .string)(hc:P.cellsOf t=1):Shp P ByteArray where
 ty:=t
 n:=1
 At:=fun _ _ cs x=>cs= [.string x]/\x.size≤maxLen
 bulk:=fun x=>x.size+1
 cells:=hc
 len:=fun h=>by rw [h.1];rfl
 kp:=fun h _ _=>h
 mono:=fun h _=>h
 read:=fun h=>by obtain⟨n,rfl,e,hw⟩:=DataW.trod_string hu h;cases e;refine⟨n,⟨rfl,hw⟩,?_⟩;rw [Rows.uptoBulk,Array.length_toList];exact Nat.le_refl _
def ElemsAt(s:Shp P α)(w:World)(G:Nat->Prop)(ao:Option Addr)(xs:List α):Prop:=
 ∀i x,xs[i]?=some x->∃b off es,ao=some ⟨b,off,none⟩/\G b/\b<w.heap.size/\s.At w G es x/\∀c u,es[c]?=some u->w.cell? ⟨b,off+(i*s.n+c),none⟩=some u
theorem ElemsAt.kp{s:Shp P α}{w w':World}{G F:Nat->Prop}{ao:Option Addr}{xs:List α}(h:ElemsAt s w G ao xs)(hk:Kp F w w')(hF:∀k,G k->¬F k):ElemsAt s w' G ao xs:=fun i x hx=>by obtain⟨b,off,es,e,hg,hb,ha,hc⟩:=h i x hx;exact⟨b,off,es,e,hg,Nat.lt_of_lt_of_le hb hk.size,s.kp ha hk hF,fun c u hu=>hk.cell (hc c u hu) (hF b hg)⟩
theorem ElemsAt.ext{s:Shp P α}{w w':World}{G:Nat->Prop}{ao:Option Addr}{xs:List α}(h:ElemsAt s w G ao xs)(hk:Ext w w'):ElemsAt s w' G ao xs:=h.kp hk fun _ _=>id
theorem ElemsAt.mono{s:Shp P α}{w:World}{G G':Nat->Prop}{ao:Option Addr}{xs:List α}(h:ElemsAt s w G ao xs)(hG:∀k,G k->G' k):ElemsAt s w G' ao xs:=fun i x hx=>by obtain⟨b,off,es,e,hg,hb,ha,hc⟩:=h i x hx;exact⟨b,off,es,e,hG b hg,hb,s.mono ha hG,hc⟩
def cK(f:α->Nat)(xs:List α):Nat:=(xs.map f).sum
theorem iE(f:α->Nat)(x:α)(xs:List α):cK f (x::xs)=f x+cK f xs:=by simp [cK]
theorem jH(f:α->Nat){x:α}:∀{xs:List α},x∈xs->f x≤cK f xs
 |y::xs,h=>by
  rw [iE];rcases List.mem_cons.1 h with rfl|h
  ·omega
  ·have:=jH f h;omega
theorem gE(f:α->Nat)(hf:∀x,1≤f x):∀xs:List α,xs.length≤cK f xs
 | []=>by simp
 |x::xs=>by have:=gE f hf xs;have:=hf x;rw [iE];simp only [List.length_cons];omega
theorem aDu{H:Type}(f:α->Nat):∀(xs:List α) (D:List (DataW H)),xs.length=D.length->(∀(i:Nat) x d,xs[i]?=some x->D[i]?=some d->f x≤Rows.uptoBulk d)->cK f xs≤Rows.uptoBulkAll D
 | [],[],_,_=>by simp [cK]
 |x::xs,d::D,hl,h=>by have h0:=h 0 x d rfl rfl;have:=aDu f xs D (by simpa using hl) (fun i y e hy he=>h (i+1) y e (by simpa using hy) (by simpa using he));rw [iE];simp only [Rows.uptoBulkAll];omega
def oC(t:TypeId)(s:Shp P α)(hu:P.underlying t=some (.slice s.ty))(hc:P.cellsOf t=1)(hn:0<s.n):Shp P (List α) where
 ty:=t
 n:=1
 At:=fun w G cs xs=>∃ao cap,cs= [.slice ao xs.length cap]/\xs.length≤cap/\cap≤maxLen/\ElemsAt s w G ao xs
 bulk:=fun xs=>cK s.bulk xs+1
 cells:=hc
 len:=fun h=>by obtain⟨_,_,e,_⟩:=h;rw [e];rfl
 kp:=fun⟨ao,cap,e,h1,h2,h⟩ hk hF=>⟨ao,cap,e,h1,h2,h.kp hk hF⟩
 mono:=fun⟨ao,cap,e,h1,h2,h⟩ hG=>⟨ao,cap,e,h1,h2,h.mono hG⟩
 read:=fun{H enc w fuel cs d p} h=>by
  rcases Go.Deep.open_slice hu h with⟨hcs,hx⟩|⟨a,len,cap,m,n,D,Pl,hcs,_,hl,hm,hmm,hx,hel⟩
  ·cases hx;exact⟨[],⟨none,0,hcs,by simp,by simp [maxLen],fun i x hi=>by simp at hi⟩,by simp [Rows.uptoBulk,cK]⟩
  ·cases hx;subst hcs;simp only [if_true]at hmm;have each:∀i,i<len->∃q:α×List Value,(s.At w (fun k=>k<w.heap.size) q.2 q.1/\s.bulk q.1≤Rows.uptoBulk (D i))/\∃b off,a=⟨b,off,none⟩/\b<w.heap.size/\∀c u,q.2[c]?=some u->w.cell? ⟨b,off+(i*s.n+c),none⟩=some u:=by
    intro i hi;obtain⟨cs,hcs,ht⟩:=hel i (by omega);obtain⟨x,hx,hb⟩:=s.read ht;rw [s.cells]at hcs;obtain⟨_,hlen,hcell⟩:=World.cells?_some hcs;obtain⟨b,off,spot⟩:=a;have hspot:spot=none:=by obtain⟨cs0,hcs0,_⟩:=hel 0 (by omega);rw [s.cells]at hcs0;obtain⟨_,hlen0,hcell0⟩:=World.cells?_some hcs0;have h0:=hcell0 0 hn;rw [qG (by omega)]at h0;have:=World.cell?_spot h0;simpa [Addr.add]using this
    subst hspot;have cell:∀c,c<s.n->w.cell? ⟨b,off+(i*s.n+c),none⟩=cs[c]?:=fun c hc=>by have:=hcell c hc;rw [Go.Deep.add_add,Addr.add_lit]at this;exact this
    refine⟨(x,cs),⟨hx,hb⟩,b,off,rfl,?_,fun c u hu=>?_⟩
    ·have h0:=cell 0 hn;rw [qG (by omega)]at h0;exact World.block_lt_of_cell? _ _ h0
    ·have hc:=(List.getElem?_eq_some_iff.1 hu).1;rw [cell c (by simp only at hc;omega)];exact hu
   have hex:∃q:List (α×List Value),q.length=len/\∀(i:Nat) y,q[i]?=some y->(s.At w (fun k=>k<w.heap.size) y.2 y.1/\s.bulk y.1≤Rows.uptoBulk (D i))/\∃b off,a=⟨b,off,none⟩/\b<w.heap.size/\∀c u,y.2[c]?=some u->w.cell? ⟨b,off+(i*s.n+c),none⟩=some u:=by
    clear hel hmm hl hm h;induction len with
    |zero=>exact⟨[],rfl,fun i y hy=>by simp at hy⟩
    |succ len ih=>
     obtain⟨q,h1,h2⟩:=ih (fun i hi=>each i (by omega));obtain⟨y,hy⟩:=each len (by omega);refine⟨q++ [y],by simp [h1],fun i z hz=>?_⟩;by_cases hi:i<len
     ·rw [List.getElem?_append_left (by omega)]at hz;exact h2 i z hz
     ·have h3:=(List.getElem?_eq_some_iff.1 hz).1;simp only [List.length_append,List.length_cons,List.length_nil]at h3;have e:i=len:=by omega
      subst e;rw [List.getElem?_append_right (by omega)]at hz;simp [h1]at hz;subst hz;exact hy
   obtain⟨q,hq,hall⟩:=hex;refine⟨q.map (·.1),⟨some a,cap,by simp [hq],by simp [hq,hl],hm,fun i x hi=>?_⟩,?_⟩
   ·rw [List.getElem?_map]at hi;cases hy:q[i]? with
    |none=>rw [hy]at hi;cases hi
    |some y=>
     rw [hy]at hi;cases hi;obtain⟨⟨h1,_⟩,b,off,rfl,hb,hc⟩:=hall i y hy;exact⟨b,off,y.2,rfl,hb,hb,h1,hc⟩
   ·have:=aDu (H:=H) s.bulk (q.map (·.1)) ((List.range len).map D) (by simp [hq]) (fun i x d hx hd=>by
     rw [List.getElem?_map]at hx hd;cases hy:q[i]? with
     |none=>rw [hy]at hx;cases hx
     |some y=>
      have hi:=(List.getElem?_eq_some_iff.1 hy).1;rw [hy]at hx;rw [List.getElem?_range (by omega)]at hd;cases hx;cases hd;exact(hall i y hy).1.2)
    simp only [Rows.uptoBulk];omega
structure Flds(P:Program)(α:Type) where
 n:Nat
 At:World->(Nat->Prop)->List Value->α->Prop
 bulk:α->Nat
 ok:List Field->Nat->Prop
 len:∀{w G cs x},At w G cs x->cs.length=n
 kp:∀{w w' G F cs x},At w G cs x->Kp F w w'->(∀k,G k->¬F k)->At w' G cs x
 mono:∀{w G G' cs x},At w G cs x->(∀k,G k->G' k)->At w G' cs x
 read:∀{H:Type} {enc:TypeId×Value->H} {w:World} {fuel:Nat} {fs:List Field} {off:Nat} {cs:List Value} {xs:List (DataW H×List MemPlace)},ok fs off->off+n≤cs.length->(fs.mapM fun f=>DataW.trod enc P w 0 (fun _=>true) true fuel f.type ((cs.drop f.offset).take (P.cellsOf f.type)))=some xs->
  ∃x,At w (fun k=>k<w.heap.size) ((cs.drop off).take n) x/\bulk x≤Rows.uptoBulkAll (xs.map (·.1))
def aDk:Flds P Unit where
 n:=0
 At:=fun _ _ cs _=>cs= []
 bulk:=fun _=>0
 ok:=fun fs _=>fs= []
 len:=fun h=>by rw [h];rfl
 kp:=fun h _ _=>h
 mono:=fun h _=>h
 read:=fun h _ hm=>by subst h;exact⟨(),by simp,by simp⟩
def gV(s:Shp P α)(r:Flds P β):Flds P (α×β) where
 n:=s.n+r.n
 At:=fun w G cs x=>∃a b,cs=a++b/\s.At w G a x.1/\r.At w G b x.2
 bulk:=fun x=>s.bulk x.1+r.bulk x.2
 ok:=fun fs off=>∃f fs',fs=f::fs'/\f.type=s.ty/\f.offset=off/\r.ok fs' (off+s.n)
 len:=fun h=>by obtain⟨a,b,e,h1,h2⟩:=h;rw [e,List.length_append,s.len h1,r.len h2]
 kp:=fun⟨a,b,e,h1,h2⟩ hk hF=>⟨a,b,e,s.kp h1 hk hF,r.kp h2 hk hF⟩
 mono:=fun⟨a,b,e,h1,h2⟩ hG=>⟨a,b,e,s.mono h1 hG,r.mono h2 hG⟩
 read:=fun{H enc w fuel fs off cs xs} ho hl hm=>by
  obtain⟨f,fs',rfl,h1,h2,h3⟩:=ho;rw [List.mapM_cons]at hm;obtain⟨y,hy,hm⟩:=Option.bind_eq_some_iff.1 hm;obtain⟨ys,hys,hm⟩:=Option.bind_eq_some_iff.1 hm;cases hm;rw [h1,h2,s.cells]at hy;obtain⟨x,hx,hb⟩:=s.read (d:=y.1) (p:=y.2) hy;obtain⟨z,hz,hc⟩:=r.read h3 (by omega) hys;refine⟨(x,z),⟨_,_,?_,hx,hz⟩,?_⟩
  ·rw [<-List.drop_drop,List.take_add]
  ·simp only [List.map_cons,Rows.uptoBulkAll];omega
def mQ(t:TypeId)(r:Flds P α){fs:Array Field}(hu:P.underlying t=some (.struct fs))(hok:r.ok fs.toList 0)(hc:P.cellsOf t=r.n):Shp P α where
 ty:=t
 n:=r.n
 At:=r.At
 bulk:=fun x=>r.bulk x+1
 cells:=hc
 len:=r.len
 kp:=r.kp
 mono:=r.mono
 read:=fun{H enc w fuel cs d p} h=>by
  cases fuel with
  |zero=>simp [DataW.trod]at h
  |succ fuel=>
   unfold DataW.trod at h;rw [hu]at h;simp only at h;split at h
   ·rename_i hl;rw [hc]at hl;obtain⟨xs,hm,e⟩:=Option.map_eq_some_iff.1 h;cases e;obtain⟨x,hx,hb⟩:=r.read hok (by omega) hm;rw [List.drop_zero,<-hl,List.take_length]at hx;exact⟨x,hx,by simp only [Rows.uptoBulk];omega⟩
   ·cases h
theorem Shp.arg(s:Shp P α){H:Type}{enc:TypeId×Value->H}{W:World}{v:Value}{d:DataW H}{p:List MemPlace}(h:DataW.Trod enc P W 0 (fun _=>true) true s.ty v d p){N:Nat}(hN:Rows.uptoBulk d≤N):
 ∃x,s.At W (fun k=>k<W.heap.size) v.cells.toList x/\s.bulk x≤N:=by
 obtain⟨fuel,hf⟩:=h;obtain⟨x,hx,hb⟩:=s.read hf;exact⟨x,hx,Nat.le_trans hb hN⟩
theorem aFt{t:TypeId}{hu:P.underlying t=some .string}{hc:P.cellsOf t=1}{w:World}{G:Nat->Prop}{ao:Option Addr}{ss:List ByteArray}(h:ElemsAt (aBu t hu hc) w G ao ss):CellsAt w ao (strs ss):=fun i u hu'=>by
 simp only [strs,List.getElem?_map]at hu';cases hx:ss[i]? with
 |none=>rw [hx]at hu';cases hu'
 |some x=>
  rw [hx]at hu';cases hu';obtain⟨b,off,es,e,_,_,ha,hcell⟩:=h i x hx;refine⟨b,off,e,?_⟩;have:=hcell 0 (.string x) (by rw [ha.1];rfl);simpa [aBu]using this
end
section
variable {P:Program}{α β:Type}
theorem aJk{t:TypeId}{s:Shp P α}(hu:P.underlying t=some (.slice s.ty))(hc:P.cellsOf t=1)(hn:0<s.n){H:Type}{enc:TypeId×Value->H}{W:World}{base:Nat}{v:Value}{d:DataW H}{p:List MemPlace}
 (hok:Value.okWide P W .any base t v)(h:DataW.Trod enc P W 0 (fun _=>true) true t v d p){N:Nat}(hN:Rows.uptoBulk d≤N):
 ∃ao cap xs,v= .slice ao xs.length cap/\xs.length≤cap/\ElemsAt s W (fun k=>k<W.heap.size) ao xs/\cK s.bulk xs+1≤N:=by
 obtain⟨ao,len,cap,rfl⟩:=okWide_slice hu hok;obtain⟨x,⟨ao',cap',e,hl,_,hx⟩,hb⟩:=(oC t s hu hc hn).arg h hN;simp [Value.cells]at e;obtain⟨rfl,rfl,rfl⟩:=e;exact⟨ao,cap,x,rfl,hl,hx,hb⟩
theorem aG5{H:Type}{l:List (DataW H)}{N:Nat}(h:Rows.uptoBulkAll l≤N){d:DataW H}(hd:d∈l):Rows.uptoBulk d≤N:=by
 induction l with
 |nil=>cases hd
 |cons x l ih=>
  simp only [Rows.uptoBulkAll]at h;rcases List.mem_cons.1 hd with rfl|hd
  ·omega
  ·exact ih (by omega) hd
end
end
section
open Go.RowKit
theorem lO(a b:ByteArray):(a.toList==b.toList)=decide (a=b):=by rw [Bool.eq_iff_iff,beq_iff_eq,decide_eq_true_iff];refine⟨fun h=>?_,fun h=>by rw [h]⟩;rw [ByteArray.toList_eq,ByteArray.toList_eq]at h;exact ByteArray.ext (Array.toList_inj.1 h)
theorem kO{a b:ByteArray}(h:¬a=b):(a.toList==b.toList)=false:=by rw [lO,decide_eq_false h]
theorem str_eq(a:ByteArray):(a.toList==a.toList)=true:=by rw [lO,decide_eq_true rfl]
noncomputable def cA:Shp Tryz.prog aE:=mQ 38 (gV (aGp 3 .i64 Tryz.underlying3 (by kernel_rfl)) (gV (aBu 9 Tryz.underlying9 (by kernel_rfl)) aDk)) (fs:=_) Tryz.underlying38 ⟨_,_,rfl,rfl,rfl,_,_,rfl,rfl,rfl,rfl⟩ (by kernel_rfl)
noncomputable def aLs:Shp Tryz.prog (List aE):=oC 22 cA Tryz.underlying22 (by kernel_rfl) (by decide)
noncomputable def jM:Shp Tryz.prog aHg:=mQ 24 (gV (aBu 9 Tryz.underlying9 (by kernel_rfl)) (gV aLs aDk)) (fs:=_) Tryz.underlying24 ⟨_,_,rfl,rfl,rfl,_,_,rfl,rfl,rfl,rfl⟩ (by kernel_rfl)
noncomputable def fL:Shp Tryz.prog aJ:=mQ 40 (gV (aGp 3 .i64 Tryz.underlying3 (by kernel_rfl)) (gV jM (gV (aGp 3 .i64 Tryz.underlying3 (by kernel_rfl)) (gV cA (gV cA aDk))))) (fs:=_) Tryz.underlying40 ⟨_,_,rfl,rfl,rfl,_,_,rfl,rfl,rfl,_,_,rfl,rfl,rfl,_,_,rfl,rfl,rfl,_,_,rfl,rfl,rfl,rfl⟩ (by kernel_rfl)
noncomputable def aMu:Shp Tryz.prog (List aJ):=oC 25 fL Tryz.underlying25 (by kernel_rfl) (by decide)
noncomputable def iU:Shp Tryz.prog dC:=mQ 27 (gV jM (gV aMu aDk)) (fs:=_) Tryz.underlying27 ⟨_,_,rfl,rfl,rfl,_,_,rfl,rfl,rfl,rfl⟩ (by kernel_rfl)
abbrev aR(w:World)(G:Nat->Prop)(ao:Option Addr)(ts:List aE):Prop:=ElemsAt cA w G ao ts
abbrev cD(w:World)(G:Nat->Prop)(ao:Option Addr)(ls:List aJ):Prop:=ElemsAt fL w G ao ls
def fU(t:aE):Prop:=(Lit.int .i64 t.1).wf=true/\t.2.1.size≤maxLen
theorem jJ{w:World}{G:Nat->Prop}{cs:List Value}{t:aE}(h:cA.At w G cs t):fU t:=by obtain⟨a1,b1,e1,⟨e2,h2⟩,⟨a3,b3,e3,⟨e4,h4⟩,e5⟩⟩:=h;exact⟨h2,h4⟩
theorem iA{w:World}{G:Nat->Prop}{cs:List Value}{t:aE}(h:cA.At w G cs t):cs= [.int .i64 t.1,.string t.2.1]:=by obtain⟨a1,b1,e1,⟨e2,_⟩,⟨a3,b3,e3,⟨e4,_⟩,e5⟩⟩:=h;rw [e2,e3,e4,e5]at e1;exact e1
theorem dT{w:World}{G:Nat->Prop}{ao:Option Addr}{ts:List aE}(h:aR w G ao ts){i:Nat}{t:aE}(hi:ts[i]?=some t):
 ∃b off,ao=some ⟨b,off,none⟩/\w.cell? ⟨b,off+i*2,none⟩=some (.int .i64 t.1)/\w.cell? ⟨b,off+i*2+1,none⟩=some (.string t.2.1)/\G b/\b<w.heap.size:=by
 obtain⟨b,off,es,e,hG,hb,ha,hcell⟩:=h i t hi;rw [iA ha]at hcell;have h0:=hcell 0 (.int .i64 t.1) rfl;have h1:=hcell 1 (.string t.2.1) rfl;rw [show cA.n=2 from rfl]at h0 h1;exact⟨b,off,e,by simpa using h0,by rw [Nat.add_assoc];exact h1,hG,hb⟩
structure LitIn(w:World)(G:Nat->Prop)(l:aJ)(ao:Option Addr)(cap:Nat):Prop where
 terms:aR w G ao (aA l)
 len:(aA l).length≤cap
 cap:cap≤maxLen
 left:fU (leftOf l)
 right:fU (aN l)
theorem LitIn.kp{w w':World}{G F:Nat->Prop}{l:aJ}{ao:Option Addr}{cap:Nat}(h:LitIn w G l ao cap)(hk:Kp F w w')(hF:∀k,G k->¬F k):LitIn w' G l ao cap:=⟨h.terms.kp hk hF,h.len,h.cap,h.left,h.right⟩
theorem LitIn.ext{w w':World}{G:Nat->Prop}{l:aJ}{ao:Option Addr}{cap:Nat}(h:LitIn w G l ao cap)(hk:Ext w w'):LitIn w' G l ao cap:=h.kp hk fun _ _=>id
theorem aIg{w:World}{G:Nat->Prop}{cs:List Value}{l:aJ}(h:fL.At w G cs l):∃ao cap,LitIn w G l ao cap/\
 cs= [.int .i64 l.1,.string (bC l),.slice ao (aA l).length cap,.int .i64 (gS l),.int .i64 (leftOf l).1,.string (leftOf l).2.1,.int .i64 (aN l).1,.string (aN l).2.1]:=by
 obtain⟨a1,b1,e1,⟨e2,_⟩,⟨a3,b3,e3,h3,⟨a4,b4,e4,⟨e5,_⟩,⟨a6,b6,e6,h6,⟨a7,b7,e7,h7,e8⟩⟩⟩⟩⟩:=h;obtain⟨c1,d1,f1,⟨f2,_⟩,⟨c3,d3,f3,⟨ao,cap,f4,g1,g2,g3⟩,f5⟩⟩:=h3;refine⟨ao,cap,⟨g3,g1,g2,jJ h6,jJ h7⟩,?_⟩;rw [e1,e2,e3,f1,f2,f3,f4,f5,e4,e5,e6,iA h6,e7,iA h7,e8];rfl
theorem iC{w:World}{G:Nat->Prop}{ao:Option Addr}{ls:List aJ}(h:cD w G ao ls){i:Nat}{l:aJ}(hi:ls[i]?=some l):
 ∃b off a cap,ao=some ⟨b,off,none⟩/\G b/\b<w.heap.size/\LitIn w G l a cap/\
  w.cell? ⟨b,off+i*8,none⟩=some (.int .i64 l.1)/\w.cell? ⟨b,off+i*8+1,none⟩=some (.string (bC l))/\w.cell? ⟨b,off+i*8+2,none⟩=some (.slice a (aA l).length cap)/\
  w.cell? ⟨b,off+i*8+3,none⟩=some (.int .i64 (gS l))/\w.cell? ⟨b,off+i*8+4,none⟩=some (.int .i64 (leftOf l).1)/\w.cell? ⟨b,off+i*8+5,none⟩=some (.string (leftOf l).2.1)/\
  w.cell? ⟨b,off+i*8+6,none⟩=some (.int .i64 (aN l).1)/\w.cell? ⟨b,off+i*8+7,none⟩=some (.string (aN l).2.1):=by
 obtain⟨b,off,es,e,hG,hb,ha,hcell⟩:=h i l hi;obtain⟨a,cap,hl,ec⟩:=aIg ha;rw [ec,show fL.n=8 from rfl]at hcell;refine⟨b,off,a,cap,e,hG,hb,hl,?_,?_,?_,?_,?_,?_,?_,?_⟩
 ·simpa using hcell 0 _ rfl
 all_goals rw [Nat.add_assoc]
 ·exact hcell 1 _ rfl
 ·exact hcell 2 _ rfl
 ·exact hcell 3 _ rfl
 ·exact hcell 4 _ rfl
 ·exact hcell 5 _ rfl
 ·exact hcell 6 _ rfl
 ·exact hcell 7 _ rfl
abbrev litV(k:Int)(p:ByteArray)(a:Option Addr)(n cap:Nat)(op lk:Int)(lt:ByteArray)(rk:Int)(rt:ByteArray):Value:= .agg #[.int .i64 k,.string p,.slice a n cap,.int .i64 op,.int .i64 lk,.string lt,.int .i64 rk,.string rt]
structure RuleAt(w:World)(G:Nat->Prop)(r:dC)(ha:Option Addr)(hcap:Nat)(ba:Option Addr)(bcap:Nat):Prop where
 head:aR w G ha r.1.2.1
 hlen:r.1.2.1.length≤hcap
 hmax:hcap≤maxLen
 body:cD w G ba r.2.1
 blen:r.2.1.length≤bcap
 bmax:bcap≤maxLen
abbrev dS(p:ByteArray)(ha:Option Addr)(hn hcap:Nat)(ba:Option Addr)(bn bcap:Nat):Value:= .agg #[.string p,.slice ha hn hcap,.slice ba bn bcap]
theorem aEn{w:World}{G:Nat->Prop}{cs:List Value}{r:dC}(h:iU.At w G cs r):∃ha hcap ba bcap,RuleAt w G r ha hcap ba bcap/\cs= [.string r.1.1,.slice ha r.1.2.1.length hcap,.slice ba r.2.1.length bcap]:=by obtain⟨a1,b1,e1,⟨c1,d1,f1,⟨f2,_⟩,⟨c3,d3,f3,⟨ao,cap,f4,g1,g2,g3⟩,f5⟩⟩,⟨a3,b3,e3,⟨bo,bcap,h4,h5,h6,h7⟩,e4⟩⟩:=h;refine⟨ao,cap,bo,bcap,⟨g3,g1,g2,h7,h5,h6⟩,?_⟩;rw [e1,f1,f2,f3,f4,f5,e3,h4,e4];rfl
abbrev uM(k:Int)(s:ByteArray):Value:= .agg #[.int .i64 k,.string s]
def aMo(f:FuncId)(first captured:Array Value)(w0:World)(q:aE->Bool):Prop:=
 (∀args w,(callFunc f args).run Tryz.prog w= .ok (Next.enter f args) w)/\∀w,Ext w0 w->∀(k:Int) (s:ByteArray),Calls Tryz.prog f (first.push (uM k s)++captured) w (RetN w fun w' v=>v= .bool (q (k,s,())))
def NoneT(w0:World)(ts:List aE)(q:aE->Bool)(n:Nat)(iv:Value)(w:World):Prop:=∃i:Nat,i≤n/\iv= .int .i64 i/\Hid (∀(j:Nat) u,j<i->ts[j]?=some u->q u=false)/\Hid (Ext w0 w)
theorem oN{α:Type}{l:List α}{q:α->Bool}{n:Nat}(hn:n=l.length)(h:∀(j:Nat) u,j<n->l[j]?=some u->q u=false):l.any q=false:=by rw [List.any_eq_false];intro t ht;obtain⟨j,hj,rfl⟩:=List.mem_iff_getElem.1 ht;rw [h j _ (by omega) (qG hj)];decide
theorem lI{α:Type}{l:List α}{q:α->Bool}{i:Nat}{u:α}(h:l[i]?=some u)(hq:q u=true):l.any q=true:=List.any_eq_true.2 ⟨u,List.mem_of_getElem? h,hq⟩
set_option maxHeartbeats 1000000 in
theorem aFi(ts:List aE)(ao:Option Addr)(n cap:Nat)(f:FuncId)(first captured:Array Value)(q:aE->Bool)(w:World)(G:Nat->Prop)(hn:n=ts.length)(h:aR w G ao ts)(hq:aMo f first captured w q)(hl:n≤4611686018427387904):
 Calls Tryz.prog 136 #[.slice ao n cap,.func (Fn.func f) first captured] w (RetN w fun w' v=>∃z:Int,v= .int .i64 z/\decide (0≤z)=ts.any q):=by
 have HN:=qH hn;have HE:=qH h;clear hn h;have hent:=hq.1;have HQ:=qH hq.2;clear hq;go_enter Tryz.func136,Tryz.ntmps136;go_wp2;go_loopw [8] (fun iv wr=>NoneT w ts q n iv wr) (fun iv _=>n- (intOf iv).toNat)
 case atStart=>exact⟨0,Nat.zero_le _,rfl,fun j u h=>by omega,Kp.refl w⟩
 case round=>
  obtain⟨i,hi,rfl,hno,hex⟩:=hrel;by_cases hlt:i<n
  ·have hlt':i<ts.length:=by rw [<-HN.out];exact hlt
   obtain⟨t,ht⟩:∃t,ts[i]?=some t:=⟨_,qG hlt'⟩;obtain⟨b,off,eao,hc0,hc1,_⟩:=dT (HE.out.ext hex.out) ht;subst eao;obtain⟨k,s,⟨⟩⟩:=t;simp only at hc0 hc1;have HC:=qH (HQ.out wr hex.out k s);obtain⟨r,er⟩:∃r:Bool,q (k,s,())=r:=⟨_,rfl⟩;rw [er]at HC;have HT:=qH (nIX ht er);clear ht hlt' er;cases r
   ·go_wp2_with fail
    refine HC.out.mono ?_;rintro e w1 ⟨v,rfl,hk1,rfl⟩;have HX:=qH (hex.out.trans hk1);clear hk1 hc0 hc1;go_wp2;go_roundw
    case rel=>
     refine⟨i+1,by omega,nMX,fun j u hj hu=>?_,HX⟩;by_cases e:j=i
     ·subst e;rw [HT.out.1]at hu;cases hu;exact HT.out.2
     ·exact hno.out j u (by omega) hu
    case measure=>simp [intOf];omega
   ·go_wp2_with fail
    refine HC.out.mono ?_;rintro e w1 ⟨v,rfl,hk1,rfl⟩;have HX:=qH (hex.out.trans hk1);clear hk1 hc0 hc1;go_wp2;go_ret;exact RetN.mk HX.out ⟨i,rfl,by rw [lI HT.out.1 HT.out.2];simp⟩
  ·go_wp2;go_ret;exact RetN.mk hex.out ⟨-1,rfl,by rw [oN HN.out fun j u hj=>hno.out j u (by omega)];decide⟩
theorem yB(ts:List aE)(ao:Option Addr)(n cap:Nat)(f:FuncId)(first captured:Array Value)(q:aE->Bool)(w:World)(G:Nat->Prop)(hn:n=ts.length)(h:aR w G ao ts)(hq:aMo f first captured w q)(hl:n≤4611686018427387904):
 Calls Tryz.prog 97 #[.slice ao n cap,.func (Fn.func f) first captured] w (RetN w fun w' v=>v= .bool (ts.any q)):=by
 have HI:=qH (aFi ts ao n cap f first captured q w G hn h hq hl);clear hn h hq hl;go_enter Tryz.func97,Tryz.ntmps97;go_wp2_with fail
 refine HI.out.mono ?_;rintro e w1 ⟨v,rfl,hk,z,rfl,hz⟩;go_wp2;go_ret;exact RetN.mk hk (congrArg Value.bool (by first|exact hz|simp [<-hz]))
theorem aAi(k:Int)(s:ByteArray)(w:World):Calls Tryz.prog 142 #[uM k s] w (RetN w fun w' v=>v= .bool (decide (k<1\/3<k))):=by
 by_cases h1:k<1
 ·go_enter Tryz.func142,Tryz.ntmps142;go_wp2;go_ret;exact RetN.mk ((Kp.refl w).alloc _) (by simp [h1])
 ·go_enter Tryz.func142,Tryz.ntmps142;go_wp2;go_ret;exact RetN.mk ((Kp.refl w).alloc _) (by simp;omega)
theorem aIn(ts:List aE)(up:Int):(!ts.any fun t=>decide (t.1<1\/up<t.1))=kinds ts up:=by
 unfold kinds;induction ts with
 |nil=>rfl
 |cons t ts ih=>
  rw [List.any_cons,List.all_cons,<-ih,Bool.not_or]
  congr 1
  rw [<-decide_not];apply decide_eq_decide.2;omega
theorem uO(ts:List aE)(ao:Option Addr)(n cap:Nat)(w:World)(G:Nat->Prop)(hn:n=ts.length)(h:aR w G ao ts)(hl:n≤4611686018427387904):
 Calls Tryz.prog 109 #[.slice ao n cap] w (RetN w fun w' v=>v= .bool (kinds ts 3)):=by
 have HI:=qH (yB ts ao n cap 142 #[] #[] (fun t=>decide (t.1<1\/3<t.1)) w G hn h ⟨enters_of Tryz.func142 (by kernel_rfl) rfl,fun w' _ k s=>aAi k s w'⟩ hl);clear hn h hl;go_enter Tryz.func109,Tryz.ntmps109;go_wp2_with fail
 refine HI.out.mono ?_;rintro e w1 ⟨v,rfl,hk,rfl⟩;go_wp2;go_ret;exact RetN.mk hk (congrArg Value.bool (by rw [<-aIn ts 3];simp))
def aNe(w0:World)(ts:List aE)(n:Nat)(iv av:Value)(w:World):Prop:=∃i a:Nat,i≤n/\a≤i/\iv= .int .i64 i/\av= .int .i64 a/\Hid (kinds (ts.take i) 7=true/\a=aD1 (ts.take i))/\Hid (Ext w0 w)
theorem vZ{ts:List aE}{i:Nat}{t:aE}(up:Int)(h:ts[i]?=some t):kinds (ts.take (i+1)) up=(kinds (ts.take i) up && decide (1≤t.1/\t.1≤up)):=by unfold kinds;rw [List.take_add_one,h,List.all_append];simp
theorem rZ{ts:List aE}{i:Nat}{t:aE}(h:ts[i]?=some t):aD1 (ts.take (i+1))=aD1 (ts.take i)+if 4≤t.1 then 1 else 0:=by
 unfold aD1;rw [List.take_add_one,h,List.countP_append]
 congr 1
 by_cases h4:4≤t.1<;>simp [h4]
theorem sX{ts:List aE}{i:Nat}{t:aE}{up:Int}(h:ts[i]?=some t)(ht:¬(1≤t.1/\t.1≤up)):kinds ts up=false:=by unfold kinds;rw [List.all_eq_false];exact⟨t,List.mem_of_getElem? h,by simp only [decide_eq_true_eq];exact ht⟩
set_option maxHeartbeats 1000000 in
theorem aKt(ts:List aE)(ao:Option Addr)(n cap:Nat)(w:World)(G:Nat->Prop)(hn:n=ts.length)(h:aR w G ao ts)(hl:n≤1048576):
 Calls Tryz.prog 63 #[.slice ao n cap] w (RetN w fun w' v=>v= .bool (fW ts)):=by
 have HN:=qH hn;have HE:=qH h;clear hn h;go_enter Tryz.func63,Tryz.ntmps63;go_wp2;go_loopw [8,3] (fun iv av wr=>aNe w ts n iv av wr) (fun iv _ _=>n- (intOf iv).toNat)
 case atStart=>exact⟨0,0,Nat.zero_le _,Nat.le_refl _,rfl,rfl,⟨rfl,rfl⟩,Kp.refl w⟩
 case round=>
  obtain⟨i,a,hi,hai,rfl,rfl,hst,hex⟩:=hrel;by_cases hlt:i<n
  ·have hlt':i<ts.length:=by rw [<-HN.out];exact hlt
   obtain⟨t,ht⟩:∃t,ts[i]?=some t:=⟨_,qG hlt'⟩;obtain⟨b,off,eao,hc0,hc1,_⟩:=dT (HE.out.ext hex.out) ht;subst eao;obtain⟨k,s,⟨⟩⟩:=t;simp only at hc0 hc1;have HT:=qH ht;clear ht hlt';by_cases h1:k<1
   ·go_wp2;go_ret;exact RetN.mk (by first|exact hex.out.alloc _|exact(hex.out.alloc _).drew) (by rw [fW,sX HT.out (up:=7) (by simp only;omega)];rfl)
   ·by_cases h7:7<k
    ·go_wp2;go_ret;exact RetN.mk (by first|exact hex.out.alloc _|exact(hex.out.alloc _).drew) (by rw [fW,sX HT.out (up:=7) (by simp only;omega)];rfl)
    ·by_cases h4:4≤k
     ·go_wp2;go_roundw
      case rel=>
       refine⟨i+1,a+1,by omega,by omega,nMX,nMX,⟨?_,?_⟩,by first|exact hex.out.alloc _|exact(hex.out.alloc _).drew⟩
       ·rw [vZ 7 HT.out,hst.out.1];simp;omega
       ·rw [rZ HT.out,<-hst.out.2];simp [h4]
      case measure=>simp [intOf];omega
     ·go_wp2;go_roundw
      case rel=>
       refine⟨i+1,a,by omega,by omega,nMX,by first|rfl|trivial,⟨?_,?_⟩,by first|exact hex.out.alloc _|exact(hex.out.alloc _).drew⟩
       ·rw [vZ 7 HT.out,hst.out.1];simp;omega
       ·rw [rZ HT.out,<-hst.out.2];simp [h4]
      case measure=>simp [intOf];omega
  ·have e:ts.take i=ts:=List.take_of_length_le (by have:=HN.out;omega);have HS:=qH (nIX hst.out e);have HN2:=qH (show n=ts.length from HN.out);by_cases h2:a<2
   ·by_cases h64:n≤64
    ·have h64':(n:Int)≤64:=by omega
     go_wp2;go_ret;refine RetN.mk hex.out ?_;obtain⟨⟨g1,g2⟩,g3⟩:=HS.out;rw [g3]at g1 g2;have g4:=HN2.out;unfold fW;rw [g1,<-g2,<-g4];simp [h2,h64]
    ·have h64':¬(n:Int)≤64:=by omega
     go_wp2;go_ret;refine RetN.mk hex.out ?_;obtain⟨⟨g1,g2⟩,g3⟩:=HS.out;rw [g3]at g1 g2;have g4:=HN2.out;unfold fW;rw [g1,<-g2,<-g4];simp [h64]
   ·go_wp2;go_ret;refine RetN.mk hex.out ?_;obtain⟨⟨g1,g2⟩,g3⟩:=HS.out;rw [g3]at g1 g2;have g4:=HN2.out;unfold fW;rw [g1,<-g2,<-g4];simp [h2]
def aIs(m:List (ByteArray×Value))(s:ByteArray):Option Value:=(m.find? fun p=>decide (p.1=s)).map (·.2)
def oQ(m:List (ByteArray×Value))(s:ByteArray)(v:Value):List (ByteArray×Value):=if(aIs m s).isSome then m.map fun p=>if p.1=s then(p.1,v)else p else m++ [(s,v)]
def MapIs(w:World)(r:Nat)(m:List (ByteArray×Value)):Prop:=
 ∃es clock,w.heap[r]?=some (.map es clock)/\es.toList.map (fun e=>(e.key,e.val))=m.map (fun p=>(Value.string p.1,p.2))/\(m.map (·.1)).Nodup/\MapKept.Stamped es clock
section
variable {P:Program}{w w':World}{r:Nat}{m:List (ByteArray×Value)}
theorem MapIs.kp{F:Nat->Prop}(h:MapIs w r m)(hk:Kp F w w')(hf:¬F r):MapIs w' r m:=by obtain⟨es,c,h1,h2⟩:=h;exact⟨es,c,(hk.block r (lt_of_block h1) hf).trans h1,h2⟩
theorem MapIs.ext(h:MapIs w r m)(hk:Ext w w'):MapIs w' r m:=h.kp hk id
theorem MapIs.lt(h:MapIs w r m):r<w.heap.size:=by obtain⟨es,c,h1,h2⟩:=h;exact lt_of_block h1
theorem MapIs.new(w:World):MapIs (w.alloc (.map #[] 0)) w.heap.size []:=by refine⟨#[],0,?_,rfl,List.nodup_nil,MapKept.stamped_empty 0⟩;show(w.heap.push _)[w.heap.size]?=_;simp
theorem aF9(a b:ByteArray):(a==b)=decide (a=b):=by rw [Bool.eq_iff_iff,MapKept.bytes_beq,decide_eq_true_iff]
theorem nN(s:ByteArray):∀(es:List MapEntry) (m:List (ByteArray×Value)) (i:Nat),es.map (fun e=>(e.key,e.val))=m.map (fun p=>(Value.string p.1,p.2))->
 Instr.findNow .string (.string s) es i=some ((m.findIdx? fun p=>decide (p.1=s)).bind fun k=>(m[k]?).map fun p=>(i+k,p.2))
 | [],[],i,_=>rfl
 | [],_::_,i,h=>by simp at h
 |_::_,[],i,h=>by simp at h
 |e::es,p::m,i,h=>by
  simp only [List.map_cons,List.cons.injEq,Prod.mk.injEq]at h;obtain⟨⟨h1,h2⟩,h3⟩:=h;have ih:=nN s es m (i+1) h3;by_cases hs:s=p.1
  ·subst hs;simp [Instr.findNow,Instr.sameNow,h1,h2,List.findIdx?_cons,aF9]
  ·have hb':decide (p.1=s)=false:=by simp [Ne.symm hs]
   have hb:(s==p.1)=false:=by rw [aF9];simp [hs]
   simp only [Instr.findNow,Instr.sameNow,h1,hb,ih,List.findIdx?_cons,hb'];cases hf:m.findIdx? (fun p=>decide (p.1=s))with
   |none=>simp
   |some k=>simp [Nat.add_assoc,Nat.add_comm 1 k]
theorem aC9(m:List (ByteArray×Value))(s:ByteArray):aIs m s=(m.findIdx? fun p=>decide (p.1=s)).bind fun k=>(m[k]?).map (·.2):=by
 unfold aIs;induction m with
 |nil=>rfl
 |cons p m ih=>
  by_cases hs:p.1=s
  ·simp [hs,List.findIdx?_cons]
  ·simp only [List.find?_cons,List.findIdx?_cons,hs,decide_false,Bool.false_eq_true,if_false];rw [ih];cases m.findIdx? (fun p=>decide (p.1=s))<;>simp
theorem kQ{k:TypeId}(hk:P.underlying k=some .string)(s:ByteArray)(em:Bool)(n:Nat):(Instr.checkKey em (n+1) k (.string s)).run P w= .ok () w:=by simp [Instr.checkKey,run_underlying hk]
theorem lT{k:TypeId}(hk:P.underlying k=some .string)(s:ByteArray){es:List MapEntry}{r:Option (Nat×Value)}(hf:Instr.findNow .string (.string s) es 0=some r):(Instr.findKey k (.string s) es).run P w= .ok r w:=by simp [Instr.findKey,run_underlying hk,hf]
theorem gO{t k e:TypeId}(ht:P.underlying t=some (.map k e))(hk:P.underlying k=some .string){z:Value}(hz:(zeroValue e).run P w= .ok z w)(h:MapIs w r m)(s:ByteArray):
 (Instr.lookup t (.map (some r)) (.string s) false).run P w= .ok ((aIs m s).getD z) w:=by
 obtain⟨es,c,h1,h2,h3⟩:=h;have hf:=lT (w:=w) hk s (nN s es.toList m 0 h2);have hg:=aC9 m s;have hc:=kQ (w:=w) hk s es.isEmpty 9999;cases hi:m.findIdx? (fun p=>decide (p.1=s))with
 |none=>
  rw [hi]at hf hg;simp only [Option.bind_none]at hf hg;simp [Instr.lookup,run_underlying ht,MapKept.run_getObj_map h1,hc,hf,hg,hz,Result.andThen]
 |some i=>
  rw [hi]at hf hg;simp only [Option.bind_some]at hf hg;obtain⟨hl,_⟩:=List.findIdx?_eq_some_iff_getElem.1 hi;rw [qG hl]at hf hg;simp only [Option.map_some]at hf hg;simp [Instr.lookup,run_underlying ht,MapKept.run_getObj_map h1,hc,hf,hg,Result.andThen]
theorem xU(s:ByteArray):(Instr.keyThatStays (.string s) (.string s)).run P w= .ok (.string s) w:=by
 have h:Instr.sameBits 10000 (.string s) (.string s)=true:=by simp [Instr.sameBits,aF9]
 simp [Instr.keyThatStays,h]
def tW(w:World)(r:Nat)(o:Obj):World:={w with heap:=w.heap.setIfInBounds r o}
theorem aG3(w:World)(r:Nat)(o:Obj):Kp (fun k=>k=r) w (tW w r o):=
 ⟨rfl,rfl,rfl,by simp [tW],fun k _ hk=>by simp only [tW];rw [Array.getElem?_setIfInBounds_ne (fun e=>hk e.symm)]⟩
theorem zB(w:World)(r:Nat)(o:Obj)(h:r<w.heap.size):(tW w r o).heap[r]?=some o:=by simp [tW,h]
theorem uU{t k e:TypeId}(ht:P.underlying t=some (.map k e))(hk:P.underlying k=some .string)(h:MapIs w r m)(s:ByteArray)(v:Value):
 ∃w',(Instr.mapUpdate t (.map (some r)) (.string s) v).run P w= .ok () w'/\MapIs w' r (oQ m s v)/\Kp (fun k=>k=r) w w':=by
 obtain⟨es,c,h1,h2,h3,h4⟩:=h;have hlt:=lt_of_block h1;have hf:=lT (w:=w) hk s (nN s es.toList m 0 h2);have hg:=aC9 m s;have hc:=kQ (w:=w) hk s false 9999;have hlen:es.size=m.length:=by simpa using congrArg List.length h2
 cases hi:m.findIdx? (fun p=>decide (p.1=s))with
 |none=>
  rw [hi]at hf hg;simp only [Option.bind_none]at hf hg;refine⟨tW w r (.map (es.push {key:= .string s,val:=v,born:=c}) (c+1)),?_,⟨_,_,zB _ _ _ hlt,?_,?_,?_⟩,aG3 _ _ _⟩
  ·simp [Instr.mapUpdate,run_underlying ht,MapKept.run_getObj_map h1,hc,hf,Result.andThen,MapKept.run_setObj_map _ h1,tW]
  ·simp [oQ,hg,h2]
  ·have hno:=List.findIdx?_eq_none_iff.1 hi;simp only [oQ,hg,Option.isSome_none,Bool.false_eq_true,if_false,List.map_append,List.map_cons,List.map_nil];refine List.nodup_append.2 ⟨h3,by simp,?_⟩;intro a ha b hb;simp only [List.mem_singleton]at hb;subst hb;obtain⟨p,hp,rfl⟩:=List.mem_map.1 ha;have:=hno p hp;simpa using this
  ·refine MapKept.stamped_push h4 fun x hx e=>?_;have h5:(x.key,x.val)∈es.toList.map (fun e=>(e.key,e.val)):=List.mem_map.2 ⟨x,hx,rfl⟩;rw [h2]at h5;obtain⟨p,hp,e2⟩:=List.mem_map.1 h5;have h6:=List.findIdx?_eq_none_iff.1 hi p hp;have h7:Value.string p.1=Value.string s:=by rw [<-e];exact congrArg Prod.fst e2
   simp at h6 h7;exact h6 h7
 |some i=>
  rw [hi]at hf hg;simp only [Option.bind_some]at hf hg;obtain⟨hl,hpi,hbefore⟩:=List.findIdx?_eq_some_iff_getElem.1 hi;rw [qG hl]at hf hg;simp only [Option.map_some,Nat.zero_add]at hf hg;have hei:es[i]?=some (es[i]'(by omega)):=Array.getElem?_eq_getElem (by omega);have hpair:=congrArg (fun l:List (Value×Value)=>l[i]?) h2;simp only [List.getElem?_map,Array.getElem?_toList,hei,qG hl,Option.map_some,Option.some.injEq,Prod.mk.injEq]at hpair;have hps:m[i].1=s:=by simpa using hpi
  have hkey:(es[i]'(by omega)).key= .string s:=by rw [hpair.1,hps]
  refine⟨tW w r (.map (es.modify i fun e=>{e with key:= .string s,val:=v}) c),?_,⟨_,_,zB _ _ _ hlt,?_,?_,?_⟩,aG3 _ _ _⟩
  ·simp [Instr.mapUpdate,run_underlying ht,MapKept.run_getObj_map h1,hc,hf,hei,hkey,xU,Result.andThen,MapKept.run_setObj_map _ h1,tW]
  ·simp only [oQ,hg,Option.isSome_some,if_true];apply List.ext_getElem?;intro q;have hq:=congrArg (fun l:List (Value×Value)=>l[q]?) h2;simp only [List.getElem?_map,Array.getElem?_toList]at hq;simp only [List.getElem?_map,Array.getElem?_toList,Array.getElem?_modify];cases hmq:m[q]? with
   |none=>
    rw [hmq]at hq;cases heq:es[q]? with
    |none=>by_cases e:i=q<;>simp
    |some x=>rw [heq]at hq;simp at hq
   |some p=>
    rw [hmq]at hq;cases heq:es[q]? with
    |none=>rw [heq]at hq;simp at hq
    |some x=>
     rw [heq]at hq;simp only [Option.map_some,Option.some.injEq,Prod.mk.injEq]at hq;by_cases e:i=q
     ·subst e;have:p=m[i]:=by rw [qG hl]at hmq;exact(Option.some.inj hmq).symm
      subst this;simp [hps]
     ·have hne:p.1≠s:=by
       intro e2;have h5:=List.pairwise_iff_getElem.1 h3;obtain⟨hql,hqe⟩:=List.getElem?_eq_some_iff.1 hmq;rcases Nat.lt_or_gt_of_ne e with h6|h6
       ·have:=h5 i q (by simpa using hl) (by simpa using hql) h6;simp only [List.getElem_map,hqe,hps,e2]at this;exact this rfl
       ·have:=h5 q i (by simpa using hql) (by simpa using hl) h6;simp only [List.getElem_map,hqe,hps,e2]at this;exact this rfl
      simp [e,hne,hq.1,hq.2]
  ·simp only [oQ,hg,Option.isSome_some,if_true,List.map_map];have:(fun x:ByteArray×Value=>x.1) ∘ (fun p=>if p.1=s then(p.1,v)else p)=fun x=>x.1:=by
    funext p;simp only [Function.comp];split<;>rfl
   rw [this];exact h3
  ·refine MapKept.stamped_modify h4 i _ (fun _ _=>rfl) fun e _ he=>?_;rw [hei]at he;cases he;exact hkey.symm
end
theorem yI(w:World)(k1:Int)(s1:ByteArray)(k2:Int)(s2:ByteArray)(h1:(Lit.int .i64 k1).wf=true)(h2:(Lit.int .i64 k2).wf=true)(g1:s1.size≤maxLen)(g2:s2.size≤maxLen)(e:TypeId):
 aR (w.alloc (.cells #[.int .i64 k1,.string s1,.int .i64 k2,.string s2] e)) (fun _=>True) (some ⟨w.heap.size,0,none⟩) [(k1,s1,()),(k2,s2,())]:=by
 have hB:=Blk.new w [.int .i64 k1,.string s1,.int .i64 k2,.string s2] e;have hlt:=hB.lt;intro i x hx
 match i,hx with
 |0,hx=>
  cases hx;refine⟨_,0,[.int .i64 k1,.string s1],rfl,trivial,hlt,⟨[.int .i64 k1],[.string s1],rfl,⟨rfl,h1⟩,[.string s1],[],rfl,⟨rfl,g1⟩,rfl⟩,fun c u hu=>?_⟩
  match c,hu with
  |0,hu=>cases hu;exact hB.cell 0 (by simp)
  |1,hu=>cases hu;exact hB.cell 1 (by simp)
 |1,hx=>
  cases hx;refine⟨_,0,[.int .i64 k2,.string s2],rfl,trivial,hlt,⟨[.int .i64 k2],[.string s2],rfl,⟨rfl,h2⟩,[.string s2],[],rfl,⟨rfl,g2⟩,rfl⟩,fun c u hu=>?_⟩
  match c,hu with
  |0,hu=>cases hu;exact hB.cell 2 (by simp)
  |1,hu=>cases hu;exact hB.cell 3 (by simp)
structure LitFit(l:aJ):Prop where
 left:(Lit.int .i64 (leftOf l).1).wf=true/\(leftOf l).2.1.size≤maxLen
 right:(Lit.int .i64 (aN l).1).wf=true/\(aN l).2.1.size≤maxLen
set_option maxHeartbeats 1000000 in
theorem aCx(k:Int)(p:ByteArray)(ts:List aE)(a:Option Addr)(n cap:Nat)(op lk:Int)(lt:ByteArray)(rk:Int)(rt:ByteArray)(w:World)(G:Nat->Prop)(hn:n=ts.length)(h:aR w G a ts)(hl:n≤1048576)
 (g1:(Lit.int .i64 lk).wf=true)(g2:lt.size≤maxLen)(g3:(Lit.int .i64 rk).wf=true)(g4:rt.size≤maxLen):
 Calls Tryz.prog 64 #[litV k p a n cap op lk lt rk rt] w (RetN w fun w' v=>v= .bool (eO (k,(p,ts,()),op,(lk,lt,()),(rk,rt,()),()))):=by
 have HN:=qH hn;have HE:=qH h;have HG:=qH (nIX (nIX g1 g2) (nIX g3 g4));clear g1 g2 g3 g4;have HS:=qH (fun(W:World) (hW:Ext w W)=>uO ts a n cap W G hn (h.ext hW) (by omega));clear hn h;have pos:∀k,k=1\/k=2->eO (k,(p,ts,()),op,(lk,lt,()),(rk,rt,()),())=(decide (ts.length≤64) && kinds ts 3):=fun k hk=>by unfold eO;rw [if_pos hk]
 have cmp:eO (3,(p,ts,()),op,(lk,lt,()),(rk,rt,()),())=(decide (1≤op/\op≤4) && kinds [(lk,lt,()),(rk,rt,())] 3):=by unfold eO;rw [if_neg (by rintro(h|h)<;>cases h),if_pos rfl]
 have HP:=qH (nIX pos cmp);clear pos cmp;by_cases hk1:k=1\/k=2
 ·by_cases h64:n≤64
  ·have h64':(n:Int)≤64:=by omega
   rcases hk1 with rfl|rfl
   all_goals
    go_enter Tryz.func64,Tryz.ntmps64;go_wp2_with fail
    refine(HS.out _ ((Kp.refl w).alloc _)).mono ?_;rintro e w1 ⟨v,rfl,hk,rfl⟩;go_wp2;go_ret;refine RetN.mk (((Kp.refl w).alloc _).trans hk) ?_;have g:=HN.out;rw [HP.out.1 _ (by first|exact .inl rfl|exact .inr rfl),<-g];simp [h64]
  ·have h64':¬(n:Int)≤64:=by omega
   rcases hk1 with rfl|rfl
   all_goals
    go_enter Tryz.func64,Tryz.ntmps64;go_wp2;go_ret;refine RetN.mk ((Kp.refl w).alloc _) ?_;have g:=HN.out;rw [HP.out.1 _ (by first|exact .inl rfl|exact .inr rfl),<-g];simp [h64]
 ·have n1:k≠1:=fun e=>hk1 (.inl e);have n2:k≠2:=fun e=>hk1 (.inr e);by_cases h3:k=3
  ·subst h3;clear hk1 n1 n2;by_cases o1:1≤op
   ·by_cases o4:op≤4
    ·have HT:=qH (fun(W:World) (g:Nat) (hg:g=W.heap.size)=>uO [(lk,lt,()),(rk,rt,())] (some ⟨g,0,none⟩) 2 2 _ _ rfl (hg▸yI W lk lt rk rt HG.out.1.1 HG.out.2.1 HG.out.1.2 HG.out.2.2 38) (by decide));go_enter Tryz.func64,Tryz.ntmps64;go_wp2_with fail
     refine(HT.out _ _ (aI _ _).symm).mono ?_;rintro e w1 ⟨v,rfl,hk,rfl⟩;go_wp2;go_ret;refine RetN.mk ((((Kp.refl w).alloc _).alloc _).trans hk) ?_;rw [HP.out.2,decide_eq_true (nIX o1 o4)];rfl
    ·go_enter Tryz.func64,Tryz.ntmps64;go_wp2;go_ret;refine RetN.mk ((Kp.refl w).alloc _) ?_;rw [HP.out.2,decide_eq_false (by omega)];rfl
   ·go_enter Tryz.func64,Tryz.ntmps64;go_wp2;go_ret;refine RetN.mk ((Kp.refl w).alloc _) ?_;rw [HP.out.2,decide_eq_false (by omega)];rfl
  ·go_enter Tryz.func64,Tryz.ntmps64;go_wp2;go_ret;refine RetN.mk ((Kp.refl w).alloc _) ?_;unfold eO;rw [if_neg hk1,if_neg h3];rfl
def aLh(w0:World)(ss:List ByteArray)(s:ByteArray)(n:Nat)(iv:Value)(w:World):Prop:=∃i:Nat,i≤n/\iv= .int .i64 i/\Hid (∀(j:Nat) u,j<i->ss[j]?=some u->decide (u=s)=false)/\Hid (Ext w0 w)
set_option maxHeartbeats 1000000 in
theorem aFj(ss:List ByteArray)(s:ByteArray)(ao:Option Addr)(n cap:Nat)(w:World)(hn:n=ss.length)(h:CellsAt w ao (strs ss))(hl:n≤4611686018427387904):
 Calls Tryz.prog 75 #[.slice ao n cap,.string s] w (RetN w fun w' v=>∃z:Int,v= .int .i64 z/\decide (0≤z)=gJ ss s):=by
 have HN:=qH hn;have HE:=qH h;clear hn h;go_enter Tryz.func75,Tryz.ntmps75;go_wp2;go_loopw [8] (fun iv wr=>aLh w ss s n iv wr) (fun iv _=>n- (intOf iv).toNat)
 case atStart=>exact⟨0,Nat.zero_le _,rfl,fun j u h=>by omega,Kp.refl w⟩
 case round=>
  obtain⟨i,hi,rfl,hno,hex⟩:=hrel;by_cases hlt:i<n
  ·have hlt':i<ss.length:=by rw [<-HN.out];exact hlt
   obtain⟨b,off,eao,hc0⟩:=(HE.out.ext hex.out).str hlt';subst eao;have ht:ss[i]?=some ss[i]:=qG hlt';generalize ss[i]=u at*;by_cases hu:s=u
   ·have HT:=qH (nIX ht hu);clear ht hlt';subst hu;have hb:=str_eq s;go_wp2;go_ret;exact RetN.mk hex.out ⟨i,rfl,by unfold gJ;rw [lI HT.out.1 (by simp)];simp⟩
   ·have HT:=qH (nIX ht hu);have hb:=kO hu;clear ht hlt' hu;go_wp2;go_roundw
    case rel=>
     refine⟨i+1,by omega,nMX,fun j u hj hu=>?_,hex⟩;by_cases e:j=i
     ·subst e;rw [HT.out.1]at hu;cases hu;exact decide_eq_false (fun e=>HT.out.2 e.symm)
     ·exact hno.out j u (by omega) hu
    case measure=>simp [intOf];omega
  ·go_wp2;go_ret;exact RetN.mk hex.out ⟨-1,rfl,by unfold gJ;rw [oN HN.out fun j u hj=>hno.out j u (by omega)];decide⟩
theorem oW(ss:List ByteArray)(s:ByteArray)(ao:Option Addr)(n cap:Nat)(w:World)(hn:n=ss.length)(h:CellsAt w ao (strs ss))(hl:n≤4611686018427387904):
 Calls Tryz.prog 66 #[.slice ao n cap,.string s] w (RetN w fun w' v=>v= .bool (gJ ss s)):=by
 have HI:=qH (aFj ss s ao n cap w hn h hl);clear hn h hl;go_enter Tryz.func66,Tryz.ntmps66;go_wp2_with fail
 refine HI.out.mono ?_;rintro e w1 ⟨v,rfl,hk,z,rfl,hz⟩;go_wp2;go_ret;exact RetN.mk hk (congrArg Value.bool (by first|exact hz|simp [<-hz]))
theorem zY(ao:Option Addr)(n cap:Nat)(w:World)(h:n≤cap):
 Calls Tryz.prog 76 #[.slice ao n cap] w (RetN w fun w' v=>v= .slice ao n n):=by
 have h1:(n:Int)≤(cap:Int):=by omega
 go_enter Tryz.func76,Tryz.ntmps76;go_wp2;go_ret;exact RetN.mk (Kp.refl _) (by first|rfl|simp)
theorem flat_get{α:Type}(f:α->List Value)(k:Nat)(hk:∀x,(f x).length=k):∀(L:List α) (i:Nat) (x:α) (c:Nat),L[i]?=some x->c<k->(L.flatMap f)[i*k+c]?=(f x)[c]?
 | [],i,x,c,h,_=>by simp at h
 |a::L,0,x,c,h,hc=>by simp at h;subst h;rw [List.flatMap_cons,Nat.zero_mul,Nat.zero_add,List.getElem?_append_left (by rw [hk];exact hc)]
 |a::L,i+1,x,c,h,hc=>by rw [List.flatMap_cons,List.getElem?_append_right (by rw [hk,Nat.succ_mul];omega),hk];have:=flat_get f k hk L i x c (by simpa using h) hc;rw [<-this];congr 1;rw [Nat.succ_mul];omega
theorem iP{α:Type}(f:α->List Value)(k:Nat)(hk:∀x,(f x).length=k)(L:List α):(L.flatMap f).length=L.length*k:=by
 induction L with
 |nil=>simp
 |cons a L ih=>rw [List.flatMap_cons,List.length_append,hk,ih,List.length_cons,Nat.succ_mul];omega
theorem Row.blkOf{w:World}{e:TypeId}{k:Nat}{v:Value}{n:Nat}{xs:List Value}{M:Nat->Prop}(h:Row w e k v n xs M){g:Nat}(hg:v.ownBlock=some g):∃cs,Blk w g cs e:=by
 obtain⟨h1,⟨rfl,rfl⟩|⟨g',cap,rest,rfl,b,c,d⟩⟩:=h
 ·cases hg
 ·cases hg;exact⟨_,c⟩
theorem Row.ltB{w:World}{e:TypeId}{k:Nat}{v:Value}{n:Nat}{xs:List Value}{M:Nat->Prop}(h:Row w e k v n xs M){g:Nat}(hg:v.ownBlock=some g):g<w.heap.size:=by obtain⟨cs,hb⟩:=h.blkOf hg;exact hb.lt
theorem bX{w:World}{g:Nat}{cs cs':List Value}{e e':TypeId}(h:Blk w g cs e)(h':Blk w g cs' e'):e=e':=by unfold Blk at h h';rw [h]at h';injection h' with h';injection h'
theorem CellsAt.new(w:World)(xs:List Value)(e:TypeId):CellsAt (w.alloc (.cells xs.toArray e)) (some ⟨w.heap.size,0,none⟩) xs:=CellsAt.pre (rest:= []) (by rw [List.append_nil];exact Blk.new w xs e)
def mJ(t:aE):List Value:= [.int .i64 t.1,.string t.2.1]
theorem aHj(t:aE):(mJ t).length=2:=rfl
def iT(ts:List aE):List Value:=ts.flatMap mJ
theorem aEg(ts:List aE):(iT ts).length=ts.length*2:=iP mJ 2 aHj ts
theorem zQ:cL Tryz.prog 22 38 2 24 (.agg #[.int .i64 0,.string ⟨#[]⟩]):=⟨by kernel_rfl,by kernel_rfl,rfl,by decide⟩
theorem wU:cL Tryz.prog 25 40 8 104 (.agg #[.int .i64 0,.string ⟨#[]⟩,.slice none 0 0,.int .i64 0,.int .i64 0,.string ⟨#[]⟩,.int .i64 0,.string ⟨#[]⟩]):=⟨by kernel_rfl,by kernel_rfl,rfl,by decide⟩
theorem aDo{α:Type}{s:Shp Tryz.prog α}{f:α->List Value}{w:World}{G:Nat->Prop}{ao:Option Addr}{xs:List α}(hn:0<s.n)(hf:∀x,(f x).length=s.n)(hat:∀es x,s.At w G es x->es=f x)(h:ElemsAt s w G ao xs):CellsAt w ao (xs.flatMap f):=fun i u hu=>by
 have hq:=Nat.div_add_mod i s.n;have hm:=Nat.mod_lt i hn;have hl:=(List.getElem?_eq_some_iff.1 hu).1;rw [iP f s.n hf]at hl;have hi:i/s.n<xs.length:=Nat.div_lt_of_lt_mul (by rw [Nat.mul_comm];exact hl);obtain⟨b,off,es,e,_,_,ha,hc⟩:=h (i/s.n) _ (qG hi);have hg:=flat_get f s.n hf xs (i/s.n) _ (i % s.n) (qG hi) hm;have e1:i/s.n*s.n+i % s.n=i:=by rw [Nat.mul_comm];exact hq
 rw [e1,hu]at hg;have:=hc (i % s.n) u (by rw [hat es _ ha];exact hg.symm);rw [e1]at this;exact⟨b,off,e,this⟩
theorem aBo{w:World}{G:Nat->Prop}{ao:Option Addr}{ts:List aE}(h:aR w G ao ts):CellsAt w ao (iT ts):=
 aDo (s:=cA) (f:=mJ) (by decide) (fun x=>rfl) (fun es x ha=>iA ha) h
theorem aDn{α:Type}{s:Shp Tryz.prog α}{f:α->List Value}{w:World}{G:Nat->Prop}{g:Nat}{xs:List α}{rest:List Value}{e:TypeId}(hf:∀x,(f x).length=s.n)(hat:∀(i:Nat) x,xs[i]?=some x->s.At w G (f x) x)(hG:G g)(hB:Blk w g (xs.flatMap f++rest) e):ElemsAt s w G (some ⟨g,0,none⟩) xs:=fun i x hi=>by
 refine⟨g,0,f x,rfl,hG,hB.lt,hat i x hi,fun c u hu=>?_⟩;have hc:c<s.n:=by rw [<-hf x];exact(List.getElem?_eq_some_iff.1 hu).1
 have hg:=flat_get f s.n hf xs i x c hi hc;rw [hB.cell',Nat.zero_add,List.getElem?_append_left (by have:=(List.getElem?_eq_some_iff.1 (hg.trans hu)).1;exact this),hg,hu]
theorem oB{w:World}{G:Nat->Prop}{t:aE}(h:fU t):cA.At w G (mJ t) t:=⟨[.int .i64 t.1],[.string t.2.1],rfl,⟨rfl,h.1⟩,[.string t.2.1],[],rfl,⟨rfl,h.2⟩,rfl⟩
theorem yJ{w:World}{G:Nat->Prop}{ao:Option Addr}{ts:List aE}(h:aR w G ao ts):∀t∈ts,fU t:=fun t ht=>by obtain⟨i,hi⟩:=List.mem_iff_getElem?.1 ht;obtain⟨b,off,es,e,_,_,ha,_⟩:=h i t hi;exact jJ ha
theorem sH(ts:List aE)(t:aE):iT (ts++ [t])=iT ts++mJ t:=by unfold iT;rw [List.flatMap_append];simp
theorem aEf(ts:List aE):∀u∈iT ts,u.oneCell'=true:=fun u hu=>by obtain⟨t,_,h⟩:=List.mem_flatMap.1 hu;simp [mJ]at h;rcases h with rfl|rfl<;>rfl
def gI(x:aJ×(Option Addr×Nat)):List Value:= [.int .i64 x.1.1,.string (bC x.1),.slice x.2.1 (aA x.1).length x.2.2,.int .i64 (gS x.1),.int .i64 (leftOf x.1).1,.string (leftOf x.1).2.1,.int .i64 (aN x.1).1,.string (aN x.1).2.1]
theorem iN(x:aJ×(Option Addr×Nat)):(gI x).length=8:=rfl
structure LitAll(l:aJ):Prop where
 kind:(Lit.int .i64 l.1).wf=true
 pred:(bC l).size≤maxLen
 terms:∀t∈aA l,fU t
 op:(Lit.int .i64 (gS l)).wf=true
 left:fU (leftOf l)
 right:fU (aN l)
theorem aCw{w:World}{G:Nat->Prop}{ao:Option Addr}{ls:List aJ}(h:cD w G ao ls):∀l∈ls,LitAll l:=fun l hl=>by obtain⟨i,hi⟩:=List.mem_iff_getElem?.1 hl;obtain⟨b,off,es,e,_,_,ha,_⟩:=h i l hi;obtain⟨a1,b1,e1,⟨e2,k2⟩,⟨a3,b3,e3,h3,⟨a4,b4,e4,⟨e5,k5⟩,⟨a6,b6,e6,h6,⟨a7,b7,e7,h7,e8⟩⟩⟩⟩⟩:=ha;obtain⟨c1,d1,f1,⟨f2,g2⟩,⟨c3,d3,f3,⟨ao',cap,f4,g1,g3,g4⟩,f5⟩⟩:=h3;exact⟨k2,g2,yJ g4,k5,jJ h6,jJ h7⟩
theorem aMy{w:World}{G:Nat->Prop}{l:aJ}(h:LitAll l){a:Option Addr}{cap:Nat}(ht:aR w G a (aA l))(h1:(aA l).length≤cap)(h2:cap≤maxLen):fL.At w G (gI (l,(a,cap))) l:=
 ⟨[.int .i64 l.1],_,rfl,⟨rfl,h.kind⟩,⟨[.string (bC l),.slice a (aA l).length cap],_,rfl,⟨[.string (bC l)],_,rfl,⟨rfl,h.pred⟩,[.slice a (aA l).length cap],[],rfl,⟨a,cap,rfl,h1,h2,ht⟩,rfl⟩,
   ⟨[.int .i64 (gS l)],_,rfl,⟨rfl,h.op⟩,⟨mJ (leftOf l),_,rfl,oB h.left,⟨mJ (aN l),[],rfl,oB h.right,rfl⟩⟩⟩⟩⟩
theorem pJ{w:World}{G:Nat->Prop}{g:Nat}{ls:List aJ}{vs:List (Option Addr×Nat)}{rest:List Value}{e:TypeId}(hl:vs.length=ls.length)(hall:∀l∈ls,LitAll l)(ht:∀x∈ls.zip vs,aR w G x.2.1 (aA x.1)/\(aA x.1).length≤x.2.2/\x.2.2≤maxLen)(hG:G g)(hB:Blk w g ((ls.zip vs).flatMap gI++rest) e):cD w G (some ⟨g,0,none⟩) ls:=fun i l hi=>by
 have hv:i<vs.length:=by rw [hl];exact(List.getElem?_eq_some_iff.1 hi).1
 have hz:(ls.zip vs)[i]?=some (l,vs[i]):=by rw [List.getElem?_zip_eq_some];exact⟨hi,qG hv⟩
 obtain⟨t1,t2,t3⟩:=ht _ (List.mem_of_getElem? hz);refine⟨g,0,gI (l,vs[i]),rfl,hG,hB.lt,aMy (hall l (List.mem_of_getElem? hi)) t1 t2 t3,fun c u hu=>?_⟩;have hc:c<8:=(List.getElem?_eq_some_iff.1 hu).1;have hg:=flat_get gI 8 iN (ls.zip vs) i _ c hz hc;rw [show fL.n=8 from rfl,hB.cell',Nat.zero_add,List.getElem?_append_left (List.getElem?_eq_some_iff.1 (hg.trans hu)).1,hg,hu]
theorem aEc:38≠40:=by decide
theorem aEb:38≠27:=by decide
theorem nZ:40≠27:=by decide
theorem aCy(x:aJ×(Option Addr×Nat)):∀u∈gI x,u.oneCell'=true:=fun u hu=>by simp [gI]at hu;rcases hu with rfl|rfl|rfl|rfl|rfl|rfl|rfl|rfl<;>rfl
end
end Go.Proofs.YtinnmeiphbdogaaGreat
