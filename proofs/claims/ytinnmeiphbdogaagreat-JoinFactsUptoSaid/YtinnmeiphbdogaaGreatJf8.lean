/- Texts joined for a claim (BaseAdd2, BaseDecl, BaseFrom, JGiven, JAlike, JPath, JAwake, RefC, JBase, JKept, MapIter, BaseCopy, BaseSame, BaseSame2, RelRead, RefRow, RefRow2, RefRow3, RefBase). -/
import Derived.Test.YtinnmeiphbdogaaGreatJf7
import Derived.Laws.IdiomRangeMap
set_option linter.unusedVariables false
set_option linter.unusedSimpArgs false
set_option maxRecDepth 100000
namespace Go.Proofs.YtinnmeiphbdogaaGreat
section
open Go.RowKit
set_option maxHeartbeats 4000000 in
theorem aE7{S:Nat->Prop}{w:World}{bb r:Nat}{E:List Ent}(h:BaseAt S w bb r E)(s:ByteArray){ao:Option Addr}{k cap:Nat}{ss:List ByteArray}(hx:RowIn w (ao,k,cap) ss)(ho:kE (ao,k,cap) (iA bb r E)):
 Calls Tryz.prog 42 #[.pointer (some ⟨bb,0,none⟩),.string s,.slice ao k cap] w (RetF (iA bb r E) w (BaseAdded S w bb r E s ss)):=by
 have hkn:k=ss.length:=hx.1.1;have hcs:CellsAt w ao (strs ss):=hx.1.2;have hkl:k≤8796093021952:=by rw [hkn];exact hx.2.1
 have c0:=h.blk.c0;have hlk:=jQ (P:=Tryz.prog) Tryz.underlying127 Tryz.underlying9 (z:= .pointer none) (by kernel_rfl) h.map s;rw [lO]at hlk;have hnm:=aAz s w;rw [show decide (1≤s.size/\s.size≤4096)=bZ s from rfl]at hnm;have HN:=qH hnm;clear hnm;have HT:=qH (fun w1 (hw:Ext w w1)=>sW ss ao k cap w1 hkn (hcs.ext hw) (by omega));obtain⟨n,en⟩:=nm (aX (aS E));have EN:=qH en;have hnl:n≤262144:=by rw [<-en];exact h.ok.few
 have c1:w.cell? ⟨bb,1,none⟩=some (.int .i64 n):=by rw [h.blk.cell',en];rfl
 have HC1:=qH (fun w1 (hw:Ext w w1)=>(hw.cell c1 id:w1.cell? ⟨bb,1,none⟩=some (.int .i64 n)));have H:=qH h;have HX:=qH (nIX hx ho);have HKN:=qH hkn;clear h hx ho hcs hkn en c1;cases hn:bZ s with
 |false=>
  rw [hn]at HN;have HNM:=qH hn;clear hn hlk c0;go_enter Tryz.func42,Tryz.ntmps42;go_wp2_with fail
  refine HN.out.mono ?_;rintro e w' ⟨rfl,rfl⟩;go_wp2;go_ret2;exact RetF.mk (Kp.refl _) (BaseAdded.same H.out (Kp.refl _) (aBs ss HNM.out) (by decide) rfl)
 |true=>
  rw [hn]at HN;have HNM:=qH hn;clear hn;cases he:bS E s with
  |none=>
   rw [he]at hlk;have hlk':∀w',w'=w->(Instr.lookup 127 (.map (some r)) (.string s) false).run Tryz.prog w'= .ok (.pointer none) w':=fun w' e=>by rw [e];exact hlk
   replace hlk:=hlk' w rfl;clear hlk';have HE:=qH he;clear he;by_cases hl:64<k
   ·have HNB:=qH (uH (k:Int) w (.inr (by omega)));go_enter Tryz.func42,Tryz.ntmps42;go_wp2_with fail
    refine HN.out.mono ?_;rintro e w' ⟨rfl,rfl⟩;go_wp2_with fail
    refine HNB.out.mono ?_;rintro e w' ⟨rfl,rfl⟩;go_wp2;go_ret2;exact RetF.mk (Kp.refl _) (BaseAdded.same H.out (Kp.refl _) (aBt HNM.out (gG HE.out).1 (by rw [<-HKN.out];exact hl)) (by decide) rfl)
   have hk64:k≤64:=by omega
   have HNR:=qH (kI S w k hk64 H.out.inS);have HL:=qH (show ss.length≤64 by rw [<-HKN.out];exact hk64);clear hl;cases ht:bP ss with
   |false=>
    rw [ht]at HT;have HTX:=qH ht;clear ht;go_enter Tryz.func42,Tryz.ntmps42;go_wp2_with fail
    refine HN.out.mono ?_;rintro e w' ⟨rfl,rfl⟩;go_wp2_with fail
    refine HNR.out.mono ?_;rintro e w1 ⟨v,rfl,hk1,rfl,hrows⟩;have d2:=hrows.blk.c2;have HK1:=qH hk1;clear hk1 hrows;go_wp2_with fail
    refine(HT.out w1 HK1.out).mono ?_;rintro e w2 ⟨v,rfl,hk2,rfl⟩;have HK2:=qH (HK1.out.trans hk2);clear hk2;go_wp2;go_ret2;exact RetF.mk (Ext.kp HK2.out) (BaseAdded.same H.out HK2.out (pQ HNM.out (vZ (gG HE.out).1 HL.out) HTX.out) (by decide) rfl)
   |true=>
    rw [ht]at HT;have HTX:=qH ht;clear ht;have HAdd:=qH (fun w1 (hw:Ext w w1) (hr:RowsAt S w1 w.heap.size (.slice none 0 0) k [])=>nW hr List.Pairwise.nil (ao:=ao) (n:=k) (cap:=cap) (ss:=ss) ⟨⟨HKN.out,HX.out.1.1.2.ext hw⟩,HX.out.1.2.1,fun a e hne=>Nat.lt_of_lt_of_le (HX.out.1.2.2 a e hne) hw.size⟩
     (fun a e hne ho=>by
      have:=HX.out.1.2.2 a e hne;rcases ho with ho|ho
      ·omega
      ·cases ho) (by simp))
    by_cases hm:262144≤n
    ·have q2:decide ((262144:Int)≤(n:Int))=true:=by rw [decide_eq_true_iff];omega
     have HM:=qH hm;have HHas:=qH (fun w1 (hw:Ext w w1) (hr:RowsAt S w1 w.heap.size (.slice none 0 0) k [])=>nU hr List.Pairwise.nil (x:=(ao,k,cap)) (ss:=ss) ⟨⟨HKN.out,HX.out.1.1.2.ext hw⟩,HX.out.1.2.1,fun a e hne=>Nat.lt_of_lt_of_le (HX.out.1.2.2 a e hne) hw.size⟩
      (fun a e hne ho=>by
       have:=HX.out.1.2.2 a e hne;rcases ho with ho|ho
       ·omega
       ·cases ho))
     clear hm;go_enter Tryz.func42,Tryz.ntmps42;go_wp2_with fail
     refine HN.out.mono ?_;rintro e w' ⟨rfl,rfl⟩;go_wp2_with fail
     refine HNR.out.mono ?_;rintro e w1 ⟨v,rfl,hk1,rfl,hrows⟩;have d2:=hrows.blk.c2;have HK1:=qH (nIX hk1 hrows);clear hk1 hrows;go_wp2_with fail
     refine(HT.out w1 HK1.out.1).mono ?_;rintro e w2 ⟨v,rfl,hk2,rfl⟩;have HK2:=qH (HK1.out.1.trans hk2);have HR2:=qH (HK1.out.2.ext hk2);have c1':=HC1.out w2 HK2.out;clear hk2 d2;go_wp2_with fail
     refine(HHas.out w2 HK2.out HR2.out).mono ?_;rintro e w3 ⟨v,rfl,hk3,rfl⟩;have HK3:=qH (HK2.out.trans hk3);clear hk3 c1';have hni:bD aC ([]:List (List ByteArray)) ss=false:=rfl;go_wp2;go_ret2;exact RetF.mk (Ext.kp HK3.out) (BaseAdded.same H.out HK3.out (pR HNM.out (vZ (gG HE.out).1 HL.out) HTX.out (by rw [EN.out];exact HM.out) (by rw [(gG HE.out).2];rfl)) (by decide) rfl)
    ·have q2:decide ((262144:Int)≤(n:Int))=false:=by rw [decide_eq_false_iff_not];omega
     have HM:=qH hm;clear hm;go_enter Tryz.func42,Tryz.ntmps42;go_wp2_with fail
     refine HN.out.mono ?_;rintro e w' ⟨rfl,rfl⟩;go_wp2_with fail
     refine HNR.out.mono ?_;rintro e w1 ⟨v,rfl,hk1,rfl,hrows⟩;have d2:=hrows.blk.c2;have HK1:=qH (nIX hk1 hrows);clear hk1 hrows;go_wp2_with fail
     refine(HT.out w1 HK1.out.1).mono ?_;rintro e w2 ⟨v,rfl,hk2,rfl⟩;have HK2:=qH (HK1.out.1.trans hk2);have HR2:=qH (HK1.out.2.ext hk2);have c1':=HC1.out w2 HK2.out;clear hk2 d2;go_wp2_with fail
     refine(HAdd.out w2 HK2.out HR2.out).mono ?_;rintro e w3 ⟨v,rfl,hk3,hv,S',iv',hss,hsn,hrows3,hiv⟩;have e0:aI k [] ss=(true,0):=by unfold aI;rw [if_neg (by rw [HKN.out];simp),if_neg (by rw [HTX.out];simp),if_neg (by simp)];simp [bD]
     have e1:aP k [] ss= [ss]:=by unfold aP;rw [e0];simp [bT,bD,below]
     rw [e0]at hv;rw [e1]at hrows3;subst hv;have hz:=HK2.out.size;have kk3:Kp (fun g=>g=w.heap.size) w2 w3:=hk3.mono fun g _ h=>by
      rcases h with h|h
      ·exact h
      ·cases h
     have hex3:Ext w w3:=HK2.out.trans' kk3 (fun i hi e=>by omega);rw [HKN.out]at hrows3;have HR3:=qH (nIX hex3 (nIX hss (nIX (fun q (hq:S' q)=>(hsn q hq).imp id fun u=>Nat.le_trans hz u) (nIX hrows3 (fun q (hq:iv'.ownBlock=some q)=>show w.heap.size≤q by
      rcases hiv q hq with u|u
      ·cases u
      ·exact Nat.le_trans hz u)))))
     have HB3:=qH (nIX (H.out.blk.ext hex3) (H.out.map.ext hex3));clear hk3 kk3 hex3 hrows3 hss hsn hiv e0 e1 c1' hlk c0 hz;go_wp2_with fail
     refine(gL HB3.out.1 HB3.out.2 s (some ⟨w.heap.size,0,none⟩)).mono ?_;rintro e w4 ⟨v,rfl,hk4,hm4⟩;have HM4:=qH (nIX hk4 hm4);have hb4:Blk w4 bb [.map (some r),.int .i64 (aX (aS E):Nat)] 129:=HB3.out.1.kp hk4 H.out.ne;have c4:w4.cell? ⟨bb,1,none⟩=some (.int .i64 n):=by rw [hb4.cell',EN.out];rfl
     have f4:=hb4.free 1;clear hk4 hm4 hb4;go_wp2;go_ret2;exact aE6 H.out HE.out ⟨HNM.out,HL.out,HTX.out,by rw [EN.out];exact HM.out⟩ HR3.out.1 HR3.out.2.1 HR3.out.2.2.1 HR3.out.2.2.2.1 (Nat.le_refl _) HR3.out.2.2.2.2 HM4.out.1 HM4.out.2 EN.out
  |some e0=>
   rw [he]at hlk;have HE:=qH he;obtain⟨hem,hes⟩:=cZ he;obtain⟨b0,eb0⟩:=nm e0.b;obtain⟨ar,ear⟩:=nm e0.ar;obtain⟨LL,eLL⟩:=nm e0.LL;have hlk':(Instr.lookup 127 (.map (some r)) (.string s) false).run Tryz.prog w= .ok (.pointer (some ⟨b0,0,none⟩)) w:=by rw [<-eb0];exact hlk
   have hra:=H.out.rows e0 hem;have d2:w.cell? ⟨b0,2,none⟩=some (.int .i64 ar):=by rw [<-eb0,hra.blk.cell',ear];rfl
   have HEM:=qH (nIX hem (nIX eb0 (nIX ear eLL)));have hoff:kE (ao,k,cap) (dY e0.b e0.iv):=fun a e hne hown=>HX.out.2 a e hne (.inr (.inr ⟨e0,hem,hown⟩));have HOff:=qH hoff;have HHas:=qH (fun w1 (hw:Ext w w1)=>nU ((H.out.rows e0 hem).ext hw) (H.out.strict hem) (x:=(ao,k,cap)) (ss:=ss) ⟨⟨HKN.out,HX.out.1.1.2.ext hw⟩,HX.out.1.2.1,fun a e hne=>Nat.lt_of_lt_of_le (HX.out.1.2.2 a e hne) hw.size⟩ hoff);have HA:=qH (fun w1 (hw:Ext w w1)=>nW ((H.out.rows e0 hem).ext hw) (H.out.strict hem) (ao:=ao) (n:=k) (cap:=cap) (ss:=ss) ⟨⟨HKN.out,HX.out.1.1.2.ext hw⟩,HX.out.1.2.1,fun a e hne=>Nat.lt_of_lt_of_le (HX.out.1.2.2 a e hne) hw.size⟩ hoff (by have:=H.out.few hem;omega));clear he hem hes hra hoff hlk;rw [HEM.out.2.1,HEM.out.2.2.2]at HHas;rw [HEM.out.2.1,HEM.out.2.2.1,HEM.out.2.2.2]at HA;clear eb0 ear eLL;by_cases ha:ar=k
   ·have HAr:=qH ha;have q1:((ar:Int) !=(k:Int))=false:=by simp [ha]
    clear ha;have hnil:Ext w w:=Kp.refl w;cases ht:bP ss with
    |false=>
     rw [ht]at HT;have HTX:=qH ht;clear ht;go_enter Tryz.func42,Tryz.ntmps42;go_wp2_with fail
     refine HN.out.mono ?_;rintro e w' ⟨rfl,rfl⟩;go_wp2_with fail
     refine(HT.out w hnil).mono ?_;rintro e w2 ⟨v,rfl,hk2,rfl⟩;have HK2:=qH hk2;clear hk2;go_wp2;go_ret2;exact RetF.mk (Ext.kp HK2.out) (BaseAdded.same H.out HK2.out (pQ HNM.out (pO (fF HE.out).1 (by rw [HEM.out.2.2.1,HAr.out];exact HKN.out)) HTX.out) (by decide) rfl)
    |true=>
     rw [ht]at HT;have HTX:=qH ht;clear ht;have hR0:aI ar LL ss=if 65536≤LL.length/\bD aC LL ss=false then(false,4)else(!bD aC LL ss,0):=by unfold aI;rw [if_neg (by rw [HAr.out,HKN.out];simp),if_neg (by rw [HTX.out];simp)]
     have HR0:=qH hR0;clear hR0;by_cases hm:262144≤n
     ·have q2:decide ((262144:Int)≤(n:Int))=true:=by rw [decide_eq_true_iff];omega
      have HM:=qH hm;clear hm;cases hi:bD aC LL ss with
      |false=>
       have HI:=qH hi;rw [hi]at HHas;clear hi;go_enter Tryz.func42,Tryz.ntmps42;go_wp2_with fail
       refine HN.out.mono ?_;rintro e w' ⟨rfl,rfl⟩;go_wp2_with fail
       refine(HT.out w hnil).mono ?_;rintro e w2 ⟨v,rfl,hk2,rfl⟩;have HK2:=qH hk2;have c1':=HC1.out w2 hk2;clear hk2;go_wp2_with fail
       refine(HHas.out w2 HK2.out).mono ?_;rintro e w3 ⟨v,rfl,hk3,rfl⟩;have HK3:=qH (HK2.out.trans hk3);clear hk3 c1';go_wp2;go_ret2;exact RetF.mk (Ext.kp HK3.out) (BaseAdded.same H.out HK3.out (pR HNM.out (pO (fF HE.out).1 (by rw [HEM.out.2.2.1,HAr.out];exact HKN.out)) HTX.out (by rw [EN.out];exact HM.out) (by rw [(fF HE.out).2,HEM.out.2.2.2];exact HI.out)) (by decide) rfl)
      |true=>
       have HI0:=qH hi;rw [hi]at HHas;clear hi;have HF:=qH (show(bZ s=true/\e0.ar=ss.length/\bP ss=true/\e0.LL=LL/\¬(262144≤aX (aS E)/\bD aC LL ss=false))/\True from⟨⟨HNM.out,by rw [HEM.out.2.2.1,HAr.out];exact HKN.out,HTX.out,HEM.out.2.2.2,fun q=>by rw [HI0.out]at q;cases q.2⟩,trivial⟩);go_enter Tryz.func42,Tryz.ntmps42;go_wp2_with fail
       refine HN.out.mono ?_;rintro e w' ⟨rfl,rfl⟩;go_wp2_with fail
       refine(HT.out w hnil).mono ?_;rintro e w2 ⟨v,rfl,hk2,rfl⟩;have HK2:=qH hk2;have c1':=HC1.out w2 hk2;clear hk2;go_wp2_with fail
       refine(HHas.out w2 HK2.out).mono ?_;rintro e w2b ⟨v,rfl,hk3,rfl⟩;have HK2b:=qH (HK2.out.trans hk3);clear hk3 c1';go_wp2_with fail
       refine(HA.out w2b HK2b.out).mono ?_;rintro e w3 ⟨v,rfl,hk3,hv,S',iv',hss,hsn,hrows3,hiv⟩;rw [<-HEM.out.2.1]at hk3 hrows3;rw [<-HEM.out.2.2.1]at hrows3;have HX3:=qH (nIX hk3 (nIX hss (nIX hsn (nIX hrows3 hiv))));rw [HR0.out]at hv;subst hv;clear hk3 hss hsn hrows3 hiv;by_cases h4:65536≤LL.length/\bD aC LL ss=false
       ·have e4:(if 65536≤LL.length/\bD aC LL ss=false then(false,4)else(!bD aC LL ss,0))=(false,4):=if_pos h4;have H4:=qH (nIX h4 e4);rw [e4];clear h4 e4;go_wp2;go_ret2;exact sO H.out HE.out HF.out.1 HK2b.out HX3.out.1 HX3.out.2.1 HX3.out.2.2.1 HX3.out.2.2.2.1 HX3.out.2.2.2.2 (by rw [HEM.out.2.2.1];exact HR0.out) H4.out.1
       ·have e4:(if 65536≤LL.length/\bD aC LL ss=false then(false,4)else(!bD aC LL ss,0))=(!bD aC LL ss,0):=if_neg h4;have H4:=qH (nIX h4 e4);rw [e4];clear h4 e4;have hm3:=oW H.out HE.out HK2b.out HX3.out.1;have hb3:=iU H.out HE.out HK2b.out HX3.out.1;have HB3:=qH (nIX hb3 hm3);have c31:w3.cell? ⟨bb,1,none⟩=some (.int .i64 n):=by rw [HB3.out.1.cell',EN.out];rfl
        clear hm3 hb3 c31;cases hi:bD aC LL ss with
        |true=>
         have HI:=qH hi;clear hi;go_wp2_with fail
         refine(gL HB3.out.1 HB3.out.2 s (some ⟨b0,0,none⟩)).mono ?_;rintro e w4 ⟨v,rfl,hk4,hm4⟩;rw [<-HEM.out.2.1]at hm4;have HM4:=qH (nIX hk4 hm4);clear hk4 hm4;go_wp2;go_ret2;exact vE H.out HE.out HF.out.1 HK2b.out HX3.out.1 HX3.out.2.1 HX3.out.2.2.1 HX3.out.2.2.2.1 HX3.out.2.2.2.2 (by rw [HEM.out.2.2.1];exact HR0.out) HI.out HM4.out.1 HM4.out.2
        |false=>
         have HI:=qH hi;clear hi;go_wp2_with fail
         refine(gL HB3.out.1 HB3.out.2 s (some ⟨b0,0,none⟩)).mono ?_;rintro e w4 ⟨v,rfl,hk4,hm4⟩;rw [<-HEM.out.2.1]at hm4;have HM4:=qH (nIX hk4 hm4);have hb4:Blk w4 bb [.map (some r),.int .i64 (aX (aS E):Nat)] 129:=HB3.out.1.kp hk4 H.out.ne;have c4:w4.cell? ⟨bb,1,none⟩=some (.int .i64 n):=by rw [hb4.cell',EN.out];rfl
         have f4:=hb4.free 1;clear hk4 hm4 hb4;go_wp2;go_ret2;exact vF H.out HE.out HF.out.1 HK2b.out HX3.out.1 HX3.out.2.1 HX3.out.2.2.1 HX3.out.2.2.2.1 HX3.out.2.2.2.2 (by rw [HEM.out.2.2.1];exact HR0.out) HI.out H4.out.1 HM4.out.1 HM4.out.2 EN.out
     ·have q2:decide ((262144:Int)≤(n:Int))=false:=by rw [decide_eq_false_iff_not];omega
      have HM:=qH hm;clear hm;have HF:=qH (show(bZ s=true/\e0.ar=ss.length/\bP ss=true/\e0.LL=LL/\¬(262144≤aX (aS E)/\bD aC LL ss=false))/\True from⟨⟨HNM.out,by rw [HEM.out.2.2.1,HAr.out];exact HKN.out,HTX.out,HEM.out.2.2.2,fun q=>HM.out (by rw [<-EN.out];exact q.1)⟩,trivial⟩);go_enter Tryz.func42,Tryz.ntmps42;go_wp2_with fail
      refine HN.out.mono ?_;rintro e w' ⟨rfl,rfl⟩;go_wp2_with fail
      refine(HT.out w hnil).mono ?_;rintro e w2 ⟨v,rfl,hk2,rfl⟩;have HK2:=qH hk2;have c1':=HC1.out w2 hk2;clear hk2;go_wp2_with fail
      refine(HA.out w2 HK2.out).mono ?_;rintro e w3 ⟨v,rfl,hk3,hv,S',iv',hss,hsn,hrows3,hiv⟩;rw [<-HEM.out.2.1]at hk3 hrows3;rw [<-HEM.out.2.2.1]at hrows3;have HX3:=qH (nIX hk3 (nIX hss (nIX hsn (nIX hrows3 hiv))));rw [HR0.out]at hv;subst hv;clear hk3 hss hsn hrows3 hiv;by_cases h4:65536≤LL.length/\bD aC LL ss=false
      ·have e4:(if 65536≤LL.length/\bD aC LL ss=false then(false,4)else(!bD aC LL ss,0))=(false,4):=if_pos h4;have H4:=qH (nIX h4 e4);rw [e4];clear h4 e4;go_wp2;go_ret2;exact sO H.out HE.out HF.out.1 HK2.out HX3.out.1 HX3.out.2.1 HX3.out.2.2.1 HX3.out.2.2.2.1 HX3.out.2.2.2.2 (by rw [HEM.out.2.2.1];exact HR0.out) H4.out.1
      ·have e4:(if 65536≤LL.length/\bD aC LL ss=false then(false,4)else(!bD aC LL ss,0))=(!bD aC LL ss,0):=if_neg h4;have H4:=qH (nIX h4 e4);rw [e4];clear h4 e4;have hm3:=oW H.out HE.out HK2.out HX3.out.1;have hb3:=iU H.out HE.out HK2.out HX3.out.1;have HB3:=qH (nIX hb3 hm3);have c31:w3.cell? ⟨bb,1,none⟩=some (.int .i64 n):=by rw [HB3.out.1.cell',EN.out];rfl
       clear hm3 hb3 c31;cases hi:bD aC LL ss with
       |true=>
        have HI:=qH hi;clear hi;go_wp2_with fail
        refine(gL HB3.out.1 HB3.out.2 s (some ⟨b0,0,none⟩)).mono ?_;rintro e w4 ⟨v,rfl,hk4,hm4⟩;rw [<-HEM.out.2.1]at hm4;have HM4:=qH (nIX hk4 hm4);clear hk4 hm4;go_wp2;go_ret2;exact vE H.out HE.out HF.out.1 HK2.out HX3.out.1 HX3.out.2.1 HX3.out.2.2.1 HX3.out.2.2.2.1 HX3.out.2.2.2.2 (by rw [HEM.out.2.2.1];exact HR0.out) HI.out HM4.out.1 HM4.out.2
       |false=>
        have HI:=qH hi;clear hi;go_wp2_with fail
        refine(gL HB3.out.1 HB3.out.2 s (some ⟨b0,0,none⟩)).mono ?_;rintro e w4 ⟨v,rfl,hk4,hm4⟩;rw [<-HEM.out.2.1]at hm4;have HM4:=qH (nIX hk4 hm4);have hb4:Blk w4 bb [.map (some r),.int .i64 (aX (aS E):Nat)] 129:=HB3.out.1.kp hk4 H.out.ne;have c4:w4.cell? ⟨bb,1,none⟩=some (.int .i64 n):=by rw [hb4.cell',EN.out];rfl
        have f4:=hb4.free 1;clear hk4 hm4 hb4;go_wp2;go_ret2;exact vF H.out HE.out HF.out.1 HK2.out HX3.out.1 HX3.out.2.1 HX3.out.2.2.1 HX3.out.2.2.2.1 HX3.out.2.2.2.2 (by rw [HEM.out.2.2.1];exact HR0.out) HI.out H4.out.1 HM4.out.1 HM4.out.2 EN.out
   ·have HAr:=qH ha;have q1:((ar:Int) !=(k:Int))=true:=by rw [bne_iff_ne];omega
    clear ha;go_enter Tryz.func42,Tryz.ntmps42;go_wp2_with fail
    refine HN.out.mono ?_;rintro e w' ⟨rfl,rfl⟩;go_wp2;go_ret2;exact RetF.mk (Kp.refl _) (BaseAdded.same H.out (Kp.refl _) (rA HNM.out (fF HE.out).1 (by show e0.ar≠ss.length;rw [HEM.out.2.2.1,<-HKN.out];exact HAr.out)) (by decide) rfl)
section
variable {S S':Nat->Prop}{w w1 w2 w3 w4:World}{bb r:Nat}{E:List Ent}{s:ByteArray}{e:Ent}
def BaseDecled(S:Nat->Prop)(w:World)(bb r:Nat)(E:List Ent)(s:ByteArray)(a:Int)(w':World)(v:Value):Prop:=
 v= .int .i64 ((dC (aS E) s a:Nat):Int)/\∃E',BaseAt S w' bb r E'/\aS E'=cV (aS E) s a/\∀k,iA bb r E' k->iA bb r E k\/w.heap.size≤k
theorem BaseDecled.same{a:Int}(h:BaseAt S w bb r E)(hk:Ext w w1){n:Nat}(hR:dC (aS E) s a=n)(hn:cV (aS E) s a=aS E){v:Value}(hv:v= .int .i64 (n:Nat)):BaseDecled S w bb r E s a w1 v:=
 ⟨by rw [hv,hR],E,h.ext hk,hn.symm,fun _ h=> .inl h⟩
theorem qZ{C:List aZ}(a:Int)(h:bZ s=false):dC C s a=32:=if_pos h
theorem aBo{C:List aZ}{a:Int}(h:bZ s=true)(ha:a<0\/64<a):dC C s a=2:=by unfold dC;rw [if_neg (by rw [h];simp),if_pos ha]
theorem qY{C:List aZ}{a:Int}(h:bZ s=true)(ha:¬(a<0\/64<a))(hg:bL C s=none):dC C s a=0:=by unfold dC;rw [if_neg (by rw [h];simp),if_neg ha,hg]
theorem yU{C:List aZ}{a:Int}{v:Nat×aD}(h:bZ s=true)(ha:¬(a<0\/64<a))(hg:bL C s=some v):dC C s a=if(v.1:Int)=a then 0 else 30:=by unfold dC;rw [if_neg (by rw [h];simp),if_neg ha,hg]
theorem pM{C:List aZ}{a:Int}(h:dC C s a≠0):cV C s a=C:=if_neg fun k=>h k.1
theorem yV{C:List aZ}{a:Int}{v:Nat×aD}(hg:bL C s=some v):cV C s a=C:=if_neg fun k=>by rw [hg]at k;cases k.2
theorem aCn{k b:Nat}(h:BaseAt S w bb r E)(he:bS E s=none)(hn:bZ s=true)(hk:k≤64)(hx:Ext w w3)(hr:RowsAt S w3 b (.slice none 0 0) k [])(hb:w.heap.size≤b)
 (hk4:Kp (fun k=>k=r) w3 w4)(hm4:MapIs w4 r (mG (eT E) s (.pointer (some ⟨b,0,none⟩)))):RetF (iA bb r E) w (BaseDecled S w bb r E s (k:Int)) (.returned (.int .i64 0)) w4:=by
 obtain⟨g1,g2⟩:=gG he;have hR:dC (aS E) s (k:Int)=0:=qY hn (by omega) g1;have hC:cV (aS E) s (k:Int)=aS (E++ [{name:=s,b:=b,iv:= .slice none 0 0,ar:=k,LL:= []}]):=by unfold cV;rw [if_pos ⟨hR,g1⟩];simp [aS,Ent.cnt]
 rw [aBi he b (.slice none 0 0) k []]at hm4;have ho:∀q,dY b (.slice none 0 0) q->w.heap.size≤q:=fun q ho=>by
  rcases ho with rfl|ho
  ·exact hb
  ·cases ho
 have htot:aX (aS E)=aX (aS (E++ [{name:=s,b:=b,iv:= .slice none 0 0,ar:=k,LL:= []}])):=by simp [aX,aS,Ent.cnt]
 refine RetF.mk ((Ext.kp hx).trans (hk4.mono fun k _ ho=> .inr (.inl ho))) ⟨by rw [hR];rfl,E++ [{name:=s,b:=b,iv:= .slice none 0 0,ar:=k,LL:= []}],?_,hC.symm,?_⟩
 ·exact h.push (e:={name:=s,b:=b,iv:= .slice none 0 0,ar:=k,LL:= []}) hx (fun _ x=>x) (fun _ x=> .inl x) hr ho (hk4.mono fun k _ ho=> .inr ho) ((h.blk.ext hx).kp hk4 h.ne) hm4 htot (by rw [<-hC];exact mI h.ok s _)
 ·rintro q (h1|h1|⟨f,hf,ho2⟩)
  ·exact .inl (.inl h1)
  ·exact .inl (.inr (.inl h1))
  ·rcases List.mem_append.1 hf with hf|hf
   ·exact .inl (.inr (.inr ⟨f,hf,ho2⟩))
   ·obtain rfl:=List.mem_singleton.1 hf;exact .inr (ho q ho2)
set_option maxHeartbeats 4000000 in
theorem aCo(h:BaseAt S w bb r E)(s:ByteArray)(a:Int):
 Calls Tryz.prog 107 #[.pointer (some ⟨bb,0,none⟩),.string s,.int .i64 a] w (RetF (iA bb r E) w (BaseDecled S w bb r E s a)):=by
 have c0:=h.blk.c0;have hnm:=aAz s w;rw [show decide (1≤s.size/\s.size≤4096)=bZ s from rfl]at hnm;have HN:=qH hnm;clear hnm;have H:=qH h;have HLk:=qH (fun w1 (hw:Ext w w1)=>jQ (P:=Tryz.prog) Tryz.underlying127 Tryz.underlying9 (z:= .pointer none) (by kernel_rfl) (h.map.ext hw) s);rw [lO]at HLk;clear h;cases hn:bZ s with
 |false=>
  rw [hn]at HN;have HNM:=qH hn;clear hn c0;go_enter Tryz.func107,Tryz.ntmps107;go_wp2_with fail
  refine HN.out.mono ?_;rintro e w' ⟨rfl,rfl⟩;go_wp2;go_ret;exact RetF.mk (Kp.refl _) (BaseDecled.same H.out (Kp.refl _) (qZ a HNM.out) (pM (by rw [qZ a HNM.out];decide)) rfl)
 |true=>
  rw [hn]at HN;have HNM:=qH hn;clear hn;by_cases ha:a<0\/64<a
  ·have HNB:=qH (uH a w ha);have HAB:=qH ha;obtain⟨p,hp⟩:∃p:Option Addr,((bS E s).map Ent.ptr).getD (.pointer none)= .pointer p:=by
    cases bS E s with
    |none=>exact⟨none,rfl⟩
    |some e=>exact⟨some ⟨e.b,0,none⟩,rfl⟩
   have hlk:=HLk.out w (Kp.refl w);rw [hp]at hlk;clear ha hp;go_enter Tryz.func107,Tryz.ntmps107;go_wp2_with fail
   refine HN.out.mono ?_;rintro e w' ⟨rfl,rfl⟩;go_wp2_with fail
   refine HNB.out.mono ?_;rintro e w' ⟨rfl,rfl⟩;go_wp2;go_ret;have e2:=aBo (s:=s) (C:=aS E) HNM.out HAB.out;exact RetF.mk (Kp.refl _) (BaseDecled.same H.out (Kp.refl _) e2 (pM (by rw [e2];decide)) rfl)
  ·obtain⟨k,rfl⟩:=Int.eq_ofNat_of_zero_le (show 0≤a by omega);have hk64:k≤64:=by omega
   have HNR:=qH (kI S w k hk64 H.out.inS);have HAN:=qH ha;clear ha;cases he:bS E s with
   |none=>
    rw [he]at HLk;have HE:=qH he;clear he;go_enter Tryz.func107,Tryz.ntmps107;go_wp2_with fail
    refine HN.out.mono ?_;rintro e w' ⟨rfl,rfl⟩;go_wp2_with fail
    refine HNR.out.mono ?_;rintro e w1 ⟨v,rfl,hk1,rfl,hrows⟩;have hlk:(Instr.lookup 127 (.map (some r)) (.string s) false).run Tryz.prog w1= .ok (.pointer none) w1:=HLk.out w1 hk1;have c1:=hk1.cell c0 id;have HK1:=qH (nIX hk1 hrows);clear hk1 hrows;go_wp2_with fail
    refine(gL (H.out.blk.ext HK1.out.1) (H.out.map.ext HK1.out.1) s (some ⟨w.heap.size,0,none⟩)).mono ?_;rintro e w4 ⟨v,rfl,hk4,hm4⟩;have HM4:=qH (nIX hk4 hm4);clear hk4 hm4;go_wp2;go_ret;exact aCn H.out HE.out HNM.out hk64 HK1.out.1 HK1.out.2 (Nat.le_refl _) HM4.out.1 HM4.out.2
   |some e0=>
    rw [he]at HLk;have HE:=qH he;obtain⟨hem,hes⟩:=cZ he;obtain⟨b0,eb0⟩:=nm e0.b;obtain⟨ar,ear⟩:=nm e0.ar;have d2:w.cell? ⟨b0,2,none⟩=some (.int .i64 ar):=by rw [<-eb0,(H.out.rows e0 hem).blk.cell',ear];rfl
    have HEM:=qH (nIX eb0 ear);have hg:bL (aS E) s=some (ar,e0.LL):=by rw [<-ear];exact(fF he).1
    have hR:=yU (C:=aS E) HNM.out HAN.out hg;have HR:=qH (nIX hR (yV (C:=aS E) (a:=(k:Int)) hg));clear he hem hes eb0 ear hg hR;by_cases hq:ar=k
    ·have q1:((ar:Int) !=(k:Int))=false:=by simp [hq]
     have HQ:=qH hq;clear hq;go_enter Tryz.func107,Tryz.ntmps107;go_wp2_with fail
     refine HN.out.mono ?_;rintro e w' ⟨rfl,rfl⟩;go_wp2_with fail
     refine HNR.out.mono ?_;rintro e w1 ⟨v,rfl,hk1,rfl,hrows⟩;have hlk:(Instr.lookup 127 (.map (some r)) (.string s) false).run Tryz.prog w1= .ok (.pointer (some ⟨b0,0,none⟩)) w1:=by rw [<-HEM.out.1];exact HLk.out w1 hk1
     have c1:=hk1.cell c0 id;have d21:=hk1.cell d2 id;have HK1:=qH hk1;clear hk1 hrows;go_wp2;go_ret;exact RetF.mk (Ext.kp HK1.out) (BaseDecled.same H.out HK1.out (by rw [HR.out.1,if_pos (by rw [HQ.out])]) HR.out.2 rfl)
    ·have q1:((ar:Int) !=(k:Int))=true:=by rw [bne_iff_ne];omega
     have HQ:=qH hq;clear hq;go_enter Tryz.func107,Tryz.ntmps107;go_wp2_with fail
     refine HN.out.mono ?_;rintro e w' ⟨rfl,rfl⟩;go_wp2_with fail
     refine HNR.out.mono ?_;rintro e w1 ⟨v,rfl,hk1,rfl,hrows⟩;have hlk:(Instr.lookup 127 (.map (some r)) (.string s) false).run Tryz.prog w1= .ok (.pointer (some ⟨b0,0,none⟩)) w1:=by rw [<-HEM.out.1];exact HLk.out w1 hk1
     have c1:=hk1.cell c0 id;have d21:=hk1.cell d2 id;have HK1:=qH hk1;clear hk1 hrows;go_wp2;go_ret;exact RetF.mk (Ext.kp HK1.out) (BaseDecled.same H.out HK1.out (by rw [HR.out.1,if_neg (fun q=>HQ.out (by omega))]) HR.out.2 rfl)
end
def RelsIn(S:Nat->Prop)(w:World)(ao:Option Addr)(L:List eJ):Prop:=∀(i:Nat) (q:eJ),L[i]?=some q->∃b off ra rcap,ao=some ⟨b,off,none⟩/\S b/\w.cell? ⟨b,off+i*3,none⟩=some (.string q.1)/\w.cell? ⟨b,off+i*3+1,none⟩=some (.int .i64 q.2.1)/\w.cell? ⟨b,off+i*3+2,none⟩=some (.slice ra q.2.2.1.length rcap)/\q.2.2.1.length≤rcap/\rcap≤maxLen/\RowsIn S w ra q.2.2.1
section
variable {S S':Nat->Prop}{w w':World}{ao:Option Addr}{L:List eJ}
theorem RelsIn.kp{F:Nat->Prop}(h:RelsIn S w ao L)(hk:Kp F w w')(hF:∀k,F k->¬S k):RelsIn S w' ao L:=fun i q hq=>by obtain⟨b,off,ra,rcap,e,hb,c0,c1,c2,h1,h2,h3⟩:=h i q hq;exact⟨b,off,ra,rcap,e,hb,hk.cell c0 (fun f=>hF _ f hb),hk.cell c1 (fun f=>hF _ f hb),hk.cell c2 (fun f=>hF _ f hb),h1,h2,h3.kp hk hF⟩
theorem RelsIn.ext(h:RelsIn S w ao L)(hk:Ext w w'):RelsIn S w' ao L:=h.kp hk fun _ x=>x.elim
end
theorem aEi{C:List aZ}{q:eJ}{L:List eJ}(h:dC C q.1 q.2.1≠0):bX C (q::L)=(C,dC C q.1 q.2.1):=if_neg h
theorem aEh{C:List aZ}{q:eJ}{L:List eJ}(h:dC C q.1 q.2.1=0)(h2:(dA (cV C q.1 q.2.1) q.1 q.2.2.1).2≠0):bX C (q::L)=dA (cV C q.1 q.2.1) q.1 q.2.2.1:=by show(if dC C q.1 q.2.1=0 then _ else _)=_;rw [if_pos h,if_neg h2]
theorem aIj{C:List aZ}{q:eJ}{L:List eJ}(h:dC C q.1 q.2.1=0)(h2:(dA (cV C q.1 q.2.1) q.1 q.2.2.1).2=0):bX C (q::L)=bX (dA (cV C q.1 q.2.1) q.1 q.2.2.1).1 L:=by show(if dC C q.1 q.2.1=0 then _ else _)=_;rw [if_pos h,if_pos h2]
theorem aBu{C:List aZ}{s:ByteArray}{x:List ByteArray}{rs:aD}(h:(dD C s x).2=0):dA C s (x::rs)=dA (fN C s x) s rs:=if_pos h
theorem zH{C:List aZ}{s:ByteArray}{x:List ByteArray}{rs:aD}(h:(dD C s x).2≠0):dA C s (x::rs)=(C,(dD C s x).2):=if_neg h
def FromV(w:World)(L:List eJ)(w':World)(v:Value):Prop:=
 ((bX [] L).2=0->∃bb r S E,v= .tuple #[.pointer (some ⟨bb,0,none⟩),.int .i64 0]/\BaseAt S w' bb r E/\aS E=(bX [] L).1/\(∀k,S k->w.heap.size≤k)/\∀k,iA bb r E k->w.heap.size≤k)/\
 ((bX [] L).2≠0->v= .tuple #[.pointer none,.int .i64 (((bX [] L).2:Nat):Int)])
structure MyBase(w0:World)(S:Nat->Prop)(w:World)(bb r:Nat)(E:List Ent):Prop where
 base:BaseAt S w bb r E
 ext:Ext w0 w
 pool:∀k,S k->w0.heap.size≤k
 own:∀k,iA bb r E k->w0.heap.size≤k
def aO5(w0:World)(bb r:Nat)(L:List eJ)(n:Nat)(iv:Value)(w:World):Prop:=∃i:Nat,i≤n/\iv= .int .i64 i/\Hid (∃S E,MyBase w0 S w bb r E/\bX (aS E) (L.drop i)=bX [] L)
def aO6(w0:World)(bb r:Nat)(q:eJ)(R:List aZ×Nat)(g:Nat)(cs:List Value)(m:Nat)(jv:Value)(w:World):Prop:=∃j:Nat,j≤m/\jv= .int .i64 j/\Hid (∃S E,MyBase w0 S w bb r E/\dA (aS E) q.1 (q.2.2.1.drop j)=R/\Blk w g cs 116/\¬iA bb r E g)
theorem drop_at{α:Type}{xs:List α}{i:Nat}{x:α}(h:xs[i]?=some x):xs.drop i=x::xs.drop (i+1):=by obtain⟨hi,e⟩:=List.getElem?_eq_some_iff.1 h;rw [List.drop_eq_getElem_cons hi,e]
theorem cells_lt{w:World}{xa:Option Addr}{ss:List ByteArray}(h:CellsAt w xa (strs ss))(hne:ss≠ []):∀a,xa=some a->a.block<w.heap.size:=fun a e=>by
 cases ss with
 |nil=>exact absurd rfl hne
 |cons s ss=>
  obtain⟨b,off,e1,hc⟩:=h 0 (.string s) rfl;rw [e]at e1;cases e1;exact World.block_lt_of_cell? _ _ hc
set_option maxHeartbeats 4000000 in
theorem aEj(L:List eJ)(ao:Option Addr)(n cap:Nat)(w:World)(S0:Nat->Prop)(hn:n=L.length)(hL:RelsIn S0 w ao L)(hl:n≤4194304)(hr:∀q∈L,q.2.2.1.length≤1048576):
 Calls Tryz.prog 59 #[.slice ao n cap] w (RetN w (FromV w L)):=by
 have HN:=qH hn;have HL:=qH hL;have HR:=qH hr;clear hn hL hr;go_enter Tryz.func59,Tryz.ntmps59;go_wp2_with fail
 refine(aD1 w).mono ?_;rintro e w1 ⟨v,rfl,hk1,rfl,hB,hm⟩;obtain⟨bb,ebb⟩:=nm (w.heap.size+1);rw [ebb]at hB ⊢;obtain⟨r,er⟩:=nm w.heap.size;rw [er]at hB hm;have HM0:=qH (show MyBase w (fun _=>False) w1 bb r []from
  {base:=BaseAt.new (fun _=>False) (fun _ x=>x.elim) hk1 (by omega) (by omega) (by omega) hB hm
   ext:=hk1,pool:=fun _ x=>x.elim
   own:=fun k hk=>by
    rcases hk with rfl|rfl|⟨e,he,_⟩
    ·omega
    ·omega
    ·simp at he})
 clear hB hm hk1 ebb er;go_wp2;go_loopw [15] (fun iv wr=>aO5 w bb r L n iv wr) (fun iv _=>n- (intOf iv).toNat)
 case atStart=>exact⟨0,Nat.zero_le _,rfl,_,[],HM0.out,rfl⟩
 case round=>
  clear HM0;obtain⟨i,hi,rfl,hin⟩:=hrel;obtain⟨S,E,hM,hF⟩:=hin.out;have HM:=qH hM;have HF:=qH hF;clear hin hM hF;by_cases hlt:i<n
  ·obtain⟨q,hq⟩:∃q,L[i]?=some q:=⟨_,qG (by rw [<-HN.out];exact hlt)⟩;obtain⟨b,off,ra,rcap,eao,hSb,c0,c1,c2,hrl,hrm,hrows⟩:=HL.out i q hq;subst eao;replace c0:=HM.out.ext.cell c0 id;replace c1:=HM.out.ext.cell c1 id;replace c2:=HM.out.ext.cell c2 id;obtain⟨s,es⟩:=nm q.1;obtain⟨a,ea⟩:=nm q.2.1;obtain⟨m,em⟩:=nm q.2.2.1.length;rw [es]at c0;rw [ea]at c1;rw [em]at c2 hrl;have hm1:m≤1048576:=by rw [<-em];exact HR.out q (List.mem_of_getElem? hq)
   have HQ:=qH (nIX hq (nIX es (nIX ea em)));have HRows:=qH hrows;clear hq es ea em hrows hSb;obtain⟨gx,egx⟩:=nm wr.heap.size;obtain⟨wx,ewx⟩:=nm (wr.alloc (.cells #[.string s,.int .i64 a,.slice ra m rcap] 116));have HBx:=qH (show Blk wx gx [.string s,.int .i64 a,.slice ra m rcap] 116 by rw [<-ewx,<-egx];exact Blk.new wr _ _);have HXx:=qH (show Ext wr wx by rw [<-ewx];exact(Kp.refl wr).alloc _);have HGx:=qH (show ∀k,iA bb r E k->k<gx from fun k hk=>by rw [<-egx];exact HM.out.base.ownLt k hk);have EGX:=qH egx;have x0:wx.cell? ⟨wr.heap.size,0,none⟩=some (.string s):=by rw [egx,HBx.out.cell'];rfl
   have x1:wx.cell? ⟨wr.heap.size,1,none⟩=some (.int .i64 a):=by rw [egx,HBx.out.cell'];rfl
   clear egx;go_wp2_with fail
   rw [EGX.out];refine(aCo (HM.out.base.ext HXx.out) s a).mono ?_;rintro e w2 ⟨v,rfl,hk2,rfl,E1,hB1,hC1,ho1⟩;have hgx:gx<wx.heap.size:=HBx.out.lt;have hbx2:Blk w2 gx [.string s,.int .i64 a,.slice ra m rcap] 116:=HBx.out.kp hk2 fun ho=>by have:=HGx.out gx ho;omega
   have hM1:MyBase w S w2 bb r E1:=
    {base:=hB1
     ext:=(HM.out.ext.trans HXx.out).trans' hk2 fun k hk ho=>by have:=HM.out.own k ho;omega
     pool:=HM.out.pool
     own:=fun k hk=>by
      rcases ho1 k hk with h1|h1
      ·exact HM.out.own k h1
      ·have:=(HM.out.ext.trans HXx.out).size;omega}
   have hng:¬iA bb r E1 gx:=fun ho=>by
    rcases ho1 gx ho with h1|h1
    ·have:=HGx.out gx h1;omega
    ·omega
   have HM1:=qH (nIX hM1 (nIX hC1 (nIX hbx2 hng)));clear hk2 hB1 hC1 ho1 hgx hbx2 hM1 hng ewx x0 x1 c0 c1 c2;obtain⟨d,ed⟩:=nm (dC (aS E) s a);rw [ed];have ED:=qH ed;clear ed;have y2:=HM1.out.2.2.1.c2;by_cases hd:d=0
   ·have q1:((d:Int) !=0)=false:=by simp [hd]
    have HD:=qH hd;clear hd;have hdr:(L.drop i)=q::L.drop (i+1):=drop_at HQ.out.1;have HDr:=qH hdr;clear hdr;go_wp2;clear q1;generalize hw5:w2=w5 at*;clear hw5;go_loopw [31] (fun jv wk=>aO6 w bb r q (dA (cV (aS E) s a) s q.2.2.1) gx [.string s,.int .i64 a,.slice ra m rcap] m jv wk) (fun jv _=>m- (intOf jv).toNat)
    case atStart=>exact⟨0,Nat.zero_le _,rfl,S,E1,HM1.out.1,by rw [HM1.out.2.1,HQ.out.2.1];rfl,HM1.out.2.2.1,HM1.out.2.2.2⟩
    case round=>
     clear HM1 HBx HXx HGx EGX y2;obtain⟨j,hj,rfl,hin⟩:=hrel;obtain⟨S1,E2,hM2,hA2,hbx,hng⟩:=hin.out;have HM2:=qH (nIX hM2 (nIX hA2 (nIX hbx hng)));clear hin hM2 hA2 hbx hng;by_cases hlt2:j<m
     ·obtain⟨ss,hss⟩:∃ss,q.2.2.1[j]?=some ss:=⟨_,qG (by rw [HQ.out.2.2.2];exact hlt2)⟩;obtain⟨g,o,xa,xcap,era,d0,d1,d2,d3⟩:=HRows.out.get hss;subst era;replace d0:=HM2.out.1.ext.cell d0 id;obtain⟨k,ek⟩:=nm ss.length;rw [ek]at d0;have HSS:=qH (nIX hss ek);have HRow:=qH (nIX d1 (nIX d2 d3));have y0:=HM2.out.2.2.1.c0;clear hss ek d1 d2 d3;go_wp2_with fail
      refine(aE7 HM2.out.1.base s (ao:=xa) (k:=k) (cap:=xcap) (ss:=ss) ⟨⟨HSS.out.2.symm,HRow.out.1.ext HM2.out.1.ext⟩,HRow.out.2.1,fun a e hne=>Nat.lt_of_lt_of_le (cells_lt HRow.out.1 (fun h=>hne (by show k=0;rw [<-HSS.out.2,h];rfl)) a e) HM2.out.1.ext.size⟩ (fun a e hne ho=>by have h1:=HM2.out.1.own _ ho;have h2:=cells_lt HRow.out.1 (fun h=>hne (by show k=0;rw [<-HSS.out.2,h];rfl)) a e;omega)).mono ?_;rintro e w3 ⟨v,rfl,hk3,rfl,S3,E3,hs1,hs2,hB3,hC3,ho3⟩;have hgx:gx<wr.heap.size:=HM2.out.2.2.1.lt;have hM3:MyBase w S3 w3 bb r E3:=
       {base:=hB3
        ext:=HM2.out.1.ext.trans' hk3 fun k hk ho=>by have:=HM2.out.1.own k ho;omega
        pool:=fun k hk=>by
         rcases hs2 k hk with h1|h1
         ·exact HM2.out.1.pool k h1
         ·have:=HM2.out.1.ext.size;omega
        own:=fun k hk=>by
         rcases ho3 k hk with h1|h1
         ·exact HM2.out.1.own k h1
         ·have:=HM2.out.1.ext.size;omega}
      have hb3:Blk w3 gx [.string s,.int .i64 a,.slice (some ⟨g,o,none⟩) m rcap] 116:=HM2.out.2.2.1.kp hk3 HM2.out.2.2.2;have hng:¬iA bb r E3 gx:=fun ho=>by
       rcases ho3 gx ho with h1|h1
       ·exact HM2.out.2.2.2 h1
       ·omega
      have HM3:=qH (nIX hM3 (nIX hC3 (nIX hb3 hng)));clear hk3 hB3 hC3 ho3 hgx hM3 hng hb3 hs1 hs2 y0 d0;obtain⟨x1,ex1⟩:=nm ((dD (aS E2) s ss).1);obtain⟨x2,ex2⟩:=nm ((dD (aS E2) s ss).2);rw [ex1,ex2];have EX:=qH ex2;clear ex1 ex2;have hdj:q.2.2.1.drop j=ss::q.2.2.1.drop (j+1):=drop_at HSS.out.1;have HDj:=qH hdj;clear hdj;by_cases hx:x2=0
      ·have q1:((x2:Int) !=0)=false:=by simp [hx]
       have HX:=qH hx;clear hx;go_wp2;go_roundw
       case rel=>
        refine⟨j+1,by omega,nMX,S3,E3,HM3.out.1,?_,HM3.out.2.2.1,HM3.out.2.2.2⟩;rw [HM3.out.2.1,<-HM2.out.2.1,HDj.out,HQ.out.2.1];exact(aBu (by rw [EX.out];exact HX.out)).symm
       case measure=>simp [intOf];omega
      ·have q1:((x2:Int) !=0)=true:=by simp;omega
       have HX:=qH hx;clear hx;go_wp2;go_ret2;have hall:=HM2.out.2.1;rw [HDj.out,HQ.out.2.1,zH (by rw [EX.out];exact HX.out),EX.out]at hall;have hfr:bX [] L=(aS E2,x2):=by rw [<-HF.out,HDr.out,aEh (by rw [HQ.out.2.1,HQ.out.2.2.1,ED.out];exact HD.out) (by rw [HQ.out.2.1,HQ.out.2.2.1,<-hall];exact HX.out),HQ.out.2.1,HQ.out.2.2.1,<-hall]
       exact RetN.mk HM3.out.1.ext ⟨fun h0=>by rw [hfr]at h0;exact absurd h0 HX.out,fun _=>by rw [hfr];rfl⟩
     ·obtain rfl:j=m:=by omega
      have hall:=HM2.out.2.1;rw [List.drop_of_length_le (by rw [HQ.out.2.2.2];exact Nat.le_refl _)]at hall;have hall':dA (cV (aS E) s a) s q.2.2.1=(aS E2,0):=hall.symm;have HAll:=qH hall';clear hall hall';go_wp2;go_roundw
      case rel=>
       refine⟨i+1,by omega,nMX,S1,E2,HM2.out.1,?_⟩;rw [<-HF.out,HDr.out,aIj (by rw [HQ.out.2.1,HQ.out.2.2.1,ED.out];exact HD.out) (by rw [HQ.out.2.1,HQ.out.2.2.1,HAll.out]),HQ.out.2.1,HQ.out.2.2.1,HAll.out]
      case measure=>simp [intOf];omega
   ·have q1:((d:Int) !=0)=true:=by simp;omega
    have HD:=qH hd;clear hd;go_wp2;go_ret2;have hfr:bX [] L=(aS E,d):=by rw [<-HF.out,drop_at HQ.out.1,aEi (by rw [HQ.out.2.1,HQ.out.2.2.1,ED.out];exact HD.out),HQ.out.2.1,HQ.out.2.2.1,ED.out]
    exact RetN.mk HM1.out.1.ext ⟨fun h0=>by rw [hfr]at h0;exact absurd h0 HD.out,fun _=>by rw [hfr];rfl⟩
  ·obtain rfl:i=n:=by omega
   have hfr:bX [] L=(aS E,0):=by rw [<-HF.out,List.drop_of_length_le (by rw [<-HN.out];exact Nat.le_refl _)];rfl
   have HFr:=qH hfr;clear hfr;go_wp2;go_ret2;exact RetN.mk HM.out.ext ⟨fun _=>⟨bb,r,S,E,rfl,HM.out.base,by rw [HFr.out],HM.out.pool,HM.out.own⟩,fun h0=>absurd (by rw [HFr.out]) h0⟩
end
section
open Go.RowKit Go.Shelf
attribute [local go_sem] Oper.semAt_some
def wT(C:List aZ)(ls:List aL)(j:Nat):aD:=match ls[j]? with|some l=>bG C (bJ l)|none=> []
def cY(r:cG)(C:List aZ):aD:=if aU r=0 then aIn r (wT C r.2.1)else []
theorem aGg(E:List Ent)(s:ByteArray):iB (bS E s)=bG (aS E) s:=by unfold bG;rw [oS];cases bS E s<;>rfl
theorem aLt(ls:List aL)(E:List Ent):cP (zS ls E) ls=wT (aS E) ls:=by
 funext j
 unfold cP zS wT;by_cases hj:j<ls.length
 ·rw [if_pos hj,qG hj,aGg];rfl
 ·rw [if_neg hj,List.getElem?_eq_none (by omega)];rfl
theorem kC(r:cG)(E:List Ent):mT r (cP (zS r.2.1 E) r.2.1) (cY r (aS E)):=by rw [aLt];unfold cY;exact⟨fun hc=>by rw [if_pos hc];exact aE4 hc _,fun hc=>by rw [if_neg hc]⟩
abbrev TT:Nat->Prop:=fun _=>True
def fitB(ts:List aE):Bool:=ts.all fun t=>(Lit.int .i64 t.1).wf && decide (t.2.1.size≤4096)
theorem aKi{t:aE}(h:((Lit.int .i64 t.1).wf && decide (t.2.1.size≤4096))=true):fO t:=by rw [Bool.and_eq_true,decide_eq_true_eq]at h;exact⟨h.1,by unfold maxLen;omega⟩
theorem yL{ts:List aE}(h:fitB ts=true):∀t∈ts,fO t:=fun t ht=>aKi (List.all_eq_true.1 h t ht)
def aIc(ls:List aL):Bool:=ls.all fun l=>(Lit.int .i64 l.1).wf && (decide ((bJ l).size≤4096) && (fitB (aA l) && ((Lit.int .i64 (gM l)).wf && fitB [leftOf l,aN l])))
theorem uP{ls:List aL}(h:aIc ls=true):∀l∈ls,LitAll l:=fun l hl=>by have h1:=List.all_eq_true.1 h l hl;simp only [Bool.and_eq_true,decide_eq_true_eq]at h1;obtain⟨a,b,c,d,e⟩:=h1;have e2:=yL e;exact⟨a,by unfold maxLen;omega,yL c,d,e2 _ (by simp),e2 _ (by simp)⟩
theorem pC(w:World)(ts:List aE)(h:fitB ts=true):aO (w.alloc (.cells (lX ts).toArray 38)) TT (some ⟨w.heap.size,0,none⟩) ts:=
 aEv (s:=cH) (f:=nC) (rest:= []) (fun x=>rfl) (fun i x hi=>pD (yL h x (List.mem_of_getElem? hi))) trivial (by rw [List.append_nil];exact Blk.new w (lX ts) 38)
theorem aL7(w:World)(a:Option Addr):bW w TT a []:=fun i x hx=>by simp at hx
theorem aL8(w:World)(ls:List aL)(vs:List (Option Addr×Nat))(hv:vs.length=ls.length)(h:aIc ls=true)(ht:∀x∈ls.zip vs,aO w TT x.2.1 (aA x.1)/\(aA x.1).length≤x.2.2/\x.2.2≤maxLen):bW (w.alloc (.cells ((ls.zip vs).flatMap iH).toArray 40)) TT (some ⟨w.heap.size,0,none⟩) ls:=
 qR (rest:= []) hv (uP h) (fun x hx=>⟨(ht x hx).1.ext ((Kp.refl w).alloc _),(ht x hx).2⟩) trivial (by rw [List.append_nil];exact Blk.new w ((ls.zip vs).flatMap iH) 40)
theorem aJv{w:World}{G:Nat->Prop}{ao:Option Addr}{ls:List aL}(h:bW w G ao ls):∃vs:List (Option Addr×Nat),vs.length=ls.length/\CellsAt w ao ((ls.zip vs).flatMap iH)/\∀x∈ls.zip vs,LitIn w G x.1 x.2.1 x.2.2:=by
 have hex:∀i:Fin ls.length,∃p:Option Addr×Nat,LitIn w G ls[i] p.1 p.2/\∀c u,(iH (ls[i],p))[c]?=some u->∃b off,ao=some ⟨b,off,none⟩/\w.cell? ⟨b,off+i.1*8+c,none⟩=some u:=fun i=>by
  obtain⟨b,off,a,cap,e,-,-,hl,c0,c1,c2,c3,c4,c5,c6,c7⟩:=gU h (qG i.2);refine⟨(a,cap),hl,fun c u hu=>⟨b,off,e,?_⟩⟩
  match c,hu with
  |0,hu=>cases hu;exact c0
  |1,hu=>cases hu;exact c1
  |2,hu=>cases hu;exact c2
  |3,hu=>cases hu;exact c3
  |4,hu=>cases hu;exact c4
  |5,hu=>cases hu;exact c5
  |6,hu=>cases hu;exact c6
  |7,hu=>cases hu;exact c7
  |k+8,hu=>cases hu
 let f:Fin ls.length->Option Addr×Nat:=fun i=>Classical.choose (hex i)
 have hf:∀i,_:=fun i=>Classical.choose_spec (hex i);have hz:∀(i:Nat) x,(ls.zip (List.ofFn f))[i]?=some x->∃hi:i<ls.length,x=(ls[i],f ⟨i,hi⟩):=fun i x hx=>by obtain⟨l,p⟩:=x;rw [List.getElem?_zip_eq_some]at hx;have hi:=(List.getElem?_eq_some_iff.1 hx.1).1;refine⟨hi,?_⟩;have h1:=hx.1;have h2:=hx.2;rw [qG hi]at h1;rw [List.getElem?_ofFn,dif_pos hi]at h2;cases h1;cases h2;rfl
 refine⟨List.ofFn f,List.length_ofFn,fun i u hu=>?_,fun x hx=>?_⟩
 ·have hl:=(List.getElem?_eq_some_iff.1 hu).1;rw [jX iH 8 lG,List.length_zip,List.length_ofFn,Nat.min_self]at hl;have hq:=Nat.div_add_mod i 8;have hm:=Nat.mod_lt i (show 8>0 by decide);have hi:i/8<ls.length:=Nat.div_lt_of_lt_mul (by omega);have hzi:(ls.zip (List.ofFn f))[i/8]?=some (ls[i/8],f ⟨i/8,hi⟩):=by
   rw [List.getElem?_zip_eq_some];exact⟨qG hi,by rw [List.getElem?_ofFn,dif_pos hi]⟩
  have hg:=flat_get iH 8 lG _ (i/8) _ (i % 8) hzi hm;rw [show i/8*8+i % 8=i by omega,hu]at hg;obtain⟨b,off,e,hc⟩:=(hf ⟨i/8,hi⟩).2 (i % 8) u hg.symm;refine⟨b,off,e,?_⟩;rw [<-hc]
  congr 2
  show off+i=off+i/8*8+i % 8;omega
 ·obtain⟨i,hi⟩:=List.mem_iff_getElem?.1 hx;obtain⟨hil,rfl⟩:=hz i x hi;exact(hf ⟨i,hil⟩).1
def sA:ByteArray:=⟨#[97]⟩
def sB:ByteArray:=⟨#[98]⟩
def sC:ByteArray:=⟨#[99]⟩
def aG1:List eJ:= [(⟨#[101]⟩,2,[[sA,sB],[sB,sC],[sB,sB],[sC,sA]],()),(⟨#[110]⟩,1,[[sB]],()),(⟨#[122]⟩,0,[[]],())]
def awC:List aZ:= [(⟨#[101]⟩,2,[[sA,sB],[sB,sB],[sB,sC],[sC,sA]]),(⟨#[110]⟩,1,[[sB]]),(⟨#[122]⟩,0,[[]])]
theorem aEf:bX [] aG1=(awC,0):=by kernel_rfl
def aLv(l:List (Nat×List ByteArray)):List eY:=l.map fun x=>((some ⟨x.1,0,none⟩,x.2.length,x.2.length),x.2)
theorem tD{w:World}{g:Nat}{l:List (Nat×List ByteArray)}{LL:aD}(hl:LL=l.map Prod.snd)(hB:Blk w g (cJ (aLv l)) 34)(hr:∀x∈l,Blk w x.1 (strs x.2) 9/\x.2.length≤64):RowsIn TT w (some ⟨g,0,none⟩) LL:=by refine⟨aLv l,by rw [hl];unfold aLv;rw [List.map_map];rfl,CellsAt.pre (rest:= []) (by rw [List.append_nil];exact hB),fun _ _=>trivial,fun p hp=>?_⟩;obtain⟨x,hx,rfl⟩:=List.mem_map.1 hp;obtain⟨h1,h2⟩:=hr x hx;exact⟨⟨rfl,CellsAt.pre (rest:= []) (by rw [List.append_nil];exact h1)⟩,by show x.2.length≤_;omega,fun _ _=>trivial⟩
set_option maxHeartbeats 4000000 in
theorem aKb(w:World):Calls Tryz.prog 26 #[] w (RetN w fun w' v=>∃bb E S,v= .pointer (some ⟨bb,0,none⟩)/\BaseV S w' v E/\aS E=awC):=by
 obtain⟨w1,e1⟩:=nm (w.alloc (.cells #[.string ⟨#[97]⟩,.string ⟨#[98]⟩] 9));have B1:=qH (show Blk w1 w.heap.size [.string ⟨#[97]⟩,.string ⟨#[98]⟩] 9 from by rw [<-e1];exact Blk.new w _ _);have Y1:=qH (show Ext w w1 from xAX e1);obtain⟨w2,e2⟩:=nm (w1.alloc (.cells #[.string ⟨#[98]⟩,.string ⟨#[99]⟩] 9));have B2:=qH (show Blk w2 w1.heap.size [.string ⟨#[98]⟩,.string ⟨#[99]⟩] 9 from by rw [<-e2];exact Blk.new w1 _ _);have Y2:=qH (show Ext w1 w2 from xAX e2);obtain⟨w3,e3⟩:=nm (w2.alloc (.cells #[.string ⟨#[98]⟩,.string ⟨#[98]⟩] 9));have B3:=qH (show Blk w3 w2.heap.size [.string ⟨#[98]⟩,.string ⟨#[98]⟩] 9 from by rw [<-e3];exact Blk.new w2 _ _);have Y3:=qH (show Ext w2 w3 from xAX e3);obtain⟨w4,e4⟩:=nm (w3.alloc (.cells #[.string ⟨#[99]⟩,.string ⟨#[97]⟩] 9));have B4:=qH (show Blk w4 w3.heap.size [.string ⟨#[99]⟩,.string ⟨#[97]⟩] 9 from by rw [<-e4];exact Blk.new w3 _ _);have Y4:=qH (show Ext w3 w4 from xAX e4);obtain⟨w5,e5⟩:=nm (w4.alloc (.cells #[.slice (some ⟨w.heap.size,0,none⟩) 2 2,.slice (some ⟨w1.heap.size,0,none⟩) 2 2,.slice (some ⟨w2.heap.size,0,none⟩) 2 2,.slice (some ⟨w3.heap.size,0,none⟩) 2 2] 34));have B5:=qH (show Blk w5 w4.heap.size [.slice (some ⟨w.heap.size,0,none⟩) 2 2,.slice (some ⟨w1.heap.size,0,none⟩) 2 2,.slice (some ⟨w2.heap.size,0,none⟩) 2 2,.slice (some ⟨w3.heap.size,0,none⟩) 2 2] 34 from by rw [<-e5];exact Blk.new w4 _ _);have Y5:=qH (show Ext w4 w5 from xAX e5);obtain⟨w6,e6⟩:=nm (w5.alloc (.cells #[.string ⟨#[98]⟩] 9));have B6:=qH (show Blk w6 w5.heap.size [.string ⟨#[98]⟩] 9 from by rw [<-e6];exact Blk.new w5 _ _);have Y6:=qH (show Ext w5 w6 from xAX e6);obtain⟨w7,e7⟩:=nm (w6.alloc (.cells #[.slice (some ⟨w5.heap.size,0,none⟩) 1 1] 34));have B7:=qH (show Blk w7 w6.heap.size [.slice (some ⟨w5.heap.size,0,none⟩) 1 1] 34 from by rw [<-e7];exact Blk.new w6 _ _);have Y7:=qH (show Ext w6 w7 from xAX e7);obtain⟨w8,e8⟩:=nm (w7.alloc (.cells #[] 9));have B8:=qH (show Blk w8 w7.heap.size [] 9 from by rw [<-e8];exact Blk.new w7 _ _);have Y8:=qH (show Ext w7 w8 from xAX e8);obtain⟨w9,e9⟩:=nm (w8.alloc (.cells #[.slice (some ⟨w7.heap.size,0,none⟩) 0 0] 34));have B9:=qH (show Blk w9 w8.heap.size [.slice (some ⟨w7.heap.size,0,none⟩) 0 0] 34 from by rw [<-e9];exact Blk.new w8 _ _);have Y9:=qH (show Ext w8 w9 from xAX e9);obtain⟨w10,e10⟩:=nm (w9.alloc (.cells #[.string ⟨#[101]⟩,.int .i64 2,.slice (some ⟨w4.heap.size,0,none⟩) 4 4,.string ⟨#[110]⟩,.int .i64 1,.slice (some ⟨w6.heap.size,0,none⟩) 1 1,.string ⟨#[122]⟩,.int .i64 0,.slice (some ⟨w8.heap.size,0,none⟩) 1 1] 116));have B10:=qH (show Blk w10 w9.heap.size [.string ⟨#[101]⟩,.int .i64 2,.slice (some ⟨w4.heap.size,0,none⟩) 4 4,.string ⟨#[110]⟩,.int .i64 1,.slice (some ⟨w6.heap.size,0,none⟩) 1 1,.string ⟨#[122]⟩,.int .i64 0,.slice (some ⟨w8.heap.size,0,none⟩) 1 1] 116 from by rw [<-e10];exact Blk.new w9 _ _)
 have Y10:=qH (show Ext w9 w10 from xAX e10);have HE:=qH (tD (w:=w5) (g:=w4.heap.size) (l:= [(w.heap.size,[sA,sB]),(w1.heap.size,[sB,sC]),(w2.heap.size,[sB,sB]),(w3.heap.size,[sC,sA])]) (LL:= [[sA,sB],[sB,sC],[sB,sB],[sC,sA]]) rfl B5.out (fun x hx=>by
  simp only [List.mem_cons,List.not_mem_nil,or_false]at hx;rcases hx with rfl|rfl|rfl|rfl
  ·exact⟨B1.out.ext (Y2.out.trans (Y3.out.trans (Y4.out.trans Y5.out))),by simp⟩
  ·exact⟨B2.out.ext (Y3.out.trans (Y4.out.trans Y5.out)),by simp⟩
  ·exact⟨B3.out.ext (Y4.out.trans Y5.out),by simp⟩
  ·exact⟨B4.out.ext Y5.out,by simp⟩))
 have HN:=qH (tD (w:=w7) (g:=w6.heap.size) (l:= [(w5.heap.size,[sB])]) (LL:= [[sB]]) rfl B7.out (fun x hx=>by simp only [List.mem_cons,List.not_mem_nil,or_false]at hx;subst hx;exact⟨B6.out.ext Y7.out,by simp⟩));have HZ:=qH (tD (w:=w9) (g:=w8.heap.size) (l:= [(w7.heap.size,[])]) (LL:= [[]]) rfl B9.out (fun x hx=>by simp only [List.mem_cons,List.not_mem_nil,or_false]at hx;subst hx;exact⟨B8.out.ext Y9.out,by simp⟩));have X5to10:=qH (Y6.out.trans (Y7.out.trans (Y8.out.trans (Y9.out.trans Y10.out))));have X7to10:=qH (Y8.out.trans (Y9.out.trans Y10.out));have X9to10:=qH Y10.out;have X10:=qH (Y1.out.trans (Y2.out.trans (Y3.out.trans (Y4.out.trans (Y5.out.trans (Y6.out.trans (Y7.out.trans (Y8.out.trans (Y9.out.trans Y10.out)))))))));clear B1 Y1 B2 Y2 B3 Y3 B4 Y4 B5 Y5 B6 Y6 B7 Y7 B8 Y8 B9 Y9 Y10;have hL:RelsIn TT w10 (some ⟨w9.heap.size,0,none⟩) aG1:=fun i q hq=>by
  match i,hq with
  |0,hq=>cases hq;exact⟨w9.heap.size,0,some ⟨w4.heap.size,0,none⟩,4,rfl,trivial,by rw [B10.out.cell'];rfl,by rw [B10.out.cell'];rfl,by rw [B10.out.cell'];rfl,by decide,by decide,HE.out.ext (X5to10.out)⟩
  |1,hq=>cases hq;exact⟨w9.heap.size,0,some ⟨w6.heap.size,0,none⟩,1,rfl,trivial,by rw [B10.out.cell'];rfl,by rw [B10.out.cell'];rfl,by rw [B10.out.cell'];rfl,by decide,by decide,HN.out.ext (X7to10.out)⟩
  |2,hq=>cases hq;exact⟨w9.heap.size,0,some ⟨w8.heap.size,0,none⟩,1,rfl,trivial,by rw [B10.out.cell'];rfl,by rw [B10.out.cell'];rfl,by rw [B10.out.cell'];rfl,by decide,by decide,HZ.out.ext (X9to10.out)⟩
  |n+3,hq=>cases hq
 have HFr:=qH (aEj aG1 (some ⟨w9.heap.size,0,none⟩) 3 3 w10 TT rfl hL (by decide) (by decide));clear hL;go_enter Tryz.func26,Tryz.ntmps26;go_wp2_with fail
 refine HFr.out.mono ?_;rintro e w11 ⟨v,rfl,hk11,hv⟩;obtain⟨bb,r,S,E,rfl,hb,hC,-,-⟩:=hv.1 (by rw [aEf]);have H11:=qH (show Ext w w11/\BaseAt S w11 bb r E/\aS E=awC from⟨X10.out.trans hk11,hb,by rw [hC,aEf]⟩);clear hv hb hC hk11;go_wp2;go_ret;exact RetN.mk H11.out.1 ⟨bb,E,S,rfl,.full bb r E H11.out.2.1,H11.out.2.2⟩
theorem yR{S:Nat->Prop}{w:World}{p:ByteArray}{hs:List aE}{ls:List aL}{ha ba:Option Addr}{hn hcap n bcap:Nat}{o:Option Addr}{E:List Ent}(hhn:hn=hs.length)(hh:aO w TT ha hs)(hhl:hn≤1048576)(hbn:n=ls.length)(h:bW w TT ba ls)(hf:Fit ls)(hnv:(aB ls).length≤1048576)(hn16:n≤1048576)
 (hB:BaseV S w (.pointer o) E)(hC:aS E=awC)(M:List ByteArray)(m:Nat)(hM:(cY ((p,hs,()),ls,()) awC).map jW=M)(hm:M.length=m)(hm2:m≤1048576):
 Calls Tryz.prog 18 #[cI p ha hn hcap ba n bcap,.pointer o] w (RetN w fun w' v=>∃ao cap,v= .slice ao m cap/\CellsAt w' ao (strs M)):=by
 have hl:(cY ((p,hs,()),ls,()) (aS E)).length=m:=by rw [hC,<-hm,<-hM,List.length_map]
 have h1:=aHi (hcap:=hcap) (bcap:=bcap) (p:=p) (L:=cY ((p,hs,()),ls,()) (aS E)) hhn hh hhl hbn h hf hnv hn16 hB (kC ((p,hs,()),ls,()) E) (by omega);refine h1.mono ?_;rintro e w' ⟨v,rfl,hk,hr⟩;rw [hl,hC,hM]at hr;obtain⟨ao,cap,ev,hc,_⟩:=hr.shape;exact RetN.mk hk ⟨ao,cap,ev,hc⟩
theorem wP(M:List ByteArray)(ao bo:Option Addr)(n acap bcap:Nat)(w:World)(hn:M.length=n)(ha:CellsAt w ao (strs M))(hb:CellsAt w bo (strs M))(hl:n≤1048576):
 Calls Tryz.prog 17 #[.slice ao n acap,.slice bo n bcap] w (RetN w fun w' v=>v= .bool true):=by
 refine(wR M M ao bo n n acap bcap w hn.symm hn.symm ha hb (by omega)).mono ?_;rintro e w' ⟨v,rfl,hk,rfl⟩;exact RetN.mk hk (by rw [decide_eq_true rfl])
def aLg(w0:World)(A B:aD)(n:Nat)(iv:Value)(w:World):Prop:=∃i:Nat,i≤n/\iv= .int .i64 i/\Hid (Ext w0 w)/\Hid (A.take i=B.take i)
set_option maxHeartbeats 4000000 in
theorem aFa{S S':Nat->Prop}{A B:aD}{ao bo:Option Addr}{n m acap bcap:Nat}{w:World}(hn:n=A.length)(hm:m=B.length)(ha:RowsIn S w ao A)(hb:RowsIn S' w bo B)(hl:n≤4611686018427387904):
 Calls Tryz.prog 40 #[.slice ao n acap,.slice bo m bcap] w (RetN w fun w' v=>v= .bool (decide (A=B))):=by
 have HN:=qH (nIX hn hm);have HA:=qH ha;have HB:=qH hb;clear hn hm ha hb;by_cases hnm:n=m
 ·subst hnm;have q1:((n:Int) !=(n:Int))=false:=by simp
  go_enter Tryz.func40,Tryz.ntmps40;go_wp2;go_loopw [5] (fun iv wr=>aLg w A B n iv wr) (fun iv _=>n- (intOf iv).toNat)
  case atStart=>exact⟨0,Nat.zero_le _,rfl,qH (Kp.refl w),qH rfl⟩
  case round=>
   obtain⟨i,hi,rfl,hex,heq⟩:=hrel;by_cases hlt:i<n
   ·obtain⟨s,hs⟩:∃s,A[i]?=some s:=⟨_,qG (by rw [<-HN.out.1];exact hlt)⟩;obtain⟨t,ht⟩:∃t,B[i]?=some t:=⟨_,qG (by rw [<-HN.out.2];exact hlt)⟩;obtain⟨g1,o1,x1,c1,e1,d1,hc1,hl1,-⟩:=(HA.out.ext hex.out).get hs;obtain⟨g2,o2,x2,c2,e2,d2,hc2,hl2,-⟩:=(HB.out.ext hex.out).get ht;subst e1 e2;have HST:=qH (nIX hs ht);have HSm:=qH (fun W (hW:Ext wr W)=>wR s t x1 x2 s.length t.length c1 c2 W rfl rfl (hc1.ext hW) (hc2.ext hW) (by omega));obtain⟨ns,ens⟩:=nm s.length;obtain⟨nt,ent⟩:=nm t.length;rw [ens]at d1 HSm;rw [ent]at d2 HSm;have i1:(i:Int)< (n:Int):=by omega
    have HJ:=qH (show ∀w',Ext wr w'->(fun w':World=>w'.cell? ⟨g1,o1+i,none⟩=some (.slice x1 ns c1)/\w'.cell? ⟨g2,o2+i,none⟩=some (.slice x2 nt c2)) w' from fun w' hw=>⟨hw.cell d1 id,hw.cell d2 id⟩);clear hs ht hc1 hc2 hl1 hl2 ens ent d1 d2;go_wp2;refine aT (fun w':World=>w'.cell? ⟨g1,o1+i,none⟩=some (.slice x1 ns c1)/\w'.cell? ⟨g2,o2+i,none⟩=some (.slice x2 nt c2)) [] (by kernel_rfl) (HJ.out _ (Kp.refl wr).drew) (fun hHeld=>?_);refine eFX 0 ?_;refine eFX 1 ?_;refine eIX 2 ?_;refine eIX 3 ?_;refine eFX 4 ?_;refine eFX 5 ?_;refine eIX 6 ?_;refine eIX 7 ?_;refine eTX 8 fun K hK=>?_;go_simp
    (refine(HSm.out _ ((Kp.refl wr).drew)).mono ?_;rintro e w5 ⟨v,rfl,hk5,rfl⟩;have X5:=qH (show Ext wr w5 from((Kp.refl wr).drew).trans hk5);clear hk5)
    go_wp2_with fail
    refine hK.out _ _ (HJ.out _ X5.out) fun hHeld=>?_;clear hK K;refine eFX 9 ?_;refine aK (by kernel_rfl) ?_ _;clear hHeld;by_cases hst:s=t
    ·have hd:decide (s=t)=true:=decide_eq_true hst;rw [hd];have HE:=qH hst;clear hst hd;go_wp2;go_roundw
     case rel=>exact⟨i+1,by omega,nMX,qH (hex.out.trans X5.out),qH (by rw [List.take_add_one,List.take_add_one,HST.out.1,HST.out.2,heq.out,HE.out])⟩
     case measure=>simp [intOf];omega
    ·have hd:decide (s=t)=false:=decide_eq_false hst;rw [hd];have HD:=qH (show decide (A=B)=false from decide_eq_false fun e=>hst (by have h:=HST.out.1;rw [e,HST.out.2]at h;cases h;rfl));clear hst hd;go_wp2;go_ret;exact RetN.mk (hex.out.trans X5.out) (by rw [HD.out];rfl)
   ·obtain rfl:n=i:=by omega
    have HD:=qH (show decide (A=B)=true from decide_eq_true (by have h:=heq.out;rw [List.take_of_length_le (by rw [<-HN.out.1];exact Nat.le_refl _),List.take_of_length_le (by rw [<-HN.out.2];exact Nat.le_refl _)]at h;exact h));go_wp2;go_ret;exact RetN.mk hex.out (by rw [HD.out];rfl)
 ·have q1:((n:Int) !=(m:Int))=true:=by simp;omega
  have q2:((n:Int)==(m:Int))=false:=by simp;omega
  have HD:=qH (show decide (A=B)=false from decide_eq_false fun e=>hnm (by rw [HN.out.1,HN.out.2,e]));clear hnm;go_enter Tryz.func40,Tryz.ntmps40;go_wp2;go_ret;exact RetN.mk (Kp.refl w) (by rw [HD.out];rfl)
def fewB(ls:List aL):Bool:=decide ((aB ls).length≤1048576)
theorem aMn{ls:List aL}(h:fewB ls=true):(aB ls).length≤1048576:=of_decide_eq_true h
def aN9(ls:List aL):Bool:=decide (ls.length≤64) && ls.all fun l=>decide ((aA l).length≤64)
theorem aMm{ls:List aL}(h:aN9 ls=true):Fit ls:=by unfold aN9 at h;rw [Bool.and_eq_true,decide_eq_true_eq]at h;exact⟨by omega,fun l hl=>by have:=of_decide_eq_true (List.all_eq_true.1 h.2 l hl);omega⟩
def aCb:List aE:= [((1:Int),(⟨#[88]⟩:ByteArray),()),((1:Int),(⟨#[89]⟩:ByteArray),())]
def qN:List aL:= [(((1):Int),((⟨#[101]⟩:ByteArray),[((1:Int),(⟨#[89]⟩:ByteArray),()),((1:Int),(⟨#[90]⟩:ByteArray),())],()),(0:Int),((0:Int),(⟨#[]⟩:ByteArray),()),((0:Int),(⟨#[]⟩:ByteArray),()),()),(((1):Int),((⟨#[101]⟩:ByteArray),[((1:Int),(⟨#[90]⟩:ByteArray),()),((1:Int),(⟨#[88]⟩:ByteArray),())],()),(0:Int),((0:Int),(⟨#[]⟩:ByteArray),()),((0:Int),(⟨#[]⟩:ByteArray),()),())]
theorem qJ{w:World}{G:Nat->Prop}{g o:Nat}{ts:List aE}(h:aO w TT (some ⟨g,o,none⟩) ts)(hG:G g):aO w G (some ⟨g,o,none⟩) ts:=fun i x hx=>by obtain⟨b,off,es,e,_,hb,ha,hc⟩:=h i x hx;cases e;refine⟨g,o,es,rfl,hG,hb,?_,hc⟩;have hf:=jM ha;rw [iE ha];exact pD hf
theorem aI1{w:World}{G:Nat->Prop}{a:Option Addr}{ts:List aE}(h:aO w G a ts):aO w (fun k=>k<w.heap.size) a ts:=fun i x hx=>by obtain⟨b,off,es,e,_,hb,ha,hc⟩:=h i x hx;refine⟨b,off,es,e,hb,hb,?_,hc⟩;have hf:=jM ha;rw [iE ha];exact pD hf
theorem aC0{w:World}{G:Nat->Prop}{g o:Nat}{ts:List aE}(h:aO w G (some ⟨g,o,none⟩) ts)(hne:ts≠ []):g<w.heap.size:=by
 cases ts with
 |nil=>exact absurd rfl hne
 |cons t ts=>
  obtain⟨b,off,es,e,_,hb,_⟩:=h 0 t rfl;cases e;exact hb
set_option maxHeartbeats 4000000 in
theorem aDv{ls:List aL}{ma:Option Addr}{mn mc:Nat}{w:World}(hn:mn=ls.length)(h:bW w TT ma ls)(hl:mn≤65536):
 Calls Tryz.prog 27 #[.slice ma mn mc] w (RetN w fun w' u=>∃ha hc ba bc,u=cI ⟨#[116]⟩ ha 2 hc ba (2+mn) bc/\aO w' TT ha aCb/\bW w' TT ba (qN++ls)):=by
 obtain⟨vs,hvs,hcs,hin⟩:=aJv h;have HV:=qH (nIX hvs (nIX hcs (nIX hin (nIX hn (xR h)))));clear hvs hcs hin h hn;obtain⟨w1,ew1⟩:=nm (w.alloc (.cells #[.string ⟨#[]⟩,.slice none 0 0,.slice none 0 0] 27));have Xw1:=qH (show Ext w w1 from xAX ew1);have HR:=qH (show Blk w1 w.heap.size [.string ⟨#[]⟩,.slice none 0 0,.slice none 0 0] 27 from by rw [<-ew1];exact Blk.new w _ _);go_enter Tryz.func27,Tryz.ntmps27;go_wp2_with fail
 refine(lV ⟨#[89]⟩ w1).mono ?_;rintro e w2 ⟨vw2,rfl,hkw2,rfl⟩;have Xw2:=qH (show Ext w1 w2 from hkw2);clear hkw2;go_wp2_with fail
 refine(lV ⟨#[90]⟩ w2).mono ?_;rintro e w3 ⟨vw3,rfl,hkw3,rfl⟩;have Xw3:=qH (show Ext w2 w3 from hkw3);clear hkw3;obtain⟨w4,ew4⟩:=nm (w3.alloc (.cells #[.int .i64 1,.string ⟨#[89]⟩,.int .i64 1,.string ⟨#[90]⟩] 38));have Xw4:=qH (show Ext w3 w4 from xAX ew4);have T1:=qH (show aO w4 TT (some ⟨w3.heap.size,0,none⟩) [((1:Int),(⟨#[89]⟩:ByteArray),()),((1:Int),(⟨#[90]⟩:ByteArray),())]from by rw [<-ew4];exact pC w3 [((1:Int),(⟨#[89]⟩:ByteArray),()),((1:Int),(⟨#[90]⟩:ByteArray),())] (by kernel_rfl));go_wp2_with fail
 clear ew4;refine(aAr ⟨#[101]⟩ (some ⟨w3.heap.size,0,none⟩) 2 2 w4).mono ?_;rintro e w5 ⟨vw5,rfl,hkw5,rfl⟩;have Xw5:=qH (show Ext w4 w5 from hkw5);clear hkw5;go_wp2_with fail
 refine(lV ⟨#[90]⟩ w5).mono ?_;rintro e w6 ⟨vw6,rfl,hkw6,rfl⟩;have Xw6:=qH (show Ext w5 w6 from hkw6);clear hkw6;go_wp2_with fail
 refine(lV ⟨#[88]⟩ w6).mono ?_;rintro e w7 ⟨vw7,rfl,hkw7,rfl⟩;have Xw7:=qH (show Ext w6 w7 from hkw7);clear hkw7;obtain⟨w8,ew8⟩:=nm (w7.alloc (.cells #[.int .i64 1,.string ⟨#[90]⟩,.int .i64 1,.string ⟨#[88]⟩] 38));have Xw8:=qH (show Ext w7 w8 from xAX ew8);have T2:=qH (show aO w8 TT (some ⟨w7.heap.size,0,none⟩) [((1:Int),(⟨#[90]⟩:ByteArray),()),((1:Int),(⟨#[88]⟩:ByteArray),())]from by rw [<-ew8];exact pC w7 [((1:Int),(⟨#[90]⟩:ByteArray),()),((1:Int),(⟨#[88]⟩:ByteArray),())] (by kernel_rfl));go_wp2_with fail
 clear ew8;refine(aAr ⟨#[101]⟩ (some ⟨w7.heap.size,0,none⟩) 2 2 w8).mono ?_;rintro e w9 ⟨vw9,rfl,hkw9,rfl⟩;have Xw9:=qH (show Ext w8 w9 from hkw9);clear hkw9;obtain⟨w10,ew10⟩:=nm (w9.alloc (.cells #[.int .i64 1,.string ⟨#[101]⟩,.slice (some ⟨w3.heap.size,0,none⟩) 2 2,.int .i64 0,.int .i64 0,.string ⟨#[]⟩,.int .i64 0,.string ⟨#[]⟩,.int .i64 1,.string ⟨#[101]⟩,.slice (some ⟨w7.heap.size,0,none⟩) 2 2,.int .i64 0,.int .i64 0,.string ⟨#[]⟩,.int .i64 0,.string ⟨#[]⟩] 40));have Xw10:=qH (show Ext w9 w10 from xAX ew10);have HB:=qH (show Blk w10 w9.heap.size [.int .i64 1,.string ⟨#[101]⟩,.slice (some ⟨w3.heap.size,0,none⟩) 2 2,.int .i64 0,.int .i64 0,.string ⟨#[]⟩,.int .i64 0,.string ⟨#[]⟩,.int .i64 1,.string ⟨#[101]⟩,.slice (some ⟨w7.heap.size,0,none⟩) 2 2,.int .i64 0,.int .i64 0,.string ⟨#[]⟩,.int .i64 0,.string ⟨#[]⟩] 40 from by rw [<-ew10];exact Blk.new w9 _ _);go_wp2_with fail
 refine(lV ⟨#[88]⟩ w10).mono ?_;rintro e w11 ⟨vw11,rfl,hkw11,rfl⟩;have Xw11:=qH (show Ext w10 w11 from hkw11);clear hkw11;go_wp2_with fail
 refine(lV ⟨#[89]⟩ w11).mono ?_;rintro e w12 ⟨vw12,rfl,hkw12,rfl⟩;have Xw12:=qH (show Ext w11 w12 from hkw12);clear hkw12;obtain⟨w13,ew13⟩:=nm (w12.alloc (.cells #[.int .i64 1,.string ⟨#[88]⟩,.int .i64 1,.string ⟨#[89]⟩] 38));have Xw13:=qH (show Ext w12 w13 from xAX ew13);have T3:=qH (show aO w13 TT (some ⟨w12.heap.size,0,none⟩) [((1:Int),(⟨#[88]⟩:ByteArray),()),((1:Int),(⟨#[89]⟩:ByteArray),())]from by rw [<-ew13];exact pC w12 [((1:Int),(⟨#[88]⟩:ByteArray),()),((1:Int),(⟨#[89]⟩:ByteArray),())] (by kernel_rfl));have hgL:w9.heap.size<w10.heap.size:=HB.out.lt;have hg0:w.heap.size<w1.heap.size:=HR.out.lt;have hg1:w.heap.size<w9.heap.size:=by have h2:=(Xw2.out.trans (Xw3.out.trans (Xw4.out.trans (Xw5.out.trans (Xw6.out.trans (Xw7.out.trans (Xw8.out.trans Xw9.out))))))).size;omega
 have HX:=qH (show Ext w w13/\Row w13 40 8 (.slice (some ⟨w9.heap.size,0,none⟩) 2 2) 2 ((qN.zip [((some ⟨w3.heap.size,0,none⟩:Option Addr),2),((some ⟨w7.heap.size,0,none⟩:Option Addr),2)]).flatMap iH) (New w)/\Blk w13 w.heap.size [.string ⟨#[]⟩,.slice none 0 0,.slice none 0 0] 27/\w.heap.size<w9.heap.size from
  ⟨(Xw1.out.trans (Xw2.out.trans (Xw3.out.trans (Xw4.out.trans (Xw5.out.trans (Xw6.out.trans (Xw7.out.trans (Xw8.out.trans (Xw9.out.trans (Xw10.out.trans (Xw11.out.trans (Xw12.out.trans Xw13.out)))))))))))),⟨rfl,.inr ⟨_,2,[],rfl,Nat.le_of_lt hg1,by rw [List.append_nil];exact HB.out.ext (Xw11.out.trans (Xw12.out.trans Xw13.out)),rfl,Nat.le_refl _,by decide⟩⟩,HR.out.ext (Xw2.out.trans (Xw3.out.trans (Xw4.out.trans (Xw5.out.trans (Xw6.out.trans (Xw7.out.trans (Xw8.out.trans (Xw9.out.trans (Xw10.out.trans (Xw11.out.trans (Xw12.out.trans Xw13.out))))))))))),hg1⟩)
 have HP0:=qH (qJ (G:=(fun k=>k≠w9.heap.size/\k≠w.heap.size)) (T1.out.ext (Xw5.out.trans (Xw6.out.trans (Xw7.out.trans (Xw8.out.trans (Xw9.out.trans (Xw10.out.trans (Xw11.out.trans (Xw12.out.trans Xw13.out))))))))) ⟨by have h1:=aC0 T1.out (by simp);have h2:=(Xw5.out.trans (Xw6.out.trans (Xw7.out.trans (Xw8.out.trans Xw9.out)))).size;omega,by have h3:=(Xw2.out.trans Xw3.out).size;omega⟩);have HP1:=qH (qJ (G:=(fun k=>k≠w9.heap.size/\k≠w.heap.size)) (T2.out.ext (Xw9.out.trans (Xw10.out.trans (Xw11.out.trans (Xw12.out.trans Xw13.out))))) ⟨by have h1:=aC0 T2.out (by simp);have h2:=Xw9.out.size;omega,by have h3:=(Xw2.out.trans (Xw3.out.trans (Xw4.out.trans (Xw5.out.trans (Xw6.out.trans Xw7.out))))).size;omega⟩);have HPh:=qH (qJ (G:=(fun k=>k≠w9.heap.size/\k≠w.heap.size)) (T3.out.ext (Kp.refl w13)) ⟨by have h2:=(Xw11.out.trans Xw12.out).size;omega,by have h2:=(Xw11.out.trans Xw12.out).size;omega⟩);clear HB HR hgL hg0 hg1 Xw1 Xw2 Xw3 Xw4 Xw5 Xw6 Xw7 Xw8 Xw9 Xw10 Xw11 Xw12 Xw13 T1 T2 T3;go_wp2_with (first|(at_builtin;refine Halted.out ?_))
 clear ew13 ew10;refine Halted.mk (bO (m:=mn) (n:=2) yQ rfl _ _ rfl HX.out.1 rfl HX.out.2.1 rfl (HV.out.2.1.ext HX.out.1) (by rw [jX iH 8 lG,List.length_zip,HV.out.1,Nat.min_self,HV.out.2.2.2.1]) (fun u hu=>by obtain⟨x,_,hx⟩:=List.mem_flatMap.1 hu;exact aD4 x u hx) (by omega) (by unfold maxLen;omega) ?_);intro vA wA hrA hkA hkB _;have hRA:Blk wA w.heap.size [.string ⟨#[]⟩,.slice none 0 0,.slice none 0 0] 27:=HX.out.2.2.1.kp hkB fun hg=>by obtain⟨cs,hb⟩:=aV HX.out.2.1 hg;exact pB (cF hb HX.out.2.2.1)
 have hoff:∀k,(fun k=>k≠w9.heap.size/\k≠w.heap.size) k->¬(Value.slice (some ⟨w9.heap.size,0,none⟩) 2 2).ownBlock=some k:=fun k hk e=>by cases e;exact hk.1 rfl
 obtain⟨h1,⟨_,h0⟩|⟨gb,cap2,rest,rfl,hM,hBB,hlen,hnc,hcm⟩⟩:=hrA
 ·omega
 ·have HF:=qH (show Ext w wA/\Blk wA w.heap.size [.string ⟨#[]⟩,.slice none 0 0,.slice none 0 0] 27/\aO wA (fun k=>k≠w9.heap.size/\k≠w.heap.size) (some ⟨w12.heap.size,0,none⟩) aCb/\Blk wA gb (((qN++ls).zip ([((some ⟨w3.heap.size,0,none⟩:Option Addr),2),((some ⟨w7.heap.size,0,none⟩:Option Addr),2)]++vs)).flatMap iH++rest) 40/\(∀x∈(qN++ls).zip ([((some ⟨w3.heap.size,0,none⟩:Option Addr),2),((some ⟨w7.heap.size,0,none⟩:Option Addr),2)]++vs),aO wA (fun k=>k≠w9.heap.size/\k≠w.heap.size) x.2.1 (aA x.1)/\(aA x.1).length≤x.2.2/\x.2.2≤maxLen)from by
   refine⟨hkA,hRA,HPh.out.kp hkB hoff,?_,fun x hx=>?_⟩
   ·rw [List.zip_append (by rfl),List.flatMap_append];exact hBB
   ·rw [List.zip_append (by rfl)]at hx;rcases List.mem_append.1 hx with hx|hx
    ·have hx':x∈ [((((1):Int),((⟨#[101]⟩:ByteArray),[((1:Int),(⟨#[89]⟩:ByteArray),()),((1:Int),(⟨#[90]⟩:ByteArray),())],()),(0:Int),((0:Int),(⟨#[]⟩:ByteArray),()),((0:Int),(⟨#[]⟩:ByteArray),()),()),((some ⟨w3.heap.size,0,none⟩:Option Addr),2)),((((1):Int),((⟨#[101]⟩:ByteArray),[((1:Int),(⟨#[90]⟩:ByteArray),()),((1:Int),(⟨#[88]⟩:ByteArray),())],()),(0:Int),((0:Int),(⟨#[]⟩:ByteArray),()),((0:Int),(⟨#[]⟩:ByteArray),()),()),((some ⟨w7.heap.size,0,none⟩:Option Addr),2))]:=hx;simp only [List.mem_cons,List.not_mem_nil,or_false]at hx';rcases hx' with rfl|rfl
     ·exact⟨HP0.out.kp hkB hoff,Nat.le_refl _,(by decide:2≤maxLen)⟩
     ·exact⟨HP1.out.kp hkB hoff,Nat.le_refl _,(by decide:2≤maxLen)⟩
    ·have hi:=HV.out.2.2.1 x hx;exact⟨((aI1 hi.terms).mono fun k hk=>⟨by have:=HX.out.2.2.2;omega,by omega⟩).ext hkA,hi.len,hi.cap⟩)
  have p0:=hRA.c0;have p1:=hRA.c1;have p2:=hRA.c2;clear h1 hM hBB hlen hnc hcm hkA hkB hRA hoff;go_wp2_with fail
  refine(aFy (some ⟨w12.heap.size,0,none⟩) (some ⟨gb,0,none⟩) 2 2 (2+mn) cap2 wA).mono ?_;rintro e wB ⟨vB,rfl,hkC,rfl⟩;have HRB:=qH (HF.out.2.1.ext hkC);have XB:=qH hkC;have c0:=HRB.out.c0;have c1:=HRB.out.c1;have c2:=HRB.out.c2;have f0:=HRB.out.free 0;have f1:=HRB.out.free 1;have f2:=HRB.out.free 2;clear hkC p0 p1 p2;go_wp2;obtain⟨Z,eZ⟩:=nm ((((wB.setCell ⟨w.heap.size,0,none⟩ (.string ⟨#[116]⟩)).setCell ⟨w.heap.size,1,none⟩ (.slice (some ⟨w12.heap.size,0,none⟩) 2 2)).setCell ⟨w.heap.size,2,none⟩ (.slice (some ⟨gb,0,none⟩) (2+mn) cap2)));have hBZ:Blk Z w.heap.size [.string ⟨#[116]⟩,.slice (some ⟨w12.heap.size,0,none⟩) 2 2,.slice (some ⟨gb,0,none⟩) (2+mn) cap2] 27:=by rw [<-eZ];exact((HRB.out.set 0 _).set 1 _).set 2 _
  have kZ:Kp (fun k=>k=w.heap.size) wB Z:=by rw [<-eZ];exact Kp.setCell (F:=fun k=>k=w.heap.size) (p:=⟨w.heap.size,2,none⟩) (kSb) (fun _=>rfl) _
  have d0:=hBZ.c0;have d1:=hBZ.c1;have d2:=hBZ.c2;rw [eZ];have hno:∀k,(fun k=>k≠w9.heap.size/\k≠w.heap.size) k->¬k=w.heap.size:=fun k hk=>hk.2;have hgb:¬gb=w.heap.size:=fun e=>by have hb:=HF.out.2.2.2.1;rw [e]at hb;exact pB (cF hb HF.out.2.1)
  refine bodyPost_ret (v:=cI ⟨#[116]⟩ (some ⟨w12.heap.size,0,none⟩) 2 2 (some ⟨gb,0,none⟩) (2+mn) cap2) (by simp [results,Tryz.results27,go_sem,d0,d1,d2]) rfl ?_;refine RetN.mk ((HF.out.1.trans XB.out).trans' kZ fun i hi e=>by have e':i=w.heap.size:=e;omega) ⟨_,_,_,_,rfl,((HF.out.2.2.1.ext XB.out).kp kZ hno).mono fun _ _=>trivial,?_⟩;refine qR (vs:= [((some ⟨w3.heap.size,0,none⟩:Option Addr),2),((some ⟨w7.heap.size,0,none⟩:Option Addr),2)]++vs) (rest:=rest) (e:=40) (by rw [List.length_append,List.length_append,HV.out.1];rfl) (fun l hl=>?_) (fun x hx=>?_) trivial ((HF.out.2.2.2.1.ext XB.out).kp kZ hgb)
  ·rcases List.mem_append.1 hl with hl|hl
   ·exact uP (ls:=qN) (by kernel_rfl) l hl
   ·exact HV.out.2.2.2.2 l hl
  ·obtain⟨q1,q2,q3⟩:=HF.out.2.2.2.2 x hx;exact⟨((q1.ext XB.out).kp kZ hno).mono fun _ _=>trivial,q2,q3⟩
theorem aHn(bb:Nat)(w:World):(binOp .neq 29 (.pointer (some ⟨bb,0,none⟩)) (.pointer none)).run Tryz.prog w= .ok (.bool true) w:=by kernel_rfl
set_option maxHeartbeats 4000000 in
theorem kR(w:World):Calls Tryz.prog 12 #[] w (RetN w fun w' v=>v= .bool true):=by
 go_enter Tryz.func12,Tryz.ntmps12;go_wp2_with fail
 refine(aKb w).mono ?_;rintro e w1 ⟨vw1,rfl,hkw1,bb,E,SS,rfl,hBv,hCv⟩;have Xw1:=qH (show Ext w w1 from hkw1);clear hkw1;have HBv:=qH (nIX hBv hCv);clear hBv hCv;have hnb:=aHn bb w1;go_wp2_with fail
 refine(aDv (ls:= []) (ma:=none) (mn:=0) (mc:=0) (w:=w1) rfl (aL7 w1 none) (by decide)).mono ?_;rintro e w2 ⟨vw2,rfl,hkw2,ha1,hc1,ba1,bc1,hv1,hT1,hL1⟩;have Xw2:=qH (show Ext w1 w2 from hkw2);clear hkw2;have hv12:vw2=cI ⟨#[116]⟩ ha1 2 hc1 ba1 2 bc1:=hv1;subst hv12;have T1:=qH hT1;have L1:=qH hL1;clear hT1 hL1 hv1;go_wp2_with fail
 refine(yR (p:=⟨#[116]⟩) (hs:=aCb) (ls:=(qN++ [])) (ha:=ha1) (ba:=ba1) (hn:=2) (hcap:=hc1) (n:=2) (bcap:=bc1) rfl (T1.out.ext (Kp.refl w2)) (by decide) rfl (L1.out.ext (Kp.refl w2)) (aMm (by kernel_rfl)) (aMn (by kernel_rfl)) (by decide) (HBv.out.1.ext Xw2.out) HBv.out.2 [(⟨#[97,59,98,59,98,59]⟩:ByteArray),(⟨#[97,59,98,59,99,59]⟩:ByteArray),(⟨#[98,59,98,59,98,59]⟩:ByteArray),(⟨#[98,59,98,59,99,59]⟩:ByteArray),(⟨#[98,59,99,59,97,59]⟩:ByteArray),(⟨#[99,59,97,59,98,59]⟩:ByteArray)] 6 (by kernel_rfl) rfl (by decide)).mono ?_;rintro e w3 ⟨vw3,rfl,hkw3,ea2,ec2,rfl,hE2⟩;have Xw3:=qH (show Ext w2 w3 from hkw3);clear hkw3;have E2:=qH hE2;clear hE2;obtain⟨w4,ew4⟩:=nm (w3.alloc (.cells #[.string ⟨#[97,59,98,59,98,59]⟩,.string ⟨#[97,59,98,59,99,59]⟩,.string ⟨#[98,59,98,59,98,59]⟩,.string ⟨#[98,59,98,59,99,59]⟩,.string ⟨#[98,59,99,59,97,59]⟩,.string ⟨#[99,59,97,59,98,59]⟩] 9));have Xw4:=qH (show Ext w3 w4 from xAX ew4);have Sw4:=qH (show CellsAt w4 (some ⟨w3.heap.size,0,none⟩) (strs [(⟨#[97,59,98,59,98,59]⟩:ByteArray),(⟨#[97,59,98,59,99,59]⟩:ByteArray),(⟨#[98,59,98,59,98,59]⟩:ByteArray),(⟨#[98,59,98,59,99,59]⟩:ByteArray),(⟨#[98,59,99,59,97,59]⟩:ByteArray),(⟨#[99,59,97,59,98,59]⟩:ByteArray)])from by rw [<-ew4];exact CellsAt.new w3 (strs [(⟨#[97,59,98,59,98,59]⟩:ByteArray),(⟨#[97,59,98,59,99,59]⟩:ByteArray),(⟨#[98,59,98,59,98,59]⟩:ByteArray),(⟨#[98,59,98,59,99,59]⟩:ByteArray),(⟨#[98,59,99,59,97,59]⟩:ByteArray),(⟨#[99,59,97,59,98,59]⟩:ByteArray)]) _);go_wp2_with fail
 clear ew4;refine(wP [(⟨#[97,59,98,59,98,59]⟩:ByteArray),(⟨#[97,59,98,59,99,59]⟩:ByteArray),(⟨#[98,59,98,59,98,59]⟩:ByteArray),(⟨#[98,59,98,59,99,59]⟩:ByteArray),(⟨#[98,59,99,59,97,59]⟩:ByteArray),(⟨#[99,59,97,59,98,59]⟩:ByteArray)] (ea2) (some ⟨w3.heap.size,0,none⟩) 6 ec2 6 w4 rfl (E2.out.ext Xw4.out) (Sw4.out.ext (Kp.refl w4)) (by decide)).mono ?_;rintro e w5 ⟨vw5,rfl,hkw5,rfl⟩;have Xw5:=qH (show Ext w4 w5 from hkw5);clear hkw5;clear hnb;go_wp2_with fail
 refine(lV ⟨#[88]⟩ w5).mono ?_;rintro e w6 ⟨vw6,rfl,hkw6,rfl⟩;have Xw6:=qH (show Ext w5 w6 from hkw6);clear hkw6;obtain⟨w7,ew7⟩:=nm (w6.alloc (.cells #[.int .i64 1,.string ⟨#[88]⟩] 38));have Xw7:=qH (show Ext w6 w7 from xAX ew7);have T3:=qH (show aO w7 TT (some ⟨w6.heap.size,0,none⟩) [((1:Int),(⟨#[88]⟩:ByteArray),())]from by rw [<-ew7];exact pC w6 [((1:Int),(⟨#[88]⟩:ByteArray),())] (by kernel_rfl));go_wp2_with fail
 clear ew7;refine(aJp ⟨#[110]⟩ (some ⟨w6.heap.size,0,none⟩) 1 1 w7).mono ?_;rintro e w8 ⟨vw8,rfl,hkw8,rfl⟩;have Xw8:=qH (show Ext w7 w8 from hkw8);clear hkw8;obtain⟨w9,ew9⟩:=nm (w8.alloc (.cells #[.int .i64 2,.string ⟨#[110]⟩,.slice (some ⟨w6.heap.size,0,none⟩) 1 1,.int .i64 0,.int .i64 0,.string ⟨#[]⟩,.int .i64 0,.string ⟨#[]⟩] 40));have Xw9:=qH (show Ext w8 w9 from xAX ew9);have L4:=qH (show bW w9 TT (some ⟨w8.heap.size,0,none⟩) [(((2):Int),((⟨#[110]⟩:ByteArray),[((1:Int),(⟨#[88]⟩:ByteArray),())],()),(0:Int),((0:Int),(⟨#[]⟩:ByteArray),()),((0:Int),(⟨#[]⟩:ByteArray),()),())]from by
  rw [<-ew9];refine aL8 w8 [(((2):Int),((⟨#[110]⟩:ByteArray),[((1:Int),(⟨#[88]⟩:ByteArray),())],()),(0:Int),((0:Int),(⟨#[]⟩:ByteArray),()),((0:Int),(⟨#[]⟩:ByteArray),()),())] [(some ⟨w6.heap.size,0,none⟩,1)] rfl (by kernel_rfl) fun x hx=>?_;simp only [List.zip_cons_cons,List.zip_nil_right,List.mem_cons,List.not_mem_nil,or_false]at hx;rcases hx with rfl
  ·exact⟨(T3.out.ext Xw8.out),Nat.le_refl _,(by decide:1≤maxLen)⟩)
 go_wp2_with fail
 clear ew9;refine(aDv (ls:= [(((2):Int),((⟨#[110]⟩:ByteArray),[((1:Int),(⟨#[88]⟩:ByteArray),())],()),(0:Int),((0:Int),(⟨#[]⟩:ByteArray),()),((0:Int),(⟨#[]⟩:ByteArray),()),())]) (ma:=some ⟨w8.heap.size,0,none⟩) (mn:=1) (mc:=1) (w:=w9) rfl (L4.out.ext (Kp.refl w9)) (by decide)).mono ?_;rintro e w10 ⟨vw10,rfl,hkw10,ha5,hc5,ba5,bc5,hv5,hT5,hL5⟩;have Xw10:=qH (show Ext w9 w10 from hkw10);clear hkw10;have hv52:vw10=cI ⟨#[116]⟩ ha5 2 hc5 ba5 3 bc5:=hv5;subst hv52;have T5:=qH hT5;have L5:=qH hL5;clear hT5 hL5 hv5;go_wp2_with fail
 refine(yR (p:=⟨#[116]⟩) (hs:=aCb) (ls:=(qN++ [(((2):Int),((⟨#[110]⟩:ByteArray),[((1:Int),(⟨#[88]⟩:ByteArray),())],()),(0:Int),((0:Int),(⟨#[]⟩:ByteArray),()),((0:Int),(⟨#[]⟩:ByteArray),()),())])) (ha:=ha5) (ba:=ba5) (hn:=2) (hcap:=hc5) (n:=3) (bcap:=bc5) rfl (T5.out.ext (Kp.refl w10)) (by decide) rfl (L5.out.ext (Kp.refl w10)) (aMm (by kernel_rfl)) (aMn (by kernel_rfl)) (by decide) (HBv.out.1.ext (Xw2.out.trans (Xw3.out.trans (Xw4.out.trans (Xw5.out.trans (Xw6.out.trans (Xw7.out.trans (Xw8.out.trans (Xw9.out.trans Xw10.out))))))))) HBv.out.2 [(⟨#[97,59,98,59,99,59]⟩:ByteArray),(⟨#[98,59,98,59,99,59]⟩:ByteArray),(⟨#[98,59,99,59,97,59]⟩:ByteArray)] 3 (by kernel_rfl) rfl (by decide)).mono ?_;rintro e w11 ⟨vw11,rfl,hkw11,ea6,ec6,rfl,hE6⟩;have Xw11:=qH (show Ext w10 w11 from hkw11);clear hkw11;have E6:=qH hE6;clear hE6;obtain⟨w12,ew12⟩:=nm (w11.alloc (.cells #[.string ⟨#[97,59,98,59,99,59]⟩,.string ⟨#[98,59,98,59,99,59]⟩,.string ⟨#[98,59,99,59,97,59]⟩] 9));have Xw12:=qH (show Ext w11 w12 from xAX ew12);have Sw12:=qH (show CellsAt w12 (some ⟨w11.heap.size,0,none⟩) (strs [(⟨#[97,59,98,59,99,59]⟩:ByteArray),(⟨#[98,59,98,59,99,59]⟩:ByteArray),(⟨#[98,59,99,59,97,59]⟩:ByteArray)])from by rw [<-ew12];exact CellsAt.new w11 (strs [(⟨#[97,59,98,59,99,59]⟩:ByteArray),(⟨#[98,59,98,59,99,59]⟩:ByteArray),(⟨#[98,59,99,59,97,59]⟩:ByteArray)]) _);go_wp2_with fail
 clear ew12;refine(wP [(⟨#[97,59,98,59,99,59]⟩:ByteArray),(⟨#[98,59,98,59,99,59]⟩:ByteArray),(⟨#[98,59,99,59,97,59]⟩:ByteArray)] (ea6) (some ⟨w11.heap.size,0,none⟩) 3 ec6 3 w12 rfl (E6.out.ext Xw12.out) (Sw12.out.ext (Kp.refl w12)) (by decide)).mono ?_;rintro e w13 ⟨vw13,rfl,hkw13,rfl⟩;have Xw13:=qH (show Ext w12 w13 from hkw13);clear hkw13;go_wp2;go_ret;exact RetN.mk (Xw1.out.trans (Xw2.out.trans (Xw3.out.trans (Xw4.out.trans (Xw5.out.trans (Xw6.out.trans (Xw7.out.trans (Xw8.out.trans (Xw9.out.trans (Xw10.out.trans (Xw11.out.trans (Xw12.out.trans Xw13.out)))))))))))) rfl
end
section
section
variable {C D:List aZ}{s:ByteArray}{row:List ByteArray}{a:Int}
theorem SameC.refl(C:List aZ):SameC C C:=fun _=>rfl
theorem SameC.symm(h:SameC C D):SameC D C:=fun s=>(h s).symm
theorem SameC.trans{E:List aZ}(h:SameC C D)(h':SameC D E):SameC C E:=fun s=>(h s).trans (h' s)
theorem aFu(hC:BaseOk C)(hD:BaseOk D)(h:SameC C D):aX C=aX D:=by rw [<-xA hC,<-xA hD,aJh hC.nodup hD.nodup h]
theorem aAk(h:SameC C D)(s:ByteArray):bG C s=bG D s:=by unfold bG;rw [h s]
theorem wQ(h:SameC C D)(s:ByteArray)(a:Int):dC C s a=dC D s a:=by unfold dC;rw [h s]
theorem aFv(h:SameC C D)(s:ByteArray)(a:Int):SameC (cV C s a) (cV D s a):=fun t=>by
 unfold cV;rw [wQ h,h s];split
 ·rename_i h2;rw [sH h2.2,sH (by rw [h s];exact h2.2),h t]
 ·exact h t
theorem aAl(hC:BaseOk C)(hD:BaseOk D)(h:SameC C D)(s:ByteArray)(row:List ByteArray):dD C s row=dD D s row:=by unfold dD oX;rw [aAk h,aFu hC hD h,h s]
theorem aJb(hC:BaseOk C)(hD:BaseOk D)(h:SameC C D)(s:ByteArray)(row:List ByteArray):SameC (fN C s row) (fN D s row):=fun t=>by
 unfold fN;rw [aAl hC hD h,aAk h];split
 ·rw [oM,oM,h t]
 ·exact h t
theorem xF(h:C.Perm D)(hn:(C.map (·.1)).Nodup):(D.map (·.1)).Nodup:=(h.map _).nodup_iff.1 hn
theorem aAt(h:C.Perm D)(hn:(C.map (·.1)).Nodup):SameC C D:=fun s=>by have hd:=xF h hn;apply Option.ext;intro v;rw [dT hn,dT hd,h.mem_iff]
theorem aF8(h:C.Perm D):aX C=aX D:=xE (h.map _)
theorem aH6(h:C.Perm D)(hC:BaseOk C):BaseOk D:=⟨xF h hC.nodup,fun p hp=>hC.all p (h.mem_iff.2 hp),by rw [<-aF8 h];exact hC.few⟩
end
def eS{α:Type}(f:α->ByteArray)(G:List α)(g:α):List α:=G.take (below mP (G.map f) (f g))++g::G.drop (below mP (G.map f) (f g))
theorem fK{α:Type}(f:α->ByteArray)(G:List α)(g:α):(eS f G g).Perm (G++ [g]):=by unfold eS;refine List.perm_middle.trans ?_;rw [List.take_append_drop];exact(List.perm_append_singleton g G).symm
theorem uR{α:Type}(f:α->ByteArray){G:List α}{g:α}(h:Strict mP (G.map f))(hn:f g∉G.map f):Strict mP ((eS f G g).map f):=by
 have hi:bD mP (G.map f) (f g)=false:=by rw [Bool.eq_false_iff];intro hi;obtain⟨y,hy,e⟩:=fW.1 hi;exact hn (dL (eO e)▸hy)
 have:=h.add sN (f g);unfold bT at this;rw [hi]at this;have e:(eS f G g).map f=(G.map f).take (below mP (G.map f) (f g))++f g::(G.map f).drop (below mP (G.map f) (f g)):=by unfold eS;rw [List.map_append,List.map_take,List.map_cons,List.map_drop]
 rw [e];simpa using this
end
section
open Go.RowKit Go.Shelf
attribute [local go_sem] Oper.semAt_some
end
section
open Go.RowKit
set_option maxHeartbeats 2000000 in
theorem sP(p:ByteArray)(ts:List aE)(w0:World)(a2 ao:Option Addr)(n c2 cap:Nat)(w:World)(G:Nat->Prop)(hM:TermsK w0 w a2 n c2 ts)(hf:∀t∈ts,fO t)(h:aO w G ao ts)(hl:n≤1048576):
 Calls Tryz.prog 73 #[.agg #[.string p,.slice a2 n c2],.agg #[.string p,.slice ao n cap]] w (RetN w fun w' v=>v= .bool true):=by
 obtain⟨gm,rfl,hmk,hc1,hc2⟩:=hM.mark;have HA:=qH (hM.at hf);have HB:=qH h;have HN:=qH (show n=ts.length from by obtain⟨_,_,_,e,_⟩:=hM;exact e);obtain⟨g0,eg0⟩:=nm w.heap.size;obtain⟨w1,e1⟩:=nm ((w.alloc (.cells #[.string p,.slice (some ⟨gm,0,none⟩) n c2] 24)).alloc (.cells #[.string p,.slice ao n cap] 24));have hB1:Blk w1 g0 [.string p,.slice (some ⟨gm,0,none⟩) n c2] 24:=by rw [<-e1,<-eg0];exact(Blk.new w _ _).alloc _
 have hB2:Blk w1 (g0+1) [.string p,.slice ao n cap] 24:=by have h:=Blk.new (w.alloc (.cells #[.string p,.slice (some ⟨gm,0,none⟩) n c2] 24)) [.string p,.slice ao n cap] 24;rw [aJ,eg0]at h;rw [<-e1];exact h
 have hx1:Ext w w1:=by rw [<-e1];exact((Kp.refl w).alloc _).alloc _
 have r0:=hB1.c0;have r1:=hB1.c1;have s0:=hB2.c0;have s1:=hB2.c1;have m0:=hx1.cell hmk id;have hq:=str_eq p;have q1:((n:Int) !=(n:Int))=false:=by simp
 have i1:(n:Int)+1≤(c2:Int):=by omega
 have hc3:c2≤9223372036854775807:=hc2;have H1:=qH (nIX hx1 (nIX hB1 hB2));clear hM h hmk hB1 hB2 hx1 hc2;go_enter Tryz.func73,Tryz.ntmps73;go_wp2;clear e1 eg0 r0 r1 s0 s1 m0 hq q1 i1;go_loopw [6] (fun iv wr=>aOv w1 n iv wr) (fun iv _=>n- (intOf iv).toNat)
 case atStart=>exact⟨0,Nat.zero_le _,rfl,Kp.refl w1⟩
 case round=>
  obtain⟨i,hi,rfl,hex⟩:=hrel;by_cases hlt:i<n
  ·obtain⟨t,ht⟩:∃t,ts[i]?=some t:=⟨_,qG (by rw [<-HN.out];exact hlt)⟩;obtain⟨g1,o1,e1,c0,c1,_⟩:=cX (HA.out.ext (H1.out.1.trans hex.out)) ht;obtain⟨g2,o2,e2,d0,d1,_⟩:=cX (HB.out.ext (H1.out.1.trans hex.out)) ht;cases e1;subst e2;obtain⟨k,s,⟨⟩⟩:=t;simp only at c0 c1 d0 d1;have r1:=(H1.out.2.1.ext hex.out).c1;have s1:=(H1.out.2.2.ext hex.out).c1;have q2:(k !=k)=false:=by simp
   have q3:(k==k)=true:=by simp
   have q4:=str_eq s;rw [Nat.zero_add]at c0 c1;clear ht;go_wp2;go_quiet (fail)
   go_wp2;go_roundw
   case rel=>exact⟨i+1,by omega,nMX,hex.out.drewN _⟩
   case measure=>simp [intOf];omega
  ·go_wp2;go_ret;exact RetN.mk (H1.out.1.trans hex.out) rfl
def aOz(w0:World)(n:Nat)(iv:Value)(w:World):Prop:=∃i:Nat,i≤n/\iv= .int .i64 i/\Hid (Ext w0 w)
set_option maxHeartbeats 8000000 in
theorem aGs(p:ByteArray)(hs:List aE)(ls:List aL)(w0:World)(ha hb:Option Addr)(hn hac hbc:Nat)(ba bb:Option Addr)(n bac bbc:Nat)(w:World)(G:Nat->Prop)(hhn:hn=hs.length)(hh:aO w G hb hs)(hhl:hn≤1048576)(hbn:n=ls.length)(h:bW w G bb ls)(hf:Fit ls)(hM:RuleK w0 w hs ls ha hn hac ba n bac):
 Calls Tryz.prog 23 #[cI p ha hn hac ba n bac,cI p hb hn hbc bb n bbc] w (RetN w fun w' v=>v= .bool true):=by
 have HN:=qH hbn;have HE:=qH h;have HF:=qH hf;have hl:n≤1048576:=by have:=hf.len;omega
 have HHd:=qH (fun(W:World) (hW:Ext w W)=>sP p hs w0 ha hb hn hac hbc W G (hM.head.ext hW) (sX hh) (hh.ext hW) hhl);obtain⟨gm,rfl,hmk,hc1,hc2,hmL⟩:=hM.mark;have HL0:=qH hmL;have HAll:=qH (xR h);obtain⟨g0,eg0⟩:=nm w.heap.size;obtain⟨w1,e1⟩:=nm ((w.alloc (.cells #[.string p,.slice ha hn hac,.slice (some ⟨gm,0,none⟩) n bac] 27)).alloc (.cells #[.string p,.slice hb hn hbc,.slice bb n bbc] 27));have hB1:Blk w1 g0 [.string p,.slice ha hn hac,.slice (some ⟨gm,0,none⟩) n bac] 27:=by rw [<-e1,<-eg0];exact(Blk.new w _ _).alloc _
 have hB2:Blk w1 (g0+1) [.string p,.slice hb hn hbc,.slice bb n bbc] 27:=by have h:=Blk.new (w.alloc (.cells #[.string p,.slice ha hn hac,.slice (some ⟨gm,0,none⟩) n bac] 27)) [.string p,.slice hb hn hbc,.slice bb n bbc] 27;rw [aJ,eg0]at h;rw [<-e1];exact h
 have hx1:Ext w w1:=by rw [<-e1];exact((Kp.refl w).alloc _).alloc _
 have r0:=hB1.c0;have r1:=hB1.c1;have s0:=hB2.c0;have s1:=hB2.c1;have s2:=hB2.c2;have q1:((n:Int) !=(n:Int))=false:=by simp
 have i1:(n:Int)+1≤(bac:Int):=by omega
 have hc3:bac≤9223372036854775807:=hc2;have H1:=qH (nIX hx1 (nIX hB1 (nIX hB2 hmk)));clear hM h hmk hB1 hB2 hx1 hhn hh hbn hf hmL hc2;go_enter Tryz.func23,Tryz.ntmps23;go_wp2_with fail
 clear e1 eg0;refine(HHd.out _ H1.out.1).mono ?_;rintro e w2 ⟨v,rfl,hk2,rfl⟩;have H2:=qH (show Ext w w2/\Blk w2 g0 [.string p,.slice ha hn hac,.slice (some ⟨gm,0,none⟩) n bac] 27/\Blk w2 (g0+1) [.string p,.slice hb hn hbc,.slice bb n bbc] 27 from⟨H1.out.1.trans hk2,H1.out.2.1.ext hk2,H1.out.2.2.1.ext hk2⟩);have t2:=H2.out.2.1.c2;have m0:=H2.out.1.cell H1.out.2.2.2 id;clear hk2 r0 r1 s0 s1 s2;go_wp2;clear t2 m0 q1 i1;go_loopw [6] (fun iv wr=>aOz w2 n iv wr) (fun iv _=>n- (intOf iv).toNat)
 case atStart=>exact⟨0,Nat.zero_le _,rfl,qH (Kp.refl w2)⟩
 case round=>
  obtain⟨i,hi,rfl,hex⟩:=hrel;have XR:=qH (H2.out.1.trans hex.out);have r2:=(H2.out.2.1.ext hex.out).c2;have s2:=(H2.out.2.2.ext hex.out).c2;by_cases hlt:i<n
  ·have hltl:i<ls.length:=by rw [<-HN.out];exact hlt
   obtain⟨l,hli⟩:∃l,ls[i]?=some l:=⟨_,qG hltl⟩;obtain⟨b,off,a2,cap2,eao,hG,hb,hL,c0,c1,c2,c3,c4,c5,c6,c7⟩:=gU HE.out hli;subst eao;replace c0:=XR.out.cell c0 id;replace c1:=XR.out.cell c1 id;replace c2:=XR.out.cell c2 id;replace c3:=XR.out.cell c3 id;replace c4:=XR.out.cell c4 id;replace c5:=XR.out.cell c5 id;replace c6:=XR.out.cell c6 id;replace c7:=XR.out.cell c7 id;obtain⟨mm,emm⟩:∃mm,mm=(aA l).length:=⟨_,rfl⟩;rw [<-emm]at c2;have hmm:mm≤1048576:=by rw [emm];exact HF.out.terms l (List.mem_of_getElem? hli)
   obtain⟨k,ek⟩:∃k,k=l.1:=⟨_,rfl⟩;rw [<-ek]at c0;clear hltl hG hb;obtain⟨a3,cq,hTK,hcl⟩:=HL0.out i l hli;have HAK:=qH (fun(W:World) (hW:Ext wr W)=>sP (bJ l) (aA l) w0 a3 a2 mm cq cap2 W G (by have h:=(hTK.ext XR.out).ext hW;rw [<-emm]at h;exact h) (HAll.out l (List.mem_of_getElem? hli)).terms ((hL.terms.ext XR.out).ext hW) hmm);have d0:=XR.out.cell (hcl 0 _ rfl) id;have d1:=XR.out.cell (hcl 1 _ rfl) id;have d2:=XR.out.cell (hcl 2 _ rfl) id;have d3:=XR.out.cell (hcl 3 _ rfl) id;have d4:=XR.out.cell (hcl 4 _ rfl) id;have d5:=XR.out.cell (hcl 5 _ rfl) id;have d6:=XR.out.cell (hcl 6 _ rfl) id;have d7:=XR.out.cell (hcl 7 _ rfl) id;simp only [Nat.add_zero,<-ek,<-emm]at d0 d1 d2 d3 d4 d5 d6 d7;generalize bJ l=pl at*;generalize gM l=s3 at*;generalize (leftOf l).1=s4 at*;generalize (leftOf l).2.1=s5 at*;generalize (aN l).1=s6 at*;generalize (aN l).2.1=s7 at*;obtain⟨gx,egx⟩:=nm wr.heap.size;obtain⟨wx,ewx⟩:=nm (wr.alloc (.cells #[.int .i64 k,.string pl,.slice a3 mm cq,.int .i64 s3,.int .i64 s4,.string s5,.int .i64 s6,.string s7] 40));obtain⟨wy,ewy⟩:=nm (wx.alloc (.cells #[.int .i64 k,.string pl,.slice a2 mm cap2,.int .i64 s3,.int .i64 s4,.string s5,.int .i64 s6,.string s7] 40));have sx:wx.heap.size=gx+1:=by rw [<-ewx,aJ,egx]
   have hxy:Ext wx wy:=xAX ewy;have hgx:=bNX egx ewx;have hgy:Blk wy (gx+1) [.int .i64 k,.string pl,.slice a2 mm cap2,.int .i64 s3,.int .i64 s4,.string s5,.int .i64 s6,.string s7] 40:=by rw [<-ewy,<-sx];exact Blk.new wx _ _
   have hxx:Ext wr wx:=xAX ewx;have p2:wx.cell? ⟨g0+1,2,none⟩=some (.slice (some ⟨b,off,none⟩) n bbc):=hxx.cell s2 id;have b0:=hxx.cell c0 id;have b1:=hxx.cell c1 id;have b2:=hxx.cell c2 id;have b3:=hxx.cell c3 id;have b4:=hxx.cell c4 id;have b5:=hxx.cell c5 id;have b6:=hxx.cell c6 id;have b7:=hxx.cell c7 id;have hx:=hgx.ext hxy;have x0:=hx.c0;have x1:=hx.c1;have x2:=hx.c2;have x3:=hx.c3;have x4:=hx.c4;have x5:=hx.c5;have x6:=hx.c6;have x7:=hx.c7;have y0:=hgy.c0;have y1:=hgy.c1;have y2:=hgy.c2;have y3:=hgy.c3;have y4:=hgy.c4;have y5:=hgy.c5;have y6:=hgy.c6;have y7:=hgy.c7;have e1:(k !=k)=false:=by simp
   have e2:(s3 !=s3)=false:=by simp
   have e3:(s4==s4)=true:=by simp
   have e4:(s6==s6)=true:=by simp
   have e5:=str_eq s5;have e6:=str_eq s7;have HY:=qH (nIX hxx hxy);have HCall:=qH (HAK.out wy (hxx.trans hxy));clear hli emm ek hL hTK hcl hx hgx hgy hxx hxy HAK;go_wp2_with fail
   refine HCall.out.mono ?_;rintro e w5 ⟨v,rfl,hk5,rfl⟩;have X5:=qH (HY.out.1.trans (HY.out.2.trans hk5));clear hk5 x0 x1 x2 x3 x4 x5 x6 x7 y0 y1 y2 y3 y4 y5 y6 y7 b0 b1 b2 b3 b4 b5 b6 b7 c0 c1 c2 c3 c4 c5 c6 c7 d0 d1 d2 d3 d4 d5 d6 d7 e1 e2 e3 e4 e5 e6 p2 r2 s2 ewx ewy egx sx;go_wp2;go_roundw
   case rel=>exact⟨i+1,by omega,nMX,qH (hex.out.trans X5.out)⟩
   case measure=>simp [intOf];omega
  ·go_wp2;go_ret;exact RetN.mk XR.out rfl
end
section
open Go.RowKit Go.Maps
theorem Kp.of_grown{a c:World}(h:a.grownBy c none):Ext a c:=⟨h.os,h.tape,h.output,h.size,fun k hk _=>h.block k hk (by simp)⟩
theorem Kp.of_row{a c:World}{row:Option Nat}(h:a.grownBy c row):Kp (fun k=>row=some k) a c:=⟨h.os,h.tape,h.output,h.size,fun k hk hf=>h.block k hk fun e=>hf e.symm⟩
def MapV(w:World)(mv:Value)(E:List Ent):Prop:=(mv= .map none/\E= [])\/∃r,mv= .map (some r)/\MapIs w r (eT E)
def IterE(w:World)(mv:Value)(it:Nat)(E:List Ent)(todo:ByteArray->Bool)(cnt:Nat):Prop:=
 (mv= .map none/\E= []/\cnt=0/\∃a b s,w.heap[it]?=some (.mapIter none a s b))\/∃r n D left,mv= .map (some r)/\w.ranges Tryz.prog 9 pZ r it n D left cnt/\MapD (eT E) D/\∀e∈E,todo e.name=left (kV e.name)
def leftV(w:World)(mv:Value)(it:Nat):Nat:=match mv with
 | .map (some r)=>w.rangeLeft r it
 |_=>0
section
variable {w w':World}{mv:Value}{it:Nat}{E:List Ent}{todo:ByteArray->Bool}{cnt:Nat}
theorem IterE.left_eq(h:IterE w mv it E todo cnt):leftV w mv it=cnt:=by
 rcases h with⟨rfl,_,h,_⟩|⟨r,n,D,left,rfl,h,_⟩
 ·exact h.symm
 ·exact h.left_eq
theorem IterE.lt(h:IterE w mv it E todo cnt):it<w.heap.size:=by
 rcases h with⟨_,_,_,a,b,s,h⟩|⟨r,n,D,left,rfl,h,_⟩
 ·exact lt_of_block h
 ·exact h.lt
theorem IterE.kp{F:Nat->Prop}(h:IterE w mv it E todo cnt)(hk:Kp F w w')(hi:¬F it)(hm:∀r,mv= .map (some r)->¬F r):IterE w' mv it E todo cnt:=by
 have hlt:=h.lt;rcases h with⟨h1,h2,h3,a,b,s,h⟩|⟨r,n,D,left,rfl,h,h2⟩
 ·exact .inl ⟨h1,h2,h3,a,b,s,(hk.block it hlt hi).trans h⟩
 ·obtain⟨es,clock,since,seen,c0,g1,g2,g3,g4,g5,g6⟩:=h;exact .inr ⟨r,n,D,left,rfl,⟨es,clock,since,seen,c0,(hk.block r (lt_of_block g1) (hm r rfl)).trans g1,g2,g3,g4,(hk.block it hlt hi).trans g5,g6⟩,h2⟩
theorem MapV.kp{F:Nat->Prop}(h:MapV w mv E)(hk:Kp F w w')(hm:∀r,mv= .map (some r)->¬F r):MapV w' mv E:=by
 rcases h with h|⟨r,rfl,h⟩
 ·exact .inl h
 ·exact .inr ⟨r,rfl,h.kp hk (hm r rfl)⟩
theorem MapV.ext(h:MapV w mv E)(hk:Ext w w'):MapV w' mv E:=h.kp hk fun _ _=>id
theorem MapV.lookup_ok(h:MapV w mv E)(s:ByteArray):(Instr.lookup 127 mv (.string s) true).run Tryz.prog w= .ok (.tuple #[((bS E s).map Ent.ptr).getD (.pointer none),.bool (bS E s).isSome]) w:=by
 rcases h with⟨rfl,rfl⟩|⟨r,rfl,h⟩
 ·have hc:=fS (P:=Tryz.prog) (w:=w) Tryz.underlying9 s true 9999;have hf:=gQ (P:=Tryz.prog) (w:=w) Tryz.underlying9 s (es:= []) (r:=none) rfl;have hz:(zeroValue 88).run Tryz.prog w= .ok (.pointer none) w:=by kernel_rfl
  simp [Instr.lookup,run_underlying (P:=Tryz.prog) Tryz.underlying127,hc,hf,hz,Result.andThen,bS]
 ·have hlk:=rI (P:=Tryz.prog) Tryz.underlying127 Tryz.underlying9 (z:= .pointer none) (by kernel_rfl) h s;rw [lO,Option.isSome_map]at hlk;exact hlk
theorem MapV.len(h:MapV w mv E)(hks:∀e∈E,e.name.size≤maxLen)(hl:E.length≤maxLen)(ty:TypeId):(Builtin.len_ #[127] ty #[mv]).run Tryz.prog w= .ok (.int .i64 (E.length:Nat)) w:=by
 rcases h with⟨rfl,rfl⟩|⟨r,rfl,h⟩
 ·simp [Builtin.len_,run_underlying (P:=Tryz.prog) Tryz.underlying127];rfl
 ·obtain⟨D,h1,h2⟩:=aIb h (fun p hp=>by obtain⟨e,he,rfl⟩:=List.mem_map.1 hp;exact hks e he) (by simpa [eT]using hl);have h3:=h1.len (P:=Tryz.prog) Tryz.underlying127 ty;rw [h2.size]at h3;rw [h3];simp [eT]
theorem aB2{a b:Nat}{s:Array Nat}(h:w.heap[it]?=some (.mapIter none a s b))(ty:TypeId):(Instr.next (.pointer (some ⟨it,0,none⟩)) false ty).run Tryz.prog w= .ok (.tuple #[.bool false]) w:=by simp only [Instr.next,getObj,Sem.run_bind,Sem.run,h,Result.andThen];rfl
variable {ops:Array Oper}{rest:List Oper}{o:Oper}{a:Act}{Q:Exit->Act->World->Prop}
theorem pU(hg:o.guard=none)(m:Operand)(hop:o.op=Op.range 127 m)(hm:a.eval m=mv)(hv:MapV w mv E)(hks:∀e∈E,e.name.size≤maxLen)(hl:E.length≤maxLen)
 (hK:∀w' cnt,IterE w' mv w.heap.size E (fun _=>true) cnt->Ext w w'->w'.heap.size=w.heap.size+1->wpList Tryz.prog ops Q rest (a.put o.dst (.pointer (some ⟨w.heap.size,0,none⟩))) w'):wpList Tryz.prog ops Q (o::rest) a w:=by
 rcases hv with⟨rfl,rfl⟩|⟨r,rfl,hv⟩
 ·refine wpList_plain hg fun K' hK'=>?_;have hrun:=run_range_nilMap (P:=Tryz.prog) w 127 9 88 Tryz.underlying127;unfold Oper.wp;simp [execOp,hop,hm,hrun,Result.andThen];refine hK' _ _ (hK _ 0 (.inl ⟨rfl,rfl,rfl,0,0,#[],?_⟩) ((Kp.refl w).alloc _) (by rw [aJ]));show(w.heap.push _)[w.heap.size]?=_;simp
 ·obtain⟨D,h1,h2⟩:=aIb hv (fun p hp=>by obtain⟨e,he,rfl⟩:=List.mem_map.1 hp;exact hks e he) (by simpa [eT]using hl);refine wpList_range_own w hg m 127 hop 9 88 (string_keyed Tryz.underlying9) Tryz.underlying127 pZ r _ D hm h1 fun w' hr hgr hs=>?_;exact hK w' _ (.inr ⟨r,_,D,_,rfl,hr,h2,fun e he=>(h2.has (e.name,e.ptr) (List.mem_map.2 ⟨e,he,rfl⟩)).symm⟩) (Kp.of_grown hgr) hs
theorem rB(hg:o.guard=none)(itm:Operand)(hop:o.op=Op.next itm false)(hit:a.eval itm= .pointer (some ⟨it,0,none⟩))(h:IterE w mv it E todo cnt)
 (hDone:(∀e∈E,todo e.name=false)->wpList Tryz.prog ops Q rest (a.put o.dst (.tuple #[.bool false])) w)
 (hMore:∀(e0:Ent) (w':World) (cnt':Nat),e0∈E->todo e0.name=true->IterE w' mv it E (fun s=>todo s && !decide (s=e0.name)) cnt'->cnt'<cnt->Kp (fun k=>k=it) w w'->w'.heap.size=w.heap.size->(Instr.entry (.pointer (some ⟨it,0,none⟩))).run Tryz.prog w'= .ok (.tuple #[.string e0.name,e0.ptr]) w'->
  wpList Tryz.prog ops Q rest (a.put o.dst (.tuple #[.bool true,.string e0.name,e0.ptr])) w'):wpList Tryz.prog ops Q (o::rest) a w:=by
 rcases h with⟨rfl,rfl,rfl,a1,b1,s1,hb⟩|⟨r,n,D,left,rfl,hr,hD,htodo⟩
 ·refine wpList_plain hg fun K' hK'=>?_;have hrun:=aB2 hb o.type;unfold Oper.wp;simp [execOp,hop,hit,hrun,Result.andThen];exact hK' _ _ (hDone fun e he=>by simp at he)
 ·refine wpList_next_ranges w hg itm hop 9 (string_keyed Tryz.underlying9) pZ Value.string id (fun key kl h=>(keyV h).imp fun x h=>h.1) (fun v y h=>⟨v,rfl⟩) r it n D left cnt hit hr (fun _ hl=>hDone fun e he=>by rw [htodo e he];exact hl _) fun x c kl y w' cnt' hkey hlk hv hat hr' hlt hgr hsz hen=>?_;obtain rfl:kl=kV x:=by
   obtain⟨x',e1,e2⟩:=keyV hkey
   injection e1 with e1
   rw [e1];exact e2
  obtain⟨e0,he0,enx,rfl⟩:∃e0∈E,e0.name=x/\c=e0.ptr:=by
   obtain⟨e0,h1,h2⟩:=List.mem_map.1 (hD.key x c fun zd=>by
    rw [hat zd];have h3:some (DataW.held c,([]:List MemPlace))=some y:=hv
    injection h3 with h3
    rw [<-h3])
   exact⟨e0,h1,congrArg Prod.fst h2,(congrArg Prod.snd h2).symm⟩
  subst enx;refine hMore e0 w' cnt' he0 (by rw [htodo e0 he0];exact hlk) (.inr ⟨r,n,D,_,rfl,hr',hD,fun e he=>?_⟩) hlt ((Kp.of_row hgr).mono fun i hi e=>by injection e with e;exact e.symm) hsz hen;show(todo e.name && !decide (e.name=e0.name))=_;rw [htodo e he];show(left (kV e.name) && !decide (e.name=e0.name))=(left (kV e.name) && !(kV e.name).sameKey (kV e0.name))
  congr 2
  by_cases hn:e.name=e0.name
  ·rw [hn,decide_eq_true rfl];simp [Lit.sameKey,kV]
  ·rw [decide_eq_false hn];cases hs:(kV e.name).sameKey (kV e0.name)with
   |false=>rfl
   |true=>exact absurd (aC4 (WideAt.sameKey_eq hs)) hn
end
structure BaseM(S:Nat->Prop)(w:World)(bb:Nat)(mv:Value)(E:List Ent):Prop where
 blk:Blk w bb [mv,.int .i64 (aX (aS E):Nat)] 129
 map:MapV w mv E
 rows:∀e∈E,RowsAt S w e.b e.iv e.ar e.LL
 inS:∀k,S k->k<w.heap.size
 mapLt:∀r,mv= .map (some r)->r<w.heap.size
 ok:BaseOk (aS E)
theorem BaseAt.m{S:Nat->Prop}{w:World}{bb r:Nat}{E:List Ent}(h:BaseAt S w bb r E):BaseM S w bb (.map (some r)) E:=
 ⟨h.blk,.inr ⟨r,rfl,h.map⟩,h.rows,h.inS,fun r' e=>by cases e;exact h.map.lt,h.ok⟩
theorem BaseM.ext{S:Nat->Prop}{w w':World}{bb:Nat}{mv:Value}{E:List Ent}(h:BaseM S w bb mv E)(hk:Ext w w'):BaseM S w' bb mv E:=
 ⟨h.blk.ext hk,h.map.ext hk,fun e he=>(h.rows e he).ext hk,fun k hk'=>Nat.lt_of_lt_of_le (h.inS k hk') hk.size,fun r e=>Nat.lt_of_lt_of_le (h.mapLt r e) hk.size,h.ok⟩
theorem BaseM.size{S:Nat->Prop}{w:World}{bb:Nat}{mv:Value}{E:List Ent}(h:BaseM S w bb mv E):∀e∈E,e.name.size≤maxLen:=fun e he=>by have h2:1≤e.name.size/\e.name.size≤4096:=of_decide_eq_true (h.ok.all _ (lE he)).name;unfold maxLen;omega
theorem kH{E:List Ent}(h:BaseOk (aS E)){e:Ent}(he:e∈E):bS E e.name=some e:=by
 have hnd:(E.map Ent.name).Nodup:=by have:=h.nodup;unfold aS at this;rw [List.map_map]at this;exact this
 clear h;induction E with
 |nil=>simp at he
 |cons a E ih=>
  rw [List.map_cons,List.nodup_cons]at hnd;unfold bS;rw [List.find?_cons];by_cases ha:a.name=e.name
  ·rw [decide_eq_true ha];rcases List.mem_cons.1 he with rfl|he
   ·rfl
   ·exact absurd (List.mem_map.2 ⟨e,he,ha.symm⟩) hnd.1
  ·rw [decide_eq_false ha];rcases List.mem_cons.1 he with rfl|he
   ·exact absurd rfl ha
   ·exact ih he hnd.2
theorem zD{E:List Ent}(h:((aS E).map (·.1)).Nodup):(aS E).Nodup:=by
 generalize aS E=C at*;induction C with
 |nil=>exact List.nodup_nil
 |cons p C ih=>
  rw [List.map_cons,List.nodup_cons]at h;exact List.nodup_cons.2 ⟨fun hp=>h.1 (List.mem_map.2 ⟨p,hp,rfl⟩),ih h.2⟩
theorem wG{C D:List aZ}(h:C.Perm D):aX C=aX D:=xE (h.map _)
theorem aH9{C D:List aZ}(h:C.Perm D)(hD:BaseOk D):BaseOk C:=⟨(h.map (·.1)).nodup_iff.2 hD.nodup,fun p hp=>hD.all p (h.mem_iff.1 hp),by rw [wG h];exact hD.few⟩
theorem aI9{C D:List aZ}(h:C.Perm D)(hD:BaseOk D):SameC C D:=fun s=>by
 have hC:=aH9 h hD;cases hg:bL C s with
 |none=>
  cases hd:bL D s with
  |none=>rfl
  |some v=>rw [(dT hC.nodup).2 (h.mem_iff.2 ((dT hD.nodup).1 hd))]at hg;cases hg
 |some v=>exact((dT hD.nodup).2 (h.mem_iff.1 ((dT hC.nodup).1 hg))).symm
structure CopyB(S:Nat->Prop)(lo:Nat)(w:World)(r:Nat)(E:List Ent):Prop where
 map:MapIs w r (eT E)
 rows:∀e∈E,RowsAt S w e.b e.iv e.ar e.LL
 apart:E.Pairwise fun e f=>∀k,e.own k->¬f.own k
 new:∀e∈E,∀k,e.own k->lo≤k
theorem CopyB.ext{S:Nat->Prop}{lo:Nat}{w w':World}{r:Nat}{E:List Ent}(h:CopyB S lo w r E)(hk:Ext w w'):CopyB S lo w' r E:=⟨h.map.ext hk,fun e he=>(h.rows e he).ext hk,h.apart,h.new⟩
def aPa(S:Nat->Prop)(wo w0:World)(E:List Ent)(mv:Value)(it:Nat)(bb2 r2:Nat)(m:Int)(w:World):Prop:=∃todo cnt,IterE w mv it E todo cnt/\Hid (Ext wo w/\w0.heap.size≤w.heap.size)/\
 Hid (∃E2,CopyB S w0.heap.size w r2 E2/\Blk w bb2 [.map (some r2),.int .i64 m] 129/\(∀e2∈E2,∃e∈E,e2.cnt=e.cnt/\todo e.name=false)/\(∀e∈E,todo e.name=false->∃e2∈E2,e2.cnt=e.cnt))
theorem aKc{m:List (ByteArray×Value)}{s:ByteArray}(h:∀p∈m,p.1≠s):yG m s=none:=by unfold yG;rw [List.find?_eq_none.2 fun p hp=>by simpa using h p hp];rfl
theorem CopyB.snoc{S:Nat->Prop}{lo:Nat}{w w':World}{r:Nat}{E:List Ent}{e:Ent}(h:CopyB S lo w r E)(hS:∀k,S k->k<w.heap.size)(hr:r<lo)(hSr:¬S r)(hk:Kp (fun k=>k=r) w w')(hm:MapIs w' r (mG (eT E) e.name e.ptr))(hn:∀f∈E,f.name≠e.name)
 (hE:RowsAt S w e.b e.iv e.ar e.LL)(hlo:∀k,e.own k->lo≤k)(hap:∀f∈E,∀k,f.own k->¬e.own k):CopyB S lo w' r (E++ [e]):=by
 have hg:yG (eT E) e.name=none:=aKc fun p hp=>by obtain⟨f,hf,rfl⟩:=List.mem_map.1 hp;exact hn f hf
 have hmv:∀f:Ent,RowsAt S w f.b f.iv f.ar f.LL->(∀k,f.own k->lo≤k)->RowsAt S w' f.b f.iv f.ar f.LL:=fun f hf hl=>hf.move hk (fun k e ho=>by have:=hl k ho;omega) (fun k e hs=>hSr (e▸hs)) (fun _ x=>x) (fun k hk'=>Nat.lt_of_lt_of_le (hS k hk') hk.size) hf.notS;refine⟨?_,fun f hf=>?_,List.pairwise_append.2 ⟨h.apart,by simp,fun f hf g hg'=>?_⟩,fun f hf=>?_⟩
 ·have e1:mG (eT E) e.name e.ptr=eT (E++ [e]):=by
   unfold mG;rw [hg];simp [eT]
  rw [<-e1];exact hm
 ·rcases List.mem_append.1 hf with hf|hf
  ·exact hmv f (h.rows f hf) (h.new f hf)
  ·rw [List.mem_singleton.1 hf];exact hmv e hE hlo
 ·rw [List.mem_singleton.1 hg'];exact hap f hf
 ·rcases List.mem_append.1 hf with hf|hf
  ·exact h.new f hf
  ·rw [List.mem_singleton.1 hf];exact hlo
set_option maxHeartbeats 4000000 in
theorem zZ{S:Nat->Prop}{w:World}{bb:Nat}{mv:Value}{E:List Ent}(h:BaseM S w bb mv E)(hl:E.length≤1048576):
 Calls Tryz.prog 45 #[.pointer (some ⟨bb,0,none⟩)] w (RetN w fun w' v=>∃bb2 r2 E2,v= .pointer (some ⟨bb2,0,none⟩)/\BaseAt S w' bb2 r2 E2/\(aS E2).Perm (aS E)/\∀k,iA bb2 r2 E2 k->w.heap.size≤k):=by
 have c0:=h.blk.cell 0 (by simp);have c1:=h.blk.cell 1 (by simp);simp only [List.getElem_cons_zero,List.getElem_cons_succ]at c0 c1;obtain⟨m,em⟩:∃m:Int,((aX (aS E):Nat):Int)=m:=⟨_,rfl⟩;rw [em]at c1;have H:=qH (nIX h (nIX hl em));clear h em hl;have hmm:= @run_makeMap Tryz.prog;obtain⟨wA,ewA⟩:=nm ((w.alloc (.map #[] 0)).alloc (.cells #[.map (some w.heap.size),.int .i64 m] 129));have hxA:Ext w wA:=by rw [<-ewA];exact((Kp.refl w).alloc _).alloc _
 have hsA:wA.heap.size=w.heap.size+2:=by rw [<-ewA,aJ,aJ]
 have hBA:Blk wA (w.heap.size+1) [.map (some w.heap.size),.int .i64 m] 129:=by rw [<-ewA];have hB:=Blk.new (w.alloc (.map #[] 0)) [.map (some w.heap.size),.int .i64 m] 129;rw [aJ]at hB;exact hB
 have hMA:MapIs wA w.heap.size []:=by rw [<-ewA];exact(MapIs.new w).ext ((Kp.refl _).alloc _)
 have hmA:=H.out.1.map.ext hxA;have cA:=hxA.cell c0 id;replace c1:(w.alloc (.map #[] 0)).cell? ⟨bb,1,none⟩=some (.int .i64 m):=((Kp.refl (F:=fun _=>False) w).alloc _).cell c1 id;have HA:=qH (nIX hxA (nIX hsA (nIX hBA hMA)));clear hxA hsA hBA hMA;go_enter Tryz.func45,Tryz.ntmps45;go_wp2_with (at_range;refine pU rfl _ rfl rfl hmA H.out.1.size (by have:=H.out.2.1;unfold maxLen;omega) ?_;intro w0 cnt0 hrg0 hx0 hs0)
 go_frame
 obtain⟨it,eit⟩:=nm wA.heap.size;obtain⟨bb2,eb2⟩:=nm (w.heap.size+1);obtain⟨r2,er2⟩:=nm w.heap.size;have HX0:=qH (show Ext w w0/\Blk w0 bb2 [.map (some r2),.int .i64 m] 129/\MapIs w0 r2 []/\bb2<w0.heap.size/\r2<w0.heap.size/\it<w0.heap.size/\bb2=w.heap.size+1/\r2=w.heap.size/\it=w.heap.size+2 from by
  have:=HA.out.2.1;refine⟨HA.out.1.trans hx0,?_,?_,by omega,by omega,by omega,eb2.symm,er2.symm,by omega⟩
  ·rw [<-eb2,<-er2];exact HA.out.2.2.1.ext hx0
  ·rw [<-er2];exact HA.out.2.2.2.ext hx0)
 rw [eit]at hrg0;try rw [eit]
 try rw [eb2]
 try rw [er2]
 clear hx0 hs0 ewA hmA cA eit eb2 er2;go_loopw [] (fun wr=>aPa S w w0 E mv it bb2 r2 m wr) (fun wr=>leftV wr mv it)
 case atStart=>exact⟨_,_,hrg0,qH ⟨HX0.out.1,Nat.le_refl _⟩,qH ⟨[],⟨HX0.out.2.2.1,fun e he=>by simp at he,List.Pairwise.nil,fun e he=>by simp at he⟩,HX0.out.2.1,fun e he=>by simp at he,fun e he hl=>by cases hl⟩⟩
 case round=>
  obtain⟨todo,cnt,hrg,hex,hin⟩:=hrel;have HIN:=qH (nIX hex.out hin.out);have HRG:=qH hrg;clear hex hin;go_wp2_with (at_next;refine rB rfl _ rfl rfl hrg ?_ ?_)
  ·intro hl0;obtain⟨E2,hP,hB,h1,h2⟩:=HIN.out.2;have hnd:((aS E2).map (·.1)).Nodup:=by
    obtain⟨_,_,_,_,hn,_⟩:=hP.map;rw [qW]at hn;exact hn
   have hperm:(aS E2).Perm (aS E):=(List.perm_ext_iff_of_nodup (zD hnd) (zD H.out.1.ok.nodup)).2 fun p=>by
    constructor
    ·intro hp;obtain⟨e2,he2,rfl⟩:=List.mem_map.1 hp;obtain⟨e,he,hc,_⟩:=h1 e2 he2;rw [hc];exact lE he
    ·intro hp;obtain⟨e,he,rfl⟩:=List.mem_map.1 hp;obtain⟨e2,he2,hc⟩:=h2 e he (hl0 e he);rw [<-hc];exact lE he2
   have HFin:=qH (show Ext w wr/\BaseAt S wr bb2 r2 E2/\(aS E2).Perm (aS E)/\∀k,iA bb2 r2 E2 k->w.heap.size≤k from by
    obtain⟨x1,x2,x3,x4,x5,x6,x7,x8,x9⟩:=HX0.out;have hin:=H.out.1.inS;have hsz:=HIN.out.1.1.size;have hsz0:=x1.size;refine⟨HIN.out.1.1,{blk:=by rw [wG hperm,H.out.2.2];exact hB,map:=hP.map,rows:=hP.rows,apart:=hP.apart,inS:=fun k hk=>by have:=hin k hk;omega,notS:=⟨fun hs=>by have:=hin _ hs;omega,fun hs=>by have:=hin _ hs;omega⟩,ne:=by omega,off:=fun e he k ho=>by have:=hP.new e he k ho;omega,ok:=aH9 hperm H.out.1.ok},hperm,?_⟩;rintro k (rfl|rfl|⟨e,he,ho⟩)
    ·omega
    ·omega
    ·have:=hP.new e he k ho;omega)
   clear hP hB h1 h2 hnd hperm;go_wp2;go_ret;exact RetN.mk HFin.out.1 ⟨bb2,r2,E2,rfl,HFin.out.2⟩
  ·intro e0 w1 cnt1 he0 hlk hrg1 hlt hg1 hsz hen;obtain⟨x,enx⟩:=nm e0.name;have hw1:Ext w w1:=HIN.out.1.1.trans' hg1 fun i hi e=>by have:=HX0.out;omega
   have hleft:∀e∈E,(todo e.name && !decide (e.name=e0.name))=false->todo e.name=false\/e=e0:=fun e he h=>by
    rw [Bool.and_eq_false_iff]at h;rcases h with h|h
    ·exact .inl h
    ·right
     have h1:=kH H.out.1.ok he;have h2:=kH H.out.1.ok he0;rw [show e.name=e0.name by simpa using h,h2]at h1
     injection h1 with h1;exact h1.symm
   obtain⟨E2,hP,hB,h1,h2⟩:=HIN.out.2;have hP1:CopyB S w0.heap.size w1 r2 E2:=by have hlt:it<w0.heap.size:=HX0.out.2.2.2.2.2.1;refine⟨hP.map.kp hg1 (by have:=HX0.out;omega),fun e he=>(hP.rows e he).move hg1 (fun k e1 ho=>by have:=hP.new e he k ho;omega) (fun k e1 hs=>by have:=H.out.1.inS k hs;have:=HX0.out;omega) (fun _ x=>x) (fun k hk'=>by have:=H.out.1.inS k hk';have:=hw1.size;omega) (hP.rows e he).notS,hP.apart,hP.new⟩
   have hB1:Blk w1 bb2 [.map (some r2),.int .i64 m] 129:=hB.kp hg1 (by have:=HX0.out;omega);have HE:=qH (nIX he0 (nIX enx (nIX hleft (nIX hlk (nIX h1 h2)))));have HW:=qH (nIX hrg1 (nIX hlt (nIX hw1 (nIX hsz (nIX hP1 hB1)))));have hcp:=fun w' (hw:Ext w1 w')=>aF1 (z:=False) (((H.out.1.ext hw1).rows e0 he0).ext hw).q;have cb:=hB1.cell 0 (by simp);simp only [List.getElem_cons_zero]at cb;obtain⟨eb,eeb⟩:=nm e0.b;have ept:e0.ptr= .pointer (some ⟨eb,0,none⟩):=by rw [<-eeb];rfl
   rw [eeb]at hcp;rw [ept]at hen ⊢;rw [enx]at hen hlk ⊢;have HC:=qH hcp;clear he0 enx hleft hlk h1 h2 hrg1 hlt hw1 hsz hP hP1 hB hB1 hg1 hcp ept eeb hrg;go_wp2_with fail
   refine aT (fun w':World=>w'.cell? ⟨bb2,0,none⟩=some (.map (some r2))) [7] (by kernel_rfl) cb (fun hHeld=>?_);refine eFX 0 ?_;refine eFX 1 ?_;refine eFX 2 ?_;refine eIX 3 ?_;refine eFX 4 ?_;refine eFX 5 ?_;refine eTX 6 fun K hK=>?_;go_simp
   (refine(HC.out _ (Kp.refl w1).drew).mono ?_;rintro e w5 ⟨v,rfl,hk3,_,b',iv',rfl,hb',hiv',hr'⟩;have X5:=qH (nIX (show Ext w1 w5 from(Kp.refl w1).drew.trans (Kp.fq hk3)) (nIX hb' (nIX hiv' hr')));clear hk3 hb' hiv' hr')
   go_wp2_with fail
   refine hK.out _ _ (X5.out.1.cell cb id) fun hHeld=>?_;clear hK K;refine eLX 7 fun K hK=>?_
   (obtain⟨w6,hu,hm6,hk6⟩:=nQ (P:=Tryz.prog) Tryz.underlying127 Tryz.underlying9 (HW.out.2.2.2.2.1.map.ext X5.out.1) x (.pointer (some ⟨b',0,none⟩)))
   go_simp;refine hK.out _ _ ?_;clear hK K;refine aK (by kernel_rfl) ?_ _;have HFin:=qH (show IterE w6 mv it E (fun s=>todo s && !decide (s=e0.name)) cnt1/\Ext w w6/\w0.heap.size≤w6.heap.size/\∃E2,CopyB S w0.heap.size w6 r2 E2/\Blk w6 bb2 [.map (some r2),.int .i64 m] 129/\(∀e2∈E2,∃e∈E,e2.cnt=e.cnt/\(todo e.name && !decide (e.name=e0.name))=false)/\(∀e∈E,(todo e.name && !decide (e.name=e0.name))=false->∃e2∈E2,e2.cnt=e.cnt)from by
    obtain⟨hrg1,hlt,hw1,hsz,hP1,hB1⟩:=HW.out;obtain⟨he0,enx,hleft,hlk,h1,h2⟩:=HE.out;obtain⟨hx5,hb',hiv',hr'⟩:=X5.out;obtain⟨x1,x2,x3,x4,x5,x6,x7,x8,x9⟩:=HX0.out;have hin:=H.out.1.inS;have hs0:=x1.size;have hs1:=hw1.size;have hs01:=HIN.out.1.2;have hs5:=hx5.size;have hs6:=hk6.size;have hk16:Kp (fun k=>k=r2) w1 w6:=(Ext.kp hx5).trans hk6;have hrg6:=hrg1.kp hk16 (by omega) (fun r hr e=>by have:=H.out.1.mapLt r hr;omega);have hown:∀k,dY b' iv' k->w1.heap.size≤k:=fun k ho=>by
     rcases ho with ho|ho
     ·rw [ho];exact hb'
     ·exact hiv' k ho
    have hP6:=(hP1.ext hx5).snoc (e:={name:=x,b:=b',iv:=iv',ar:=e0.ar,LL:=e0.LL}) (fun k hk=>by have:=hin k hk;omega) x5 (fun hs=>by have:=hin _ hs;omega) hk6 hm6 (fun f hf e=>by
     obtain⟨g,hg,hc,hl⟩:=h1 f hf;have e2:f.name=g.name:=congrArg Prod.fst hc;rw [<-e2,show f.name=x from e,<-enx,hlk]at hl;cases hl) hr' (fun k ho=>by have:=hown k ho;omega) (fun f hf k ho ho2=>by
     have h3:=RowsQ.ownLt (z:=True) (hP1.rows f hf).q k ho;have h4:=hown k ho2;omega)
    refine⟨hrg6,hw1.trans' hk16 fun k hk e=>by omega,by omega,_,hP6,(hB1.ext hx5).kp hk6 (by omega),fun e2 he2=>?_,fun e he hl=>?_⟩
    ·rcases List.mem_append.1 he2 with he2|he2
     ·obtain⟨e,he,hc,hl⟩:=h1 e2 he2;exact⟨e,he,hc,by rw [hl];rfl⟩
     ·rw [List.mem_singleton.1 he2];exact⟨e0,he0,by show(x,e0.ar,e0.LL)=(e0.name,e0.ar,e0.LL);rw [enx],by simp⟩
    ·rcases hleft e he hl with h|rfl
     ·obtain⟨e2,he2,hc⟩:=h2 e he h;exact⟨e2,List.mem_append_left _ he2,hc⟩
     ·exact⟨_,List.mem_append_right _ (List.mem_singleton.2 rfl),by show(x,e.ar,e.LL)=(e.name,e.ar,e.LL);rw [enx]⟩)
   clear hu hm6 hk6 hHeld cb hen;go_wp2;go_roundw
   case rel=>exact⟨_,_,HFin.out.1,qH ⟨HFin.out.2.1,HFin.out.2.2.1⟩,qH HFin.out.2.2.2⟩
   case measure=>
    rw [HFin.out.1.left_eq,HRG.out.left_eq];exact HW.out.2.1
theorem aCp{S:Nat->Prop}{w:World}{bb r:Nat}{E:List Ent}(h:BaseAt S w bb r E)(hl:E.length≤1048576):
 Calls Tryz.prog 45 #[.pointer (some ⟨bb,0,none⟩)] w (RetN w fun w' v=>∃bb2 r2 E2,v= .pointer (some ⟨bb2,0,none⟩)/\BaseAt S w' bb2 r2 E2/\(aS E2).Perm (aS E)/\∀k,iA bb2 r2 E2 k->w.heap.size≤k):=zZ h.m hl
def oI(E2:List Ent)(e:Ent):Bool:=match bS E2 e.name with|some f=>decide (e.ar=f.ar/\e.LL=f.LL)|none=>false
def nP(E1 E2:List Ent):Bool:=decide (E1.length=E2.length) && E1.all (oI E2)
def EqTo(w0:World)(E1 E2:List Ent)(mv:Value)(it:Nat)(w:World):Prop:=∃todo cnt,IterE w mv it E1 todo cnt/\Hid (Ext w0 w)/\Hid (∀e∈E1,todo e.name=false->oI E2 e=true)
theorem aEt{S:Nat->Prop}{w:World}{bb1 bb2:Nat}{r1 r2:Value}{E1 E2:List Ent}(h1:BaseM S w bb1 r1 E1)(h2:BaseM S w bb2 r2 E2){e f:Ent}(he:e∈E1)(hf:f∈E2)(hap:e=f\/∀k,e.own k->¬f.own k):
 Calls Tryz.prog 94 #[e.ptr,f.ptr] w (RetN w fun w' v=>v= .bool (decide (e.ar=f.ar/\e.LL=f.LL))):=by
 have q1:RowsQ True S w e.b e.iv e.ar e.LL:=(h1.rows e he).q;have q2:RowsQ True S w f.b f.iv f.ar f.LL:=(h2.rows f hf).q;have a1:=(h1.rows e he);have a2:=(h2.rows f hf);rcases hap with rfl|hap
 ·refine(zP (a1.q (z:=False))).mono ?_;rintro e' w' ⟨v,rfl,hk,rfl,_⟩;exact RetN.mk (Kp.fq hk) (by simp)
 by_cases har:e.ar=f.ar
 ·have r1:=(h1.rows e he).q (z:=False);have r2:=(h2.rows f hf).q (z:=False);rw [<-har]at r2;refine(aF0 r1 r2 hap).mono ?_;rintro e' w' ⟨v,rfl,hk,rfl,_,_⟩;refine RetN.mk (hk.mono fun _ _ h=>by rcases h with h|h<;>exact h.1) ?_;rw [show decide (e.ar=f.ar/\e.LL=f.LL)=decide (e.LL=f.LL) by simp [har]]
 ·refine(wS q1.ar q2.ar har).mono ?_;rintro e' w' ⟨rfl,n,rfl⟩;refine RetN.mk ((Kp.refl _).drewN n) ?_;rw [decide_eq_false fun h=>har h.1]
set_option maxHeartbeats 4000000 in
theorem zV{S:Nat->Prop}{w:World}{bb1 bb2:Nat}{m1 m2:Value}{E1 E2:List Ent}(h1:BaseM S w bb1 m1 E1)(h2:BaseM S w bb2 m2 E2)(hap:∀e∈E1,∀f∈E2,e.name=f.name->e=f\/∀k,e.own k->¬f.own k)(hl1:E1.length≤1048576)(hl2:E2.length≤1048576):
 Calls Tryz.prog 93 #[m1,m2,.func (.func 94) #[] #[]] w (RetN w fun w' v=>v= .bool (nP E1 E2)):=by
 have hL1:E1.length≤maxLen:=by unfold maxLen;omega
 have hL2:E2.length≤maxLen:=by unfold maxLen;omega
 obtain⟨n1,en1⟩:=nm E1.length;obtain⟨n2,en2⟩:=nm E2.length;have hlen1:=h1.map.len h1.size hL1;have hlen2:=h2.map.len h2.size hL2;rw [en1]at hlen1 hl1;rw [en2]at hlen2;have hmap1:=h1.map;have hsz1:=qH (nIX h1.size hL1);have H:=qH (nIX h1 (nIX h2 hap));have EN:=qH (nIX en1 en2);have hent:∀args w,(callFunc 94 args).run Tryz.prog w= .ok (.enter 94 args) w:=enters_of Tryz.func94 (by kernel_rfl) rfl;clear h1 h2 hap en1 en2 hl2 hL1 hL2;by_cases hne:n1=n2
 ·have q1:((n1:Int) !=(n2:Int))=false:=by simp [hne]
  have HNE:=qH hne;clear hne;go_enter Tryz.func93,Tryz.ntmps93;go_wp2_with (at_range;refine pU rfl _ rfl rfl hmap1 hsz1.out.1 hsz1.out.2 ?_;intro w0 cnt0 hrg0 hx0 hs0)
  go_frame
  obtain⟨it,eit⟩:=nm w.heap.size;have HX0:=qH (nIX hx0 eit);clear hx0 hs0;rw [eit]at hrg0;try rw [eit]
  go_loopw [] (fun wr=>EqTo w E1 E2 m1 it wr) (fun wr=>leftV wr m1 it)
  case atStart=>exact⟨_,_,hrg0,HX0.out.1,qH fun e he hl=>by cases hl⟩
  case round=>
   obtain⟨todo,cnt,hrg,hex,hin⟩:=hrel;have HIN:=qH (nIX hex.out hin.out);have HRG:=qH hrg;clear hex hin;go_wp2_with (at_next;refine rB rfl _ rfl rfl hrg ?_ ?_)
   ·intro hl0;have hall:=qH (fun e he=>HIN.out.2 e he (hl0 e he));go_wp2;go_ret;refine RetN.mk HIN.out.1 ?_;unfold nP;rw [decide_eq_true (by rw [EN.out.1,EN.out.2];exact HNE.out),List.all_eq_true.2 hall.out];rfl
   ·intro e0 w1 cnt1 he0 hlk hrg1 hlt hg1 hsz hen;obtain⟨x,enx⟩:=nm e0.name;have hk1:Ext w w1:=HIN.out.1.trans' hg1 fun i hi e=>by have:=HX0.out.2;omega
    have hleft:∀e∈E1,(todo e.name && !decide (e.name=e0.name))=false->todo e.name=false\/e=e0:=fun e he h=>by
     rw [Bool.and_eq_false_iff]at h;rcases h with h|h
     ·exact .inl h
     ·right
      have h1:=kH H.out.1.ok he;have h2:=kH H.out.1.ok he0;rw [show e.name=e0.name by simpa using h,h2]at h1
      injection h1 with h1;exact h1.symm
    have HEN:=qH (nIX he0 (nIX enx hleft));have HRG1:=qH (nIX hrg1 (nIX hlt hk1));have hlook:∀z,bS E2 x=z->(Instr.lookup 127 m2 (.string x) true).run Tryz.prog w1= .ok (.tuple #[(z.map Ent.ptr).getD (.pointer none),.bool z.isSome]) w1:=fun z hz=>by rw [<-hz];exact(H.out.2.1.map.ext hk1).lookup_ok x
    rw [enx]at hen ⊢;clear he0 enx hleft hrg1 hlt hk1 hlk hg1 hsz hrg;cases hf:bS E2 x with
    |none=>
     have hl:=hlook none hf;have HF:=qH hf;clear hlook hf;simp only [Option.map_none,Option.getD_none,Option.isSome_none]at hl;go_wp2_with fail
     go_ret;refine RetN.mk HRG1.out.2.2 ?_;have h1:oI E2 e0=false:=by unfold oI;rw [HEN.out.2.1,HF.out]
     have h2:nP E1 E2=false:=by unfold nP;rw [List.all_eq_false.2 ⟨e0,HEN.out.1,by rw [h1];simp⟩,Bool.and_false]
     rw [h2];rfl
    |some f=>
     have hl:=hlook (some f) hf;obtain⟨hf2,hfn⟩:=cZ hf;have hmt:oI E2 e0=decide (e0.ar=f.ar/\e0.LL=f.LL):=by unfold oI;rw [HEN.out.2.1,hf]
     have HF:=qH (nIX hf2 (nIX hfn hmt));clear hlook hf hf2 hfn hmt;simp only [Option.map_some,Option.getD_some,Option.isSome_some]at hl;go_wp2_with fail
     refine(aEt (H.out.1.ext HRG1.out.2.2) (H.out.2.1.ext HRG1.out.2.2) HEN.out.1 HF.out.1 (H.out.2.2 e0 HEN.out.1 f HF.out.1 (by rw [HEN.out.2.1,HF.out.2.1]))).mono ?_;rintro e w2 ⟨v,rfl,hk2,rfl⟩;have hrg2:=HRG1.out.1.kp hk2 id (fun _ _=>id);have HRG2:=qH (nIX hrg2 (HRG1.out.2.2.trans hk2));clear hk2 hrg2 hl hen;cases hv:decide (e0.ar=f.ar/\e0.LL=f.LL)with
     |false=>
      have HV:=qH hv;clear hv;go_wp2_with fail
      go_ret;refine RetN.mk HRG2.out.2 ?_;have h1:oI E2 e0=false:=by rw [HF.out.2.2];exact HV.out
      have h2:nP E1 E2=false:=by unfold nP;rw [List.all_eq_false.2 ⟨e0,HEN.out.1,by rw [h1];simp⟩,Bool.and_false]
      rw [h2];rfl
     |true=>
      have HV:=qH hv;clear hv;go_wp2_with fail
      go_roundw
      case rel=>exact⟨_,_,HRG2.out.1,qH HRG2.out.2,qH fun e he hl=>by
       rcases HEN.out.2.2 e he hl with h|rfl
       ·exact HIN.out.2 e he h
       ·rw [HF.out.2.2];exact HV.out⟩
      case measure=>
       rw [HRG2.out.1.left_eq,HRG.out.left_eq];exact HRG1.out.2.1
 ·have q1:((n1:Int) !=(n2:Int))=true:=by rw [bne_iff_ne];omega
  have HNE:=qH hne;clear hne;go_enter Tryz.func93,Tryz.ntmps93;go_wp2;go_ret;exact RetN.mk (Kp.refl _) (by unfold nP;rw [decide_eq_false (by rw [EN.out.1,EN.out.2];exact HNE.out)];rfl)
set_option maxHeartbeats 4000000 in
theorem zY{S:Nat->Prop}{w:World}{bb1 bb2:Nat}{r1 r2:Value}{E1 E2:List Ent}(h1:BaseM S w bb1 r1 E1)(h2:BaseM S w bb2 r2 E2)(hap:∀e∈E1,∀f∈E2,e.name=f.name->e=f\/∀k,e.own k->¬f.own k)(hl1:E1.length≤1048576)(hl2:E2.length≤1048576):
 Calls Tryz.prog 47 #[.pointer (some ⟨bb1,0,none⟩),.pointer (some ⟨bb2,0,none⟩)] w (RetN w fun w' v=>v= .bool (nP E1 E2)):=by
 have c1:=h1.blk.cell 0 (by simp);have c2:=h2.blk.cell 0 (by simp);have HEQ:=qH (zV (h1.ext (Kp.refl w).drew) (h2.ext (Kp.refl w).drew) hap hl1 hl2);clear h1 h2 hap;simp only [List.getElem_cons_zero]at c1 c2;go_enter Tryz.func47,Tryz.ntmps47;go_wp2;refine aT (fun w':World=>w'.cell? ⟨bb1,0,none⟩=some r1/\w'.cell? ⟨bb2,0,none⟩=some r2) [] (by kernel_rfl) ⟨c1,c2⟩ (fun hHeld=>?_);refine eFX 0 ?_;refine eFX 1 ?_;refine eFX 2 ?_;refine eGX 3 ?_;refine eGX 4 ?_;refine eFX 5 ?_;refine eFX 6 ?_;refine eGX 7 ?_;refine eGX 8 ?_;refine eGX 9 ?_;refine eHX 10 ?_;refine eGX 11 ?_;refine eGX 12 ?_;refine eGX 13 ?_;refine eHX 14 ?_;refine eTX 15 fun K hK=>?_;go_simp
 (refine HEQ.out.mono ?_;rintro e w5 ⟨v,rfl,hk3,rfl⟩;have X5:=qH (show Ext w w5 from((Kp.refl w).drew).trans hk3);clear hk3)
 go_wp2_with fail
 refine hK.out _ _ (⟨X5.out.cell c1 id,X5.out.cell c2 id⟩) fun hHeld=>?_;clear hK K;refine eFX 16 ?_;refine eFX 17 ?_;refine aK (by kernel_rfl) ?_ _;go_wp2;go_ret;exact RetN.mk X5.out rfl
theorem aCl{S:Nat->Prop}{w:World}{bb1 r1 bb2 r2:Nat}{E1 E2:List Ent}(h1:BaseAt S w bb1 r1 E1)(h2:BaseAt S w bb2 r2 E2)(hap:∀e∈E1,∀f∈E2,∀k,e.own k->¬f.own k)(hl1:E1.length≤1048576)(hl2:E2.length≤1048576):
 Calls Tryz.prog 47 #[.pointer (some ⟨bb1,0,none⟩),.pointer (some ⟨bb2,0,none⟩)] w (RetN w fun w' v=>v= .bool (nP E1 E2)):=zY h1.m h2.m (fun e he f hf _=> .inr (hap e he f hf)) hl1 hl2
end
section
open Go.RowKit
end
section
open Go.ChangeShapes Go.WideShapes Go.ChangeAt Go.RowKit
noncomputable def shT:Shp Tryz.prog ByteArray:=aC7 9 Tryz.underlying9 (by kernel_rfl)
noncomputable def aC6:Shp Tryz.prog (List ByteArray):=rE 34 shT Tryz.underlying34 (by kernel_rfl) (by decide)
noncomputable def shTss:Shp Tryz.prog (List (List ByteArray)):=rE 69 aC6 Tryz.underlying69 (by kernel_rfl) (by decide)
noncomputable def pV:Shp Tryz.prog eJ:=nM 116 (gW shT (gW (aH2 3 .i64 Tryz.underlying3 (by kernel_rfl)) (gW shTss aEr))) (fs:=_) Tryz.underlying116 ⟨_,_,rfl,rfl,rfl,_,_,rfl,rfl,rfl,_,_,rfl,rfl,rfl,rfl⟩ (by kernel_rfl)
theorem aD5{α β:Type}{P:Nat->α->β->Prop}:∀(L:List α),(∀i x,L[i]?=some x->∃y,P i x y)->∃ys:List β,ys.length=L.length/\∀(i:Nat) (x:α) (y:β),L[i]?=some x->ys[i]?=some y->P i x y:=by
 intro L;induction L generalizing P with
 |nil=>exact fun _=>⟨[],rfl,fun i x y h=>by simp at h⟩
 |cons a L ih=>
  intro h;obtain⟨y0,h0⟩:=h 0 a rfl;obtain⟨ys,h1,h2⟩:=ih (P:=fun i x y=>P (i+1) x y) fun i x hx=>h (i+1) x (by simpa using hx);refine⟨y0::ys,by simp [h1],fun i x y hx hy=>?_⟩;cases i with
  |zero=>simp at hx hy;subst hx;subst hy;exact h0
  |succ i=>exact h2 i x y (by simpa using hx) (by simpa using hy)
theorem aHc{w:World}{G:Nat->Prop}{ao:Option Addr}{LL:List (List ByteArray)}(h:ElemsAt aC6 w G ao LL)(hl:∀ss∈LL,ss.length≤8796093021952):RowsIn (fun _=>True) w ao LL:=by
 have h1:∀(i:Nat) (ss:List ByteArray),LL[i]?=some ss->∃p:Option Addr×Nat×Nat,∃b off,ao=some ⟨b,off,none⟩/\w.cell? ⟨b,off+i,none⟩=some (.slice p.1 p.2.1 p.2.2)/\p.2.1=ss.length/\CellsAt w p.1 (strs ss):=fun i ss hi=>by obtain⟨b,off,es,e,_,_,⟨a1,c1,ee,hl,_,hc⟩,hcell⟩:=h i ss hi;refine⟨(a1,ss.length,c1),b,off,e,?_,rfl,aHb (hu:=Tryz.underlying9) (hc:=by kernel_rfl) hc⟩;have:=hcell 0 (.slice a1 ss.length c1) (by rw [ee];rfl);rw [show aC6.n=1 from rfl,Nat.mul_one,Nat.add_zero]at this;exact this
 obtain⟨qs,hq,hP⟩:=aD5 LL h1;have hz:∀p∈qs.zip LL,ReadsAs w p.1 p.2/\p.2.length≤8796093021952/\∀a,p.1.1=some a->True:=fun p hp=>by
  obtain⟨i,hi,e⟩:=List.getElem_of_mem hp;have h2:(qs.zip LL)[i]?=some p:=by rw [qG hi,e]
  obtain⟨h3,h4⟩:=List.getElem?_zip_eq_some.1 h2;obtain⟨b,off,_,_,h5,h6⟩:=hP i _ _ h4 h3;exact⟨⟨h5,h6⟩,hl _ (List.mem_of_getElem? h4),fun _ _=>trivial⟩
 refine⟨qs.zip LL,?_,fun i u hu=>?_,fun _ _=>trivial,hz⟩
 ·rw [List.map_snd_zip (by omega)]
 ·cases hp:(qs.zip LL)[i]? with
  |none=>rw [show(cJ (qs.zip LL))[i]?=((qs.zip LL)[i]?).map _ from List.getElem?_map ..,hp]at hu;cases hu
  |some p=>
   rw [tF _ _ _ hp]at hu;cases hu;obtain⟨h3,h4⟩:=List.getElem?_zip_eq_some.1 hp;obtain⟨b,off,e,hc,_⟩:=hP i _ _ h4 h3;exact⟨b,off,e,hc⟩
theorem aHd{w:World}{G:Nat->Prop}{ao:Option Addr}{L:List eJ}(h:ElemsAt pV w G ao L)(hl:∀q∈L,∀ss∈q.2.2.1,ss.length≤8796093021952):RelsIn (fun _=>True) w ao L:=fun i q hq=>by
 obtain⟨b,off,es,e,_,_,hat,hcell⟩:=h i q hq;obtain⟨x1,y1,e1,⟨ex1,_⟩,x2,y2,e2,⟨ex2,_⟩,x3,y3,e3,⟨ra,rcap,ex3,r1,r2,r3⟩,e4⟩:=hat;have e4':y3= []:=e4;have ee:es= [.string q.1,.int .i64 q.2.1,.slice ra q.2.2.1.length rcap]:=by rw [e1,ex1,e2,ex2,e3,ex3,e4'];rfl
 have hc:∀c u,es[c]?=some u->w.cell? ⟨b,off+i*3+c,none⟩=some u:=fun c u hu=>by have:=hcell c u hu;rw [show pV.n=3 from rfl,<-Nat.add_assoc]at this;exact this
 exact⟨b,off,ra,rcap,e,trivial,hc 0 _ (by rw [ee];rfl),hc 1 _ (by rw [ee];rfl),hc 2 _ (by rw [ee];rfl),r1,r2,aHc r3 (hl q (List.mem_of_getElem? hq))⟩
theorem aLw{L:List eJ}{N:Nat}(h:dJ pV.bulk L≤N):L.length≤N/\∀q∈L,q.2.2.1.length≤N/\∀ss∈q.2.2.1,ss.length≤N:=by refine⟨Nat.le_trans (iJ pV.bulk (fun x=>by show 1≤_+1;omega) L) h,fun q hq=>?_⟩;have h1:pV.bulk q≤N:=Nat.le_trans (lP pV.bulk hq) h;have h2:shT.bulk q.1+(1+((dJ aC6.bulk q.2.2.1+1)+0))+1≤N:=h1;have h3:=iJ aC6.bulk (fun x=>by show 1≤_+1;omega) q.2.2.1;refine⟨by omega,fun ss hs=>?_⟩;have h4:aC6.bulk ss≤_:=lP aC6.bulk hs;have h5:dJ shT.bulk ss+1≤dJ aC6.bulk q.2.2.1:=h4;have h6:=iJ shT.bulk (fun x=>by show 1≤_+1;omega) ss;omega
end
section
open Go.RowKit
def RefRows(S:Nat->Prop)(w:World)(c:Nat)(n:Nat)(LL:List (List ByteArray)):Prop:=
 ∃ao cap,Blk w c [.int .i64 n,.slice ao LL.length cap] 149/\RowsIn S w ao LL/\(LL.length≤cap/\cap≤maxLen/\(ao=none/\cap=0\/∃g,ao=some ⟨g,0,none⟩))/\¬S c/\(∀k,S k->k<w.heap.size)/\LL.length≤1048576*1048576
def ReadR(n:Nat)(ok:Nat->Prop)(w0:World)(kv:Value)(w:World):Prop:=∃i:Nat,i≤n/\kv= .int .i64 i/\ok i/\Ext w0 w
def aO9(n:Nat)(f:Nat->Nat)(w0:World)(nv kv:Value)(w:World):Prop:=∃i:Nat,i≤n/\nv= .int .i64 (f i:Nat)/\kv= .int .i64 i/\Ext w0 w
theorem aE5{α:Type}(c:α->α->Int)(zs:List α)(x y:α)(i:Nat)(h:zs[i]?=some y):below c (zs.take (i+1)) x=below c (zs.take i) x+(if c y x<0 then 1 else 0):=by obtain⟨hl,e⟩:=List.getElem?_eq_some_iff.1 h;unfold below;rw [List.take_succ_eq_append_getElem hl,List.filter_append,e];by_cases hc:c y x<0<;>simp [hc]
def lN(LL:List (List ByteArray))(ss:List ByteArray):Int:=if bD aC LL ss then(below aC LL ss:Nat)else-1
theorem sJ{α:Type}{c:α->α->Int}(O:OrdLaw c){zs:List α}(hs:Strict c zs){x y:α}{i:Nat}(hy:zs[i]?=some y)(hz:c y x=0):i=below c zs x:=by
 refine hs.place O (by have:=(List.getElem?_eq_some_iff.1 hy).1;omega) (fun u h0 hu=>?_) (fun u hu=>?_)
 ·obtain⟨h1,e1⟩:=List.getElem?_eq_some_iff.1 hu;obtain⟨h2,e2⟩:=List.getElem?_eq_some_iff.1 hy;have:=List.pairwise_iff_getElem.1 hs (i-1) i h1 h2 (by omega);rw [e1,e2]at this;exact O.lt_trans this (by omega)
 ·rw [hy]at hu;cases hu;omega
section
variable {S S':Nat->Prop}{w w':World}{c n:Nat}{LL:List (List ByteArray)}
theorem RefRows.kp{F:Nat->Prop}(h:RefRows S w c n LL)(hk:Kp F w w')(hc:¬F c)(hF:∀k,F k->¬S k):RefRows S w' c n LL:=by obtain⟨ao,cap,h1,h2,h3,h4,h5,h6⟩:=h;exact⟨ao,cap,h1.kp hk hc,h2.kp hk hF,h3,h4,fun k hS=>Nat.lt_of_lt_of_le (h5 k hS) hk.size,h6⟩
theorem RefRows.ext(h:RefRows S w c n LL)(hk:Ext w w'):RefRows S w' c n LL:=h.kp hk id fun _ x=>x.elim
theorem RefRows.wide(h:RefRows S w c n LL)(hs:∀k,S k->S' k)(hc:¬S' c)(hl:∀k,S' k->k<w.heap.size):RefRows S' w c n LL:=by obtain⟨ao,cap,h1,h2,h3,h4,h5,h6⟩:=h;exact⟨ao,cap,h1,h2.mono hs,h3,hc,hl,h6⟩
theorem RefRows.lt(h:RefRows S w c n LL):c<w.heap.size:=by obtain⟨ao,cap,h1,_⟩:=h;exact h1.lt
theorem RefRows.inS(h:RefRows S w c n LL):∀k,S k->k<w.heap.size:=by obtain⟨ao,cap,h1,h2,h3,h4,h5,_⟩:=h;exact h5
theorem RefRows.notS(h:RefRows S w c n LL):¬S c:=by obtain⟨ao,cap,h1,h2,h3,h4,h5,_⟩:=h;exact h4
theorem RefRows.len(h:RefRows S w c n LL):LL.length≤1048576*1048576:=by obtain⟨ao,cap,h1,h2,h3,h4,h5,h6⟩:=h;exact h6
theorem oA(S:Nat->Prop)(w:World)(a:Nat)(ha:a≤64)(hS:∀k,S k->k<w.heap.size):
 Calls Tryz.prog 95 #[.int .i64 a] w (RetN w fun w' v=>v= .tuple #[.pointer (some ⟨w.heap.size,0,none⟩),.int .i64 0]/\RefRows S w' w.heap.size a []):=by
 have t1:decide ((a:Int)<0)=false:=by simp
 have t2:decide ((a:Int)>64)=false:=by simp;omega
 have t3:decide (64< (a:Int))=false:=by simp;omega
 go_enter Tryz.func95,Tryz.ntmps95;go_wp2;go_ret2;refine RetN.mk ((Kp.refl w).alloc _) ⟨rfl,none,0,Blk.new w [_,_] _,RowsIn.nil _ _,⟨Nat.le_refl _,by decide,.inl ⟨rfl,rfl⟩⟩,fun h=>by have:=hS _ h;omega,fun k h=>by have:=hS k h;rw [aJ];omega,by simp⟩
theorem xB(a:Int)(w:World)(ha:a<0\/64<a):Calls Tryz.prog 95 #[.int .i64 a] w (Ret (.tuple #[.pointer none,.int .i64 2]) w):=by
 by_cases h0:a<0
 ·have t1:decide (a<0)=true:=by simp [h0]
  go_enter Tryz.func95,Tryz.ntmps95;go_wp2;go_ret2;exact Ret.mk rfl
 ·have h1:64<a:=by omega
  have t1:decide (a<0)=false:=by simp;omega
  have t2:decide (a>64)=true:=by simp;omega
  have t3:decide (64<a)=true:=by simp;omega
  go_enter Tryz.func95,Tryz.ntmps95;go_wp2;go_ret2;exact Ret.mk rfl
theorem aCa(h:RefRows S w c n LL):Calls Tryz.prog 52 #[.pointer (some ⟨c,0,none⟩)] w (Ret (.int .i64 n) w):=by obtain⟨ao,cap,h1,_⟩:=h;have c1:=h1.c0;clear h1;go_enter Tryz.func52,Tryz.ntmps52;go_wp2;go_ret;exact Ret.mk rfl
theorem yX(ss:List ByteArray)(ao:Option Addr)(m cap:Nat)(w:World)(hm:m=ss.length)(hc:CellsAt w ao (strs ss))(hl:ss.length≤8796093021952):
 Calls Tryz.prog 102 #[.slice ao m cap] w (RetN w fun w' v=>aM7 w w' v ss):=by
 subst hm;go_enter Tryz.func102,Tryz.ntmps102;go_wp2_with (first|(at_builtin;refine Halted.out ?_))
 refine Halted.mk (bO jY rfl _ _ rfl (Kp.refl (F:=fun _=>False) w) rfl (Row.nil w 9 1 (New w)) rfl hc (by simp [strs]) (gP ss) (by omega) (by unfold maxLen;omega) ?_);intro v1 w1 hr1 hk1 _ _;have HR:=qH hr1;clear hr1;go_wp2;go_ret;refine RetN.mk hk1 ?_;unfold aM7;simpa using HR.out
theorem rL(ss:List ByteArray)(ao:Option Addr)(m cap:Nat)(w:World)(hm:m=ss.length)(hc:CellsAt w ao (strs ss))(hl:m≤4611686018427387904):
 Calls Tryz.prog 133 #[.slice ao m cap] w (Ret (.bool (bP ss)) w):=by
 have HC:=qH hc;have EN:=qH hm;clear hc hm;go_enter Tryz.func133,Tryz.ntmps133;go_wp2;go_loopw [3] (fun kv wr=>wr=w/\∃i:Nat,i≤m/\kv= .int .i64 i/\∀j s,j<i->ss[j]?=some s->s.size≤4096) (fun k _=>m- (intOf k).toNat)
 case atStart=>exact⟨rfl,0,Nat.zero_le _,rfl,fun j s h=>by omega⟩
 case round=>
  obtain⟨ew,i,hi,rfl,hok⟩:=hrel;subst ew;have OK:=qH hok;clear hok;by_cases hlt:i<m
  ·obtain⟨y,hy⟩:∃y,ss[i]?=some y:=⟨_,qG (by have:=EN.out;omega)⟩;obtain⟨g,o,eao,c3⟩:=HC.out i (.string y) (by simp [strs,hy]);subst eao;have HY:=qH hy;clear hy;have i1:(i:Int)< (m:Int):=by omega
   by_cases hz:4096<y.size
   ·have t1:decide ((y.size:Int)>4096)=true:=by simp;omega
    have t2:decide ((4096:Int)< (y.size:Int))=true:=by simp;omega
    go_wp2;go_ret;have key:bP ss=false:=by
     cases hb:bP ss with
     |false=>rfl
     |true=>
      have:=List.all_eq_true.1 hb y (List.mem_of_getElem? HY.out);simp at this;omega
    exact Ret.mk (by rw [key];rfl)
   ·have t1:decide ((y.size:Int)>4096)=false:=by simp;omega
    have t2:decide ((4096:Int)< (y.size:Int))=false:=by simp;omega
    go_wp2;go_roundw
    case rel=>
     refine⟨by first|rfl|trivial,i+1,by omega,nMX,fun j s hj hs=>?_⟩;by_cases e:j=i
     ·subst e;rw [HY.out]at hs;cases hs;omega
     ·exact OK.out j s (by omega) hs
    case measure=>simp [intOf];omega
  ·go_wp2;go_ret;have key:bP ss=true:=List.all_eq_true.2 fun y hy=>by
    obtain⟨j,hj,rfl⟩:=List.mem_iff_getElem.1 hy;have:=OK.out j _ (by have:=EN.out;omega) (qG hj);simpa using this
   exact Ret.mk (by rw [key];rfl)
theorem nY(v:Value)(w:World):Calls Tryz.prog 134 #[.pointer none,v] w (Ret (.int .i64 (-1)) w):=by go_enter Tryz.func134,Tryz.ntmps134;go_wp2;go_ret;exact Ret.mk rfl
set_option maxHeartbeats 1000000 in
theorem nZ(h:RefRows S w c n LL)(hst:Strict aC LL){xo:Option Addr}{m xc:Nat}{ss:List ByteArray}(hm:m=ss.length)(hx:CellsAt w xo (strs ss))(hss:ss.length≤8796093021952):
 Calls Tryz.prog 134 #[.pointer (some ⟨c,0,none⟩),.slice xo m xc] w (RetN w fun w' v=>v= .int .i64 (lN LL ss)):=by
 have hl:=h.len;obtain⟨ao,cap,h1,h2,_⟩:=h;have c2:=h1.c1;obtain⟨N,en⟩:∃n,n=LL.length:=⟨_,rfl⟩;rw [<-en]at c2 hl;have HC:=qH h2;have EN:=qH en;have HX:=qH hx;have HT:=qH hst;clear h1 h2 en hx hst;subst hm;go_enter Tryz.func134,Tryz.ntmps134;go_wp2;go_loopw [5] (ReadR N (fun i=>∀j z,j<i->LL[j]?=some z->¬aC z ss=0) w) (fun k _=>N- (intOf k).toNat)
 case atStart=>exact⟨0,Nat.zero_le _,rfl,fun j z h=>by omega,Kp.refl _⟩
 case round=>
  obtain⟨i,hi,rfl,hok,hex⟩:=hrel;have OK:=qH hok;clear hok;have d2:=hex.cell c2 id;by_cases hlt:i<N
  ·obtain⟨y,hy⟩:∃y,LL[i]?=some y:=⟨_,qG (by have:=EN.out;omega)⟩;obtain⟨g,o,x,xcap,eao,c3,hcy,hly,_⟩:=(HC.out.ext hex).get hy;subst eao;have HY:=qH hy;clear hy;have i1:(i:Int)< (N:Int):=by omega
   have i2:(0:Int)≤(i:Int):=by omega
   have HCM:=qH (fun W (hW:Ext wr W)=>jS y ss x xo xcap xc W (hcy.ext hW) ((HX.out.ext hex).ext hW) (by unfold maxLen;omega) (by unfold maxLen;omega));generalize hcc:aC y ss=cc at HCM;have HCC:=qH hcc;clear hcc hcy;by_cases hz:cc=0
   ·have t1:(cc==0)=true:=by simp [hz]
    go_wp2_with fail
    refine(HCM.out _ (Kp.refl _)).mono ?_;rintro e w1 ⟨rfl,k1,rfl⟩;clear d2 c3;go_wp2;go_ret;have key:lN LL ss=i:=by unfold lN;rw [if_pos (fW.2 ⟨y,List.mem_of_getElem? HY.out,by rw [HCC.out];exact hz⟩),<-sJ (c:=aC) (fG id) HT.out HY.out (by rw [HCC.out];exact hz)]
    exact RetN.mk (hex.drewN k1) (by rw [key];rfl)
   ·have t1:(cc==0)=false:=by simp [hz]
    go_wp2_with fail
    refine(HCM.out _ (Kp.refl _)).mono ?_;rintro e w1 ⟨rfl,k1,rfl⟩;clear d2 c3;go_wp2;go_roundw
    case rel=>
     refine⟨i+1,by omega,nMX,fun j z hj hz'=>?_,hex.drewN k1⟩;by_cases e:j=i
     ·subst e;rw [HY.out]at hz';cases hz';rw [HCC.out];exact hz
     ·exact OK.out j z (by omega) hz'
    case measure=>simp [intOf];omega
  ·go_wp2;go_ret;have key:lN LL ss= -1:=by
    unfold lN;rw [if_neg];intro hb;obtain⟨y,hy,hz⟩:=fW.1 hb;obtain⟨j,hj,rfl⟩:=List.mem_iff_getElem.1 hy;exact OK.out j _ (by have:=EN.out;omega) (qG hj) hz
   exact RetN.mk hex (by rw [key];rfl)
set_option maxHeartbeats 1000000 in
theorem vM(h:RefRows S w c n LL){xo:Option Addr}{m xc:Nat}{ss:List ByteArray}(hm:m=ss.length)(hx:CellsAt w xo (strs ss))(hss:ss.length≤8796093021952):
 Calls Tryz.prog 135 #[.pointer (some ⟨c,0,none⟩),.slice xo m xc] w (RetN w fun w' v=>v= .int .i64 (below aC LL ss:Nat)):=by
 have hl:=h.len;obtain⟨ao,cap,h1,h2,_⟩:=h;have c2:=h1.c1;obtain⟨N,en⟩:∃n,n=LL.length:=⟨_,rfl⟩;rw [<-en]at c2 hl;have HC:=qH h2;have EN:=qH en;have HX:=qH hx;clear h1 h2 en hx;subst hm;obtain⟨f,ef⟩:∃f:Nat->Nat,f=fun i=>below aC (LL.take i) ss:=⟨_,rfl⟩;have F0:f 0=0:=by rw [ef];rfl
 have FL:=qH (show ∀i,f i≤i from fun i=>by rw [ef];exact Nat.le_trans (below_le _ _) (by simp;omega));have FS:=qH (show ∀i y,LL[i]?=some y->f (i+1)=f i+(if aC y ss<0 then 1 else 0)from fun i y h=>by rw [ef];exact aE5 aC LL ss y i h);have FN:=qH (show f N=below aC LL ss by rw [ef];show below aC (LL.take N) ss=_;rw [List.take_of_length_le (by have:=EN.out;omega)]);clear ef;go_enter Tryz.func135,Tryz.ntmps135;go_wp2;go_loopw [5,6] (aO9 N f w) (fun _ k _=>N- (intOf k).toNat)
 case atStart=>exact⟨0,Nat.zero_le _,by rw [F0];rfl,rfl,Kp.refl _⟩
 case round=>
  obtain⟨i,hi,rfl,rfl,hex⟩:=hrel;have d2:=hex.cell c2 id;by_cases hlt:i<N
  ·obtain⟨y,hy⟩:∃y,LL[i]?=some y:=⟨_,qG (by have:=EN.out;omega)⟩;obtain⟨g,o,x,xcap,eao,c3,hcy,hly,_⟩:=(HC.out.ext hex).get hy;subst eao;have hs:=FS.out i y hy;have hbi:=FL.out i;have HCM:=qH (fun W (hW:Ext wr W)=>jS y ss x xo xcap xc W (hcy.ext hW) ((HX.out.ext hex).ext hW) (by unfold maxLen;omega) (by unfold maxLen;omega));generalize hcc:aC y ss=cc at HCM hs;have HS:=qH hs;have i1:(i:Int)< (N:Int):=by omega
   have i2:(0:Int)≤(i:Int):=by omega
   clear hcc hcy hs hy;by_cases hz:cc<0
   ·have t1:decide (cc<0)=true:=by simp [hz]
    go_wp2_with fail
    refine(HCM.out _ (Kp.refl _)).mono ?_;rintro e w1 ⟨rfl,k1,rfl⟩;clear d2 c3;go_wp2;go_roundw
    case rel=>exact⟨i+1,by omega,by rw [HS.out,if_pos hz];go_num,nMX,hex.drewN k1⟩
    case measure=>simp [intOf];omega
   ·have t1:decide (cc<0)=false:=by simp;omega
    go_wp2_with fail
    refine(HCM.out _ (Kp.refl _)).mono ?_;rintro e w1 ⟨rfl,k1,rfl⟩;clear d2 c3;go_wp2;go_roundw
    case rel=>exact⟨i+1,by omega,by rw [HS.out,if_neg (by omega)];rfl,nMX,hex.drewN k1⟩
    case measure=>simp [intOf];omega
  ·obtain rfl:i=N:=by omega
   go_wp2;go_ret;exact RetN.mk hex (by rw [<-FN.out];rfl)
end
def GathR(n:Nat)(LL:Nat->List (List ByteArray))(w0:World)(lv kv:Value)(w:World):Prop:=∃i:Nat,i≤n/\kv= .int .i64 i/\Ext w0 w/\OwnRows w0.heap.size w lv (LL i)
def Grows(w:World)(S S':Nat->Prop):Prop:=(∀k,S k->S' k)/\∀k,S' k->S k\/w.heap.size≤k
theorem Grows.refl(w:World)(S:Nat->Prop):Grows w S S:=⟨fun _ h=>h,fun _ h=> .inl h⟩
theorem Grows.trans{w w':World}{S S' S'':Nat->Prop}(h:Grows w S S')(h':Grows w' S' S'')(hs:w.heap.size≤w'.heap.size):Grows w S S'':=
 ⟨fun k hk=>h'.1 k (h.1 k hk),fun k hk=>(h'.2 k hk).elim (fun h2=>h.2 k h2) (fun h2=> .inr (Nat.le_trans hs h2))⟩
section
variable {S S':Nat->Prop}{w w':World}{c n c1 c2 n1 n2:Nat}{LL L1 L2:List (List ByteArray)}{v:Value}{lo:Nat}
theorem OwnRows.wp{W w1:World}{x:gZ}{ss:List ByteArray}{ops:Array Oper}{rest:List Oper}{o:Oper}{a:Act}{Q:Exit->Act->World->Prop}(h:OwnRows lo W v LL)(hk:Ext W w1)(hlo:lo≤W.heap.size)
 (hx:Row w1 9 1 (.slice x.1 x.2.1 x.2.2) ss.length (strs ss) (New W))(hss:ss.length≤8796093021952)(hll:LL.length≤1048576*1048576)(hgd:o.guard=none)(s y:Operand)
 (ho:o.op= .call {callee:= .builtin .append,args:=#[s,y],argTypes:=#[69,69]})(hs:a.eval s=v)(hy:a.eval y= .slice (some ⟨w1.heap.size,0,none⟩) 1 1)
 (H:∀v' w',(∃ao cap,v'= .slice ao (LL.length+1) cap)->OwnRows lo w' v' (LL++ [ss])->Kp (fun g=>v.ownBlock=some g) (w1.alloc (.cells #[.slice x.1 x.2.1 x.2.2] 34)) w'->wpList Tryz.prog ops Q rest (a.put o.dst v') w'):
 wpList Tryz.prog ops Q (o::rest) a (w1.alloc (.cells #[.slice x.1 x.2.1 x.2.2] 34)):=by
 obtain⟨ps,rfl,r2,r3,r4⟩:=h;have hex:Ext W (w1.alloc (.cells #[.slice x.1 x.2.1 x.2.2] 34)):=hk.alloc _;have r2':=r2.ext hex;rw [List.length_map]at hll;refine sR dP hgd s y ho (Kp.refl (F:=fun g=>v.ownBlock=some g) _) (M:=fun g=>v.ownBlock=some g\/ (w1.alloc (.cells #[.slice x.1 x.2.1 x.2.2] 34)).heap.size≤g) (fun g h h'=>by rcases h with h|h;exact h;omega) (fun g h=> .inr h) hs
  (Row.mono r2'.own fun g h=> .inl h) hy (m:=1) (news:= [.slice x.1 x.2.1 x.2.2]) rfl (CellsAt.one w1 _ _) (by simp;rfl) (by omega) (by unfold maxLen;omega) ?_
 intro v' w' hr' hk' _ _;obtain⟨ao,cap,e,_⟩:=hr'.shape;refine H v' w' ⟨ao,cap,by rw [e];simp⟩ ?_ hk';exact OwnRows.push r2' (fun p hp=>⟨(r3 p hp).1.ext hex,(r3 p hp).2⟩) r4 (B:=W.heap.size) (fun p hp g hg=>(r3 p hp).1.lt g hg) hlo (hx.alloc _) hss
  (Row.mono hr' fun g hg=>by rcases hg with hg|hg;exact r2.block g hg;exact Nat.le_trans hlo (Nat.le_trans hex.size hg)) hk'
theorem aF5(w:World):Calls Tryz.prog 54 #[.pointer none] w (Ret (.slice none 0 0) w):=by go_enter Tryz.func54,Tryz.ntmps54;go_wp2;go_ret;exact Ret.mk rfl
set_option maxHeartbeats 1000000 in
theorem xD(h:RefRows S w c n LL):Calls Tryz.prog 54 #[.pointer (some ⟨c,0,none⟩)] w (RetN w fun w' v=>OwnRows w.heap.size w' v LL):=by
 have hl:=h.len;obtain⟨ao,cap,h1,h2,_⟩:=h;have c2:=h1.c1;obtain⟨N,en⟩:∃n,n=LL.length:=⟨_,rfl⟩;rw [<-en]at c2 hl;have HC:=qH h2;have EN:=qH en;clear h1 h2 en;go_enter Tryz.func54,Tryz.ntmps54;go_wp2;go_loopw [3,4] (GathR N (fun i=>LL.take i) w) (fun _ k _=>N- (intOf k).toNat)
 case atStart=>exact⟨0,Nat.zero_le _,rfl,Kp.refl _,OwnRows.nil _ _⟩
 case round=>
  obtain⟨i,hi,rfl,hex,hown⟩:=hrel;have d2:=hex.cell c2 id;by_cases hlt:i<N
  ·obtain⟨y,hy⟩:∃y,LL[i]?=some y:=⟨_,qG (by have:=EN.out;omega)⟩;obtain⟨g,o,x,xcap,eao,c3,hcy,hly,_⟩:=(HC.out.ext hex).get hy;subst eao;have et:LL.take (i+1)=LL.take i++ [y]:=by rw [List.take_add_one,hy];rfl
   have htl:(LL.take i).length=i:=by rw [List.length_take,<-EN.out];omega
   have hz:=hex.size;have i1:(i:Int)< (N:Int):=by omega
   have i2:(0:Int)≤(i:Int):=by omega
   have HCP:=qH (yX y x y.length xcap wr rfl hcy hly);have hown:OwnRows w.heap.size wr u3 (LL.take i):=hown;obtain⟨aov,capv,ev,_⟩:=hown.shape;rw [htl]at ev;subst ev;have HR:=qH hown;have ET:=qH et;clear hcy hy et hown;go_wp2_with fail
   refine HCP.out.mono ?_;rintro e w1 ⟨v1,rfl,hk1,hr1⟩;obtain⟨ao1,cap1,ev,_,_⟩:=hr1.shape;subst ev;clear d2 c3;go_wp2_with (first|(at_builtin;refine Halted.out ?_))
   refine Halted.mk (OwnRows.wp (x:=(ao1,y.length,cap1)) HR.out hk1 hz hr1 hly (by omega) rfl _ _ rfl rfl rfl ?_);rintro v' w2 ⟨ao2,cap2,rfl⟩ hown2 hk2;have HO:=qH (nIX hown2 hk2);have HB:=qH (fun g hg=>(HR.out.lt g hg).1);clear hown2 hk2;go_wp2;go_roundw
   case rel=>exact⟨i+1,by omega,nMX,(hex.trans (hk1.alloc _)).trans' HO.out.2 (fun k hk h=>by have:=HB.out k h;omega),by have h:=HO.out.1;rw [htl]at h;show OwnRows _ _ _ (LL.take (i+1));rw [ET.out];exact h⟩
   case measure=>simp [intOf];omega
  ·obtain rfl:i=N:=by omega
   have hown:OwnRows w.heap.size wr u3 (LL.take i):=hown;rw [List.take_of_length_le (by have:=EN.out;omega)]at hown;obtain⟨aov,capv,ev,_⟩:=hown.shape;subst ev;have HR:=qH hown;clear hown;go_wp2;go_ret;exact RetN.mk hex HR.out
end
theorem CellsAt.sub'{w:World}{g off:Nat}{vs:List Value}(h:CellsAt w (some ⟨g,off,none⟩) vs)(k:Nat):CellsAt w (some ⟨g,off+k,none⟩) (vs.drop k):=by intro i u hu;rw [List.getElem?_drop]at hu;obtain⟨b,o,e,hc⟩:=h (k+i) u hu;cases e;exact⟨g,off+k,rfl,by rw [Nat.add_assoc];exact hc⟩
theorem CellsAt.take'{w:World}{ao:Option Addr}{vs:List Value}(h:CellsAt w ao vs)(k:Nat):CellsAt w ao (vs.take k):=by
 intro i u hu;rw [List.getElem?_take]at hu;split at hu
 ·exact h i u hu
 ·cases hu
theorem Row.cast'{w:World}{e:TypeId}{k:Nat}{v:Value}{n n':Nat}{xs xs':List Value}{M:Nat->Prop}(h:Row w e k v n xs M)(hn:n=n')(hx:xs=xs'):Row w e k v n' xs' M:=by subst hn hx;exact h
theorem wX(ps:List eY)(k:Nat):(cJ ps).take k=cJ (ps.take k):=by simp [cJ]
theorem wY(ps:List eY)(k:Nat):(cJ ps).drop k=cJ (ps.drop k):=by simp [cJ]
section
variable {S S':Nat->Prop}{w w0 w':World}{c n:Nat}{LL:List (List ByteArray)}{v:Value}
theorem RefRows.store{lv0:Value}(hex:Ext w0 w)(hc:c<w0.heap.size)(hnS:¬S c)(hS:∀k,S k->k<w0.heap.size)(hB:Blk w c [.int .i64 n,lv0] 149){ps:List eY}(hr:Row w 34 1 v ps.length (cJ ps) (New w0))
 (hall:∀p∈ps,ReadsAs w p.1 p.2/\p.2.length≤8796093021952/\∀a,p.1.1=some a->S a.block\/ (w0.heap.size≤a.block/\a.block<w.heap.size))(hl:ps.length≤1048576*1048576):
 RefRows (fun k=>S k\/ (w0.heap.size≤k/\k<w.heap.size)) (w.setCell ⟨c,1,none⟩ v) c n (ps.map Prod.snd):=by
 have hk:Kp (fun k=>k=c) w (w.setCell ⟨c,1,none⟩ v):=Kp.setCell (F:=fun k=>k=c) (Kp.refl w) (fun _=>rfl) v;have hz:=hex.size;have hlt:=hr.lt;have hb:=hr.block;have hform:∃ao cap,v= .slice ao ps.length cap/\CellsAt w ao (cJ ps)/\(ps.length≤cap/\cap≤maxLen/\(ao=none/\cap=0\/∃g,ao=some ⟨g,0,none⟩)):=by
  obtain⟨ao,cap,e,h1,h2⟩:=hr.shape;refine⟨ao,cap,e,h1,h2,?_⟩;subst e;obtain⟨_,⟨e,h3⟩|⟨g,cap',rest,e,_,_,_,h4,h5⟩⟩:=hr
  ·simp only [Value.slice.injEq]at e;obtain⟨rfl,_,rfl⟩:=e;exact⟨by decide,.inl ⟨rfl,rfl⟩⟩
  ·simp only [Value.slice.injEq]at e;obtain⟨rfl,_,rfl⟩:=e;exact⟨h5,.inr ⟨_,rfl⟩⟩
 obtain⟨ao,cap,rfl,hcs,hf⟩:=hform;have hin:RowsIn (fun k=>S k\/ (w0.heap.size≤k/\k<w.heap.size)) w ao (ps.map Prod.snd):=
  ⟨ps,rfl,hcs,fun a e=>by subst e;exact .inr ⟨hb _ rfl,hlt _ rfl⟩,hall⟩
 have hcn:¬(S c\/ (w0.heap.size≤c/\c<w.heap.size)):=fun h=>by
  rcases h with h|h
  ·exact hnS h
  ·omega
 refine⟨ao,cap,by simpa using hB.set 1 (.slice ao ps.length cap),hin.kp hk (fun k e h=>by subst e;exact hcn h),by simpa using hf,hcn,fun k h=>?_,by simpa using hl⟩;have:=hk.size;rcases h with h|h
 ·have:=hS k h;omega
 ·omega
def RefAdded(S:Nat->Prop)(w:World)(c n:Nat)(LL:List (List ByteArray))(ss:List ByteArray)(w':World)(v:Value):Prop:=
 v= .tuple #[.bool (aI n LL ss).1,.int .i64 ((aI n LL ss).2:Nat)]/\∃S',Grows w S S'/\RefRows S' w' c n (aP n LL ss)
theorem RefAdded.same{ss:List ByteArray}(h:RefRows S w c n LL)(hk:Ext w w')(hv:v= .tuple #[.bool (aI n LL ss).1,.int .i64 ((aI n LL ss).2:Nat)])(h0:aP n LL ss=LL):RefAdded S w c n LL ss w' v:=
 ⟨hv,S,Grows.refl _ _,by rw [h0];exact h.ext hk⟩
set_option maxHeartbeats 2000000 in
theorem qM(h:RefRows S w c n LL)(hst:Strict aC LL){xo:Option Addr}{m xc:Nat}{ss:List ByteArray}(hm:m=ss.length)(hx:CellsAt w xo (strs ss))(hss:ss.length≤8796093021952)(hl1:LL.length+1≤1048576*1048576):
 Calls Tryz.prog 96 #[.pointer (some ⟨c,0,none⟩),.slice xo m xc] w (RetF (fun k=>k=c) w (RefAdded S w c n LL ss)):=by
 have HH:=qH h;obtain⟨ao,cap,B0,R0,⟨f1,f2,f3⟩,hnS,hSw,_⟩:=h;have c1:=B0.c0;have HT:=qH (rL ss xo m xc w hm hx (by omega));have HF:=qH (nZ HH.out hst (xc:=xc) hm hx hss);have HX:=qH (nIX hx (nIX hst (nIX hnS hSw)));have HB:=qH (nIX B0 R0);have F3:=qH f3;clear hst hx hnS hSw B0 R0 f3;by_cases h1:m=n
 ·have q1:((m:Int) !=(n:Int))=false:=by simp [h1]
  have H1:=qH h1;clear h1;have hn:ss.length=n:=by rw [<-hm,H1.out]
  have HN:=qH hn;have HM:=qH hm;cases ht:bP ss with
  |false=>
   have e0:aI n LL ss=(false,31):=by unfold aI;rw [if_neg (by simp [hn]),if_pos ht]
   rw [ht]at HT;clear ht hn hm f1 f2 hss hl1;go_enter Tryz.func96,Tryz.ntmps96;go_wp2_with fail
   refine HT.out.mono ?_;rintro e w1 ⟨rfl,rfl⟩;go_wp2;go_ret2;exact RetF.mk (Kp.refl _) (RefAdded.same HH.out (Kp.refl _) (by rw [e0];rfl) (by unfold aP;rw [e0];rfl))
  |true=>
   rw [ht]at HT;cases hin:bD aC LL ss with
   |true=>
    have e0:aI n LL ss=(false,0):=by unfold aI;rw [if_neg (by simp [hn]),if_neg (by simp [ht]),if_neg (by simp [hin]),hin];rfl
    have e1:aP n LL ss=LL:=by unfold aP bT;rw [e0,if_pos rfl,if_pos hin]
    have ef:lN LL ss=(below aC LL ss:Nat):=by unfold lN;rw [if_pos hin]
    rw [ef]at HF;generalize below aC LL ss=bl at HF;have E:=qH (nIX e0 e1);clear e0 e1 ef hin ht hn hm f1 f2 hss hl1;have t1:decide ((bl:Int)≥0)=true:=by simp
    go_enter Tryz.func96,Tryz.ntmps96;go_wp2_with fail
    refine HT.out.mono ?_;rintro e w1 ⟨rfl,rfl⟩;go_wp2_with fail
    refine HF.out.mono ?_;rintro e w1 ⟨v,rfl,hk,rfl⟩;have HK:=qH hk;clear hk;go_wp2;go_ret2;exact RetF.mk (Ext.kp HK.out) (RefAdded.same HH.out HK.out (by rw [E.out.1];rfl) E.out.2)
   |false=>
    have ef:lN LL ss= -1:=by unfold lN;rw [if_neg (by simp [hin])]
    rw [ef]at HF;by_cases h65:65536≤LL.length
    ·have e0:aI n LL ss=(false,4):=by unfold aI;rw [if_neg (by simp [hn]),if_neg (by simp [ht]),if_pos ⟨h65,hin⟩]
     have E:=qH e0;clear e0 ef hin ht hn hm hss hl1;have c2:=HB.out.1.c1;have t1:decide ((LL.length:Int)≥65536)=true:=by simp;omega
     have t2:decide ((65536:Int)≤(LL.length:Int))=true:=by simp;omega
     go_enter Tryz.func96,Tryz.ntmps96;go_wp2_with fail
     refine HT.out.mono ?_;rintro e w1 ⟨rfl,rfl⟩;go_wp2_with fail
     refine HF.out.mono ?_;rintro e w1 ⟨v,rfl,hk,rfl⟩;have d2:=hk.cell c2 id;have HK:=qH hk;clear hk;go_wp2;go_ret2;exact RetF.mk (Ext.kp HK.out) (RefAdded.same HH.out HK.out (by rw [E.out];rfl) (by unfold aP;rw [E.out];rfl))
    ·have e0:aI n LL ss=(true,0):=by unfold aI;rw [if_neg (by simp [hn]),if_neg (by simp [ht]),if_neg (by simp [h65]),hin];rfl
     have e1:aP n LL ss=LL.take (below aC LL ss)++ss::LL.drop (below aC LL ss):=by unfold aP bT;rw [e0,if_pos rfl,if_neg (by simp [hin])]
     have E:=qH (nIX e0 e1);clear e0 e1 ef hin ht;have hle:=below_le (c:=aC) LL ss;have HW:=qH (fun W (hW:Ext w W)=>vM (HH.out.ext hW) (xc:=xc) hm (HX.out.1.ext hW) hss);generalize below aC LL ss=b at*;have HCP:=qH (fun W (hW:Ext w W)=>yX ss xo m xc W hm (HX.out.1.ext hW) hss);obtain⟨N,en⟩:∃n,n=LL.length:=⟨_,rfl⟩;have c2:w.cell? ⟨c,1,none⟩=some (.slice ao N cap):=by rw [en,HB.out.1.cell'];rfl
     rw [<-en]at hle h65 hl1 f1;have EN:=qH (nIX en hm);clear en;have t1:decide ((N:Int)≥65536)=false:=by simp;omega
     have t2:decide ((65536:Int)≤(N:Int))=false:=by simp;omega
     unfold maxLen at f2;have hcw:=HH.out.lt;have hmm:m≤8796093021952:=by omega
     clear hm hn;go_enter Tryz.func96,Tryz.ntmps96;go_wp2_with fail
     refine HT.out.mono ?_;rintro e w1 ⟨rfl,rfl⟩;go_wp2_with fail
     refine HF.out.mono ?_;rintro e w1 ⟨v,rfl,hk1,rfl⟩;have d2:=hk1.cell c2 id;go_wp2_with fail
     refine(HW.out _ hk1).mono ?_;rintro e w2 ⟨v,rfl,hk2,rfl⟩;have hx2:=hk1.trans hk2;have d3:=hx2.cell c2 id;clear d2 t1 t2;obtain⟨ps,hE,hcs,_,hall⟩:=HB.out.2;have hpn:ps.length=N:=by rw [EN.out.1,hE];simp
     have PS:=qH (nIX hE (nIX hcs (nIX hall hpn)));clear hE hcs hall hpn;rcases F3.out with⟨rfl,rfl⟩|⟨g,rfl⟩
     ·have hN0:N=0:=by omega
      have hb0:b=0:=by omega
      subst hN0 hb0;clear f1 f2 hle;go_wp2_with (first|(at_builtin;refine Halted.out ?_))
      refine Halted.mk (bO dP rfl _ _ rfl hx2 rfl (Row.nil w2 34 1 (New w)) rfl (news:=(cJ ps).take 0) (by simp;exact CellsAt.nil _ _) (by simp) (by simp) (by decide) (by decide) ?_);intro v1 w3 hr1 hk3 _ _;have HR1:=qH hr1;clear hr1;go_wp2_with fail
      refine(HCP.out _ hk3).mono ?_;rintro e w3c ⟨vc,rfl,hkc,hrc⟩;obtain⟨ao1,cap1,ev,_,_⟩:=hrc.shape;subst ev;have HRC:=qH (nIX hkc hrc);have hk3c:=hk3.trans hkc;clear hkc hrc;go_wp2_with (first|(at_builtin;refine Halted.out ?_))
      refine Halted.mk (bO dP rfl _ _ rfl (hk3c.alloc (.cells #[.slice ao1 ss.length cap1] 34)) rfl ((HR1.out.ext HRC.out.1).alloc _) rfl (CellsAt.one w3c (.slice ao1 ss.length cap1) 34) rfl (by simp;rfl) (by omega) (by unfold maxLen;omega) ?_);intro v2 w4 hr2 hk4 hk4' _;have HR2:=qH (nIX hr2 (nIX hk4 hk4'));clear hr2 hk4';have e1:=hk4.cell c2 id;go_wp2_with (first|(at_builtin;refine Halted.out ?_))
      refine Halted.mk (bO dP rfl _ _ rfl hk4 rfl HR2.out.1 rfl (news:=(cJ ps).drop 0) (by rw [List.drop_of_length_le (by rw [lC,PS.out.2.2.2];exact Nat.le_refl _)];exact CellsAt.nil _ _) (by rw [List.length_drop,lC];have:=PS.out.2.2.2;omega) (fun u hu=>tE ps u (List.mem_of_mem_drop hu)) (by omega) (by unfold maxLen;omega) ?_);intro v3 w5 hr3 hk5 hk5' _;obtain⟨ao3,n3,cap3,e3,_⟩:∃ao n cap,v3= .slice ao n cap/\True:=by obtain⟨ao,cap,e,_⟩:=hr3.shape;exact⟨_,_,_,e,trivial⟩
      subst e3;have g1:=hk5.cell c2 id;have g2:=(HB.out.1.ext hk5).free 1;have HR3:=qH (nIX hr3 (nIX hk5 hk5'));clear hr3 hk5';go_wp2;go_ret2;obtain⟨hr3,hk5,hk5'⟩:=HR3.out;obtain⟨hr2,hk4,hk4'⟩:=HR2.out;obtain⟨hkc,hrc⟩:=HRC.out;obtain⟨hE,hcs,hall,hpn⟩:=PS.out;obtain⟨hx0,hst0,hnS0,hSw0⟩:=HX.out;have hne:9≠34:=by decide
      have q1:=(show Row w3c 9 1 (.slice ao1 ss.length cap1) ss.length (strs ss) (New w3)from hrc).alloc (.cells #[.slice ao1 ss.length cap1] 34);have q2:=q1.kp' hk4' fun g hg _ hf=>q1.sort_ne ((HR1.out.ext hkc).alloc (.cells #[.slice ao1 ss.length cap1] 34)) hne hg hf;have q3:=q2.kp' hk5' fun g hg _ hf=>q2.sort_ne hr2 hne hg hf;have q4:=Row.readsAs (x:=(ao1,ss.length,cap1)) q3;have eL:(ps.take 0++((ao1,ss.length,cap1),ss)::ps.drop 0).map Prod.snd=aP n LL ss:=by rw [E.out.2,hE];simp
      have hlen:(ps.take 0++(((ao1,ss.length,cap1),ss):eY)::ps.drop 0).length=0+1:=by rw [List.length_append,List.length_cons,List.length_take,List.length_drop];omega
      have hfin:=RefRows.store (S:=S) (n:=n) hk5 hcw hnS0 hSw0 (HB.out.1.ext hk5) (ps:=ps.take 0++((ao1,ss.length,cap1),ss)::ps.drop 0) (v:= .slice ao3 n3 cap3)
       (hr3.cast' (by first|(rw [hlen];omega)|rw [hlen]) (by rw [jC,wX,wY];simp [cJ])) (fun p hp=>by
        have hp':p∈ps\/p=((ao1,ss.length,cap1),ss):=by
         rcases List.mem_append.1 hp with h|h
         ·exact .inl (List.mem_of_mem_take h)
         ·rcases List.mem_cons.1 h with h|h
          ·exact .inr h
          ·exact .inl (List.mem_of_mem_drop h)
        rcases hp' with hp'|rfl
        ·obtain⟨h1,h2,h3⟩:=hall p hp';exact⟨⟨h1.1,h1.2.ext hk5⟩,h2,fun a e=> .inl (h3 a e)⟩
        ·refine⟨q4.1,hss,fun a e=> .inr ?_⟩;have:=q4.2 a e;have hz3:=hk3.size;exact⟨Nat.le_trans hz3 this.1,this.2⟩) (by rw [hlen];omega)
      rw [eL]at hfin;refine RetF.mk (Kp.setCell (F:=fun k=>k=c) (Ext.kp hk5) (fun _=>rfl) _) ⟨by rw [E.out.1];rfl,_,⟨fun k h=> .inl h,fun k h=>h.imp id fun h=>h.1⟩,hfin⟩
     ·have hp1:(b:Int)≤(cap:Int):=by omega
      have hp2:(b:Int)≤(N:Int):=by omega
      by_cases hcm:cap=b
      all_goals
       go_wp2_with (first|(at_builtin;refine Halted.out ?_))
       refine Halted.mk (bO dP rfl _ _ rfl hx2 rfl (Row.nil w2 34 1 (New w)) rfl ((PS.out.2.1.ext hx2).take' b) (by rw [List.length_take,lC,PS.out.2.2.2];omega) (fun u hu=>tE ps u (List.mem_of_mem_take hu)) (by omega) (by unfold maxLen;omega) ?_);intro v1 w3 hr1 hk3 _ _;have HR1:=qH hr1;clear hr1;go_wp2_with fail
       refine(HCP.out _ hk3).mono ?_;rintro e w3c ⟨vc,rfl,hkc,hrc⟩;obtain⟨ao1,cap1,ev,_,_⟩:=hrc.shape;subst ev;have HRC:=qH (nIX hkc hrc);have hk3c:=hk3.trans hkc;clear hkc hrc;go_wp2_with (first|(at_builtin;refine Halted.out ?_))
       refine Halted.mk (bO dP rfl _ _ rfl (hk3c.alloc (.cells #[.slice ao1 ss.length cap1] 34)) rfl ((HR1.out.ext HRC.out.1).alloc _) rfl (CellsAt.one w3c (.slice ao1 ss.length cap1) 34) rfl (by simp;rfl) (by omega) (by unfold maxLen;omega) ?_);intro v2 w4 hr2 hk4 hk4' _;have HR2:=qH (nIX hr2 (nIX hk4 hk4'));clear hr2 hk4';have e1:=hk4.cell c2 id;go_wp2_with (first|(at_builtin;refine Halted.out ?_))
       refine Halted.mk (bO dP rfl _ _ rfl hk4 rfl HR2.out.1 rfl (news:=(cJ ps).drop b) (by
        first
         |(have:=(PS.out.2.1.ext hk4).sub' b;rwa [Nat.zero_add]at this)
         |(rw [List.drop_of_length_le (by rw [lC,PS.out.2.2.2];omega)];exact CellsAt.nil _ _)) (by rw [List.length_drop,lC];have:=PS.out.2.2.2;omega) (fun u hu=>tE ps u (List.mem_of_mem_drop hu)) (by omega) (by unfold maxLen;omega) ?_)
       intro v3 w5 hr3 hk5 hk5' _;obtain⟨ao3,n3,cap3,e3,_⟩:∃ao n cap,v3= .slice ao n cap/\True:=by obtain⟨ao,cap,e,_⟩:=hr3.shape;exact⟨_,_,_,e,trivial⟩
       subst e3;have g1:=hk5.cell c2 id;have g2:=(HB.out.1.ext hk5).free 1;have HR3:=qH (nIX hr3 (nIX hk5 hk5'));clear hr3 hk5';go_wp2;go_ret2;obtain⟨hr3,hk5,hk5'⟩:=HR3.out;obtain⟨hr2,hk4,hk4'⟩:=HR2.out;obtain⟨hkc,hrc⟩:=HRC.out;obtain⟨hE,hcs,hall,hpn⟩:=PS.out;obtain⟨hx0,hst0,hnS0,hSw0⟩:=HX.out;have hne:9≠34:=by decide
       have q1:=(show Row w3c 9 1 (.slice ao1 ss.length cap1) ss.length (strs ss) (New w3)from hrc).alloc (.cells #[.slice ao1 ss.length cap1] 34);have q2:=q1.kp' hk4' fun g hg _ hf=>q1.sort_ne ((HR1.out.ext hkc).alloc (.cells #[.slice ao1 ss.length cap1] 34)) hne hg hf;have q3:=q2.kp' hk5' fun g hg _ hf=>q2.sort_ne hr2 hne hg hf;have q4:=Row.readsAs (x:=(ao1,ss.length,cap1)) q3;have eL:(ps.take b++((ao1,ss.length,cap1),ss)::ps.drop b).map Prod.snd=aP n LL ss:=by rw [E.out.2,hE];simp
       have hlen:(ps.take b++(((ao1,ss.length,cap1),ss):eY)::ps.drop b).length=N+1:=by rw [List.length_append,List.length_cons,List.length_take,List.length_drop];omega
       have hfin:=RefRows.store (S:=S) (n:=n) hk5 hcw hnS0 hSw0 (HB.out.1.ext hk5) (ps:=ps.take b++((ao1,ss.length,cap1),ss)::ps.drop b) (v:= .slice ao3 n3 cap3)
        (hr3.cast' (by first|(rw [hlen];omega)|rw [hlen]) (by rw [jC,wX,wY];simp [cJ])) (fun p hp=>by
         have hp':p∈ps\/p=((ao1,ss.length,cap1),ss):=by
          rcases List.mem_append.1 hp with h|h
          ·exact .inl (List.mem_of_mem_take h)
          ·rcases List.mem_cons.1 h with h|h
           ·exact .inr h
           ·exact .inl (List.mem_of_mem_drop h)
         rcases hp' with hp'|rfl
         ·obtain⟨h1,h2,h3⟩:=hall p hp';exact⟨⟨h1.1,h1.2.ext hk5⟩,h2,fun a e=> .inl (h3 a e)⟩
         ·refine⟨q4.1,hss,fun a e=> .inr ?_⟩;have:=q4.2 a e;have hz3:=hk3.size;exact⟨Nat.le_trans hz3 this.1,this.2⟩) (by rw [hlen];omega)
       rw [eL]at hfin;refine RetF.mk (Kp.setCell (F:=fun k=>k=c) (Ext.kp hk5) (fun _=>rfl) _) ⟨by rw [E.out.1];rfl,_,⟨fun k h=> .inl h,fun k h=>h.imp id fun h=>h.1⟩,hfin⟩
 ·have q1:((m:Int) !=(n:Int))=true:=by simp;omega
  have e0:aI n LL ss=(false,30):=by unfold aI;rw [if_pos (by omega)]
  have E:=qH e0;clear e0 hm hss hl1 f1 f2;go_enter Tryz.func96,Tryz.ntmps96;go_wp2;go_ret2;exact RetF.mk (Kp.refl _) (RefAdded.same HH.out (Kp.refl _) (by rw [E.out];rfl) (by unfold aP;rw [E.out];rfl))
end
structure REnt where
 name:ByteArray
 c:Nat
 ar:Nat
 LL:List (List ByteArray)
def REnt.ptr(g:REnt):Value:= .pointer (some ⟨g.c,0,none⟩)
def REnt.cnt(g:REnt):aZ:=(g.name,g.ar,g.LL)
def bC(G:List REnt):List aZ:=G.map REnt.cnt
def dW(G:List REnt)(s:ByteArray):Option REnt:=G.find? fun g=>decide (g.name=s)
def aH7:Option REnt->Value
 |some g=>g.ptr
 |none=> .pointer none
theorem aBd{s:ByteArray}:∀{G:List REnt} {i:Nat} {g:REnt},G[i]?=some g->g.name=s->(∀(j:Nat) (g':REnt),j<i->G[j]?=some g'->g'.name≠s)->dW G s=some g
 | [],i,g,h,_,_=>by simp at h
 |a::G,0,g,h,hn,_=>by simp at h;subst h;unfold dW;rw [List.find?_cons,decide_eq_true hn]
 |a::G,i+1,g,h,hn,hb=>by have ha:=hb 0 a (by omega) rfl;unfold dW;rw [List.find?_cons,decide_eq_false ha];exact aBd (i:=i) (by simpa using h) hn fun j g' hj hg=>hb (j+1) g' (by omega) (by simpa using hg)
theorem aKk{s:ByteArray}{G:List REnt}(h:∀(j:Nat) (g:REnt),j<G.length->G[j]?=some g->g.name≠s):dW G s=none:=by unfold dW;rw [List.find?_eq_none];intro g hg;obtain⟨i,hi,e⟩:=List.getElem_of_mem hg;simpa using h i g hi (by rw [qG hi,e])
def aNa(n:Nat)(ao:Option Addr)(cap:Nat):Prop:=n≤cap/\cap≤maxLen/\(ao=none/\cap=0\/∃g,ao=some ⟨g,0,none⟩)
theorem Row.form{w:World}{e:TypeId}{v:Value}{n:Nat}{xs:List Value}{M:Nat->Prop}(h:Row w e 1 v n xs M):∃ao cap,v= .slice ao n cap/\CellsAt w ao xs/\aNa n ao cap/\∀a,ao=some a->M a.block/\a.block<w.heap.size:=by
 obtain⟨h1,⟨rfl,rfl⟩|⟨g,cap,rest,rfl,b,c,d,e,f⟩⟩:=h
 ·have:xs= []:=List.eq_nil_of_length_eq_zero (by simpa using h1);subst this;exact⟨none,0,rfl,CellsAt.nil _ _,⟨Nat.le_refl _,by decide,.inl ⟨rfl,rfl⟩⟩,fun a e=>by cases e⟩
 ·exact⟨_,cap,rfl,CellsAt.pre c,⟨e,f,.inr ⟨g,rfl⟩⟩,fun a e=>by cases e;exact⟨b,c.lt⟩⟩
structure RefB(S:Nat->Prop)(w:World)(cb:Nat)(G:List REnt):Prop where
 blk:∃na nc aa ac,Blk w cb [.slice na G.length nc,.slice aa G.length ac] 204/\CellsAt w na (strs (G.map REnt.name))/\CellsAt w aa (G.map REnt.ptr)/\(∀a,na=some a->S a.block)/\(∀a,aa=some a->S a.block)/\aNa G.length na nc/\aNa G.length aa ac
 rows:∀g∈G,RefRows S w g.c g.ar g.LL
 apart:G.Pairwise fun g h=>g.c≠h.c
 notS:¬S cb
 off:∀g∈G,g.c≠cb
 inS:∀k,S k->k<w.heap.size
 len:G.length≤4194304
section
variable {S:Nat->Prop}{w w':World}{cb:Nat}{G:List REnt}
def sQ(cb:Nat)(G:List REnt)(k:Nat):Prop:=k=cb\/∃g∈G,k=g.c
theorem RefB.kp{F:Nat->Prop}(h:RefB S w cb G)(hk:Kp F w w')(hF:∀k,F k->¬sQ cb G k)(hS:∀k,F k->¬S k):RefB S w' cb G:=by
 obtain⟨na,nc,aa,ac,h1,h2,h3,h4,h5,h6⟩:=h.blk;exact⟨⟨na,nc,aa,ac,h1.kp hk (fun f=>hF _ f (.inl rfl)),h2.kp hk (fun a e f=>hS _ f (h4 a e)),h3.kp hk (fun a e f=>hS _ f (h5 a e)),h4,h5,h6⟩,
  fun g hg=>(h.rows g hg).kp hk (fun f=>hF _ f (.inr ⟨g,hg,rfl⟩)) hS,h.apart,h.notS,h.off,fun k hk'=>Nat.lt_of_lt_of_le (h.inS k hk') hk.size,h.len⟩
theorem RefB.ext(h:RefB S w cb G)(hk:Ext w w'):RefB S w' cb G:=h.kp hk (fun _ x=>x.elim) (fun _ x=>x.elim)
set_option maxHeartbeats 1000000 in
theorem gS(h:RefB S w cb G)(s:ByteArray):Calls Tryz.prog 115 #[.pointer (some ⟨cb,0,none⟩),.string s] w (RetN w fun w' v=>v=aH7 (dW G s)):=by
 obtain⟨na,nc,aa,ac,hB,hN,hA,_,_⟩:=h.blk;obtain⟨n,en⟩:=nm G.length;have hl:=h.len;rw [en]at hB hl;have c0:=hB.c0;have c1:=hB.c1;have HCell:=qH (fun w' (hw:Ext w w')=>(⟨hw.cell c0 id,hw.cell c1 id⟩:w'.cell? ⟨cb,0,none⟩=some (.slice na n nc)/\w'.cell? ⟨cb,1,none⟩=some (.slice aa n ac)));have HG:=qH (nIX en (nIX hN hA));clear h hB hN hA en;go_enter Tryz.func115,Tryz.ntmps115;go_wp2;clear c0 c1;go_loopw [5] (fun kv wr=>∃i:Nat,i≤n/\kv= .int .i64 i/\Hid (Ext w wr)/\Hid (∀(j:Nat) (g:REnt),j<i->G[j]?=some g->g.name≠s)) (fun k _=>n- (intOf k).toNat)
 case atStart=>exact⟨0,Nat.zero_le _,rfl,qH (Kp.refl _),qH fun j g hj=>by omega⟩
 case round=>
  obtain⟨i,hi,rfl,hex,hin⟩:=hrel;obtain⟨c0,c1⟩:=HCell.out wr hex.out;by_cases hlt:i<n
  ·obtain⟨g,hg⟩:∃g,G[i]?=some g:=⟨_,qG (by rw [HG.out.1];exact hlt)⟩;obtain⟨nb,no,rfl,d0⟩:=HG.out.2.1 i (.string g.name) (by simp [strs,hg]);obtain⟨ab,ao,rfl,d1⟩:=HG.out.2.2 i g.ptr (by simp [hg]);replace d0:=hex.out.cell d0 id;replace d1:=hex.out.cell d1 id;obtain⟨x,ex⟩:=nm g.name;obtain⟨p,ep⟩:=nm g.c;have ept:g.ptr= .pointer (some ⟨p,0,none⟩):=by rw [<-ep];rfl
   rw [ex]at d0;rw [ept]at d1;have HGi:=qH (nIX hg (nIX ex ept));clear hg ex ep ept;by_cases hxs:x=s
   ·subst hxs;have HX:=qH hex.out;have q1:(x.toList==x.toList)=true:=by simp
    go_wp2;go_ret;refine RetN.mk HX.out ?_;rw [aBd HGi.out.1 HGi.out.2.1 hin.out];exact HGi.out.2.2.symm
   ·have q1:(x.toList==s.toList)=false:=by
     cases h:(x.toList==s.toList)
     ·rfl
     ·exact absurd (dL (eq_of_beq h)) hxs
    have HXS:=qH hxs;clear hxs;go_wp2;go_roundw
    case rel=>exact⟨i+1,by omega,nMX,hex,qH fun j g' hj hg'=>by
     by_cases hji:j<i
     ·exact hin.out j g' hji hg'
     ·obtain rfl:j=i:=by omega
      rw [HGi.out.1]at hg'
      injection hg' with hg'
      rw [<-hg',HGi.out.2.1];exact HXS.out⟩
    case measure=>simp [intOf];omega
  ·obtain rfl:i=n:=by omega
   go_wp2;go_ret;refine RetN.mk hex.out ?_;rw [aKk (by rw [HG.out.1];exact hin.out)];rfl
def zL(G:List REnt)(i:Nat):Nat:=((G.take i).map fun g=>g.LL.length).sum
theorem aI3{G:List REnt}{i:Nat}{g:REnt}(h:G[i]?=some g):zL G (i+1)=zL G i+g.LL.length:=by unfold zL;rw [show G.take (i+1)=G.take i++ [g] by rw [List.take_add_one,h];rfl,List.map_append,List.sum_append];simp
theorem aNj(G:List REnt)(i:Nat):zL G i≤aX (bC G):=by
 have h:aX (bC G)=zL G i+((G.drop i).map fun g=>g.LL.length).sum:=by unfold zL aX bC;rw [<-List.sum_append,<-List.map_append,List.take_append_drop,List.map_map];rfl
 omega
theorem aLo{G:List REnt}{n:Nat}(h:G.length=n):zL G n=aX (bC G):=by unfold zL aX bC;rw [List.take_of_length_le (by omega),List.map_map];rfl
set_option maxHeartbeats 1000000 in
theorem uD(h:RefB S w cb G)(hb:aX (bC G)≤1099511627776):Calls Tryz.prog 145 #[.pointer (some ⟨cb,0,none⟩)] w (RetN w fun w' v=>v= .int .i64 (aX (bC G):Nat)):=by
 obtain⟨na,nc,aa,ac,hB,hN,hA,_,_⟩:=h.blk;obtain⟨n,en⟩:=nm G.length;have hl:=h.len;rw [en]at hB hl;have c1:=hB.c1;have HG:=qH (nIX en (nIX h hA));have HB:=qH hb;clear h hB hN hA en hb;go_enter Tryz.func145,Tryz.ntmps145;go_wp2;go_loopw [3,4] (fun nv kv wr=>∃i:Nat,i≤n/\kv= .int .i64 i/\nv= .int .i64 (zL G i:Nat)/\Hid (Ext w wr)) (fun _ k _=>n- (intOf k).toNat)
 case atStart=>exact⟨0,Nat.zero_le _,rfl,rfl,qH (Kp.refl _)⟩
 case round=>
  obtain⟨i,hi,rfl,rfl,hex⟩:=hrel;have c2:=hex.out.cell c1 id;by_cases hlt:i<n
  ·obtain⟨g,hg⟩:∃g,G[i]?=some g:=⟨_,qG (by rw [HG.out.1];exact hlt)⟩;obtain⟨ab,ao,rfl,d1⟩:=HG.out.2.2 i g.ptr (by simp [hg]);replace d1:=hex.out.cell d1 id;obtain⟨lo,lc,hB2,_⟩:=HG.out.2.1.rows g (List.mem_of_getElem? hg);obtain⟨p,ep⟩:=nm g.c;obtain⟨l0,el⟩:=nm g.LL.length;have ept:g.ptr= .pointer (some ⟨p,0,none⟩):=by rw [<-ep];rfl
   rw [ept]at d1;rw [ep,el]at hB2;have d2:wr.cell? ⟨p,1,none⟩=some (.slice lo l0 lc):=hex.out.cell (by rw [hB2.cell'];rfl) id;have hst:=aI3 hg;have hle:=aNj G (i+1);have HS:=qH (nIX hst el);obtain⟨s0,es0⟩:=nm (zL G i);have hs0:s0+l0≤1099511627776:=by have:=HB.out;rw [hst,el,es0]at hle;omega
   rw [es0];have HE:=qH es0;clear hst hle es0 el ept ep hB2 hg;go_wp2;go_roundw
   case rel=>exact⟨i+1,by omega,nMX,by rw [HS.out.1,HS.out.2,HE.out,Int.natCast_add],hex⟩
   case measure=>simp [intOf];omega
  ·obtain rfl:i=n:=by omega
   rw [aLo HG.out.1];go_wp2;go_ret;exact RetN.mk hex.out rfl
theorem qT(G:List REnt)(s:ByteArray):bL (bC G) s=(dW G s).map fun g=>(g.ar,g.LL):=by unfold bL bC dW;rw [List.find?_map,Option.map_map];rfl
theorem kK{G:List REnt}{s:ByteArray}{g:REnt}(h:dW G s=some g):g∈G/\g.name=s:=⟨List.mem_of_find?_eq_some h,by have:=List.find?_some h;simpa using this⟩
theorem rN(s:ByteArray)(w:World):Calls Tryz.prog 143 #[.string s] w (Ret (.bool (bZ s)) w):=by
 unfold bZ;by_cases h1:1≤s.size
 ·have q1:(0:Int)< (s.size:Int):=by omega
  by_cases h2:s.size≤4096
  ·have q2:(s.size:Int)≤4096:=by omega
   rw [decide_eq_true (show 1≤s.size/\s.size≤4096 from⟨h1,h2⟩)];go_enter Tryz.func143,Tryz.ntmps143;go_wp2;go_ret;exact Ret.mk rfl
  ·have q2:¬(s.size:Int)≤4096:=by omega
   rw [decide_eq_false (show ¬(1≤s.size/\s.size≤4096)from fun h=>h2 h.2)];go_enter Tryz.func143,Tryz.ntmps143;go_wp2;go_ret;exact Ret.mk rfl
 ·have q1:¬(0:Int)< (s.size:Int):=by omega
  rw [decide_eq_false (show ¬(1≤s.size/\s.size≤4096)from fun h=>h1 h.1)];go_enter Tryz.func143,Tryz.ntmps143;go_wp2;go_ret;exact Ret.mk rfl
end
end
end Go.Proofs.YtinnmeiphbdogaaGreat
