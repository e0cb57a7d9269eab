/- Proved here: the tied card AggBackUptoCardSaid: the law returns true for every input of the bound that the row names and leaves its arguments as they were. No condition of its own. -/
import Derived.Test.YtikgpedgmnbcaaaGreatDoorAb9
import Derived.Test.YtikgpedgmnbcaaaGreatDoorCards
import Derived.Test.YtikgpedgmnbcaaaGreatDoorTie
import Derived.WalkKit
import Derived.ProofKit
import Derived.OpenShut
import Derived.RowKitTokens
import Derived.Deep.DeepWitnessRowRef
import Derived.Deep.DeepHandedRow
import Derived.Lib.LaidTab
import Derived.Stop.LaidErr
set_option linter.unusedVariables false
set_option linter.unusedSimpArgs false
/- tuple.Base: Add, walked. -/
namespace Go.Proofs.YtikgpedgmnbcaaaGreatDoor
open Go.RowKit
set_option maxRecDepth 100000 in
set_option maxHeartbeats 4000000 in
theorem aBu {S : Nat -> Prop} {w : World} {bb r : Nat} {E : List Ent} (h : BaseAt S w bb r E) (s : ByteArray) {ao : Option Addr} {k cap : Nat} {ss : List ByteArray} (hx : RowIn w (ao, k, cap) ss) (ho : iV (ao, k, cap) (OwnB bb r E)) :
 Calls Tryz.prog 57 #[.pointer (some ⟨bb, 0, none⟩), .string s, .slice ao k cap] w (RetF (OwnB bb r E) w (BaseAdded S w bb r E s ss)) := by
 have hkn : k = ss.length := hx.1.1
 have hcs : CellsAt w ao (strs ss) := hx.1.2
 have hkl : k ≤ 8796093021952 := by rw [hkn]; exact hx.2.1
 have c0 : w.cell? ⟨bb, 0, none⟩ = some (.map (some r)) := by rw [h.blk.cell']; rfl
 have hlk := iN (P := Tryz.prog) Tryz.underlying151 Tryz.underlying9 (z := .pointer none) (by kernel_rfl) h.map s
 rw [mO] at hlk
 have hnm := wF s w
 rw [show decide (1 ≤ s.size /\ s.size ≤ 4096) = bW s from rfl] at hnm
 have HN := qH hnm; clear hnm
 have HT := qH (fun w1 (hw : Ext w w1) => qA ss ao k cap w1 hkn (hcs.ext hw) (by omega))
 obtain ⟨n, en⟩ : ∃ n, bH (aW E) = n := ⟨_, rfl⟩
 have EN := qH en
 have hnl : n ≤ 262144 := by rw [<- en]; exact h.ok.few
 have c1 : w.cell? ⟨bb, 1, none⟩ = some (.int .i64 n) := by rw [h.blk.cell', en]; rfl
 have HC1 := qH (fun w1 (hw : Ext w w1) => (hw.cell c1 id : w1.cell? ⟨bb, 1, none⟩ = some (.int .i64 n)))
 have H := qH h
 have HX := qH (And.intro hx ho)
 have HKN := qH hkn
 clear h hx ho hcs hkn en c1
 cases hn : bW s with
 | false =>
  rw [hn] at HN
  have HNM := qH hn
  clear hn hlk c0
  go_enter Tryz.func57, Tryz.ntmps57
  go_wp2_with fail
  refine HN.out.mono ?_
  rintro e w' ⟨rfl, rfl⟩
  go_wp2
  go_ret2
  exact RetF.mk (Kp.refl _) (BaseAdded.same H.out (Kp.refl _) (aGb ss HNM.out) (by decide) rfl)
 | true =>
  rw [hn] at HN
  have HNM := qH hn
  clear hn
  cases he : bJ E s with
  | none =>
   rw [he] at hlk
   have hlk' : ∀ w', w' = w -> (Instr.lookup 151 (.map (some r)) (.string s) false).run Tryz.prog w' = .ok (.pointer none) w' := fun w' e => by rw [e]; exact hlk
   replace hlk := hlk' w rfl
   clear hlk'
   have HE := qH he
   clear he
   by_cases hl : 64 < k
   ·have HNB := qH (rD (k : Int) w (.inr (by omega)))
    go_enter Tryz.func57, Tryz.ntmps57
    go_wp2_with fail
    refine HN.out.mono ?_
    rintro e w' ⟨rfl, rfl⟩
    go_wp2_with fail
    refine HNB.out.mono ?_
    rintro e w' ⟨rfl, rfl⟩
    go_wp2
    go_ret2
    exact RetF.mk (Kp.refl _) (BaseAdded.same H.out (Kp.refl _) (aGc HNM.out (eA HE.out).1 (by rw [<- HKN.out]; exact hl)) (by decide) rfl)
   have hk64 : k ≤ 64 := by omega
   have HNR := qH (jB S w k hk64 H.out.inS)
   have HL := qH (show ss.length ≤ 64 by rw [<- HKN.out]; exact hk64)
   clear hl
   cases ht : bR ss with
   | false =>
    rw [ht] at HT
    have HTX := qH ht
    clear ht
    go_enter Tryz.func57, Tryz.ntmps57
    go_wp2_with fail
    refine HN.out.mono ?_
    rintro e w' ⟨rfl, rfl⟩
    go_wp2_with fail
    refine HNR.out.mono ?_
    rintro e w1 ⟨v, rfl, hk1, rfl, hrows⟩
    have d2 : w1.cell? ⟨w.heap.size, 2, none⟩ = some (.int .i64 k) := by rw [hrows.blk.cell']; rfl
    have HK1 := qH hk1
    clear hk1 hrows
    go_wp2_with fail
    refine (HT.out w1 HK1.out).mono ?_
    rintro e w2 ⟨v, rfl, hk2, rfl⟩
    have HK2 := qH (HK1.out.trans hk2)
    clear hk2
    go_wp2
    go_ret2
    exact RetF.mk (Ext.kp HK2.out) (BaseAdded.same H.out HK2.out (xG HNM.out (yU (eA HE.out).1 HL.out) HTX.out) (by decide) rfl)
   | true =>
    rw [ht] at HT
    have HTX := qH ht
    clear ht
    have HAdd := qH (fun w1 (hw : Ext w w1) (hr : RowsAt S w1 w.heap.size (.slice none 0 0) k []) => mB hr List.Pairwise.nil (ao := ao) (n := k) (cap := cap) (ss := ss) ⟨⟨HKN.out, HX.out.1.1.2.ext hw⟩, HX.out.1.2.1, fun a e hne => Nat.lt_of_lt_of_le (HX.out.1.2.2 a e hne) hw.size⟩
     (fun a e hne ho => by
      have := HX.out.1.2.2 a e hne
      rcases ho with ho | ho
      ·omega
      ·cases ho) (by simp))
    by_cases hm : 262144 ≤ n
    ·have q2 : decide ((262144 : Int) ≤ (n : Int)) = true := by rw [decide_eq_true_iff]; omega
     have HM := qH hm
     have HHas := qH (fun w1 (hw : Ext w w1) (hr : RowsAt S w1 w.heap.size (.slice none 0 0) k []) => mA hr List.Pairwise.nil (x := (ao, k, cap)) (ss := ss) ⟨⟨HKN.out, HX.out.1.1.2.ext hw⟩, HX.out.1.2.1, fun a e hne => Nat.lt_of_lt_of_le (HX.out.1.2.2 a e hne) hw.size⟩
      (fun a e hne ho => by
       have := HX.out.1.2.2 a e hne
       rcases ho with ho | ho
       ·omega
       ·cases ho))
     clear hm
     go_enter Tryz.func57, Tryz.ntmps57
     go_wp2_with fail
     refine HN.out.mono ?_
     rintro e w' ⟨rfl, rfl⟩
     go_wp2_with fail
     refine HNR.out.mono ?_
     rintro e w1 ⟨v, rfl, hk1, rfl, hrows⟩
     have d2 : w1.cell? ⟨w.heap.size, 2, none⟩ = some (.int .i64 k) := by rw [hrows.blk.cell']; rfl
     have HK1 := qH (And.intro hk1 hrows)
     clear hk1 hrows
     go_wp2_with fail
     refine (HT.out w1 HK1.out.1).mono ?_
     rintro e w2 ⟨v, rfl, hk2, rfl⟩
     have HK2 := qH (HK1.out.1.trans hk2)
     have HR2 := qH (HK1.out.2.ext hk2)
     have c1' := HC1.out w2 HK2.out
     clear hk2 d2
     go_wp2_with fail
     refine (HHas.out w2 HK2.out HR2.out).mono ?_
     rintro e w3 ⟨v, rfl, hk3, rfl⟩
     have HK3 := qH (HK2.out.trans hk3)
     clear hk3 c1'
     have hni : bB aD ([] : List (List ByteArray)) ss = false := rfl
     go_wp2
     go_ret2
     exact RetF.mk (Ext.kp HK3.out) (BaseAdded.same H.out HK3.out (xH HNM.out (yU (eA HE.out).1 HL.out) HTX.out (by rw [EN.out]; exact HM.out) (by rw [(eA HE.out).2]; rfl)) (by decide) rfl)
    ·have q2 : decide ((262144 : Int) ≤ (n : Int)) = false := by rw [decide_eq_false_iff_not]; omega
     have HM := qH hm
     clear hm
     go_enter Tryz.func57, Tryz.ntmps57
     go_wp2_with fail
     refine HN.out.mono ?_
     rintro e w' ⟨rfl, rfl⟩
     go_wp2_with fail
     refine HNR.out.mono ?_
     rintro e w1 ⟨v, rfl, hk1, rfl, hrows⟩
     have d2 : w1.cell? ⟨w.heap.size, 2, none⟩ = some (.int .i64 k) := by rw [hrows.blk.cell']; rfl
     have HK1 := qH (And.intro hk1 hrows)
     clear hk1 hrows
     go_wp2_with fail
     refine (HT.out w1 HK1.out.1).mono ?_
     rintro e w2 ⟨v, rfl, hk2, rfl⟩
     have HK2 := qH (HK1.out.1.trans hk2)
     have HR2 := qH (HK1.out.2.ext hk2)
     have c1' := HC1.out w2 HK2.out
     clear hk2 d2
     go_wp2_with fail
     refine (HAdd.out w2 HK2.out HR2.out).mono ?_
     rintro e w3 ⟨v, rfl, hk3, hv, S', iv', hss, hsn, hrows3, hiv⟩
     have e0 : aN k [] ss = (true, 0) := by
      unfold aN; rw [if_neg (by rw [HKN.out]; simp), if_neg (by rw [HTX.out]; simp), if_neg (by simp)]; simp [bB]
     have e1 : aU k [] ss = [ss] := by
      unfold aU; rw [e0]; simp [cO, bB, below]
     rw [e0] at hv
     rw [e1] at hrows3
     subst hv
     have hz := HK2.out.size
     have kk3 : Kp (fun g => g = w.heap.size) w2 w3 := hk3.mono fun g _ h => by
      rcases h with h | h
      ·exact h
      ·cases h
     have hex3 : Ext w w3 := HK2.out.trans' kk3 (fun i hi e => by omega)
     rw [HKN.out] at hrows3
     have HR3 := qH (And.intro hex3 (And.intro hss (And.intro (fun q (hq : S' q) => (hsn q hq).imp id fun u => Nat.le_trans hz u) (And.intro hrows3 (fun q (hq : iv'.ownBlock = some q) => show w.heap.size ≤ q by
      rcases hiv q hq with u | u
      ·cases u
      ·exact Nat.le_trans hz u)))))
     have HB3 := qH (And.intro (H.out.blk.ext hex3) (H.out.map.ext hex3))
     clear hk3 kk3 hex3 hrows3 hss hsn hiv e0 e1 c1' hlk c0 hz
     go_wp2_with fail
     refine (eJ HB3.out.1 HB3.out.2 s (some ⟨w.heap.size, 0, none⟩)).mono ?_
     rintro e w4 ⟨v, rfl, hk4, hm4⟩
     have HM4 := qH (And.intro hk4 hm4)
     have hb4 : Blk w4 bb [.map (some r), .int .i64 (bH (aW E) : Nat)] 153 := HB3.out.1.kp hk4 H.out.ne
     have c4 : w4.cell? ⟨bb, 1, none⟩ = some (.int .i64 n) := by rw [hb4.cell', EN.out]; rfl
     have f4 := hb4.free 1
     clear hk4 hm4 hb4
     go_wp2
     go_ret2
     exact aBt H.out HE.out ⟨HNM.out, HL.out, HTX.out, by rw [EN.out]; exact HM.out⟩ HR3.out.1 HR3.out.2.1 HR3.out.2.2.1 HR3.out.2.2.2.1 (Nat.le_refl _) HR3.out.2.2.2.2 HM4.out.1 HM4.out.2 EN.out
  | some e0 =>
   rw [he] at hlk
   have HE := qH he
   obtain ⟨hem, hes⟩ := cA he
   obtain ⟨b0, eb0⟩ : ∃ b0, e0.b = b0 := ⟨_, rfl⟩
   obtain ⟨ar, ear⟩ : ∃ ar, e0.ar = ar := ⟨_, rfl⟩
   obtain ⟨LL, eLL⟩ : ∃ LL, e0.LL = LL := ⟨_, rfl⟩
   have hlk' : (Instr.lookup 151 (.map (some r)) (.string s) false).run Tryz.prog w = .ok (.pointer (some ⟨b0, 0, none⟩)) w := by rw [<- eb0]; exact hlk
   have hra := H.out.rows e0 hem
   have d2 : w.cell? ⟨b0, 2, none⟩ = some (.int .i64 ar) := by rw [<- eb0, hra.blk.cell', ear]; rfl
   have HEM := qH (And.intro hem (And.intro eb0 (And.intro ear eLL)))
   have hoff : iV (ao, k, cap) (eM e0.b e0.iv) := fun a e hne hown => HX.out.2 a e hne (.inr (.inr ⟨e0, hem, hown⟩))
   have HOff := qH hoff
   have HHas := qH (fun w1 (hw : Ext w w1) => mA ((H.out.rows e0 hem).ext hw) (H.out.strict hem) (x := (ao, k, cap)) (ss := ss) ⟨⟨HKN.out, HX.out.1.1.2.ext hw⟩, HX.out.1.2.1, fun a e hne => Nat.lt_of_lt_of_le (HX.out.1.2.2 a e hne) hw.size⟩ hoff)
   have HA := qH (fun w1 (hw : Ext w w1) => mB ((H.out.rows e0 hem).ext hw) (H.out.strict hem) (ao := ao) (n := k) (cap := cap) (ss := ss) ⟨⟨HKN.out, HX.out.1.1.2.ext hw⟩, HX.out.1.2.1, fun a e hne => Nat.lt_of_lt_of_le (HX.out.1.2.2 a e hne) hw.size⟩ hoff (by have := H.out.few hem; omega))
   clear he hem hes hra hoff hlk
   rw [HEM.out.2.1, HEM.out.2.2.2] at HHas
   rw [HEM.out.2.1, HEM.out.2.2.1, HEM.out.2.2.2] at HA
   clear eb0 ear eLL
   by_cases ha : ar = k
   ·have HAr := qH ha
    have q1 : ((ar : Int) != (k : Int)) = false := by simp [ha]
    clear ha
    have hnil : Ext w w := Kp.refl w
    cases ht : bR ss with
    | false =>
     rw [ht] at HT
     have HTX := qH ht
     clear ht
     go_enter Tryz.func57, Tryz.ntmps57
     go_wp2_with fail
     refine HN.out.mono ?_
     rintro e w' ⟨rfl, rfl⟩
     go_wp2_with fail
     refine (HT.out w hnil).mono ?_
     rintro e w2 ⟨v, rfl, hk2, rfl⟩
     have HK2 := qH hk2
     clear hk2
     go_wp2
     go_ret2
     exact RetF.mk (Ext.kp HK2.out) (BaseAdded.same H.out HK2.out (xG HNM.out (pV (dD HE.out).1 (by rw [HEM.out.2.2.1, HAr.out]; exact HKN.out)) HTX.out) (by decide) rfl)
    | true =>
     rw [ht] at HT
     have HTX := qH ht
     clear ht
     have hR0 : aN ar LL ss = if 65536 ≤ LL.length /\ bB aD LL ss = false then (false, 4) else (!bB aD LL ss, 0) := by
      unfold aN
      rw [if_neg (by rw [HAr.out, HKN.out]; simp), if_neg (by rw [HTX.out]; simp)]
     have HR0 := qH hR0
     clear hR0
     by_cases hm : 262144 ≤ n
     ·have q2 : decide ((262144 : Int) ≤ (n : Int)) = true := by rw [decide_eq_true_iff]; omega
      have HM := qH hm
      clear hm
      cases hi : bB aD LL ss with
      | false =>
       have HI := qH hi
       rw [hi] at HHas
       clear hi
       go_enter Tryz.func57, Tryz.ntmps57
       go_wp2_with fail
       refine HN.out.mono ?_
       rintro e w' ⟨rfl, rfl⟩
       go_wp2_with fail
       refine (HT.out w hnil).mono ?_
       rintro e w2 ⟨v, rfl, hk2, rfl⟩
       have HK2 := qH hk2
       have c1' := HC1.out w2 hk2
       clear hk2
       go_wp2_with fail
       refine (HHas.out w2 HK2.out).mono ?_
       rintro e w3 ⟨v, rfl, hk3, rfl⟩
       have HK3 := qH (HK2.out.trans hk3)
       clear hk3 c1'
       go_wp2
       go_ret2
       exact RetF.mk (Ext.kp HK3.out) (BaseAdded.same H.out HK3.out (xH HNM.out (pV (dD HE.out).1 (by rw [HEM.out.2.2.1, HAr.out]; exact HKN.out)) HTX.out (by rw [EN.out]; exact HM.out) (by rw [(dD HE.out).2, HEM.out.2.2.2]; exact HI.out)) (by decide) rfl)
      | true =>
       have HI0 := qH hi
       rw [hi] at HHas
       clear hi
       have HF := qH (show (bW s = true /\ e0.ar = ss.length /\ bR ss = true /\ e0.LL = LL /\ ¬ (262144 ≤ bH (aW E) /\ bB aD LL ss = false)) /\ True from ⟨⟨HNM.out, by rw [HEM.out.2.2.1, HAr.out]; exact HKN.out, HTX.out, HEM.out.2.2.2, fun q => by rw [HI0.out] at q; cases q.2⟩, trivial⟩)
       go_enter Tryz.func57, Tryz.ntmps57
       go_wp2_with fail
       refine HN.out.mono ?_
       rintro e w' ⟨rfl, rfl⟩
       go_wp2_with fail
       refine (HT.out w hnil).mono ?_
       rintro e w2 ⟨v, rfl, hk2, rfl⟩
       have HK2 := qH hk2
       have c1' := HC1.out w2 hk2
       clear hk2
       go_wp2_with fail
       refine (HHas.out w2 HK2.out).mono ?_
       rintro e w2b ⟨v, rfl, hk3, rfl⟩
       have HK2b := qH (HK2.out.trans hk3)
       clear hk3 c1'
       go_wp2_with fail
       refine (HA.out w2b HK2b.out).mono ?_
       rintro e w3 ⟨v, rfl, hk3, hv, S', iv', hss, hsn, hrows3, hiv⟩
       rw [<- HEM.out.2.1] at hk3 hrows3
       rw [<- HEM.out.2.2.1] at hrows3
       have HX3 := qH (And.intro hk3 (And.intro hss (And.intro hsn (And.intro hrows3 hiv))))
       rw [HR0.out] at hv
       subst hv
       clear hk3 hss hsn hrows3 hiv
       by_cases h4 : 65536 ≤ LL.length /\ bB aD LL ss = false
       ·have e4 : (if 65536 ≤ LL.length /\ bB aD LL ss = false then (false, 4) else (!bB aD LL ss, 0)) = (false, 4) := if_pos h4
        have H4 := qH (And.intro h4 e4)
        rw [e4]
        clear h4 e4
        go_wp2
        go_ret2
        exact pT H.out HE.out HF.out.1 HK2b.out HX3.out.1 HX3.out.2.1 HX3.out.2.2.1 HX3.out.2.2.2.1 HX3.out.2.2.2.2 (by rw [HEM.out.2.2.1]; exact HR0.out) H4.out.1
       ·have e4 : (if 65536 ≤ LL.length /\ bB aD LL ss = false then (false, 4) else (!bB aD LL ss, 0)) = (!bB aD LL ss, 0) := if_neg h4
        have H4 := qH (And.intro h4 e4)
        rw [e4]
        clear h4 e4
        have hm3 := mT H.out HE.out HK2b.out HX3.out.1
        have hb3 := gB H.out HE.out HK2b.out HX3.out.1
        have HB3 := qH (And.intro hb3 hm3)
        have c31 : w3.cell? ⟨bb, 1, none⟩ = some (.int .i64 n) := by rw [HB3.out.1.cell', EN.out]; rfl
        clear hm3 hb3 c31
        cases hi : bB aD LL ss with
        | true =>
         have HI := qH hi
         clear hi
         go_wp2_with fail
         refine (eJ HB3.out.1 HB3.out.2 s (some ⟨b0, 0, none⟩)).mono ?_
         rintro e w4 ⟨v, rfl, hk4, hm4⟩
         rw [<- HEM.out.2.1] at hm4
         have HM4 := qH (And.intro hk4 hm4)
         clear hk4 hm4
         go_wp2
         go_ret2
         exact rN H.out HE.out HF.out.1 HK2b.out HX3.out.1 HX3.out.2.1 HX3.out.2.2.1 HX3.out.2.2.2.1 HX3.out.2.2.2.2 (by rw [HEM.out.2.2.1]; exact HR0.out) HI.out HM4.out.1 HM4.out.2
        | false =>
         have HI := qH hi
         clear hi
         go_wp2_with fail
         refine (eJ HB3.out.1 HB3.out.2 s (some ⟨b0, 0, none⟩)).mono ?_
         rintro e w4 ⟨v, rfl, hk4, hm4⟩
         rw [<- HEM.out.2.1] at hm4
         have HM4 := qH (And.intro hk4 hm4)
         have hb4 : Blk w4 bb [.map (some r), .int .i64 (bH (aW E) : Nat)] 153 := HB3.out.1.kp hk4 H.out.ne
         have c4 : w4.cell? ⟨bb, 1, none⟩ = some (.int .i64 n) := by rw [hb4.cell', EN.out]; rfl
         have f4 := hb4.free 1
         clear hk4 hm4 hb4
         go_wp2
         go_ret2
         exact rO H.out HE.out HF.out.1 HK2b.out HX3.out.1 HX3.out.2.1 HX3.out.2.2.1 HX3.out.2.2.2.1 HX3.out.2.2.2.2 (by rw [HEM.out.2.2.1]; exact HR0.out) HI.out H4.out.1 HM4.out.1 HM4.out.2 EN.out
     ·have q2 : decide ((262144 : Int) ≤ (n : Int)) = false := by rw [decide_eq_false_iff_not]; omega
      have HM := qH hm
      clear hm
      have HF := qH (show (bW s = true /\ e0.ar = ss.length /\ bR ss = true /\ e0.LL = LL /\ ¬ (262144 ≤ bH (aW E) /\ bB aD LL ss = false)) /\ True from ⟨⟨HNM.out, by rw [HEM.out.2.2.1, HAr.out]; exact HKN.out, HTX.out, HEM.out.2.2.2, fun q => HM.out (by rw [<- EN.out]; exact q.1)⟩, trivial⟩)
      go_enter Tryz.func57, Tryz.ntmps57
      go_wp2_with fail
      refine HN.out.mono ?_
      rintro e w' ⟨rfl, rfl⟩
      go_wp2_with fail
      refine (HT.out w hnil).mono ?_
      rintro e w2 ⟨v, rfl, hk2, rfl⟩
      have HK2 := qH hk2
      have c1' := HC1.out w2 hk2
      clear hk2
      go_wp2_with fail
      refine (HA.out w2 HK2.out).mono ?_
      rintro e w3 ⟨v, rfl, hk3, hv, S', iv', hss, hsn, hrows3, hiv⟩
      rw [<- HEM.out.2.1] at hk3 hrows3
      rw [<- HEM.out.2.2.1] at hrows3
      have HX3 := qH (And.intro hk3 (And.intro hss (And.intro hsn (And.intro hrows3 hiv))))
      rw [HR0.out] at hv
      subst hv
      clear hk3 hss hsn hrows3 hiv
      by_cases h4 : 65536 ≤ LL.length /\ bB aD LL ss = false
      ·have e4 : (if 65536 ≤ LL.length /\ bB aD LL ss = false then (false, 4) else (!bB aD LL ss, 0)) = (false, 4) := if_pos h4
       have H4 := qH (And.intro h4 e4)
       rw [e4]
       clear h4 e4
       go_wp2
       go_ret2
       exact pT H.out HE.out HF.out.1 HK2.out HX3.out.1 HX3.out.2.1 HX3.out.2.2.1 HX3.out.2.2.2.1 HX3.out.2.2.2.2 (by rw [HEM.out.2.2.1]; exact HR0.out) H4.out.1
      ·have e4 : (if 65536 ≤ LL.length /\ bB aD LL ss = false then (false, 4) else (!bB aD LL ss, 0)) = (!bB aD LL ss, 0) := if_neg h4
       have H4 := qH (And.intro h4 e4)
       rw [e4]
       clear h4 e4
       have hm3 := mT H.out HE.out HK2.out HX3.out.1
       have hb3 := gB H.out HE.out HK2.out HX3.out.1
       have HB3 := qH (And.intro hb3 hm3)
       have c31 : w3.cell? ⟨bb, 1, none⟩ = some (.int .i64 n) := by rw [HB3.out.1.cell', EN.out]; rfl
       clear hm3 hb3 c31
       cases hi : bB aD LL ss with
       | true =>
        have HI := qH hi
        clear hi
        go_wp2_with fail
        refine (eJ HB3.out.1 HB3.out.2 s (some ⟨b0, 0, none⟩)).mono ?_
        rintro e w4 ⟨v, rfl, hk4, hm4⟩
        rw [<- HEM.out.2.1] at hm4
        have HM4 := qH (And.intro hk4 hm4)
        clear hk4 hm4
        go_wp2
        go_ret2
        exact rN H.out HE.out HF.out.1 HK2.out HX3.out.1 HX3.out.2.1 HX3.out.2.2.1 HX3.out.2.2.2.1 HX3.out.2.2.2.2 (by rw [HEM.out.2.2.1]; exact HR0.out) HI.out HM4.out.1 HM4.out.2
       | false =>
        have HI := qH hi
        clear hi
        go_wp2_with fail
        refine (eJ HB3.out.1 HB3.out.2 s (some ⟨b0, 0, none⟩)).mono ?_
        rintro e w4 ⟨v, rfl, hk4, hm4⟩
        rw [<- HEM.out.2.1] at hm4
        have HM4 := qH (And.intro hk4 hm4)
        have hb4 : Blk w4 bb [.map (some r), .int .i64 (bH (aW E) : Nat)] 153 := HB3.out.1.kp hk4 H.out.ne
        have c4 : w4.cell? ⟨bb, 1, none⟩ = some (.int .i64 n) := by rw [hb4.cell', EN.out]; rfl
        have f4 := hb4.free 1
        clear hk4 hm4 hb4
        go_wp2
        go_ret2
        exact rO H.out HE.out HF.out.1 HK2.out HX3.out.1 HX3.out.2.1 HX3.out.2.2.1 HX3.out.2.2.2.1 HX3.out.2.2.2.2 (by rw [HEM.out.2.2.1]; exact HR0.out) HI.out H4.out.1 HM4.out.1 HM4.out.2 EN.out
   ·have HAr := qH ha
    have q1 : ((ar : Int) != (k : Int)) = true := by rw [bne_iff_ne]; omega
    clear ha
    go_enter Tryz.func57, Tryz.ntmps57
    go_wp2_with fail
    refine HN.out.mono ?_
    rintro e w' ⟨rfl, rfl⟩
    go_wp2
    go_ret2
    exact RetF.mk (Kp.refl _) (BaseAdded.same H.out (Kp.refl _) (aD1 HNM.out (dD HE.out).1 (by show e0.ar ≠ ss.length; rw [HEM.out.2.2.1, <- HKN.out]; exact HAr.out)) (by decide) rfl)
end Go.Proofs.YtikgpedgmnbcaaaGreatDoor
/- tuple.Base: Declare, at every base. -/
namespace Go.Proofs.YtikgpedgmnbcaaaGreatDoor
open Go.RowKit
section
variable {S S' : Nat -> Prop} {w w1 w2 w3 w4 : World} {bb r : Nat} {E : List Ent} {s : ByteArray} {e : Ent}
def BaseDecled (S : Nat -> Prop) (w : World) (bb r : Nat) (E : List Ent) (s : ByteArray) (a : Int) (w' : World) (v : Value) : Prop :=
 v = .int .i64 ((dP (aW E) s a : Nat) : Int) /\ ∃ E', BaseAt S w' bb r E' /\ aW E' = gA (aW E) s a /\ ∀ k, OwnB bb r E' k -> OwnB bb r E k \/ w.heap.size ≤ k
theorem BaseDecled.same {a : Int} (h : BaseAt S w bb r E) (hk : Ext w w1) {n : Nat} (hR : dP (aW E) s a = n) (hn : gA (aW E) s a = aW E) {v : Value} (hv : v = .int .i64 (n : Nat)) : BaseDecled S w bb r E s a w1 v :=
 ⟨by rw [hv, hR], E, h.ext hk, hn.symm, fun _ h => .inl h⟩
theorem uL {C : List bM} (a : Int) (h : bW s = false) : dP C s a = 32 := if_pos h
theorem aFu {C : List bM} {a : Int} (h : bW s = true) (ha : a < 0 \/ 64 < a) : dP C s a = 2 := by
 unfold dP
 rw [if_neg (by rw [h]; simp), if_pos ha]
theorem aDo {C : List bM} {a : Int} (h : bW s = true) (ha : ¬ (a < 0 \/ 64 < a)) (hg : cY C s = none) : dP C s a = 0 := by
 unfold dP
 rw [if_neg (by rw [h]; simp), if_neg ha, hg]
theorem aDn {C : List bM} {a : Int} {v : Nat × aC} (h : bW s = true) (ha : ¬ (a < 0 \/ 64 < a)) (hg : cY C s = some v) : dP C s a = if (v.1 : Int) = a then 0 else 30 := by
 unfold dP
 rw [if_neg (by rw [h]; simp), if_neg ha, hg]
theorem wZ {C : List bM} {a : Int} (h : dP C s a ≠ 0) : gA C s a = C := if_neg fun k => h k.1
theorem aDp {C : List bM} {a : Int} {v : Nat × aC} (hg : cY C s = some v) : gA C s a = C := if_neg fun k => by rw [hg] at k; cases k.2
theorem yS {k b : Nat} (h : BaseAt S w bb r E) (he : bJ E s = none) (hn : bW s = true) (hk : k ≤ 64) (hx : Ext w w3) (hr : RowsAt S w3 b (.slice none 0 0) k []) (hb : w.heap.size ≤ b)
 (hk4 : Kp (fun k => k = r) w3 w4) (hm4 : MapIs w4 r (kP (fZ E) s (.pointer (some ⟨b, 0, none⟩)))) : RetF (OwnB bb r E) w (BaseDecled S w bb r E s (k : Int)) (.returned (.int .i64 0)) w4 := by
 obtain ⟨g1, g2⟩ := eA he
 have hR : dP (aW E) s (k : Int) = 0 := aDo hn (by omega) g1
 have hC : gA (aW E) s (k : Int) = aW (E ++ [{ name := s, b := b, iv := .slice none 0 0, ar := k, LL := [] }]) := by
  unfold gA
  rw [if_pos ⟨hR, g1⟩]
  simp [aW, Ent.cnt]
 rw [wV he b (.slice none 0 0) k []] at hm4
 have ho : ∀ q, eM b (.slice none 0 0) q -> w.heap.size ≤ q := fun q ho => by
  rcases ho with rfl | ho
  ·exact hb
  ·cases ho
 have htot : bH (aW E) = bH (aW (E ++ [{ name := s, b := b, iv := .slice none 0 0, ar := k, LL := [] }])) := by simp [bH, aW, Ent.cnt]
 refine RetF.mk ((Ext.kp hx).trans (hk4.mono fun k _ ho => .inr (.inl ho))) ⟨by rw [hR]; rfl, E ++ [{ name := s, b := b, iv := .slice none 0 0, ar := k, LL := [] }], ?_, hC.symm, ?_⟩
 ·exact h.push (e := { name := s, b := b, iv := .slice none 0 0, ar := k, LL := [] }) hx (fun _ x => x) (fun _ x => .inl x) hr ho (hk4.mono fun k _ ho => .inr ho) ((h.blk.ext hx).kp hk4 h.ne) hm4 htot (by rw [<- hC]; exact aIz h.ok s _)
 ·rintro q (h1 | h1 | ⟨f, hf, ho2⟩)
  ·exact .inl (.inl h1)
  ·exact .inl (.inr (.inl h1))
  ·rcases List.mem_append.1 hf with hf | hf
   ·exact .inl (.inr (.inr ⟨f, hf, ho2⟩))
   ·obtain rfl := List.mem_singleton.1 hf
    exact .inr (ho q ho2)
set_option maxRecDepth 100000 in
set_option maxHeartbeats 4000000 in
theorem yT (h : BaseAt S w bb r E) (s : ByteArray) (a : Int) :
 Calls Tryz.prog 56 #[.pointer (some ⟨bb, 0, none⟩), .string s, .int .i64 a] w (RetF (OwnB bb r E) w (BaseDecled S w bb r E s a)) := by
 have c0 : w.cell? ⟨bb, 0, none⟩ = some (.map (some r)) := by rw [h.blk.cell']; rfl
 have hnm := wF s w
 rw [show decide (1 ≤ s.size /\ s.size ≤ 4096) = bW s from rfl] at hnm
 have HN := qH hnm; clear hnm
 have H := qH h
 have HLk := qH (fun w1 (hw : Ext w w1) => iN (P := Tryz.prog) Tryz.underlying151 Tryz.underlying9 (z := .pointer none) (by kernel_rfl) (h.map.ext hw) s)
 rw [mO] at HLk
 clear h
 cases hn : bW s with
 | false =>
  rw [hn] at HN
  have HNM := qH hn
  clear hn c0
  go_enter Tryz.func56, Tryz.ntmps56
  go_wp2_with fail
  refine HN.out.mono ?_
  rintro e w' ⟨rfl, rfl⟩
  go_wp2
  go_ret
  exact RetF.mk (Kp.refl _) (BaseDecled.same H.out (Kp.refl _) (uL a HNM.out) (wZ (by rw [uL a HNM.out]; decide)) rfl)
 | true =>
  rw [hn] at HN
  have HNM := qH hn
  clear hn
  by_cases ha : a < 0 \/ 64 < a
  ·have HNB := qH (rD a w ha)
   have HAB := qH ha
   obtain ⟨p, hp⟩ : ∃ p : Option Addr, ((bJ E s).map Ent.ptr).getD (.pointer none) = .pointer p := by
    cases bJ E s with
    | none => exact ⟨none, rfl⟩
    | some e => exact ⟨some ⟨e.b, 0, none⟩, rfl⟩
   have hlk := HLk.out w (Kp.refl w)
   rw [hp] at hlk
   clear ha hp
   go_enter Tryz.func56, Tryz.ntmps56
   go_wp2_with fail
   refine HN.out.mono ?_
   rintro e w' ⟨rfl, rfl⟩
   go_wp2_with fail
   refine HNB.out.mono ?_
   rintro e w' ⟨rfl, rfl⟩
   go_wp2
   go_ret
   have e2 := aFu (s := s) (C := aW E) HNM.out HAB.out
   exact RetF.mk (Kp.refl _) (BaseDecled.same H.out (Kp.refl _) e2 (wZ (by rw [e2]; decide)) rfl)
  ·obtain ⟨k, rfl⟩ := Int.eq_ofNat_of_zero_le (show 0 ≤ a by omega)
   have hk64 : k ≤ 64 := by omega
   have HNR := qH (jB S w k hk64 H.out.inS)
   have HAN := qH ha
   clear ha
   cases he : bJ E s with
   | none =>
    rw [he] at HLk
    have HE := qH he
    clear he
    go_enter Tryz.func56, Tryz.ntmps56
    go_wp2_with fail
    refine HN.out.mono ?_
    rintro e w' ⟨rfl, rfl⟩
    go_wp2_with fail
    refine HNR.out.mono ?_
    rintro e w1 ⟨v, rfl, hk1, rfl, hrows⟩
    have hlk : (Instr.lookup 151 (.map (some r)) (.string s) false).run Tryz.prog w1 = .ok (.pointer none) w1 := HLk.out w1 hk1
    have c1 := hk1.cell c0 id
    have HK1 := qH (And.intro hk1 hrows)
    clear hk1 hrows
    go_wp2_with fail
    refine (eJ (H.out.blk.ext HK1.out.1) (H.out.map.ext HK1.out.1) s (some ⟨w.heap.size, 0, none⟩)).mono ?_
    rintro e w4 ⟨v, rfl, hk4, hm4⟩
    have HM4 := qH (And.intro hk4 hm4)
    clear hk4 hm4
    go_wp2
    go_ret
    exact yS H.out HE.out HNM.out hk64 HK1.out.1 HK1.out.2 (Nat.le_refl _) HM4.out.1 HM4.out.2
   | some e0 =>
    rw [he] at HLk
    have HE := qH he
    obtain ⟨hem, hes⟩ := cA he
    obtain ⟨b0, eb0⟩ : ∃ b0, e0.b = b0 := ⟨_, rfl⟩
    obtain ⟨ar, ear⟩ : ∃ ar, e0.ar = ar := ⟨_, rfl⟩
    have d2 : w.cell? ⟨b0, 2, none⟩ = some (.int .i64 ar) := by rw [<- eb0, (H.out.rows e0 hem).blk.cell', ear]; rfl
    have HEM := qH (And.intro eb0 ear)
    have hg : cY (aW E) s = some (ar, e0.LL) := by rw [<- ear]; exact (dD he).1
    have hR := aDn (C := aW E) HNM.out HAN.out hg
    have HR := qH (And.intro hR (aDp (C := aW E) (a := (k : Int)) hg))
    clear he hem hes eb0 ear hg hR
    by_cases hq : ar = k
    ·have q1 : ((ar : Int) != (k : Int)) = false := by simp [hq]
     have HQ := qH hq
     clear hq
     go_enter Tryz.func56, Tryz.ntmps56
     go_wp2_with fail
     refine HN.out.mono ?_
     rintro e w' ⟨rfl, rfl⟩
     go_wp2_with fail
     refine HNR.out.mono ?_
     rintro e w1 ⟨v, rfl, hk1, rfl, hrows⟩
     have hlk : (Instr.lookup 151 (.map (some r)) (.string s) false).run Tryz.prog w1 = .ok (.pointer (some ⟨b0, 0, none⟩)) w1 := by rw [<- HEM.out.1]; exact HLk.out w1 hk1
     have c1 := hk1.cell c0 id
     have d21 := hk1.cell d2 id
     have HK1 := qH hk1
     clear hk1 hrows
     go_wp2
     go_ret
     exact RetF.mk (Ext.kp HK1.out) (BaseDecled.same H.out HK1.out (by rw [HR.out.1, if_pos (by rw [HQ.out])]) HR.out.2 rfl)
    ·have q1 : ((ar : Int) != (k : Int)) = true := by rw [bne_iff_ne]; omega
     have HQ := qH hq
     clear hq
     go_enter Tryz.func56, Tryz.ntmps56
     go_wp2_with fail
     refine HN.out.mono ?_
     rintro e w' ⟨rfl, rfl⟩
     go_wp2_with fail
     refine HNR.out.mono ?_
     rintro e w1 ⟨v, rfl, hk1, rfl, hrows⟩
     have hlk : (Instr.lookup 151 (.map (some r)) (.string s) false).run Tryz.prog w1 = .ok (.pointer (some ⟨b0, 0, none⟩)) w1 := by rw [<- HEM.out.1]; exact HLk.out w1 hk1
     have c1 := hk1.cell c0 id
     have d21 := hk1.cell d2 id
     have HK1 := qH hk1
     clear hk1 hrows
     go_wp2
     go_ret
     exact RetF.mk (Ext.kp HK1.out) (BaseDecled.same H.out HK1.out (by rw [HR.out.1, if_neg (fun q => HQ.out (by omega))]) HR.out.2 rfl)
end
end Go.Proofs.YtikgpedgmnbcaaaGreatDoor
/- tuple.Base: FromRelations. -/
namespace Go.Proofs.YtikgpedgmnbcaaaGreatDoor
open Go.RowKit
def aIg (S : Nat -> Prop) (w : World) (ao : Option Addr) (L : List oN) : Prop := ∀ (i : Nat) (q : oN), L[i]? = some q -> ∃ b off ra rcap, ao = some ⟨b, off, none⟩ /\ S b /\ w.cell? ⟨b, off + i * 3, none⟩ = some (.string q.1) /\ w.cell? ⟨b, off + i * 3 + 1, none⟩ = some (.int .i64 q.2.1) /\ w.cell? ⟨b, off + i * 3 + 2, none⟩ = some (.slice ra q.2.2.1.length rcap) /\ q.2.2.1.length ≤ rcap /\ rcap ≤ maxLen /\ RowsIn S w ra q.2.2.1
section
variable {S S' : Nat -> Prop} {w w' : World} {ao : Option Addr} {L : List oN}
end
theorem aHr {C : List bM} {q : oN} {L : List oN} (h : dP C q.1 q.2.1 ≠ 0) : iR C (q :: L) = (C, dP C q.1 q.2.1) := if_neg h
theorem aHq {C : List bM} {q : oN} {L : List oN} (h : dP C q.1 q.2.1 = 0) (h2 : (fB (gA C q.1 q.2.1) q.1 q.2.2.1).2 ≠ 0) : iR C (q :: L) = fB (gA C q.1 q.2.1) q.1 q.2.2.1 := by
 show (if dP C q.1 q.2.1 = 0 then _ else _) = _
 rw [if_pos h, if_neg h2]
theorem aI6 {C : List bM} {q : oN} {L : List oN} (h : dP C q.1 q.2.1 = 0) (h2 : (fB (gA C q.1 q.2.1) q.1 q.2.2.1).2 = 0) : iR C (q :: L) = iR (fB (gA C q.1 q.2.1) q.1 q.2.2.1).1 L := by
 show (if dP C q.1 q.2.1 = 0 then _ else _) = _
 rw [if_pos h, if_pos h2]
theorem aGd {C : List bM} {s : ByteArray} {x : List ByteArray} {rs : aC} (h : (eD C s x).2 = 0) : fB C s (x :: rs) = fB (qU C s x) s rs := if_pos h
theorem aD2 {C : List bM} {s : ByteArray} {x : List ByteArray} {rs : aC} (h : (eD C s x).2 ≠ 0) : fB C s (x :: rs) = (C, (eD C s x).2) := if_neg h
def FromV (w : World) (L : List oN) (w' : World) (v : Value) : Prop :=
 ((iR [] L).2 = 0 -> ∃ bb r S E, v = .tuple #[.pointer (some ⟨bb, 0, none⟩), .int .i64 0] /\ BaseAt S w' bb r E /\ aW E = (iR [] L).1 /\ (∀ k, S k -> w.heap.size ≤ k) /\ ∀ k, OwnB bb r E k -> w.heap.size ≤ k) /\
 ((iR [] L).2 ≠ 0 -> v = .tuple #[.pointer none, .int .i64 (((iR [] L).2 : Nat) : Int)])
structure MyBase (w0 : World) (S : Nat -> Prop) (w : World) (bb r : Nat) (E : List Ent) : Prop where
 base : BaseAt S w bb r E
 ext : Ext w0 w
 pool : ∀ k, S k -> w0.heap.size ≤ k
 own : ∀ k, OwnB bb r E k -> w0.heap.size ≤ k
def aKf (w0 : World) (bb r : Nat) (L : List oN) (n : Nat) (iv : Value) (w : World) : Prop := ∃ i : Nat, i ≤ n /\ iv = .int .i64 i /\ Hid (∃ S E, MyBase w0 S w bb r E /\ iR (aW E) (L.drop i) = iR [] L)
def aKg (w0 : World) (bb r : Nat) (q : oN) (R : List bM × Nat) (g : Nat) (cs : List Value) (m : Nat) (jv : Value) (w : World) : Prop := ∃ j : Nat, j ≤ m /\ jv = .int .i64 j /\ Hid (∃ S E, MyBase w0 S w bb r E /\ fB (aW E) q.1 (q.2.2.1.drop j) = R /\ Blk w g cs 111 /\ ¬ OwnB bb r E g)
theorem drop_at {α : Type} {xs : List α} {i : Nat} {x : α} (h : xs[i]? = some x) : xs.drop i = x :: xs.drop (i + 1) := by
 obtain ⟨hi, e⟩ := List.getElem?_eq_some_iff.1 h
 rw [List.drop_eq_getElem_cons hi, e]
theorem cells_lt {w : World} {xa : Option Addr} {ss : List ByteArray} (h : CellsAt w xa (strs ss)) (hne : ss ≠ []) : ∀ a, xa = some a -> a.block < w.heap.size := fun a e => by
 cases ss with
 | nil => exact absurd rfl hne
 | cons s ss =>
  obtain ⟨b, off, e1, hc⟩ := h 0 (.string s) rfl
  rw [e] at e1; cases e1
  exact World.block_lt_of_cell? _ _ hc
set_option maxRecDepth 100000 in
set_option maxHeartbeats 4000000 in
theorem aHs (L : List oN) (ao : Option Addr) (n cap : Nat) (w : World) (S0 : Nat -> Prop) (hn : n = L.length) (hL : aIg S0 w ao L) (hl : n ≤ 4194304) (hr : ∀ q ∈ L, q.2.2.1.length ≤ 1048576) :
 Calls Tryz.prog 18 #[.slice ao n cap] w (RetN w (FromV w L)) := by
 have HN := qH hn
 have HL := qH hL
 have HR := qH hr
 clear hn hL hr
 go_enter Tryz.func18, Tryz.ntmps18
 go_wp2_with fail
 refine (aAk w).mono ?_
 rintro e w1 ⟨v, rfl, hk1, rfl, hB, hm⟩
 obtain ⟨bb, ebb⟩ : ∃ bb, w.heap.size + 1 = bb := ⟨_, rfl⟩
 rw [ebb] at hB ⊢
 obtain ⟨r, er⟩ : ∃ r, w.heap.size = r := ⟨_, rfl⟩
 rw [er] at hB hm
 have HM0 := qH (show MyBase w (fun _ => False) w1 bb r [] from
  {base := BaseAt.new (fun _ => False) (fun _ x => x.elim) hk1 (by omega) (by omega) (by omega) hB hm
   ext := hk1, pool := fun _ x => x.elim
   own := fun k hk => by
    rcases hk with rfl | rfl | ⟨e, he, _⟩
    ·omega
    ·omega
    ·simp at he })
 clear hB hm hk1 ebb er
 go_wp2
 go_loopw [15] (fun iv wr => aKf w bb r L n iv wr) (fun iv _ => n - (intOf iv).toNat)
 case atStart => exact ⟨0, Nat.zero_le _, rfl, _, [], HM0.out, rfl⟩
 case round =>
  clear HM0
  obtain ⟨i, hi, rfl, hin⟩ := hrel
  obtain ⟨S, E, hM, hF⟩ := hin.out
  have HM := qH hM
  have HF := qH hF
  clear hin hM hF
  by_cases hlt : i < n
  ·obtain ⟨q, hq⟩ : ∃ q, L[i]? = some q := ⟨_, qG (by rw [<- HN.out]; exact hlt)⟩
   obtain ⟨b, off, ra, rcap, eao, hSb, c0, c1, c2, hrl, hrm, hrows⟩ := HL.out i q hq
   subst eao
   replace c0 := HM.out.ext.cell c0 id
   replace c1 := HM.out.ext.cell c1 id
   replace c2 := HM.out.ext.cell c2 id
   obtain ⟨s, es⟩ : ∃ s, q.1 = s := ⟨_, rfl⟩
   obtain ⟨a, ea⟩ : ∃ a, q.2.1 = a := ⟨_, rfl⟩
   obtain ⟨m, em⟩ : ∃ m, q.2.2.1.length = m := ⟨_, rfl⟩
   rw [es] at c0
   rw [ea] at c1
   rw [em] at c2 hrl
   have hm1 : m ≤ 1048576 := by rw [<- em]; exact HR.out q (List.mem_of_getElem? hq)
   have HQ := qH (And.intro hq (And.intro es (And.intro ea em)))
   have HRows := qH hrows
   clear hq es ea em hrows hSb
   obtain ⟨gx, egx⟩ : ∃ g, wr.heap.size = g := ⟨_, rfl⟩
   obtain ⟨wx, ewx⟩ : ∃ wx, wr.alloc (.cells #[.string s, .int .i64 a, .slice ra m rcap] 111) = wx := ⟨_, rfl⟩
   have HBx := qH (show Blk wx gx [.string s, .int .i64 a, .slice ra m rcap] 111 by rw [<- ewx, <- egx]; exact Blk.new wr _ _)
   have HXx := qH (show Ext wr wx by rw [<- ewx]; exact (Kp.refl wr).alloc _)
   have HGx := qH (show ∀ k, OwnB bb r E k -> k < gx from fun k hk => by rw [<- egx]; exact HM.out.base.ownLt k hk)
   have EGX := qH egx
   have x0 : wx.cell? ⟨wr.heap.size, 0, none⟩ = some (.string s) := by rw [egx, HBx.out.cell']; rfl
   have x1 : wx.cell? ⟨wr.heap.size, 1, none⟩ = some (.int .i64 a) := by rw [egx, HBx.out.cell']; rfl
   clear egx
   go_wp2_with fail
   rw [EGX.out]
   refine (yT (HM.out.base.ext HXx.out) s a).mono ?_
   rintro e w2 ⟨v, rfl, hk2, rfl, E1, hB1, hC1, ho1⟩
   have hgx : gx < wx.heap.size := HBx.out.lt
   have hbx2 : Blk w2 gx [.string s, .int .i64 a, .slice ra m rcap] 111 := HBx.out.kp hk2 fun ho => by have := HGx.out gx ho; omega
   have hM1 : MyBase w S w2 bb r E1 :=
    {base := hB1
     ext := (HM.out.ext.trans HXx.out).trans' hk2 fun k hk ho => by have := HM.out.own k ho; omega
     pool := HM.out.pool
     own := fun k hk => by
      rcases ho1 k hk with h1 | h1
      ·exact HM.out.own k h1
      ·have := (HM.out.ext.trans HXx.out).size; omega }
   have hng : ¬ OwnB bb r E1 gx := fun ho => by
    rcases ho1 gx ho with h1 | h1
    ·have := HGx.out gx h1; omega
    ·omega
   have HM1 := qH (And.intro hM1 (And.intro hC1 (And.intro hbx2 hng)))
   clear hk2 hB1 hC1 ho1 hgx hbx2 hM1 hng ewx x0 x1 c0 c1 c2
   obtain ⟨d, ed⟩ : ∃ d, dP (aW E) s a = d := ⟨_, rfl⟩
   rw [ed]
   have ED := qH ed
   clear ed
   have y2 : w2.cell? ⟨gx, 2, none⟩ = some (.slice ra m rcap) := by rw [HM1.out.2.2.1.cell']; rfl
   by_cases hd : d = 0
   ·have q1 : ((d : Int) != 0) = false := by simp [hd]
    have HD := qH hd
    clear hd
    have hdr : (L.drop i) = q :: L.drop (i + 1) := drop_at HQ.out.1
    have HDr := qH hdr
    clear hdr
    go_wp2
    clear q1
    generalize hw5 : w2 = w5 at *; clear hw5
    go_loopw [31] (fun jv wk => aKg w bb r q (fB (gA (aW E) s a) s q.2.2.1) gx [.string s, .int .i64 a, .slice ra m rcap] m jv wk) (fun jv _ => m - (intOf jv).toNat)
    case atStart => exact ⟨0, Nat.zero_le _, rfl, S, E1, HM1.out.1, by rw [HM1.out.2.1, HQ.out.2.1]; rfl, HM1.out.2.2.1, HM1.out.2.2.2⟩
    case round =>
     clear HM1 HBx HXx HGx EGX y2
     obtain ⟨j, hj, rfl, hin⟩ := hrel
     obtain ⟨S1, E2, hM2, hA2, hbx, hng⟩ := hin.out
     have HM2 := qH (And.intro hM2 (And.intro hA2 (And.intro hbx hng)))
     clear hin hM2 hA2 hbx hng
     by_cases hlt2 : j < m
     ·obtain ⟨ss, hss⟩ : ∃ ss, q.2.2.1[j]? = some ss := ⟨_, qG (by rw [HQ.out.2.2.2]; exact hlt2)⟩
      obtain ⟨g, o, xa, xcap, era, d0, d1, d2, d3⟩ := HRows.out.get hss
      subst era
      replace d0 := HM2.out.1.ext.cell d0 id
      obtain ⟨k, ek⟩ : ∃ k, ss.length = k := ⟨_, rfl⟩
      rw [ek] at d0
      have HSS := qH (And.intro hss ek)
      have HRow := qH (And.intro d1 (And.intro d2 d3))
      have y0 : wr.cell? ⟨gx, 0, none⟩ = some (.string s) := by rw [HM2.out.2.2.1.cell']; rfl
      clear hss ek d1 d2 d3
      go_wp2_with fail
      refine (aBu HM2.out.1.base s (ao := xa) (k := k) (cap := xcap) (ss := ss) ⟨⟨HSS.out.2.symm, HRow.out.1.ext HM2.out.1.ext⟩, HRow.out.2.1, fun a e hne => Nat.lt_of_lt_of_le (cells_lt HRow.out.1 (fun h => hne (by show k = 0; rw [<- HSS.out.2, h]; rfl)) a e) HM2.out.1.ext.size⟩ (fun a e hne ho => by
       have h1 := HM2.out.1.own _ ho
       have h2 := cells_lt HRow.out.1 (fun h => hne (by show k = 0; rw [<- HSS.out.2, h]; rfl)) a e
       omega)).mono ?_
      rintro e w3 ⟨v, rfl, hk3, rfl, S3, E3, hs1, hs2, hB3, hC3, ho3⟩
      have hgx : gx < wr.heap.size := HM2.out.2.2.1.lt
      have hM3 : MyBase w S3 w3 bb r E3 :=
       {base := hB3
        ext := HM2.out.1.ext.trans' hk3 fun k hk ho => by have := HM2.out.1.own k ho; omega
        pool := fun k hk => by
         rcases hs2 k hk with h1 | h1
         ·exact HM2.out.1.pool k h1
         ·have := HM2.out.1.ext.size; omega
        own := fun k hk => by
         rcases ho3 k hk with h1 | h1
         ·exact HM2.out.1.own k h1
         ·have := HM2.out.1.ext.size; omega }
      have hb3 : Blk w3 gx [.string s, .int .i64 a, .slice (some ⟨g, o, none⟩) m rcap] 111 := HM2.out.2.2.1.kp hk3 HM2.out.2.2.2
      have hng : ¬ OwnB bb r E3 gx := fun ho => by
       rcases ho3 gx ho with h1 | h1
       ·exact HM2.out.2.2.2 h1
       ·omega
      have HM3 := qH (And.intro hM3 (And.intro hC3 (And.intro hb3 hng)))
      clear hk3 hB3 hC3 ho3 hgx hM3 hng hb3 hs1 hs2 y0 d0
      obtain ⟨x1, ex1⟩ : ∃ x, (eD (aW E2) s ss).1 = x := ⟨_, rfl⟩
      obtain ⟨x2, ex2⟩ : ∃ x, (eD (aW E2) s ss).2 = x := ⟨_, rfl⟩
      rw [ex1, ex2]
      have EX := qH ex2
      clear ex1 ex2
      have hdj : q.2.2.1.drop j = ss :: q.2.2.1.drop (j + 1) := drop_at HSS.out.1
      have HDj := qH hdj
      clear hdj
      by_cases hx : x2 = 0
      ·have q1 : ((x2 : Int) != 0) = false := by simp [hx]
       have HX := qH hx
       clear hx
       go_wp2
       go_roundw
       case rel =>
        refine ⟨j + 1, by omega, by first | rfl | (congr 1; done) | (congr 1; omega), S3, E3, HM3.out.1, ?_, HM3.out.2.2.1, HM3.out.2.2.2⟩
        rw [HM3.out.2.1, <- HM2.out.2.1, HDj.out, HQ.out.2.1]
        exact (aGd (by rw [EX.out]; exact HX.out)).symm
       case measure => simp [intOf]; omega
      ·have q1 : ((x2 : Int) != 0) = true := by simp; omega
       have HX := qH hx
       clear hx
       go_wp2
       go_ret2
       have hall := HM2.out.2.1
       rw [HDj.out, HQ.out.2.1, aD2 (by rw [EX.out]; exact HX.out), EX.out] at hall
       have hfr : iR [] L = (aW E2, x2) := by
        rw [<- HF.out, HDr.out, aHq (by rw [HQ.out.2.1, HQ.out.2.2.1, ED.out]; exact HD.out) (by rw [HQ.out.2.1, HQ.out.2.2.1, <- hall]; exact HX.out), HQ.out.2.1, HQ.out.2.2.1, <- hall]
       exact RetN.mk HM3.out.1.ext ⟨fun h0 => by rw [hfr] at h0; exact absurd h0 HX.out, fun _ => by rw [hfr]; rfl⟩
     ·obtain rfl : j = m := by omega
      have hall := HM2.out.2.1
      rw [List.drop_of_length_le (by rw [HQ.out.2.2.2]; exact Nat.le_refl _)] at hall
      have hall' : fB (gA (aW E) s a) s q.2.2.1 = (aW E2, 0) := hall.symm
      have HAll := qH hall'
      clear hall hall'
      go_wp2
      go_roundw
      case rel =>
       refine ⟨i + 1, by omega, by first | rfl | (congr 1; done) | (congr 1; omega), S1, E2, HM2.out.1, ?_⟩
       rw [<- HF.out, HDr.out, aI6 (by rw [HQ.out.2.1, HQ.out.2.2.1, ED.out]; exact HD.out) (by rw [HQ.out.2.1, HQ.out.2.2.1, HAll.out]), HQ.out.2.1, HQ.out.2.2.1, HAll.out]
      case measure => simp [intOf]; omega
   ·have q1 : ((d : Int) != 0) = true := by simp; omega
    have HD := qH hd
    clear hd
    go_wp2
    go_ret2
    have hfr : iR [] L = (aW E, d) := by
     rw [<- HF.out, drop_at HQ.out.1, aHr (by rw [HQ.out.2.1, HQ.out.2.2.1, ED.out]; exact HD.out), HQ.out.2.1, HQ.out.2.2.1, ED.out]
    exact RetN.mk HM1.out.1.ext ⟨fun h0 => by rw [hfr] at h0; exact absurd h0 HD.out, fun _ => by rw [hfr]; rfl⟩
  ·obtain rfl : i = n := by omega
   have hfr : iR [] L = (aW E, 0) := by
    rw [<- HF.out, List.drop_of_length_le (by rw [<- HN.out]; exact Nat.le_refl _)]; rfl
   have HFr := qH hfr
   clear hfr
   go_wp2
   go_ret2
   exact RetN.mk HM.out.ext ⟨fun _ => ⟨bb, r, S, E, rfl, HM.out.base, by rw [HFr.out], HM.out.pool, HM.out.own⟩, fun h0 => absurd (by rw [HFr.out]) h0⟩
end Go.Proofs.YtikgpedgmnbcaaaGreatDoor
/- The law of aggregates: given, facts, is, awake. -/
namespace Go.Proofs.YtikgpedgmnbcaaaGreatDoor
open Go.RowKit Go.Shelf
attribute [local go_sem] Oper.semAt_some
theorem uR : ∀ {ts : List aG}, rZ ts < 2 -> ∀ {i j : Nat} {t u : aG}, ts[i]? = some t -> ts[j]? = some u -> 4 ≤ t.1 -> 4 ≤ u.1 -> i = j
 | [], _, i, j, t, u, hi, _, _, _ => by cases hi
 | x :: ts, h, i, j, t, u, hi, hj, h4, h5 => by
  unfold rZ at h
  rw [List.countP_cons] at h
  have key : ∀ {k : Nat} {s : aG}, ts[k]? = some s -> 4 ≤ s.1 -> 4 ≤ x.1 -> False := fun {k s} hs h6 h7 => by
   have h1 : 0 < ts.countP fun t => decide (4 ≤ t.1) := List.countP_pos_iff.2 ⟨s, List.mem_of_getElem? hs, by simpa using h6⟩
   rw [if_pos (by simpa using h7)] at h
   omega
  match i, j, hi, hj with
  | 0, 0, _, _ => rfl
  | 0, j + 1, hi, hj => cases hi; exact (key hj h5 h4).elim
  | i + 1, 0, hi, hj => cases hj; exact (key hi h4 h5).elim
  | i + 1, j + 1, hi, hj =>
   rw [uR (ts := ts) (by unfold rZ; omega) hi hj h4 h5]
def aGp (L : aC) : Bool := L.all fun V => V.all fun s => decide (s.size ≤ 1048576)
theorem vS {L : aC} (h : aGp L = true) : ∀ V ∈ L, ∀ s ∈ V, s.size ≤ 1048576 := fun V hV s hs => of_decide_eq_true (List.all_eq_true.1 (List.all_eq_true.1 h V hV) s hs)
def okA (r : cP) (C : List bM) : Bool := decide (aT r = 0) && (decide (r.2.1 ≠ []) && (decide ((iC r C).length ≤ 1048576) && (aGp (iC r C) && aGp ((iC r C).map fun V => bG (aA r.2.1) V r.1.2.1))))
def aJk (e : Nat) (A : aC) (w w' : World) (v : Value) : Prop := (e ≠ 0 /\ v = .tuple #[.slice none 0 0, .int .i64 (e : Nat)]) \/ (e = 0 /\ ∃ a c, v = .tuple #[.slice a A.length c, .int .i64 0] /\ OwnRows w.heap.size w' (.slice a A.length c) A)
set_option maxRecDepth 100000 in
set_option maxHeartbeats 4000000 in
theorem aBg {S : Nat -> Prop} {w : World} {p : ByteArray} {hs : List aG} {ls : List aR} {ha ba : Option Addr} {hn hcap n bcap : Nat} {G : Nat -> Prop} {ob : Addr} {E : List Ent} {C : List bM} {j : Nat} {k : Int} {s8 : ByteArray} {e : Nat} {A : aC} (hhn : hn = hs.length) (hh : bE w G ha hs) (hhl : hn ≤ 1048576) (hbn : n = ls.length) (h : dE w G ba ls) (hf : Fit ls) (hnv : (aA ls).length ≤ 1048576) (hn16 : n ≤ 1048576)
 (hB : BaseV S w (.pointer (some ob)) E) (hC : aW E = C) (hok : okA ((p, hs, ()), ls, ()) C = true) (hj : hs[j]? = some (k, s8, ())) (h4 : 4 ≤ k) (hN : NumW w) (hM : yW (aA ls) hs k (bD (fun x => decide (x = s8)) (aA ls)).toNat j (iC ((p, hs, ()), ls, ()) C) = (e, A)) :
 Calls Tryz.prog 21 #[fF p ha hn hcap ba n bcap, .pointer (some ob)] w (RetN w fun w' v => aJk e A w w' v) := by
 unfold okA at hok
 rw [Bool.and_eq_true, Bool.and_eq_true, Bool.and_eq_true, Bool.and_eq_true, decide_eq_true_eq, decide_eq_true_eq, decide_eq_true_eq] at hok
 obtain ⟨hc, hne, hl, hz1, hz2⟩ := hok
 have hag : (hs.any fun t => decide (4 ≤ t.1)) = true := List.any_eq_true.2 ⟨_, List.mem_of_getElem? hj, by simpa using h4⟩
 have HF := qH (fun W (hW : Ext w W) => yV (hcap := hcap) (bcap := bcap) (p := p) (L := iC ((p, hs, ()), ls, ()) C) hhn (hh.ext hW) hhl hbn (h.ext hW) hf hnv hn16 (hB.ext hW) (by have := aDt ((p, hs, ()), ls, ()) E; rw [hC] at this; exact this) hag (hN.ext hW) hl (vS hz1) (fun V hV => vS hz2 _ (List.mem_map.2 ⟨V, hV, rfl⟩)))
 have HK := qH (And.intro hc (And.intro hne (And.intro hj (And.intro h4 hM))))
 clear hhn hh hhl hbn h hf hnv hn16 hB hC hc hne hl hz1 hz2 hag hj h4 hN hM
 obtain ⟨gb, egb⟩ : ∃ g, w.heap.size = g := ⟨_, rfl⟩
 obtain ⟨w1, e1⟩ : ∃ x, w.alloc (.cells #[.string p, .slice ha hn hcap, .slice ba n bcap] 43) = x := ⟨_, rfl⟩
 have x1 : Ext w w1 := by rw [<- e1]; exact (Kp.refl w).alloc _
 have hB1 : Blk w1 gb [.string p, .slice ha hn hcap, .slice ba n bcap] 43 := by rw [<- e1, <- egb]; exact Blk.new w _ _
 have H1 := qH x1
 have r0 : w1.cell? ⟨gb, 0, none⟩ = some (.string p) := by rw [hB1.cell']; rfl
 have r1 : w1.cell? ⟨gb, 1, none⟩ = some (.slice ha hn hcap) := by rw [hB1.cell']; rfl
 have r2 : w1.cell? ⟨gb, 2, none⟩ = some (.slice ba n bcap) := by rw [hB1.cell']; rfl
 clear x1 hB1
 go_enter Tryz.func21, Tryz.ntmps21
 go_wp2_with fail
 clear e1
 refine (HF.out w1 H1.out).mono ?_
 rintro e2 w2 ⟨v2, rfl, hk2, hO⟩
 have HX := qH (H1.out.trans hk2)
 have hsz := H1.out.size
 have hO2 : (e ≠ 0 /\ v2 = .tuple #[.pointer none, .int .i64 (e : Nat)]) \/ (e = 0 /\ ∃ rb iv S, v2 = .tuple #[.pointer (some ⟨rb, 0, none⟩), .int .i64 0] /\ RowsAt S w2 rb iv hs.length A /\ w1.heap.size ≤ rb /\ (∀ k, S k -> w1.heap.size ≤ k) /\ ∀ k, iv.ownBlock = some k -> w1.heap.size ≤ k) := by
  obtain ⟨hc, hne, hj, h4, hM⟩ := HK.out
  rcases hO with ⟨h, _⟩ | ⟨_, j2, k2, s2, hj2, hk2, h⟩
  ·exact absurd hc h
  ·have ej := uR (oH hc).2 hj hj2 h4 hk2.1
   subst ej
   have hj3 : hs[j]? = some (k2, s2, ()) := hj2
   rw [hj] at hj3
   cases hj3
   rcases h with ⟨h, _⟩ | ⟨_, h, _⟩ | ⟨_, _, e3, A3, hM3, h⟩
   ·exact absurd h hne
   ·cases h
   ·have e4 := hM.symm.trans hM3
    cases e4
    exact h
 clear hO hk2 r0 r1 r2
 rcases hO2 with ⟨he, rfl⟩ | ⟨rfl, rb, iv, S2, rfl, hR, hrb, hS, hv⟩
 ·have HE := qH he
  have hnn : (binOp .eql 73 (.pointer none) (.pointer none)).run Tryz.prog w2 = .ok (.bool true) w2 := by kernel_rfl
  clear he
  go_wp2_with fail
  refine (wB (e : Nat) w2).mono ?_
  rintro e5 w5 ⟨v5, rfl, hk5, rfl⟩
  have X5 := qH (HX.out.trans hk5)
  clear hk5
  go_wp2_with fail
  go_ret2
  exact RetN.mk X5.out (.inl ⟨HE.out, rfl⟩)
 ·have HA := qH (vV (hR.q (z := False)))
  have hnn : (binOp .eql 73 (.pointer (some ⟨rb, 0, none⟩)) (.pointer none)).run Tryz.prog w2 = .ok (.bool false) w2 := by kernel_rfl
  have HZ := qH HX.out.size
  clear hR hrb hS hv
  go_wp2_with fail
  refine HA.out.mono ?_
  rintro e5 w5 ⟨v5, rfl, hk5, _, hA⟩
  obtain ⟨aa, ac, ea, -⟩ := hA.shape
  subst ea
  have X5 := qH (And.intro (HX.out.trans (hk5.mono fun k _ f => f.1)) (OwnRows.mono hA HZ.out))
  clear hk5 hA
  go_wp2_with fail
  refine (wB 0 w5).mono ?_
  rintro e6 w6 ⟨v6, rfl, hk6, rfl⟩
  have X6 := qH (And.intro (X5.out.1.trans hk6) (X5.out.2.ext hk6))
  clear hk6
  go_wp2_with fail
  go_ret2
  exact RetN.mk X6.out.1 (.inr ⟨rfl, aa, ac, rfl, X6.out.2⟩)
set_option maxRecDepth 100000 in
set_option maxHeartbeats 4000000 in
theorem aHi {S : Nat -> Prop} {w : World} {p : ByteArray} {hs : List aG} {ls : List aR} {ha ba wa : Option Addr} {hn hcap n bcap wn wc : Nat} {G : Nat -> Prop} {ob : Addr} {E : List Ent} {C : List bM} {j : Nat} {k : Int} {s8 : ByteArray} {e : Nat} {A B : aC} (hhn : hn = hs.length) (hh : bE w G ha hs) (hhl : hn ≤ 1048576) (hbn : n = ls.length) (h : dE w G ba ls) (hf : Fit ls) (hnv : (aA ls).length ≤ 1048576) (hn16 : n ≤ 1048576)
 (hB : BaseV S w (.pointer (some ob)) E) (hC : aW E = C) (hok : okA ((p, hs, ()), ls, ()) C = true) (hj : hs[j]? = some (k, s8, ())) (h4 : 4 ≤ k) (hN : NumW w) (hM : yW (aA ls) hs k (bD (fun x => decide (x = s8)) (aA ls)).toNat j (iC ((p, hs, ()), ls, ()) C) = (e, A)) (hAl : A.length ≤ 1048576) (hwn : wn = B.length) (hW : RowsIn TT w wa B) :
 Calls Tryz.prog 27 #[fF p ha hn hcap ba n bcap, .pointer (some ob), .slice wa wn wc] w (RetN w fun w' v => v = .bool (decide (e = 0 /\ A = B))) := by
 have HF := qH (fun W (hx : Ext w W) => aBg (hcap := hcap) (bcap := bcap) (p := p) hhn (hh.ext hx) hhl hbn (h.ext hx) hf hnv hn16 (hB.ext hx) hC hok hj h4 (hN.ext hx) hM)
 have HW := qH (And.intro hwn (And.intro hW hAl))
 clear hhn hh hhl hbn h hf hnv hn16 hB hC hok hj h4 hN hM hwn hW hAl
 obtain ⟨gb, egb⟩ : ∃ g, w.heap.size = g := ⟨_, rfl⟩
 obtain ⟨w1, e1⟩ : ∃ x, w.alloc (.cells #[.string p, .slice ha hn hcap, .slice ba n bcap] 43) = x := ⟨_, rfl⟩
 have x1 : Ext w w1 := by rw [<- e1]; exact (Kp.refl w).alloc _
 have hB1 : Blk w1 gb [.string p, .slice ha hn hcap, .slice ba n bcap] 43 := by rw [<- e1, <- egb]; exact Blk.new w _ _
 have H1 := qH x1
 have r0 : w1.cell? ⟨gb, 0, none⟩ = some (.string p) := by rw [hB1.cell']; rfl
 have r1 : w1.cell? ⟨gb, 1, none⟩ = some (.slice ha hn hcap) := by rw [hB1.cell']; rfl
 have r2 : w1.cell? ⟨gb, 2, none⟩ = some (.slice ba n bcap) := by rw [hB1.cell']; rfl
 clear x1 hB1
 go_enter Tryz.func27, Tryz.ntmps27
 go_wp2_with fail
 clear e1
 refine (HF.out w1 H1.out).mono ?_
 rintro e2 w2 ⟨v2, rfl, hk2, hO⟩
 have HX := qH (H1.out.trans hk2)
 clear r0 r1 r2 hk2
 rcases hO with ⟨he, rfl⟩ | ⟨rfl, aa, ac, rfl, hA⟩
 ·have h0 : ((e : Int) == 0) = false := by simp; omega
  have HE := qH he
  clear he
  go_wp2_with fail
  go_ret
  exact RetN.mk HX.out (by rw [decide_eq_false (fun h => HE.out h.1)]; rfl)
 ·obtain ⟨a2, c2, ea, hRI⟩ := hA.shape
  cases ea
  have HAl := qH (aB0 (w := w2) (n := A.length) (m := wn) (acap := ac) (bcap := wc) rfl HW.out.1 hRI (HW.out.2.1.ext HX.out) (by have := HW.out.2.2; omega))
  clear hA hRI
  go_wp2_with fail
  refine HAl.out.mono ?_
  rintro e5 w5 ⟨v5, rfl, hk5, rfl⟩
  have X5 := qH (HX.out.trans hk5)
  clear hk5
  by_cases hab : A = B
  ·have hd : decide (A = B) = true := decide_eq_true hab
   rw [hd]
   have HE := qH hab
   clear hab hd
   go_wp2_with fail
   go_ret
   exact RetN.mk X5.out (by rw [decide_eq_true HE.out]; rfl)
  ·have hd : decide (A = B) = false := decide_eq_false hab
   rw [hd]
   have HE := qH hab
   clear hab hd
   go_wp2_with fail
   go_ret
   exact RetN.mk X5.out (by rw [decide_eq_false HE.out]; rfl)
end Go.Proofs.YtikgpedgmnbcaaaGreatDoor
/- The law of aggregates: given, awake. -/
namespace Go.Proofs.YtikgpedgmnbcaaaGreatDoor
open Go.RowKit Go.Shelf
attribute [local go_sem] Oper.semAt_some
def uD : List oN := [(⟨#[101]⟩, 2, [[(⟨#[97]⟩ : ByteArray), (⟨#[49]⟩ : ByteArray)], [(⟨#[97]⟩ : ByteArray), (⟨#[49, 48]⟩ : ByteArray)], [(⟨#[97]⟩ : ByteArray), (⟨#[57]⟩ : ByteArray)], [(⟨#[98]⟩ : ByteArray), (⟨#[57]⟩ : ByteArray)], [(⟨#[98]⟩ : ByteArray), (⟨#[]⟩ : ByteArray)]], ())]
def aBy : List bM := [(⟨#[101]⟩, 2, [[(⟨#[97]⟩ : ByteArray), (⟨#[49]⟩ : ByteArray)], [(⟨#[97]⟩ : ByteArray), (⟨#[49, 48]⟩ : ByteArray)], [(⟨#[97]⟩ : ByteArray), (⟨#[57]⟩ : ByteArray)], [(⟨#[98]⟩ : ByteArray), (⟨#[]⟩ : ByteArray)], [(⟨#[98]⟩ : ByteArray), (⟨#[57]⟩ : ByteArray)]])]
theorem uC : iR [] uD = (aBy, 0) := by kernel_rfl
set_option maxRecDepth 100000 in
set_option maxHeartbeats 4000000 in
theorem aA7 (w : World) : Calls Tryz.prog 23 #[] w (RetN w fun w' v => ∃ bb E S, v = .pointer (some ⟨bb, 0, none⟩) /\ BaseV S w' v E /\ aW E = aBy) := by
 obtain ⟨w1, e1⟩ : ∃ x, w.alloc (.cells #[.string ⟨#[97]⟩, .string ⟨#[49]⟩] 9) = x := ⟨_, rfl⟩
 have B1 := qH (show Blk w1 w.heap.size [.string ⟨#[97]⟩, .string ⟨#[49]⟩] 9 from by rw [<- e1]; exact Blk.new w _ _)
 have Y1 := qH (show Ext w w1 from by rw [<- e1]; exact (Kp.refl w).alloc _)
 obtain ⟨w2, e2⟩ : ∃ x, w1.alloc (.cells #[.string ⟨#[97]⟩, .string ⟨#[49, 48]⟩] 9) = x := ⟨_, rfl⟩
 have B2 := qH (show Blk w2 w1.heap.size [.string ⟨#[97]⟩, .string ⟨#[49, 48]⟩] 9 from by rw [<- e2]; exact Blk.new w1 _ _)
 have Y2 := qH (show Ext w1 w2 from by rw [<- e2]; exact (Kp.refl w1).alloc _)
 obtain ⟨w3, e3⟩ : ∃ x, w2.alloc (.cells #[.string ⟨#[97]⟩, .string ⟨#[57]⟩] 9) = x := ⟨_, rfl⟩
 have B3 := qH (show Blk w3 w2.heap.size [.string ⟨#[97]⟩, .string ⟨#[57]⟩] 9 from by rw [<- e3]; exact Blk.new w2 _ _)
 have Y3 := qH (show Ext w2 w3 from by rw [<- e3]; exact (Kp.refl w2).alloc _)
 obtain ⟨w4, e4⟩ : ∃ x, w3.alloc (.cells #[.string ⟨#[98]⟩, .string ⟨#[57]⟩] 9) = x := ⟨_, rfl⟩
 have B4 := qH (show Blk w4 w3.heap.size [.string ⟨#[98]⟩, .string ⟨#[57]⟩] 9 from by rw [<- e4]; exact Blk.new w3 _ _)
 have Y4 := qH (show Ext w3 w4 from by rw [<- e4]; exact (Kp.refl w3).alloc _)
 obtain ⟨w5, e5⟩ : ∃ x, w4.alloc (.cells #[.string ⟨#[98]⟩, .string ⟨#[]⟩] 9) = x := ⟨_, rfl⟩
 have B5 := qH (show Blk w5 w4.heap.size [.string ⟨#[98]⟩, .string ⟨#[]⟩] 9 from by rw [<- e5]; exact Blk.new w4 _ _)
 have Y5 := qH (show Ext w4 w5 from by rw [<- e5]; exact (Kp.refl w4).alloc _)
 obtain ⟨w6, e6⟩ : ∃ x, w5.alloc (.cells #[.slice (some ⟨w.heap.size, 0, none⟩) 2 2, .slice (some ⟨w1.heap.size, 0, none⟩) 2 2, .slice (some ⟨w2.heap.size, 0, none⟩) 2 2, .slice (some ⟨w3.heap.size, 0, none⟩) 2 2, .slice (some ⟨w4.heap.size, 0, none⟩) 2 2] 66) = x := ⟨_, rfl⟩
 have B6 := qH (show Blk w6 w5.heap.size [.slice (some ⟨w.heap.size, 0, none⟩) 2 2, .slice (some ⟨w1.heap.size, 0, none⟩) 2 2, .slice (some ⟨w2.heap.size, 0, none⟩) 2 2, .slice (some ⟨w3.heap.size, 0, none⟩) 2 2, .slice (some ⟨w4.heap.size, 0, none⟩) 2 2] 66 from by rw [<- e6]; exact Blk.new w5 _ _)
 have Y6 := qH (show Ext w5 w6 from by rw [<- e6]; exact (Kp.refl w5).alloc _)
 obtain ⟨w7, e7⟩ : ∃ x, w6.alloc (.cells #[.string ⟨#[101]⟩, .int .i64 2, .slice (some ⟨w5.heap.size, 0, none⟩) 5 5] 111) = x := ⟨_, rfl⟩
 have B7 := qH (show Blk w7 w6.heap.size [.string ⟨#[101]⟩, .int .i64 2, .slice (some ⟨w5.heap.size, 0, none⟩) 5 5] 111 from by rw [<- e7]; exact Blk.new w6 _ _)
 have Y7 := qH (show Ext w6 w7 from by rw [<- e7]; exact (Kp.refl w6).alloc _)
 have HE := qH (vU (w := w6) (g := w5.heap.size) (l := [(w.heap.size, [(⟨#[97]⟩ : ByteArray), (⟨#[49]⟩ : ByteArray)]), (w1.heap.size, [(⟨#[97]⟩ : ByteArray), (⟨#[49, 48]⟩ : ByteArray)]), (w2.heap.size, [(⟨#[97]⟩ : ByteArray), (⟨#[57]⟩ : ByteArray)]), (w3.heap.size, [(⟨#[98]⟩ : ByteArray), (⟨#[57]⟩ : ByteArray)]), (w4.heap.size, [(⟨#[98]⟩ : ByteArray), (⟨#[]⟩ : ByteArray)])]) (LL := [[(⟨#[97]⟩ : ByteArray), (⟨#[49]⟩ : ByteArray)], [(⟨#[97]⟩ : ByteArray), (⟨#[49, 48]⟩ : ByteArray)], [(⟨#[97]⟩ : ByteArray), (⟨#[57]⟩ : ByteArray)], [(⟨#[98]⟩ : ByteArray), (⟨#[57]⟩ : ByteArray)], [(⟨#[98]⟩ : ByteArray), (⟨#[]⟩ : ByteArray)]]) rfl B6.out (fun x hx => by
  simp only [List.mem_cons, List.not_mem_nil, or_false] at hx
  rcases hx with rfl | rfl | rfl | rfl | rfl
  ·exact ⟨B1.out.ext (Y2.out.trans (Y3.out.trans (Y4.out.trans (Y5.out.trans (Y6.out))))), by simp⟩
  ·exact ⟨B2.out.ext (Y3.out.trans (Y4.out.trans (Y5.out.trans (Y6.out)))), by simp⟩
  ·exact ⟨B3.out.ext (Y4.out.trans (Y5.out.trans (Y6.out))), by simp⟩
  ·exact ⟨B4.out.ext (Y5.out.trans (Y6.out)), by simp⟩
  ·exact ⟨B5.out.ext (Y6.out), by simp⟩))
 have X := qH (show Ext w w7 from Y1.out.trans (Y2.out.trans (Y3.out.trans (Y4.out.trans (Y5.out.trans (Y6.out.trans (Y7.out)))))))
 have XE := qH Y7.out
 have BR := qH B7.out
 clear B1 Y1 B2 Y2 B3 Y3 B4 Y4 B5 Y5 B6 Y6 B7 Y7
 have hL : aIg TT w7 (some ⟨w6.heap.size, 0, none⟩) uD := fun i q hq => by
  match i, hq with
  | 0, hq => cases hq; exact ⟨w6.heap.size, 0, some ⟨w5.heap.size, 0, none⟩, 5, rfl, trivial, by rw [BR.out.cell']; rfl, by rw [BR.out.cell']; rfl, by rw [BR.out.cell']; rfl, by decide, by decide, HE.out.ext XE.out⟩
  | n + 1, hq => cases hq
 have HFr := qH (aHs uD (some ⟨w6.heap.size, 0, none⟩) 1 1 w7 TT rfl hL (by decide) (by decide))
 clear hL
 go_enter Tryz.func23, Tryz.ntmps23
 go_wp2_with fail
 refine HFr.out.mono ?_
 rintro e w11 ⟨v, rfl, hk11, hv⟩
 obtain ⟨bb, r, S, E, rfl, hb, hC, -, -⟩ := hv.1 (by rw [uC])
 have H11 := qH (show Ext w w11 /\ BaseAt S w11 bb r E /\ aW E = aBy from ⟨X.out.trans hk11, hb, by rw [hC, uC]⟩)
 clear hv hb hC hk11
 go_wp2
 go_ret
 exact RetN.mk H11.out.1 ⟨bb, E, S, rfl, .full bb r E H11.out.2.1, H11.out.2.2⟩
def qR : List aG := [((1 : Int), (⟨#[88]⟩ : ByteArray), ()), ((4 : Int), (⟨#[]⟩ : ByteArray), ())]
def aH8 : List aG := [((1 : Int), (⟨#[88]⟩ : ByteArray), ()), ((1 : Int), (⟨#[89]⟩ : ByteArray), ())]
def mU : List aR := [((1 : Int), ((⟨#[101]⟩ : ByteArray), aH8, ()), (0 : Int), ((0 : Int), (⟨#[]⟩ : ByteArray), ()), ((0 : Int), (⟨#[]⟩ : ByteArray), ()), ())]
def aBx : aC := [[(⟨#[97]⟩ : ByteArray), (⟨#[51]⟩ : ByteArray)], [(⟨#[98]⟩ : ByteArray), (⟨#[50]⟩ : ByteArray)]]
theorem aJb : okA ((⟨#[116]⟩, qR, ()), mU, ()) aBy = true := by kernel_rfl
theorem aJc : yW (aA mU) qR 4 (bD (fun x => decide (x = (⟨#[]⟩ : ByteArray))) (aA mU)).toNat 1 (iC ((⟨#[116]⟩, qR, ()), mU, ()) aBy) = (0, aBx) := by kernel_rfl
theorem aDv (bb : Nat) (w : World) : (binOp .neq 45 (.pointer (some ⟨bb, 0, none⟩)) (.pointer none)).run Tryz.prog w = .ok (.bool true) w := by kernel_rfl
set_option maxRecDepth 100000 in
set_option maxHeartbeats 4000000 in
theorem aBw (w : World) (hN : NumW w) : Calls Tryz.prog 15 #[] w (RetN w fun w' v => v = .bool true) := by
 have HN := qH hN
 clear hN
 go_enter Tryz.func15, Tryz.ntmps15
 go_wp2_with fail
 refine (aA7 w).mono ?_
 rintro e w1 ⟨v1, rfl, hk1, bb, E, SS, rfl, hBv, hCv⟩
 have X1 := qH (And.intro hk1 (And.intro hBv hCv))
 clear hk1 hBv hCv
 have hnb := aDv bb w1
 go_wp2_with fail
 refine (xP ⟨#[88]⟩ w1).mono ?_
 rintro e w2 ⟨v2, rfl, hk2, rfl⟩
 have X2 := qH hk2
 clear hk2 hnb
 obtain ⟨w3, ew3⟩ : ∃ x, w2.alloc (.cells #[.int .i64 1, .string ⟨#[88]⟩, .int .i64 4, .string ⟨#[]⟩] 58) = x := ⟨_, rfl⟩
 have X3 := qH (show Ext w2 w3 from by rw [<- ew3]; exact (Kp.refl w2).alloc _)
 have T3 := qH (show bE w3 TT (some ⟨w2.heap.size, 0, none⟩) qR from by rw [<- ew3]; exact vK w2 qR (by kernel_rfl))
 go_wp2_with fail
 clear ew3
 refine (xP ⟨#[88]⟩ w3).mono ?_
 rintro e w4 ⟨v4, rfl, hk4, rfl⟩
 have X4 := qH hk4
 clear hk4
 go_wp2_with fail
 refine (xP ⟨#[89]⟩ w4).mono ?_
 rintro e w5 ⟨v5, rfl, hk5, rfl⟩
 have X5 := qH hk5
 clear hk5
 obtain ⟨w6, ew6⟩ : ∃ x, w5.alloc (.cells #[.int .i64 1, .string ⟨#[88]⟩, .int .i64 1, .string ⟨#[89]⟩] 58) = x := ⟨_, rfl⟩
 have X6 := qH (show Ext w5 w6 from by rw [<- ew6]; exact (Kp.refl w5).alloc _)
 have T6 := qH (show bE w6 TT (some ⟨w5.heap.size, 0, none⟩) aH8 from by rw [<- ew6]; exact vK w5 aH8 (by kernel_rfl))
 go_wp2_with fail
 clear ew6
 refine (aE1 ⟨#[101]⟩ (some ⟨w5.heap.size, 0, none⟩) 2 2 w6).mono ?_
 rintro e w7 ⟨v7, rfl, hk7, rfl⟩
 have X7 := qH hk7
 clear hk7
 obtain ⟨w8, ew8⟩ : ∃ x, w7.alloc (.cells #[.int .i64 1, .string ⟨#[101]⟩, .slice (some ⟨w5.heap.size, 0, none⟩) 2 2, .int .i64 0, .int .i64 0, .string ⟨#[]⟩, .int .i64 0, .string ⟨#[]⟩] 60) = x := ⟨_, rfl⟩
 have X8 := qH (show Ext w7 w8 from by rw [<- ew8]; exact (Kp.refl w7).alloc _)
 have L8 := qH (show dE w8 TT (some ⟨w7.heap.size, 0, none⟩) mU from by
  rw [<- ew8]
  refine aG5 w7 mU [(some ⟨w5.heap.size, 0, none⟩, 2)] rfl (by kernel_rfl) fun x hx => ?_
  unfold mU at hx
  simp only [List.zip_cons_cons, List.zip_nil_right, List.mem_cons, List.not_mem_nil, or_false] at hx
  rcases hx with rfl
  exact ⟨T6.out.ext X7.out, Nat.le_refl _, (by decide : 2 ≤ maxLen)⟩)
 go_wp2_with fail
 clear ew8
 refine (aCj (some ⟨w2.heap.size, 0, none⟩) (some ⟨w7.heap.size, 0, none⟩) 2 2 1 1 w8).mono ?_
 rintro e w9 ⟨v9, rfl, hk9, rfl⟩
 have X9 := qH hk9
 clear hk9
 obtain ⟨w10, e10⟩ : ∃ x, w9.alloc (.cells #[.string ⟨#[97]⟩, .string ⟨#[51]⟩] 9) = x := ⟨_, rfl⟩
 obtain ⟨w11, e11⟩ : ∃ x, w10.alloc (.cells #[.string ⟨#[98]⟩, .string ⟨#[50]⟩] 9) = x := ⟨_, rfl⟩
 obtain ⟨w12, e12⟩ : ∃ x, w11.alloc (.cells #[.slice (some ⟨w9.heap.size, 0, none⟩) 2 2, .slice (some ⟨w10.heap.size, 0, none⟩) 2 2] 66) = x := ⟨_, rfl⟩
 have x10 : Ext w9 w10 := by rw [<- e10]; exact (Kp.refl w9).alloc _
 have x11 : Ext w10 w11 := by rw [<- e11]; exact (Kp.refl w10).alloc _
 have x12 : Ext w11 w12 := by rw [<- e12]; exact (Kp.refl w11).alloc _
 have b10 : Blk w10 w9.heap.size [.string ⟨#[97]⟩, .string ⟨#[51]⟩] 9 := by rw [<- e10]; exact Blk.new w9 _ _
 have b11 : Blk w11 w10.heap.size [.string ⟨#[98]⟩, .string ⟨#[50]⟩] 9 := by rw [<- e11]; exact Blk.new w10 _ _
 have b12 : Blk w12 w11.heap.size [.slice (some ⟨w9.heap.size, 0, none⟩) 2 2, .slice (some ⟨w10.heap.size, 0, none⟩) 2 2] 66 := by rw [<- e12]; exact Blk.new w11 _ _
 have HW := qH (show RowsIn TT w12 (some ⟨w11.heap.size, 0, none⟩) aBx from vU (l := [(w9.heap.size, [(⟨#[97]⟩ : ByteArray), (⟨#[51]⟩ : ByteArray)]), (w10.heap.size, [(⟨#[98]⟩ : ByteArray), (⟨#[50]⟩ : ByteArray)])]) rfl b12 (fun x hx => by
  simp only [List.mem_cons, List.not_mem_nil, or_false] at hx
  rcases hx with rfl | rfl
  ·exact ⟨b10.ext (x11.trans x12), by simp⟩
  ·exact ⟨b11.ext x12, by simp⟩))
 have X12 := qH (x10.trans (x11.trans x12))
 clear x10 x11 x12 b10 b11 b12
 go_wp2_with fail
 clear e10 e11 e12
 have H9 := qH (show Ext w w12 /\ Ext w1 w12 /\ Ext w3 w12 /\ Ext w8 w12 from
  have a := X9.out.trans X12.out
  have b := X4.out.trans (X5.out.trans (X6.out.trans (X7.out.trans (X8.out.trans a))))
  have c := X2.out.trans (X3.out.trans b)
  ⟨X1.out.1.trans c, c, b, a⟩)
 refine (aHi (p := ⟨#[116]⟩) (hs := qR) (ls := mU) (hn := 2) (hcap := 2) (n := 1) (bcap := 1) (G := TT) (wc := 2) (B := aBx) rfl (T3.out.ext H9.out.2.2.1) (by decide) rfl (L8.out.ext H9.out.2.2.2) (aJ6 (by kernel_rfl)) (aJ7 (by kernel_rfl)) (by decide) (X1.out.2.1.ext H9.out.2.1) X1.out.2.2 aJb (j := 1) rfl (by decide) (HN.out.ext H9.out.1) aJc (by decide) rfl HW.out).mono ?_
 rintro e w13 ⟨v13, rfl, hk13, rfl⟩
 have X13 := qH (H9.out.1.trans hk13)
 clear hk13
 rw [show decide (0 = 0 /\ aBx = aBx) = true from decide_eq_true ⟨rfl, rfl⟩]
 go_wp2
 go_ret
 exact RetN.mk X13.out rfl
end Go.Proofs.YtikgpedgmnbcaaaGreatDoor
/- The law of aggregates: AggBack: numbers there and back, totals in any order. -/
namespace Go.Proofs.YtikgpedgmnbcaaaGreatDoor
open Go.RowKit Go.Shelf
attribute [local go_sem] Oper.semAt_some
theorem aEm {u : Nat} (h1 : 1 ≤ u) (h2 : u ≤ 9223372036854775808) : ∃ c r, Lib.decDigits u = c :: r /\ ¬ (19 < (c :: r).length \/ c.toNat < 49 \/ 57 < c.toNat) /\ (c :: r).all fH = true /\ cU (c :: r) = u := by
 obtain ⟨d1, d2, d3⟩ := dL u
 obtain ⟨hall, c, r, e, hc⟩ := d3 h1
 have hl := aG0 (Nat.le_trans (qO ⟨hall, c, r, e, hc⟩) (by rw [d1]; exact h2))
 rw [e] at d1 d2 hl
 have hd : fH c = true := by
  rw [List.all_cons, Bool.and_eq_true] at d2
  exact d2.1
 have hd2 := of_decide_eq_true hd
 exact ⟨c, r, e, by omega, d2, d1⟩
theorem yB (x : Int) (h0 : -9223372036854775808 ≤ x) (h1 : x ≤ 9223372036854775807) : numSpec (Lib.itoa x) = (x, true) := by
 rw [aIx]
 by_cases hz : x = 0
 ·subst hz
  kernel_rfl
 ·by_cases hp : 0 < x
  ·obtain ⟨u, rfl⟩ : ∃ u : Nat, x = (u : Int) := ⟨x.toNat, by omega⟩
   rw [Lib.itoa_nonneg]
   obtain ⟨c, r, e, hg, hall, hv⟩ := aEm (show 1 ≤ u by omega) (by omega)
   rw [e]
   unfold refN
   have h48 : c :: r ≠ [48] := fun h => by
    injection h with h1 h2
    subst h1
    exact hg (.inr (.inl (by decide)))
   have h45 : ¬ c = 45 := fun h => by
    subst h
    exact hg (.inr (.inl (by decide)))
   rw [if_neg h48]
   show (if c = 45 then dY true r else dY false (c :: r)) = _
   rw [if_neg h45, cX, if_neg hg]
   unfold fP
   rw [if_pos hall, hv, if_neg (show ¬ false = true by decide), if_neg (by omega)]
  ·obtain ⟨u, rfl⟩ : ∃ u : Nat, x = -(u : Int) := ⟨(-x).toNat, by omega⟩
   rw [Lib.itoa_neg u (by omega)]
   obtain ⟨c, r, e, hg, hall, hv⟩ := aEm (show 1 ≤ u by omega) (by omega)
   rw [e]
   unfold refN
   rw [if_neg (fun h => by injection h with h1 h2; cases h2)]
   show (if (45 : UInt8) = 45 then dY true (c :: r) else _) = _
   rw [if_pos rfl, cX, if_neg hg]
   unfold fP
   rw [if_pos hall, hv, if_pos rfl, if_neg (by omega)]
theorem yC (l : List UInt8) : ((numSpec l).2 = true -> Lib.itoa (numSpec l).1 = l) /\ ((numSpec l).2 = false -> (numSpec l).1 = 0) /\ -9223372036854775808 ≤ (numSpec l).1 /\ (numSpec l).1 ≤ 9223372036854775807 := by
 unfold numSpec
 rcases hp : Lib.parseIntB 64 l with v | _ | _
 ·have hb := Lib.parseIntB_bounds hp
  dsimp only
  by_cases h : Lib.itoa v = l
  ·rw [if_pos h]
   exact ⟨fun _ => h, fun e => (by cases e), by have := hb.1; omega, by have := hb.2; omega⟩
  ·rw [if_neg h]
   exact ⟨fun e => (by cases e), fun _ => rfl, by decide, by decide⟩
 ·exact ⟨fun e => (by cases e), fun _ => rfl, by show _ ≤ (0 : Int); decide, by show (0 : Int) ≤ _; decide⟩
 ·exact ⟨fun e => (by cases e), fun _ => rfl, by show _ ≤ (0 : Int); decide, by show (0 : Int) ≤ _; decide⟩
def ovZ (z : Int) : Int := (z + 9223372036854775808) / 18446744073709551616
theorem xJ (z : Int) : IntKind.i64.wrap z = z - ovZ z * 18446744073709551616 := by
 unfold ovZ
 rw [IntKind.wrap_i64]
 omega
def aHj (x : Int) : Value := .int .i64 x
theorem aCf : ∀ {L : List Int}, (∀ x ∈ L, -9223372036854775808 ≤ x /\ x ≤ 9223372036854775807) -> -(L.length : Int) * 9223372036854775808 ≤ L.sum /\ L.sum ≤ (L.length : Int) * 9223372036854775808
 | [], _ => by simp
 | x :: L, h => by
  have h1 := h x (List.mem_cons_self ..)
  have h2 := aCf fun y hy => h y (List.mem_cons_of_mem _ hy)
  rw [List.sum_cons, List.length_cons]
  omega
theorem zL {L : List Int} {i : Nat} {x : Int} (h : L[i]? = some x) : (L.take (i + 1)).sum = (L.take i).sum + x := by rw [lM h, List.sum_append]; simp
def aIn (w3 : World) (ta tb : Nat) (L : List Int) (n : Nat) (sv ov iv : Value) (W : World) : Prop :=
 ∃ i : Nat, i ≤ n /\ iv = .int .i64 i /\ sv = .int .i64 (IntKind.i64.wrap (L.take i).sum) /\ ov = .int .i64 (ovZ (L.take i).sum) /\ Hid (Kp (fun q => q = ta \/ q = tb) w3 W) /\ Hid (TotalAt W ta (L.take i).sum) /\ Hid (TotalAt W tb (L.reverse.take i).sum)
set_option maxRecDepth 100000 in
theorem aJ2 (t : Array Value) (h : t.size = 153) : ∃ u : Nat -> Value, (∀ i, t.getD i undef = u i) /\ t = #[u 0, u 1, u 2, u 3, u 4, u 5, u 6, u 7, u 8, u 9, u 10, u 11, u 12, u 13, u 14, u 15, u 16, u 17, u 18, u 19, u 20, u 21, u 22, u 23, u 24, u 25, u 26, u 27, u 28, u 29, u 30, u 31, u 32, u 33, u 34, u 35, u 36, u 37, u 38, u 39, u 40, u 41, u 42, u 43, u 44, u 45, u 46, u 47, u 48, u 49, u 50, u 51, u 52, u 53, u 54, u 55, u 56, u 57, u 58, u 59, u 60, u 61, u 62, u 63, u 64, u 65, u 66, u 67, u 68, u 69, u 70, u 71, u 72, u 73, u 74, u 75, u 76, u 77, u 78, u 79, u 80, u 81, u 82, u 83, u 84, u 85, u 86, u 87, u 88, u 89, u 90, u 91, u 92, u 93, u 94, u 95, u 96, u 97, u 98, u 99, u 100, u 101, u 102, u 103, u 104, u 105, u 106, u 107, u 108, u 109, u 110, u 111, u 112, u 113, u 114, u 115, u 116, u 117, u 118, u 119, u 120, u 121, u 122, u 123, u 124, u 125, u 126, u 127, u 128, u 129, u 130, u 131, u 132, u 133, u 134, u 135, u 136, u 137, u 138, u 139, u 140, u 141, u 142, u 143, u 144, u 145, u 146, u 147, u 148, u 149, u 150, u 151, u 152] := by
 refine ⟨fun i => t.toList.getD i undef, fun i => by simp [Array.getD_eq_getD_getElem?, List.getD_eq_getElem?_getD], ?_⟩
 apply Array.ext'
 have := nE t.toList 153 (by simpa using h)
 exact this
noncomputable def aBv : Code := yN 4 (Tryz.f4.body.getD .skip)
set_option maxRecDepth 100000 in
set_option maxHeartbeats 16000000 in
theorem xC {w w2 : World} {la : Option Addr} {n lc : Nat} {L : List Int} {t : Array Value} (hn : n = L.length) (hl : CellsAt w la (L.map aHj)) (hr : ∀ x ∈ L, -9223372036854775808 ≤ x /\ x ≤ 9223372036854775807) (hN : NumW w) (hl16 : n ≤ 1048576) (hx : Ext w w2) (hz : t.size = 153) (t1 : t.getD 1 undef = .slice la n lc) :
 aBv.wp Tryz.prog (bodyPost Tryz.prog Tryz.f4 (RetN w fun w' v => v = .bool true)) { tmps := t, defers := [] } w2 := by
 obtain ⟨u, hu, rfl⟩ := aJ2 t hz
 have e1 := (hu 1).symm.trans t1
 rw [e1]
 clear hz t1 e1 hu
 have HN := qH (And.intro hn (And.intro (hl.ext hx) (And.intro hr (And.intro (hN.ext hx) (And.intro hl16 hx)))))
 clear hn hl hr hN hx
 conv => arg 2; whnf
 go_wp2_with fail
 refine (kT w2).mono ?_
 rintro e w3 ⟨v, rfl, hk3, rfl, hs3, hT3⟩
 obtain ⟨ta, eta⟩ : ∃ x, w2.heap.size = x := ⟨_, rfl⟩
 rw [eta] at hs3 hT3 ⊢
 have H3 := qH (And.intro hk3 (And.intro hs3 (And.intro hT3 eta)))
 clear hk3 hs3 hT3 eta
 go_wp2_with fail
 refine (kT w3).mono ?_
 rintro e w4 ⟨v, rfl, hk4, rfl, hs4, hT4⟩
 obtain ⟨tb, etb⟩ : ∃ x, w3.heap.size = x := ⟨_, rfl⟩
 rw [etb] at hs4 hT4 ⊢
 have H4 := qH (show Ext w2 w4 /\ TotalAt w4 ta 0 /\ TotalAt w4 tb 0 /\ ta = w2.heap.size /\ tb = ta + 1 from ⟨H3.out.1.trans hk4, Blk.ext H3.out.2.2.1 hk4, hT4, H3.out.2.2.2.symm, by rw [<- etb]; exact H3.out.2.1⟩)
 clear hk4 hs4 hT4 etb
 go_wp2_with fail
 go_loopw [9, 10, 11] (fun sv ov iv wr => aIn w4 ta tb L n sv ov iv wr) (fun _ _ iv _ => n - (intOf iv).toNat)
 case atStart => exact ⟨0, Nat.zero_le _, rfl, rfl, rfl, qH (Kp.refl _), qH H4.out.2.1, qH H4.out.2.2.1⟩
 case round =>
  obtain ⟨i, hi, rfl, rfl, rfl, hkp, hA, hB⟩ := hrel
  have hxw : Ext w2 wr := H4.out.1.trans' hkp.out fun i hi f => by
   have h1 := H4.out.2.2.2
   rcases f with f | f <;> omega
  by_cases hlt : i < n
  ·obtain ⟨x, hx⟩ : ∃ x, L[i]? = some x := ⟨_, qG (by rw [<- HN.out.1]; exact hlt)⟩
   obtain ⟨m, em⟩ : ∃ m, n - 1 - i = m := ⟨_, rfl⟩
   have hmn : m < n := by omega
   obtain ⟨y, hy⟩ : ∃ y, L[m]? = some y := ⟨_, qG (by rw [<- HN.out.1]; exact hmn)⟩
   have hyr : L.reverse[i]? = some y := by
    rw [List.getElem?_reverse (by rw [<- HN.out.1]; exact hlt), <- HN.out.1, em]; exact hy
   obtain ⟨b, o, ela, c0⟩ := HN.out.2.1 i (aHj x) (by rw [List.getElem?_map, hx]; rfl)
   obtain ⟨b', o', ela', c1⟩ := HN.out.2.1 m (aHj y) (by rw [List.getElem?_map, hy]; rfl)
   subst ela
   cases ela'
   have hbl : b < w2.heap.size := World.block_lt_of_cell? _ _ c0
   have HC := qH (show ∀ W, Kp (fun q => q = ta \/ q = tb) w4 W -> W.cell? ⟨b, o + i, none⟩ = some (.int .i64 x) /\ W.cell? ⟨b, o + m, none⟩ = some (.int .i64 y) from fun W hW => by
    have hne : ¬ (b = ta \/ b = tb) := fun f => by
     have h1 := H4.out.2.2.2
     rcases f with f | f <;> omega
    exact ⟨hW.cell (H4.out.1.cell c0 id) hne, hW.cell (H4.out.1.cell c1 id) hne⟩)
   have hxr := HN.out.2.2.1 x (List.mem_of_getElem? hx)
   have hyb := HN.out.2.2.1 y (List.mem_of_getElem? hy)
   have HSA := qH (zL hx)
   have HSB := qH (zL hyr)
   have hitl : (Lib.itoa x).length ≤ 21 := Lib.itoa_length_le x hxr.1 hxr.2
   have HWr := qH (fS x hxr.1 hxr.2 wr (HN.out.2.2.2.1.ext hxw))
   have HNum := qH (show ∀ W, Ext wr W -> Calls Tryz.prog 16 #[.string ⟨(Lib.itoa x).toArray⟩] W (RetN W fun w' v => v = .tuple #[.int .i64 x, .bool true]) from fun W hW => by
    have h := oD ⟨(Lib.itoa x).toArray⟩ (by show (Lib.itoa x).toArray.size ≤ _; rw [List.size_toArray]; omega) W (HN.out.2.2.2.1.ext (hxw.trans hW))
    have e : (⟨(Lib.itoa x).toArray⟩ : ByteArray).data.toList = Lib.itoa x := by simp
    rw [e, yB x hxr.1 hxr.2] at h
    exact h)
   obtain ⟨d0, d1⟩ := HC.out wr hkp.out
   have i1 : (i : Int) < (n : Int) := by omega
   have i2 : (m : Int) < (n : Int) := by omega
   have e1 : IntKind.i64.wrap ((n : Int) - 1) = (n : Int) - 1 := IntWalk.i64_in _ (by omega)
   have e2 : IntKind.i64.wrap ((n : Int) - 1 - i) = (m : Int) := by rw [IntWalk.i64_in _ (by omega)]; omega
   obtain ⟨S, eS⟩ : ∃ x, (L.take i).sum = x := ⟨_, rfl⟩
   have hSb := aCf (L := L.take i) fun z hz => HN.out.2.2.1 z (List.mem_of_mem_take hz)
   rw [List.length_take, <- HN.out.1, Nat.min_eq_left hi, eS] at hSb
   rw [eS] at hA HSA ⊢
   obtain ⟨sm, esm⟩ : ∃ x, IntKind.i64.wrap S = x := ⟨_, rfl⟩
   obtain ⟨nx, enx⟩ : ∃ z, IntKind.i64.wrap (sm + x) = z := ⟨_, rfl⟩
   obtain ⟨ov, eov⟩ : ∃ x, ovZ S = x := ⟨_, rfl⟩
   rw [esm, eov]
   have HSM := qH (And.intro esm eov)
   clear esm eov
   have HX := qH (And.intro hxw (And.intro hkp.out (And.intro hxr (And.intro hyb hSb))))
   clear hx hy hyr c0 c1 hbl hxw hitl hkp hSb em hmn
   go_wp2_with fail
   refine HWr.out.mono ?_
   rintro e w5 ⟨v, rfl, hk5, rfl⟩
   have X5 := qH hk5
   clear hk5
   go_wp2_with fail
   refine (HNum.out w5 X5.out).mono ?_
   rintro e w6 ⟨v, rfl, hk6, rfl⟩
   have X6 := qH (X5.out.trans hk6)
   clear hk6 d0 d1
   have K6 := qH (HX.out.2.1.trans (Ext.kp X6.out))
   obtain ⟨d0, d1⟩ := HC.out w6 K6.out
   go_wp2_with fail
   refine (nZ ta S x HX.out.2.2.1.1 HX.out.2.2.1.2 w6 (Blk.ext hA.out X6.out)).mono ?_
   rintro e w7 ⟨rfl, hk7, hA7⟩
   have K7 := qH (K6.out.trans (hk7.mono fun q _ f => .inl f))
   have HA7 := qH hA7
   have HB7 := qH (TotalAt.kp (Blk.ext hB.out X6.out) hk7 (fun f => by have := H4.out.2.2.2; omega))
   clear d0 d1 hk7 hA7 hA hB
   obtain ⟨d0, d1⟩ := HC.out w7 K7.out
   go_wp2_with fail
   refine (nZ tb _ y HX.out.2.2.2.1.1 HX.out.2.2.2.1.2 w7 HB7.out).mono ?_
   rintro e w8 ⟨rfl, hk8, hB8⟩
   have K8 := qH (K7.out.trans (hk8.mono fun q _ f => .inr f))
   have HB8 := qH hB8
   have HA8 := qH (TotalAt.kp HA7.out hk8 (fun f => by have := H4.out.2.2.2; omega))
   clear d0 d1 hk8 hB8
   obtain ⟨d0, d1⟩ := HC.out w8 K8.out
   have esm := HSM.out.1
   have eov := HSM.out.2
   have h1 := xJ S
   have h2 := xJ (S + x)
   have h3 : IntKind.i64.wrap (S + x) = nx := by rw [<- enx, <- esm, IntKind.wrap_i64, IntKind.wrap_i64, IntKind.wrap_i64]; omega
   rw [esm, eov] at h1
   rw [h3] at h2
   have hov : ovZ S = (S + 9223372036854775808) / 18446744073709551616 := rfl
   have hov2 : ovZ (S + x) = (S + x + 9223372036854775808) / 18446744073709551616 := rfl
   have hxx := HX.out.2.2.1
   have hSS := HX.out.2.2.2.2
   obtain ⟨ov2, eov2⟩ : ∃ z, ovZ (S + x) = z := ⟨_, rfl⟩
   rw [eov] at hov
   rw [eov2] at hov2 h2
   have hcase : (0 < x /\ nx < sm /\ ov2 = ov + 1) \/ (0 < x /\ ¬ nx < sm /\ ov2 = ov) \/ (x < 0 /\ sm < nx /\ ov2 = ov - 1) \/ (x < 0 /\ ¬ sm < nx /\ ov2 = ov) \/ (¬ 0 < x /\ ¬ x < 0 /\ ov2 = ov) := by omega
   have hob : -1048576 ≤ ov /\ ov ≤ 1048576 := by omega
   have g1 : IntKind.i64.wrap (ov + 1) = ov + 1 := IntWalk.i64_in _ (by omega)
   have g2 : IntKind.i64.wrap (ov - 1) = ov - 1 := IntWalk.i64_in _ (by omega)
   have HF := qH (show aIn w4 ta tb L n (.int .i64 nx) (.int .i64 ov2) (.int .i64 ((i : Int) + 1)) w8 from ⟨i + 1, by omega, by simp, by rw [HSA.out, h3], by rw [HSA.out, eov2], K8, qH (by rw [HSA.out]; exact HA8.out), qH (by rw [HSB.out]; exact HB8.out)⟩)
   clear h1 h2 h3 hov hov2 hxx hSS eov eov2 esm hob
   rcases hcase with ⟨k1, k2, rfl⟩ | ⟨k1, k2, rfl⟩ | ⟨k1, k2, rfl⟩ | ⟨k1, k2, rfl⟩ | ⟨k1, k2, rfl⟩
   all_goals
    first | (have k3 : ¬ x < 0 := by omega) | (have k3 : ¬ 0 < x := by omega) | skip
    go_wp2
    go_roundw
    case rel => exact HF.out
    case measure => simp [intOf]; omega
  ·obtain rfl : i = n := by omega
   have ht : L.take i = L := List.take_of_length_le (by rw [HN.out.1]; exact Nat.le_refl _)
   have ht2 : L.reverse.take i = L.reverse := List.take_of_length_le (by rw [List.length_reverse, HN.out.1]; exact Nat.le_refl _)
   have hSb := aCf HN.out.2.2.1
   rw [<- HN.out.1] at hSb
   rw [ht2, List.sum_reverse] at hB
   rw [ht] at hA ⊢
   obtain ⟨S, eS⟩ : ∃ x, L.sum = x := ⟨_, rfl⟩
   rw [eS] at hA hB hSb ⊢
   have h1 := xJ S
   have hov : ovZ S = (S + 9223372036854775808) / 18446744073709551616 := rfl
   obtain ⟨sm, esm⟩ : ∃ x, IntKind.i64.wrap S = x := ⟨_, rfl⟩
   obtain ⟨ov, eov⟩ : ∃ x, ovZ S = x := ⟨_, rfl⟩
   rw [esm, eov] at h1 ⊢
   rw [eov] at hov
   have HA := qH (nY ta S (by omega) (by omega) wr hA.out)
   have HB := qH (nY tb S (by omega) (by omega) wr hB.out)
   have HX := qH (HN.out.2.2.2.2.2.trans hxw)
   by_cases hin : -9223372036854775808 ≤ S /\ S ≤ 9223372036854775807
   ·have hs : uV S = (S, true) := if_pos hin
    rw [hs] at HA HB
    have ho : ov = 0 := by omega
    have hsm : sm = S := by omega
    subst hsm
    subst ho
    clear h1 hov hin hs hxw hkp hA hB hSb ht ht2 eS esm eov hlt hi
    go_wp2_with fail
    refine HA.out.mono ?_
    rintro e w5 ⟨rfl, rfl⟩
    go_wp2_with fail
    refine HB.out.mono ?_
    rintro e w6 ⟨rfl, rfl⟩
    go_wp2
    go_ret
    exact RetN.mk HX.out rfl
   ·have hs : uV S = (0, false) := if_neg hin
    rw [hs] at HA HB
    have ho : (ov == 0) = false := by simp; omega
    clear h1 hov hin hs hxw hkp hA hB hSb ht ht2 eS esm eov hlt hi
    go_wp2_with fail
    refine HA.out.mono ?_
    rintro e w5 ⟨rfl, rfl⟩
    go_wp2_with fail
    refine HB.out.mono ?_
    rintro e w6 ⟨rfl, rfl⟩
    go_wp2
    go_ret
    exact RetN.mk HX.out rfl
set_option maxRecDepth 100000 in
set_option maxHeartbeats 16000000 in
theorem aH7 {w : World} {s : ByteArray} {la : Option Addr} {n lc : Nat} {L : List Int} (hn : n = L.length) (hl : CellsAt w la (L.map aHj)) (hr : ∀ x ∈ L, -9223372036854775808 ≤ x /\ x ≤ 9223372036854775807) (hN : NumW w) (hs : s.size ≤ 281474976710656) (hl16 : n ≤ 1048576) :
 Calls Tryz.prog 4 #[.string s, .slice la n lc] w (RetN w fun w' v => v = .bool true) := by
 have HN := qH (And.intro hn (And.intro hl (And.intro hr (And.intro hN (And.intro hs hl16)))))
 clear hn hl hr hN hs
 go_enter Tryz.func4, Tryz.ntmps4
 conv => arg 2; whnf
 show Code.wp _ (Code.seq _ (Code.seq _ (Code.seq _ (Code.seq _ aBv)))) _ _ _
 go_wp2_with fail
 refine (aBw w HN.out.2.2.2.1).mono ?_
 rintro e w1 ⟨v, rfl, hk1, rfl⟩
 have X1 := qH hk1
 clear hk1
 go_wp2_with fail
 refine (oD s HN.out.2.2.2.2.1 w1 (HN.out.2.2.2.1.ext X1.out)).mono ?_
 rintro e w2 ⟨v, rfl, hk2, rfl⟩
 have X2 := qH (X1.out.trans hk2)
 clear hk2
 obtain ⟨b1, b2, b3, b4⟩ := yC s.data.toList
 obtain ⟨z, ez⟩ : ∃ x, (numSpec s.data.toList).1 = x := ⟨_, rfl⟩
 obtain ⟨ok, eok⟩ : ∃ x, (numSpec s.data.toList).2 = x := ⟨_, rfl⟩
 rw [ez, eok]
 rw [ez] at b1 b2 b3 b4
 rw [eok] at b1 b2
 have HB := qH (And.intro b1 (And.intro b2 (And.intro b3 b4)))
 clear b1 b2 b3 b4 ez eok
 cases ok
 ·have hz0 : z = 0 := HB.out.2.1 rfl
  subst hz0
  go_wp2_with fail
  exact xC HN.out.1 HN.out.2.1 HN.out.2.2.1 HN.out.2.2.2.1 hl16 X2.out rfl rfl
 ·have HW := qH (fS z HB.out.2.2.1 HB.out.2.2.2 w2 (HN.out.2.2.2.1.ext X2.out))
  have HZ := qH (show (⟨(Lib.itoa z).toArray⟩ : ByteArray) = s from by
   rw [HB.out.1 rfl])
  rw [HZ.out] at HW
  go_wp2_with fail
  refine HW.out.mono ?_
  rintro e w3 ⟨v, rfl, hk3, rfl⟩
  have X3 := qH (X2.out.trans hk3)
  clear hk3
  go_wp2_with fail
  exact xC HN.out.1 HN.out.2.1 HN.out.2.2.1 HN.out.2.2.2.1 hl16 X3.out rfl rfl
end Go.Proofs.YtikgpedgmnbcaaaGreatDoor
/- Proved here: the tied card AggBackUptoCardSaid: the law returns true for every input of the bound that the row names and leaves its arguments as they were. No condition of its own. -/
namespace Go.Proofs.YtikgpedgmnbcaaaGreatDoor.lawAggBack
open Go.ChangeShapes Go.WideShapes Go.ChangeAt Go.RowKit
open Go.ChangeMaps (open_string shut_string)
theorem own : ownKnob Tryz.prog.godebug = none := by kernel_rfl
theorem laidOut : laidOutB Tryz.prog = true := by kernel_rfl
theorem gTab : Tryz.prog.globalNamed "internal/strconv.uint64pow10" = some 2 := by kernel_rfl
theorem aHm : (Tryz.prog.globals[2]?).map (·.type) = some 252 := by kernel_rfl
theorem gRng : Tryz.prog.globalNamed "strconv.ErrRange" = some 1 := by kernel_rfl
theorem aHo : (Tryz.prog.globals[1]?).map (·.type) = some 106 := by kernel_rfl
theorem gSyn : Tryz.prog.globalNamed "strconv.ErrSyntax" = some 0 := by kernel_rfl
theorem aHn : (Tryz.prog.globals[0]?).map (·.type) = some 106 := by kernel_rfl
theorem star : "*" ++ "errors.errorString" = "*errors.errorString" := by decide
theorem aGw (u : TypeId) (h : Tryz.prog.typeName? 3 u = some "*errors.errorString") : u = 265 :=
 typeName_ptr_named (nm := "errors.errorString") (by rw [star]; kernel_rfl) (by kernel_rfl) (by decide) u (by rw [star]; exact h)
theorem numW {W : World} (h : laidMetH Tryz.prog Rows.aggBackUptoRow.laid W) : NumW W := by
 have h1 : laidMet Tryz.prog [("math/bits.deBruijn32tab", Rows.laid_math_bits_deBruijn32tab), ("math/bits.deBruijn64tab", Rows.laid_math_bits_deBruijn64tab), ("internal/strconv.uint64pow10", Rows.laid_internal_strconv_uint64pow10), ("strconv.ErrRange", Rows.laid_strconv_ErrRange), ("strconv.ErrSyntax", Rows.laid_strconv_ErrSyntax)] W := h
 have h2 := h1.tail.tail
 have h3 := h2.tail
 have h4 := h3.tail
 obtain ⟨a, s, ha, _⟩ := laid_sentinel h3 gRng aHo Tryz.underlying106 aGw Tryz.underlying265 Tryz.underlying267 rfl rfl Tryz.underlying9 (by kernel_rfl) (by kernel_rfl)
 obtain ⟨b, t, hb, _⟩ := laid_sentinel h4 gSyn aHn Tryz.underlying106 aGw Tryz.underlying265 Tryz.underlying267 rfl rfl Tryz.underlying9 (by kernel_rfl) (by kernel_rfl)
 exact ⟨Lib.tabIs_of_head gTab aHm Tryz.underlying252 Tryz.underlying95 (by kernel_rfl) (by kernel_rfl) h2, ⟨_, _, hb⟩, ⟨_, _, ha⟩⟩
theorem tV {t : TypeId} {hu : Tryz.prog.underlying t = some (.int .i64)} {hc : Tryz.prog.cellsOf t = 1} {w : World} {G : Nat -> Prop} {ao : Option Addr} {zs : List Int} (h : ElemsAt (shInt t .i64 hu hc) w G ao zs) : CellsAt w ao (zs.map aHj) /\ ∀ x ∈ zs, -9223372036854775808 ≤ x /\ x ≤ 9223372036854775807 := by
 refine ⟨fun i u hu' => ?_, fun x hx => ?_⟩
 ·rw [List.getElem?_map] at hu'
  obtain ⟨z, hz, rfl⟩ := Option.map_eq_some_iff.1 hu'
  obtain ⟨b, off, es, e, _, _, ⟨e2, _⟩, hcell⟩ := h i z hz
  have h0 := hcell 0 (.int .i64 z) (by rw [e2]; rfl)
  exact ⟨b, off, e, by simp [shInt] at h0; exact h0⟩
 ·obtain ⟨i, hi⟩ := List.mem_iff_getElem?.1 hx
  obtain ⟨b, off, es, e, _, _, ⟨_, hw⟩, _⟩ := h i x hi
  have hw' : (decide (IntKind.i64.min ≤ x) && decide (x ≤ IntKind.i64.max)) = true := hw
  rw [Bool.and_eq_true, decide_eq_true_eq, decide_eq_true_eq] at hw'
  rw [show IntKind.i64.min = -9223372036854775808 by decide, show IntKind.i64.max = 9223372036854775807 by decide] at hw'
  exact hw'
set_option maxRecDepth 100000 in
theorem aFg (v0 v1 : Value) (W : World) (hN : NumW W)
 (h0 : ∃ s, v0 = .string s /\ s.size + 1 ≤ 1048576) (h1 : ∃ ao cap xs, v1 = .slice ao xs.length cap /\ xs.length ≤ cap /\ ElemsAt (shInt 2 .i64 Tryz.underlying2 (by kernel_rfl)) W (fun k => k < W.heap.size) ao xs /\ nU (shInt 2 .i64 Tryz.underlying2 (by kernel_rfl)).bulk xs + 1 ≤ 1048576) :
 Calls Tryz.prog 4 #[v0, v1] W (fun e w' => e = .returned (.bool true) /\ Below W.heap.size W w') := by
 obtain ⟨s, rfl, hs⟩ := h0
 obtain ⟨ao, cap, xs, rfl, _, he, hb⟩ := h1
 have hl := xB (shInt 2 .i64 Tryz.underlying2 (by kernel_rfl)).bulk (fun y => Nat.le_refl _) xs
 refine (aH7 (L := xs) rfl (tV he).1 (tV he).2 hN (by omega) (by omega)).mono ?_
 rintro e w' ⟨v, rfl, hk, rfl⟩
 exact ⟨rfl, hk.below⟩
noncomputable def low : Nat := (World.holding Tryz.prog default ⟨#[], #[], []⟩).heap.size
noncomputable def laidWorld (os : Os) : World :=
 let w0 := World.holding Tryz.prog os ⟨#[.cells #[.string ⟨#[105, 110, 118, 97, 108, 105, 100, 32, 115, 121, 110, 116, 97, 120]⟩] 267, .cells #[.string ⟨#[118, 97, 108, 117, 101, 32, 111, 117, 116, 32, 111, 102, 32, 114, 97, 110, 103, 101]⟩] 267], #[], []⟩
 {w0 with heap := ((((w0.heap.modify 0 fun
   | .cells _ t frozen => .cells #[.iface 265 (.pointer (some ⟨low, 0, none⟩))] t frozen
   | o => o).modify 1 fun
   | .cells _ t frozen => .cells #[.iface 265 (.pointer (some ⟨low + 1, 0, none⟩))] t frozen
   | o => o).modify 2 fun
   | .cells _ t frozen => .cells (Lib.pow10Tab.map fun z => Value.int .u64 z).toArray t frozen
   | o => o).modify 4 fun
   | .cells _ t frozen => .cells #[.int .u8 0, .int .u8 1, .int .u8 28, .int .u8 2, .int .u8 29, .int .u8 14, .int .u8 24, .int .u8 3, .int .u8 30, .int .u8 22, .int .u8 20, .int .u8 15, .int .u8 25, .int .u8 17, .int .u8 4, .int .u8 8, .int .u8 31, .int .u8 27, .int .u8 13, .int .u8 23, .int .u8 21, .int .u8 19, .int .u8 16, .int .u8 7, .int .u8 26, .int .u8 12, .int .u8 18, .int .u8 6, .int .u8 11, .int .u8 5, .int .u8 10, .int .u8 9] t frozen
   | o => o).modify 5 fun
   | .cells _ t frozen => .cells #[.int .u8 0, .int .u8 1, .int .u8 56, .int .u8 2, .int .u8 57, .int .u8 49, .int .u8 28, .int .u8 3, .int .u8 61, .int .u8 58, .int .u8 42, .int .u8 50, .int .u8 38, .int .u8 29, .int .u8 17, .int .u8 4, .int .u8 62, .int .u8 47, .int .u8 59, .int .u8 36, .int .u8 45, .int .u8 43, .int .u8 51, .int .u8 22, .int .u8 53, .int .u8 39, .int .u8 33, .int .u8 30, .int .u8 24, .int .u8 18, .int .u8 12, .int .u8 5, .int .u8 63, .int .u8 55, .int .u8 48, .int .u8 27, .int .u8 60, .int .u8 41, .int .u8 37, .int .u8 16, .int .u8 46, .int .u8 35, .int .u8 44, .int .u8 21, .int .u8 52, .int .u8 32, .int .u8 23, .int .u8 11, .int .u8 54, .int .u8 26, .int .u8 40, .int .u8 15, .int .u8 34, .int .u8 20, .int .u8 31, .int .u8 10, .int .u8 25, .int .u8 14, .int .u8 19, .int .u8 9, .int .u8 13, .int .u8 8, .int .u8 7, .int .u8 6] t frozen
   | o => o }
theorem laid_met (os : Os) : laidMet Tryz.prog Rows.aggBackUptoRow.laid ((laidWorld os).forCall (fun _ _ => 0) ⟨#[], #[.string ⟨#[]⟩, .slice none 0 0], []⟩).memory :=
 laidMet_of_run' 8 (by kernel_rfl) (by kernel_rfl)
theorem reads (os : Os) {H : Type} (enc : TypeId × Value -> H) : ∃ places, DataW.whole enc Tryz.prog ((laidWorld os).forCall (fun _ _ => 0) ⟨#[], #[.string ⟨#[]⟩, .slice none 0 0], []⟩).memory Tryz.f4.params.toList Rows.aggBackSpec.vars false #[Value.string ⟨#[]⟩, .slice none 0 0].toList 8 = some ([.lit (.string []), .nil], [], places) :=
 ⟨[], by kernel_rfl⟩
set_option maxRecDepth 100000 in
theorem lifted (os : Os) (started : os.Started) (H : Type) (enc : TypeId × Value -> H) (F : Stop.Interp) :
 ReturnsInHanded {} Tryz.checked os 4 .any ((Rows.OpenSpec.upto Rows.aggBackSpec).preRow enc Tryz.prog Tryz.f4 Rows.aggBackUptoRow.domain false Rows.aggBackUptoRow.laid) (((Rows.OpenSpec.upto Rows.aggBackSpec).at F).post enc Tryz.prog Tryz.f4 false true false false) := by
 obtain ⟨places, hx⟩ := reads os enc
 refine returnsInHanded_of_row (C := Tryz.checked) (s := Rows.OpenSpec.upto Rows.aggBackSpec) own started (by kernel_rfl) Tryz.func4
  (witness_row_atRef (enc := enc) (C := Tryz.checked) false (laidWorld os) #[.string ⟨#[]⟩, .slice none 0 0] rfl (by kernel_rfl) (by kernel_rfl) (by kernel_rfl)
   (OpenSpec.preRow_of_cond 8 hx (by kernel_rfl) (fun k hk => by cases hk; kernel_rfl) (by kernel_rfl) (laid_met os))) ?_
 intro W base args ds gs before hval0 hW hdom hcond hroom hL hmet hsz
 have hcnd := hcond _ rfl
 have hk : Rows.uptoSmall H (ds ++ gs) = true := hcnd
 have hNW := numW hL
 clear hcnd hL hcond
 have hval : ∀ (j : Nat) t v, Tryz.f4.params[j]? = some t -> args[j]? = some v -> Value.okWide Tryz.prog W .any base t v := hval0
 have hW' := hW
 obtain ⟨p, q, hA0, hV, rfl, hfz, hnd⟩ := hW
 have hA : DataW.TrodAll enc Tryz.prog W 0 (fun _ => true) true Tryz.f4.params.toList args.toList ds p := hA0
 rw [Tryz.params4] at hA hval
 obtain ⟨v0, vs0, d0, ds0, p0, q0, hargs, rfl, rfl, h0, r0⟩ := trodAll_cons hA
 obtain ⟨v1, vs1, d1, ds1, p1, q1, rfl, rfl, rfl, h1, r1⟩ := trodAll_cons r0
 obtain ⟨rfl, rfl, rfl⟩ := trodAll_nil r1
 obtain rfl : args = #[v0, v1] := by cases args; simp_all
 obtain ⟨rfl, rfl⟩ := trodVars_none hV
 have lt0 : ∀ x ∈ p0, x.block < W.heap.size := by obtain ⟨m, hm⟩ := h0; exact DataW.trod_lt m _ _ _ hm
 have lt1 : ∀ x ∈ p1, x.block < W.heap.size := by obtain ⟨m, hm⟩ := h1; exact DataW.trod_lt m _ _ _ hm
 clear hA0 hval0
 simp only [List.append_nil] at hk
 have hk1 : Rows.uptoBulkAll [d0, d1] ≤ 1048576 := of_decide_eq_true hk
 clear hk
 have x0 := aJd Tryz.underlying9 (by kernel_rfl) (hval 0 9 v0 rfl rfl) h0 (N := 1048576) (aEn hk1 (by simp))
 have x1 := aF6 (s := shInt 2 .i64 Tryz.underlying2 (by kernel_rfl)) Tryz.underlying22 (by kernel_rfl) (by decide) (hval 1 22 v1 rfl rfl) h1 (N := 1048576) (aEn hk1 (by simp))
 refine (aFg v0 v1 W hNW x0 x1).mono fun e W' ⟨he, bel⟩ => ?_
 subst he
 exact ⟨_, rfl, _, _, _, [], _, [], hW', trodAll_mk1 (shut_bool Tryz.underlying4 _), (trodAll_cons_mk (Below.trod laidOut (by kernel_rfl) (of_decide_eq_true (by kernel_rfl)) h0 bel lt0) (trodAll_cons_mk (Below.trod laidOut (by kernel_rfl) (of_decide_eq_true (by kernel_rfl)) h1 bel lt1) trodAll_mk0)), rfl, bel.frame _, fun h => by cases h⟩
theorem over : Rows.AggBackUptoSaid :=
 OpenClaim.holds_of_cond 4 Tryz.f4 rfl rfl rfl rfl rfl rfl rfl ⟨rfl, rfl, rfl, rfl, rfl⟩ rfl rfl rfl rfl rfl (by kernel_rfl) Tryz.func4 (by kernel_rfl)
  (of_decide_eq_true (by kernel_rfl)) (by unfold Func.isWrapper; first | (rw [if_pos (by decide +kernel)]; kernel_rfl) | (rw [if_neg (by decide +kernel)]; exact ⟨rfl, rfl⟩))
  (fun os started H enc _ F => by rw [OpenClaim.pre_eq_preRow]; exact lifted os started H enc F)
theorem plain (f : FuncId) (fn : Func) (hf : Tryz.pinned.checked.prog.funcNamed "sibyl/sibyllaw15.AggBack" = some f) (hfn : Tryz.pinned.checked.prog.funcs[f]? = some fn) :
 true = Tryz.pinned.checked.prog.looks [] /\ ∀ (j : Nat) t, fn.params[j]? = some t -> Tryz.pinned.checked.prog.wantsStandIn t = false := by
 obtain rfl : f = 4 := Option.some.inj ((show Tryz.prog.funcNamed "sibyl/sibyllaw15.AggBack" = some 4 by kernel_rfl).symm.trans hf) |>.symm
 obtain rfl : fn = Tryz.f4 := (Option.some.inj (Tryz.func4.symm.trans hfn)).symm
 refine ⟨by kernel_rfl, fun j t ht => ?_⟩
 rw [Tryz.params4] at ht
 have hm : t = 9 \/ t = 22 := by simpa using Array.mem_of_getElem? ht
 rcases hm with rfl | rfl
 ·exact (show Tryz.prog.wantsStandIn 9 = false by kernel_rfl)
 ·exact (show Tryz.prog.wantsStandIn 22 = false by kernel_rfl)
theorem proved : Rows.AggBackUptoCardSaid :=
 Claim7.holds_tied_plain_at .later [] _ _ _ _ over (fun _ h => by cases h) (by kernel_rfl) (fun _ h => by cases h) aggBackUpto_row_tie rfl ⟨rfl, rfl⟩ (by kernel_rfl) rfl plain (by kernel_rfl)
#print axioms proved
end Go.Proofs.YtikgpedgmnbcaaaGreatDoor.lawAggBack
