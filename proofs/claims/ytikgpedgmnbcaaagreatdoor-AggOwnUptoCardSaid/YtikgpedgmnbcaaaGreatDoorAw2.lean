/- Texts joined for a claim (Rule, JoinT, JoinL, SearchS, Draw, RangeOwn, JoinV, JoinC, DrawIn, Make, Flat, NoPanic, LawMem, Takes, RuleFit, SwapRow, InsRow, SymLRow, SymRow, SymGRow, SortRow, BinRow, CompactRow, GenRow, SetRow, NewRow). -/
import Derived.Test.YtikgpedgmnbcaaaGreatDoorAw1
import Derived.Deep.QuietTactic
import Derived.Shelf.Abstract
import Derived.BigQuiet
import Derived.Deep.RegionHeld3
import Derived.RangeFuncWrites
import Derived.Laws.MakeOwn
import Derived.Test.YtikgpedgmnbcaaaGreatDoorProg
import Derived.BigRegion
import Derived.StillTailTactics
import Derived.Deep.DeepCutAuto
import Derived.Deep.RegionWith
set_option linter.unusedVariables false
set_option linter.unusedSimpArgs false
set_option maxRecDepth 100000
namespace Go.Proofs.YtikgpedgmnbcaaaGreatDoor
section
open Go.RowKit
theorem tC (a b : ByteArray) : (a.toList == b.toList) = decide (a = b) := by
 rw [Bool.eq_iff_iff, beq_iff_eq, decide_eq_true_iff]
 refine ⟨fun h => ?_, fun h => by rw [h]⟩
 rw [ByteArray.toList_eq, ByteArray.toList_eq] at h
 exact ByteArray.ext (Array.toList_inj.1 h)
theorem kU {a b : ByteArray} (h : ¬ a = b) : (a.toList == b.toList) = false := by rw [tC, decide_eq_false h]
theorem str_eq (a : ByteArray) : (a.toList == a.toList) = true := by rw [tC, decide_eq_true rfl]
noncomputable def bS : Shp Tryz.prog aE := mC 58 (fL (aFz 3 .i64 Tryz.underlying3 (by kernel_rfl)) (fL (aAq 9 Tryz.underlying9 (by kernel_rfl)) aCh)) (fs := _) Tryz.underlying58 ⟨_, _, rfl, rfl, rfl, _, _, rfl, rfl, rfl, rfl⟩ (by kernel_rfl)
noncomputable def aKu : Shp Tryz.prog (List aE) := pD 38 bS Tryz.underlying38 (by kernel_rfl) (by decide)
noncomputable def iR : Shp Tryz.prog aDe := mC 40 (fL (aAq 9 Tryz.underlying9 (by kernel_rfl)) (fL aKu aCh)) (fs := _) Tryz.underlying40 ⟨_, _, rfl, rfl, rfl, _, _, rfl, rfl, rfl, rfl⟩ (by kernel_rfl)
noncomputable def fG : Shp Tryz.prog aM := mC 60 (fL (aFz 3 .i64 Tryz.underlying3 (by kernel_rfl)) (fL iR (fL (aFz 3 .i64 Tryz.underlying3 (by kernel_rfl)) (fL bS (fL bS aCh))))) (fs := _) Tryz.underlying60 ⟨_, _, rfl, rfl, rfl, _, _, rfl, rfl, rfl, _, _, rfl, rfl, rfl, _, _, rfl, rfl, rfl, _, _, rfl, rfl, rfl, rfl⟩ (by kernel_rfl)
noncomputable def aLy : Shp Tryz.prog (List aM) := pD 41 fG Tryz.underlying41 (by kernel_rfl) (by decide)
noncomputable def gW : Shp Tryz.prog bM := mC 43 (fL iR (fL aLy aCh)) (fs := _) Tryz.underlying43 ⟨_, _, rfl, rfl, rfl, _, _, rfl, rfl, rfl, rfl⟩ (by kernel_rfl)
abbrev aU (w : World) (G : Nat -> Prop) (ao : Option Addr) (ts : List aE) : Prop := ElemsAt bS w G ao ts
abbrev cD (w : World) (G : Nat -> Prop) (ao : Option Addr) (ls : List aM) : Prop := ElemsAt fG w G ao ls
def dZ (t : aE) : Prop := (Lit.int .i64 t.1).wf = true /\ t.2.1.size ≤ maxLen
theorem lT {w : World} {G : Nat -> Prop} {cs : List Value} {t : aE} (h : bS.At w G cs t) : dZ t := by
 obtain ⟨a1, b1, e1, ⟨e2, h2⟩, ⟨a3, b3, e3, ⟨e4, h4⟩, e5⟩⟩ := h
 exact ⟨h2, h4⟩
theorem kQ {w : World} {G : Nat -> Prop} {cs : List Value} {t : aE} (h : bS.At w G cs t) : cs = [.int .i64 t.1, .string t.2.1] := by
 obtain ⟨a1, b1, e1, ⟨e2, _⟩, ⟨a3, b3, e3, ⟨e4, _⟩, e5⟩⟩ := h
 rw [e2, e3, e4, e5] at e1; exact e1
theorem dU {w : World} {G : Nat -> Prop} {ao : Option Addr} {ts : List aE} (h : aU w G ao ts) {i : Nat} {t : aE} (hi : ts[i]? = some t) :
 ∃ b off, ao = some ⟨b, off, none⟩ /\ w.cell? ⟨b, off + i * 2, none⟩ = some (.int .i64 t.1) /\ w.cell? ⟨b, off + i * 2 + 1, none⟩ = some (.string t.2.1) /\ G b /\ b < w.heap.size := by
 obtain ⟨b, off, es, e, hG, hb, ha, hcell⟩ := h i t hi
 rw [kQ ha] at hcell
 have h0 := hcell 0 (.int .i64 t.1) rfl
 have h1 := hcell 1 (.string t.2.1) rfl
 rw [show bS.n = 2 from rfl] at h0 h1
 exact ⟨b, off, e, by simpa using h0, by rw [Nat.add_assoc]; exact h1, hG, hb⟩
structure LitIn (w : World) (G : Nat -> Prop) (l : aM) (ao : Option Addr) (cap : Nat) : Prop where
 terms : aU w G ao (aB l)
 len : (aB l).length ≤ cap
 cap : cap ≤ maxLen
 left : dZ (leftOf l)
 right : dZ (aS l)
theorem aG8 {w : World} {G : Nat -> Prop} {cs : List Value} {l : aM} (h : fG.At w G cs l) : ∃ ao cap, LitIn w G l ao cap /\
 cs = [.int .i64 l.1, .string (bF l), .slice ao (aB l).length cap, .int .i64 (iC l), .int .i64 (leftOf l).1, .string (leftOf l).2.1, .int .i64 (aS l).1, .string (aS l).2.1] := by
 obtain ⟨a1, b1, e1, ⟨e2, _⟩, ⟨a3, b3, e3, h3, ⟨a4, b4, e4, ⟨e5, _⟩, ⟨a6, b6, e6, h6, ⟨a7, b7, e7, h7, e8⟩⟩⟩⟩⟩ := h
 obtain ⟨c1, d1, f1, ⟨f2, _⟩, ⟨c3, d3, f3, ⟨ao, cap, f4, g1, g2, g3⟩, f5⟩⟩ := h3
 refine ⟨ao, cap, ⟨g3, g1, g2, lT h6, lT h7⟩, ?_⟩
 rw [e1, e2, e3, f1, f2, f3, f4, f5, e4, e5, e6, kQ h6, e7, kQ h7, e8]
 rfl
theorem oR {w : World} {G : Nat -> Prop} {ao : Option Addr} {ls : List aM} (h : cD w G ao ls) {i : Nat} {l : aM} (hi : ls[i]? = some l) :
 ∃ b off a cap, ao = some ⟨b, off, none⟩ /\ G b /\ b < w.heap.size /\ LitIn w G l a cap /\
  w.cell? ⟨b, off + i * 8, none⟩ = some (.int .i64 l.1) /\ w.cell? ⟨b, off + i * 8 + 1, none⟩ = some (.string (bF l)) /\ w.cell? ⟨b, off + i * 8 + 2, none⟩ = some (.slice a (aB l).length cap) /\
  w.cell? ⟨b, off + i * 8 + 3, none⟩ = some (.int .i64 (iC l)) /\ w.cell? ⟨b, off + i * 8 + 4, none⟩ = some (.int .i64 (leftOf l).1) /\ w.cell? ⟨b, off + i * 8 + 5, none⟩ = some (.string (leftOf l).2.1) /\
  w.cell? ⟨b, off + i * 8 + 6, none⟩ = some (.int .i64 (aS l).1) /\ w.cell? ⟨b, off + i * 8 + 7, none⟩ = some (.string (aS l).2.1) := by
 obtain ⟨b, off, es, e, hG, hb, ha, hcell⟩ := h i l hi
 obtain ⟨a, cap, hl, ec⟩ := aG8 ha
 rw [ec, show fG.n = 8 from rfl] at hcell
 refine ⟨b, off, a, cap, e, hG, hb, hl, ?_, ?_, ?_, ?_, ?_, ?_, ?_, ?_⟩
 ·simpa using hcell 0 _ rfl
 all_goals rw [Nat.add_assoc]
 ·exact hcell 1 _ rfl
 ·exact hcell 2 _ rfl
 ·exact hcell 3 _ rfl
 ·exact hcell 4 _ rfl
 ·exact hcell 5 _ rfl
 ·exact hcell 6 _ rfl
 ·exact hcell 7 _ rfl
abbrev litV (k : Int) (p : ByteArray) (a : Option Addr) (n cap : Nat) (op lk : Int) (lt : ByteArray) (rk : Int) (rt : ByteArray) : Value := .agg #[.int .i64 k, .string p, .slice a n cap, .int .i64 op, .int .i64 lk, .string lt, .int .i64 rk, .string rt]
structure RuleAt (w : World) (G : Nat -> Prop) (r : bM) (ha : Option Addr) (hcap : Nat) (ba : Option Addr) (bcap : Nat) : Prop where
 head : aU w G ha r.1.2.1
 hlen : r.1.2.1.length ≤ hcap
 hmax : hcap ≤ maxLen
 body : cD w G ba r.2.1
 blen : r.2.1.length ≤ bcap
 bmax : bcap ≤ maxLen
abbrev dL (p : ByteArray) (ha : Option Addr) (hn hcap : Nat) (ba : Option Addr) (bn bcap : Nat) : Value := .agg #[.string p, .slice ha hn hcap, .slice ba bn bcap]
theorem aDx {w : World} {G : Nat -> Prop} {cs : List Value} {r : bM} (h : gW.At w G cs r) : ∃ ha hcap ba bcap, RuleAt w G r ha hcap ba bcap /\ cs = [.string r.1.1, .slice ha r.1.2.1.length hcap, .slice ba r.2.1.length bcap] := by
 obtain ⟨a1, b1, e1, ⟨c1, d1, f1, ⟨f2, _⟩, ⟨c3, d3, f3, ⟨ao, cap, f4, g1, g2, g3⟩, f5⟩⟩, ⟨a3, b3, e3, ⟨bo, bcap, h4, h5, h6, h7⟩, e4⟩⟩ := h
 refine ⟨ao, cap, bo, bcap, ⟨g3, g1, g2, h7, h5, h6⟩, ?_⟩
 rw [e1, f1, f2, f3, f4, f5, e3, h4, e4]; rfl
abbrev wP (k : Int) (s : ByteArray) : Value := .agg #[.int .i64 k, .string s]
def aLr (f : FuncId) (first captured : Array Value) (w0 : World) (q : aE -> Bool) : Prop :=
 (∀ args w, (callFunc f args).run Tryz.prog w = .ok (Next.enter f args) w) /\ ∀ w, Ext w0 w -> ∀ (k : Int) (s : ByteArray), Calls Tryz.prog f (first.push (wP k s) ++ captured) w (RetN w fun w' v => v = .bool (q (k, s, ())))
def NoneT (w0 : World) (ts : List aE) (q : aE -> Bool) (n : Nat) (iv : Value) (w : World) : Prop := ∃ i : Nat, i ≤ n /\ iv = .int .i64 i /\ Hid (∀ (j : Nat) u, j < i -> ts[j]? = some u -> q u = false) /\ Hid (Ext w0 w)
theorem rH {α : Type} {l : List α} {q : α -> Bool} {n : Nat} (hn : n = l.length) (h : ∀ (j : Nat) u, j < n -> l[j]? = some u -> q u = false) : l.any q = false := by
 rw [List.any_eq_false]
 intro t ht
 obtain ⟨j, hj, rfl⟩ := List.mem_iff_getElem.1 ht
 rw [h j _ (by omega) (qG hj)]; decide
theorem nG {α : Type} {l : List α} {q : α -> Bool} {i : Nat} {u : α} (h : l[i]? = some u) (hq : q u = true) : l.any q = true := List.any_eq_true.2 ⟨u, List.mem_of_getElem? h, hq⟩
set_option maxHeartbeats 1000000 in
theorem aEp (ts : List aE) (ao : Option Addr) (n cap : Nat) (f : FuncId) (first captured : Array Value) (q : aE -> Bool) (w : World) (G : Nat -> Prop) (hn : n = ts.length) (h : aU w G ao ts) (hq : aLr f first captured w q) (hl : n ≤ 4611686018427387904) :
 Calls Tryz.prog 62 #[.slice ao n cap, .func (Fn.func f) first captured] w (RetN w fun w' v => ∃ z : Int, v = .int .i64 z /\ decide (0 ≤ z) = ts.any q) := by
 have HN := qH hn; have HE := qH h; clear hn h
 have hent := hq.1
 have HQ := qH hq.2; clear hq
 go_enter Tryz.func62, Tryz.ntmps62
 go_wp2
 go_loopw [8] (fun iv wr => NoneT w ts q n iv wr) (fun iv _ => n - (intOf iv).toNat)
 case atStart => exact ⟨0, Nat.zero_le _, rfl, fun j u h => by omega, Kp.refl w⟩
 case round =>
  obtain ⟨i, hi, rfl, hno, hex⟩ := hrel
  by_cases hlt : i < n
  ·have hlt' : i < ts.length := by rw [<- HN.out]; exact hlt
   obtain ⟨t, ht⟩ : ∃ t, ts[i]? = some t := ⟨_, qG hlt'⟩
   obtain ⟨b, off, eao, hc0, hc1, _⟩ := dU (HE.out.ext hex.out) ht
   subst eao
   obtain ⟨k, s, ⟨⟩⟩ := t
   simp only at hc0 hc1
   have HC := qH (HQ.out wr hex.out k s)
   obtain ⟨r, er⟩ : ∃ r : Bool, q (k, s, ()) = r := ⟨_, rfl⟩
   rw [er] at HC
   have HT := qH (And.intro ht er)
   clear ht hlt' er
   cases r
   ·go_wp2_with fail
    refine HC.out.mono ?_
    rintro e w1 ⟨v, rfl, hk1, rfl⟩
    have HX := qH (hex.out.trans hk1); clear hk1 hc0 hc1
    go_wp2
    go_roundw
    case rel =>
     refine ⟨i + 1, by omega, by first | rfl | (congr 1; done) | (congr 1; omega), fun j u hj hu => ?_, HX⟩
     by_cases e : j = i
     ·subst e; rw [HT.out.1] at hu; cases hu; exact HT.out.2
     ·exact hno.out j u (by omega) hu
    case measure => simp [intOf]; omega
   ·go_wp2_with fail
    refine HC.out.mono ?_
    rintro e w1 ⟨v, rfl, hk1, rfl⟩
    have HX := qH (hex.out.trans hk1); clear hk1 hc0 hc1
    go_wp2
    go_ret
    exact RetN.mk HX.out ⟨i, rfl, by rw [nG HT.out.1 HT.out.2]; simp⟩
  ·go_wp2
   go_ret
   exact RetN.mk hex.out ⟨-1, rfl, by rw [rH HN.out fun j u hj => hno.out j u (by omega)]; decide⟩
theorem oJ (ts : List aE) (ao : Option Addr) (n cap : Nat) (f : FuncId) (first captured : Array Value) (q : aE -> Bool) (w : World) (G : Nat -> Prop) (hn : n = ts.length) (h : aU w G ao ts) (hq : aLr f first captured w q) (hl : n ≤ 4611686018427387904) :
 Calls Tryz.prog 110 #[.slice ao n cap, .func (Fn.func f) first captured] w (RetN w fun w' v => v = .bool (ts.any q)) := by
 have HI := qH (aEp ts ao n cap f first captured q w G hn h hq hl)
 clear hn h hq hl
 go_enter Tryz.func110, Tryz.ntmps110
 go_wp2_with fail
 refine HI.out.mono ?_
 rintro e w1 ⟨v, rfl, hk, z, rfl, hz⟩
 go_wp2
 go_ret
 exact RetN.mk hk (congrArg Value.bool (by first | exact hz | simp [<- hz]))
theorem yR (k : Int) (s : ByteArray) (w : World) : Calls Tryz.prog 195 #[wP k s] w (RetN w fun w' v => v = .bool (decide (k < 1 \/ 3 < k))) := by
 by_cases h1 : k < 1
 ·go_enter Tryz.func195, Tryz.ntmps195
  go_wp2
  go_ret
  exact RetN.mk ((Kp.refl w).alloc _) (by simp [h1])
 ·go_enter Tryz.func195, Tryz.ntmps195
  go_wp2
  go_ret
  exact RetN.mk ((Kp.refl w).alloc _) (by simp; omega)
theorem aHc (ts : List aE) (up : Int) : (!ts.any fun t => decide (t.1 < 1 \/ up < t.1)) = kinds ts up := by
 unfold kinds
 induction ts with
 | nil => rfl
 | cons t ts ih =>
  rw [List.any_cons, List.all_cons, <- ih, Bool.not_or]
  congr 1
  rw [<- decide_not]
  apply decide_eq_decide.2; omega
theorem tP (ts : List aE) (ao : Option Addr) (n cap : Nat) (w : World) (G : Nat -> Prop) (hn : n = ts.length) (h : aU w G ao ts) (hl : n ≤ 4611686018427387904) :
 Calls Tryz.prog 158 #[.slice ao n cap] w (RetN w fun w' v => v = .bool (kinds ts 3)) := by
 have HI := qH (oJ ts ao n cap 195 #[] #[] (fun t => decide (t.1 < 1 \/ 3 < t.1)) w G hn h ⟨enters_of Tryz.func195 (by kernel_rfl) rfl, fun w' _ k s => yR k s w'⟩ hl)
 clear hn h hl
 go_enter Tryz.func158, Tryz.ntmps158
 go_wp2_with fail
 refine HI.out.mono ?_
 rintro e w1 ⟨v, rfl, hk, rfl⟩
 go_wp2
 go_ret
 exact RetN.mk hk (congrArg Value.bool (by rw [<- aHc ts 3]; simp))
def aMg (w0 : World) (ts : List aE) (n : Nat) (iv av : Value) (w : World) : Prop := ∃ i a : Nat, i ≤ n /\ a ≤ i /\ iv = .int .i64 i /\ av = .int .i64 a /\ Hid (kinds (ts.take i) 7 = true /\ a = sV (ts.take i)) /\ Hid (Ext w0 w)
theorem uO {ts : List aE} {i : Nat} {t : aE} (up : Int) (h : ts[i]? = some t) : kinds (ts.take (i + 1)) up = (kinds (ts.take i) up && decide (1 ≤ t.1 /\ t.1 ≤ up)) := by
 unfold kinds; rw [List.take_add_one, h, List.all_append]; simp
theorem yD {ts : List aE} {i : Nat} {t : aE} (h : ts[i]? = some t) : sV (ts.take (i + 1)) = sV (ts.take i) + if 4 ≤ t.1 then 1 else 0 := by
 unfold sV; rw [List.take_add_one, h, List.countP_append]
 congr 1
 by_cases h4 : 4 ≤ t.1 <;> simp [h4]
theorem rY {ts : List aE} {i : Nat} {t : aE} {up : Int} (h : ts[i]? = some t) (ht : ¬ (1 ≤ t.1 /\ t.1 ≤ up)) : kinds ts up = false := by
 unfold kinds
 rw [List.all_eq_false]
 exact ⟨t, List.mem_of_getElem? h, by simp only [decide_eq_true_eq]; exact ht⟩
set_option maxHeartbeats 1000000 in
theorem aJr (ts : List aE) (ao : Option Addr) (n cap : Nat) (w : World) (G : Nat -> Prop) (hn : n = ts.length) (h : aU w G ao ts) (hl : n ≤ 1048576) :
 Calls Tryz.prog 105 #[.slice ao n cap] w (RetN w fun w' v => v = .bool (iX ts)) := by
 have HN := qH hn; have HE := qH h; clear hn h
 go_enter Tryz.func105, Tryz.ntmps105
 go_wp2
 go_loopw [8, 3] (fun iv av wr => aMg w ts n iv av wr) (fun iv _ _ => n - (intOf iv).toNat)
 case atStart => exact ⟨0, 0, Nat.zero_le _, Nat.le_refl _, rfl, rfl, ⟨rfl, rfl⟩, Kp.refl w⟩
 case round =>
  obtain ⟨i, a, hi, hai, rfl, rfl, hst, hex⟩ := hrel
  by_cases hlt : i < n
  ·have hlt' : i < ts.length := by rw [<- HN.out]; exact hlt
   obtain ⟨t, ht⟩ : ∃ t, ts[i]? = some t := ⟨_, qG hlt'⟩
   obtain ⟨b, off, eao, hc0, hc1, _⟩ := dU (HE.out.ext hex.out) ht
   subst eao
   obtain ⟨k, s, ⟨⟩⟩ := t
   simp only at hc0 hc1
   have HT := qH ht
   clear ht hlt'
   by_cases h1 : k < 1
   ·go_wp2
    go_ret
    exact RetN.mk (by first | exact hex.out.alloc _ | exact (hex.out.alloc _).drew) (by rw [iX, rY HT.out (up := 7) (by simp only; omega)]; rfl)
   ·by_cases h7 : 7 < k
    ·go_wp2
     go_ret
     exact RetN.mk (by first | exact hex.out.alloc _ | exact (hex.out.alloc _).drew) (by rw [iX, rY HT.out (up := 7) (by simp only; omega)]; rfl)
    ·by_cases h4 : 4 ≤ k
     ·go_wp2
      go_roundw
      case rel =>
       refine ⟨i + 1, a + 1, by omega, by omega, by first | rfl | (congr 1; done) | (congr 1; omega), by first | rfl | (congr 1; done) | (congr 1; omega), ⟨?_, ?_⟩, by first | exact hex.out.alloc _ | exact (hex.out.alloc _).drew⟩
       ·rw [uO 7 HT.out, hst.out.1]; simp; omega
       ·rw [yD HT.out, <- hst.out.2]; simp [h4]
      case measure => simp [intOf]; omega
     ·go_wp2
      go_roundw
      case rel =>
       refine ⟨i + 1, a, by omega, by omega, by first | rfl | (congr 1; done) | (congr 1; omega), by first | rfl | trivial, ⟨?_, ?_⟩, by first | exact hex.out.alloc _ | exact (hex.out.alloc _).drew⟩
       ·rw [uO 7 HT.out, hst.out.1]; simp; omega
       ·rw [yD HT.out, <- hst.out.2]; simp [h4]
      case measure => simp [intOf]; omega
  ·have e : ts.take i = ts := List.take_of_length_le (by have := HN.out; omega)
   have HS := qH (And.intro hst.out e)
   have HN2 := qH (show n = ts.length from HN.out)
   by_cases h2 : a < 2
   ·by_cases h64 : n ≤ 64
    ·have h64' : (n : Int) ≤ 64 := by omega
     go_wp2
     go_ret
     refine RetN.mk hex.out ?_
     obtain ⟨⟨g1, g2⟩, g3⟩ := HS.out
     rw [g3] at g1 g2
     have g4 := HN2.out
     unfold iX; rw [g1, <- g2, <- g4]; simp [h2, h64]
    ·have h64' : ¬ (n : Int) ≤ 64 := by omega
     go_wp2
     go_ret
     refine RetN.mk hex.out ?_
     obtain ⟨⟨g1, g2⟩, g3⟩ := HS.out
     rw [g3] at g1 g2
     have g4 := HN2.out
     unfold iX; rw [g1, <- g2, <- g4]; simp [h64]
   ·go_wp2
    go_ret
    refine RetN.mk hex.out ?_
    obtain ⟨⟨g1, g2⟩, g3⟩ := HS.out
    rw [g3] at g1 g2
    have g4 := HN2.out
    unfold iX; rw [g1, <- g2, <- g4]; simp [h2]
theorem aGl (w : World) (k1 : Int) (s1 : ByteArray) (k2 : Int) (s2 : ByteArray) (h1 : (Lit.int .i64 k1).wf = true) (h2 : (Lit.int .i64 k2).wf = true) (g1 : s1.size ≤ maxLen) (g2 : s2.size ≤ maxLen) (e : TypeId) :
 aU (w.alloc (.cells #[.int .i64 k1, .string s1, .int .i64 k2, .string s2] e)) (fun _ => True) (some ⟨w.heap.size, 0, none⟩) [(k1, s1, ()), (k2, s2, ())] := by
 have hB := Blk.new w [.int .i64 k1, .string s1, .int .i64 k2, .string s2] e
 have hlt := hB.lt
 intro i x hx
 match i, hx with
 | 0, hx =>
  cases hx
  refine ⟨_, 0, [.int .i64 k1, .string s1], rfl, trivial, hlt, ⟨[.int .i64 k1], [.string s1], rfl, ⟨rfl, h1⟩, [.string s1], [], rfl, ⟨rfl, g1⟩, rfl⟩, fun c u hu => ?_⟩
  match c, hu with
  | 0, hu => cases hu; exact hB.cell 0 (by simp)
  | 1, hu => cases hu; exact hB.cell 1 (by simp)
 | 1, hx =>
  cases hx
  refine ⟨_, 0, [.int .i64 k2, .string s2], rfl, trivial, hlt, ⟨[.int .i64 k2], [.string s2], rfl, ⟨rfl, h2⟩, [.string s2], [], rfl, ⟨rfl, g2⟩, rfl⟩, fun c u hu => ?_⟩
  match c, hu with
  | 0, hu => cases hu; exact hB.cell 2 (by simp)
  | 1, hu => cases hu; exact hB.cell 3 (by simp)
structure LitFit (l : aM) : Prop where
 left : (Lit.int .i64 (leftOf l).1).wf = true /\ (leftOf l).2.1.size ≤ maxLen
 right : (Lit.int .i64 (aS l).1).wf = true /\ (aS l).2.1.size ≤ maxLen
set_option maxHeartbeats 1000000 in
theorem aBk (k : Int) (p : ByteArray) (ts : List aE) (a : Option Addr) (n cap : Nat) (op lk : Int) (lt : ByteArray) (rk : Int) (rt : ByteArray) (w : World) (G : Nat -> Prop) (hn : n = ts.length) (h : aU w G a ts) (hl : n ≤ 1048576)
 (g1 : (Lit.int .i64 lk).wf = true) (g2 : lt.size ≤ maxLen) (g3 : (Lit.int .i64 rk).wf = true) (g4 : rt.size ≤ maxLen) :
 Calls Tryz.prog 106 #[litV k p a n cap op lk lt rk rt] w (RetN w fun w' v => v = .bool (kE (k, (p, ts, ()), op, (lk, lt, ()), (rk, rt, ()), ()))) := by
 have HN := qH hn; have HE := qH h
 have HG := qH (And.intro (And.intro g1 g2) (And.intro g3 g4)); clear g1 g2 g3 g4
 have HS := qH (fun (W : World) (hW : Ext w W) => tP ts a n cap W G hn (h.ext hW) (by omega))
 clear hn h
 have pos : ∀ k, k = 1 \/ k = 2 -> kE (k, (p, ts, ()), op, (lk, lt, ()), (rk, rt, ()), ()) = (decide (ts.length ≤ 64) && kinds ts 3) := fun k hk => by unfold kE; rw [if_pos hk]
 have cmp : kE (3, (p, ts, ()), op, (lk, lt, ()), (rk, rt, ()), ()) = (decide (1 ≤ op /\ op ≤ 4) && kinds [(lk, lt, ()), (rk, rt, ())] 3) := by unfold kE; rw [if_neg (by rintro (h | h) <;> cases h), if_pos rfl]
 have HP := qH (And.intro pos cmp); clear pos cmp
 by_cases hk1 : k = 1 \/ k = 2
 ·by_cases h64 : n ≤ 64
  ·have h64' : (n : Int) ≤ 64 := by omega
   rcases hk1 with rfl | rfl
   all_goals
    go_enter Tryz.func106, Tryz.ntmps106
    go_wp2_with fail
    refine (HS.out _ ((Kp.refl w).alloc _)).mono ?_
    rintro e w1 ⟨v, rfl, hk, rfl⟩
    go_wp2
    go_ret
    refine RetN.mk (((Kp.refl w).alloc _).trans hk) ?_
    have g := HN.out
    rw [HP.out.1 _ (by first | exact .inl rfl | exact .inr rfl), <- g]; simp [h64]
  ·have h64' : ¬ (n : Int) ≤ 64 := by omega
   rcases hk1 with rfl | rfl
   all_goals
    go_enter Tryz.func106, Tryz.ntmps106
    go_wp2
    go_ret
    refine RetN.mk ((Kp.refl w).alloc _) ?_
    have g := HN.out
    rw [HP.out.1 _ (by first | exact .inl rfl | exact .inr rfl), <- g]; simp [h64]
 ·have n1 : k ≠ 1 := fun e => hk1 (.inl e)
  have n2 : k ≠ 2 := fun e => hk1 (.inr e)
  by_cases h3 : k = 3
  ·subst h3
   clear hk1 n1 n2
   by_cases o1 : 1 ≤ op
   ·by_cases o4 : op ≤ 4
    ·have HT := qH (fun (W : World) (g : Nat) (hg : g = W.heap.size) => tP [(lk, lt, ()), (rk, rt, ())] (some ⟨g, 0, none⟩) 2 2 _ _ rfl (hg ▸ aGl W lk lt rk rt HG.out.1.1 HG.out.2.1 HG.out.1.2 HG.out.2.2 58) (by decide))
     go_enter Tryz.func106, Tryz.ntmps106
     go_wp2_with fail
     refine (HT.out _ _ (aI _ _).symm).mono ?_
     rintro e w1 ⟨v, rfl, hk, rfl⟩
     go_wp2
     go_ret
     refine RetN.mk ((((Kp.refl w).alloc _).alloc _).trans hk) ?_
     rw [HP.out.2, decide_eq_true (And.intro o1 o4)]; rfl
    ·go_enter Tryz.func106, Tryz.ntmps106
     go_wp2
     go_ret
     refine RetN.mk ((Kp.refl w).alloc _) ?_
     rw [HP.out.2, decide_eq_false (by omega)]; rfl
   ·go_enter Tryz.func106, Tryz.ntmps106
    go_wp2
    go_ret
    refine RetN.mk ((Kp.refl w).alloc _) ?_
    rw [HP.out.2, decide_eq_false (by omega)]; rfl
  ·go_enter Tryz.func106, Tryz.ntmps106
   go_wp2
   go_ret
   refine RetN.mk ((Kp.refl w).alloc _) ?_
   unfold kE; rw [if_neg hk1, if_neg h3]; rfl
def aLt (w0 : World) (ss : List ByteArray) (s : ByteArray) (n : Nat) (iv : Value) (w : World) : Prop := ∃ i : Nat, i ≤ n /\ iv = .int .i64 i /\ Hid (∀ (j : Nat) u, j < i -> ss[j]? = some u -> decide (u = s) = false) /\ Hid (Ext w0 w)
set_option maxHeartbeats 1000000 in
theorem aEq (ss : List ByteArray) (s : ByteArray) (ao : Option Addr) (n cap : Nat) (w : World) (hn : n = ss.length) (h : CellsAt w ao (strs ss)) (hl : n ≤ 4611686018427387904) :
 Calls Tryz.prog 114 #[.slice ao n cap, .string s] w (RetN w fun w' v => ∃ z : Int, v = .int .i64 z /\ decide (0 ≤ z) = kK ss s) := by
 have HN := qH hn; have HE := qH h; clear hn h
 go_enter Tryz.func114, Tryz.ntmps114
 go_wp2
 go_loopw [8] (fun iv wr => aLt w ss s n iv wr) (fun iv _ => n - (intOf iv).toNat)
 case atStart => exact ⟨0, Nat.zero_le _, rfl, fun j u h => by omega, Kp.refl w⟩
 case round =>
  obtain ⟨i, hi, rfl, hno, hex⟩ := hrel
  by_cases hlt : i < n
  ·have hlt' : i < ss.length := by rw [<- HN.out]; exact hlt
   obtain ⟨b, off, eao, hc0⟩ := (HE.out.ext hex.out).str hlt'
   subst eao
   have ht : ss[i]? = some ss[i] := qG hlt'
   generalize ss[i] = u at *
   by_cases hu : s = u
   ·have HT := qH (And.intro ht hu)
    clear ht hlt'
    subst hu
    have hb := str_eq s
    go_wp2
    go_ret
    exact RetN.mk hex.out ⟨i, rfl, by unfold kK; rw [nG HT.out.1 (by simp)]; simp⟩
   ·have HT := qH (And.intro ht hu)
    have hb := kU hu
    clear ht hlt' hu
    go_wp2
    go_roundw
    case rel =>
     refine ⟨i + 1, by omega, by first | rfl | (congr 1; done) | (congr 1; omega), fun j u hj hu => ?_, hex⟩
     by_cases e : j = i
     ·subst e; rw [HT.out.1] at hu; cases hu; exact decide_eq_false (fun e => HT.out.2 e.symm)
     ·exact hno.out j u (by omega) hu
    case measure => simp [intOf]; omega
  ·go_wp2
   go_ret
   exact RetN.mk hex.out ⟨-1, rfl, by unfold kK; rw [rH HN.out fun j u hj => hno.out j u (by omega)]; decide⟩
theorem oK (ss : List ByteArray) (s : ByteArray) (ao : Option Addr) (n cap : Nat) (w : World) (hn : n = ss.length) (h : CellsAt w ao (strs ss)) (hl : n ≤ 4611686018427387904) :
 Calls Tryz.prog 109 #[.slice ao n cap, .string s] w (RetN w fun w' v => v = .bool (kK ss s)) := by
 have HI := qH (aEq ss s ao n cap w hn h hl)
 clear hn h hl
 go_enter Tryz.func109, Tryz.ntmps109
 go_wp2_with fail
 refine HI.out.mono ?_
 rintro e w1 ⟨v, rfl, hk, z, rfl, hz⟩
 go_wp2
 go_ret
 exact RetN.mk hk (congrArg Value.bool (by first | exact hz | simp [<- hz]))
theorem rC (ao : Option Addr) (n cap : Nat) (w : World) (h : n ≤ cap) :
 Calls Tryz.prog 159 #[.slice ao n cap] w (RetN w fun w' v => v = .slice ao n n) := by
 have h1 : (n : Int) ≤ (cap : Int) := by omega
 go_enter Tryz.func159, Tryz.ntmps159
 go_wp2
 go_ret
 exact RetN.mk (Kp.refl _) (by first | rfl | simp)
theorem mR (s t : ByteArray) (w : World) : Calls Tryz.prog 269 #[.string s, .string t] w (Ret (.bool (Op.bytesLess s.toList t.toList)) w) := by
 cases h : Op.bytesLess s.toList t.toList
 ·go_enter Tryz.func269, Tryz.ntmps269
  go_wp2_with (go_at_call 220; (with_reducible refine (kJ _ _).mono ?_); rintro e w' ⟨rfl, rfl⟩)
  go_ret
  exact Ret.mk rfl
 ·go_enter Tryz.func269, Tryz.ntmps269
  go_wp2_with (go_at_call 220; (with_reducible refine (kJ _ _).mono ?_); rintro e w' ⟨rfl, rfl⟩)
  go_ret
  exact Ret.mk rfl
theorem uU (s : ByteArray) (w : World) : Calls Tryz.prog 270 #[.string s] w (Ret (.bool false) w) := by
 go_enter Tryz.func270, Tryz.ntmps270
 go_wp2
 go_ret
 exact Ret.mk (by simp)
theorem aKs {a b : ByteArray} (h : ¬ a = b) : (a.toList == b.toList) = false := by
 cases hb : (a.toList == b.toList) with
 | false => rfl
 | true => exact absurd (dP (eq_of_beq hb)) h
theorem aKt (a : ByteArray) : (a.toList == a.toList) = true := by simp
def SeekB (xs : List ByteArray) (t : ByteArray) (n : Nat) (w0 : World) (iv jv : Value) (w : World) : Prop :=
 ∃ i j : Nat, i ≤ j /\ j ≤ n /\ iv = .int .i64 i /\ jv = .int .i64 j /\ Hid ((∀ x, 0 < i -> xs[i - 1]? = some x -> bD x.toList t.toList < 0) /\ ∀ x, xs[j]? = some x -> 0 ≤ bD x.toList t.toList) /\ Hid (Ext w0 w)
def aLh (xs : List ByteArray) (t : ByteArray) (n : Nat) (_ : World) (v : Value) : Prop := ∃ (i : Nat) (b : Bool), v = .tuple #[.int .i64 i, .bool b] /\ i ≤ n /\ (∀ x, 0 < i -> xs[i - 1]? = some x -> bD x.toList t.toList < 0) /\ ∀ x, xs[i]? = some x -> 0 ≤ bD x.toList t.toList
set_option maxHeartbeats 2000000 in
theorem mE (xs : List ByteArray) (t : ByteArray) (ao : Option Addr) (n cap : Nat) (w : World) (hn : n = xs.length) (h : CellsAt w ao (strs xs)) (hl : n ≤ 4611686018427387904) :
 Calls Tryz.prog 259 #[.slice ao n cap, .string t] w (RetN w (aLh xs t n)) := by
 have HN := qH hn
 have HC := qH h
 clear hn h
 go_enter Tryz.func259, Tryz.ntmps259
 go_wp2
 go_loopw [7, 8] (fun iv jv wr => SeekB xs t n w iv jv wr) (fun iv jv _ => (intOf jv).toNat - (intOf iv).toNat)
 case atStart => exact ⟨0, n, Nat.zero_le _, Nat.le_refl _, rfl, rfl, qH ⟨fun x hx => by omega, fun x hx => by have := (List.getElem?_eq_some_iff.1 hx).1; have := HN.out; omega⟩, qH (Kp.refl _)⟩
 case round =>
  obtain ⟨i, j, hij, hj, rfl, rfl, hb, hex⟩ := hrel
  by_cases hlt : i < j
  ·obtain ⟨m, em⟩ : ∃ m, m = (i + j) / 2 := ⟨_, rfl⟩
   have rm : ((i : Int) + j) / 2 = (m : Int) := by omega
   have h1 : i ≤ m := by omega
   have h2 : m < j := by omega
   clear em
   obtain ⟨x, hx⟩ : ∃ x, xs[m]? = some x := ⟨_, qG (by have := HN.out; omega)⟩
   obtain ⟨bk, off, eao, c0⟩ := HC.out m (.string x) (by simp [strs, hx])
   subst eao
   replace c0 := hex.out.cell c0 id
   have HX := qH hx
   clear hx
   by_cases hc : Op.bytesLess x.toList t.toList = true
   ·have HL := qH (mR x t wr)
    rw [hc] at HL
    have HCm := qH (eO.2 hc)
    clear hc
    go_wp2_with fail
    refine HL.out.mono ?_
    rintro e w' ⟨rfl, rfl⟩
    go_wp2
    go_roundw
    case rel => exact ⟨m + 1, j, by omega, hj, by first | rfl | (congr 1; done) | (congr 1; omega), rfl, qH ⟨fun y _ hy => by rw [Nat.add_sub_cancel, HX.out] at hy; cases hy; exact HCm.out, hb.out.2⟩, hex⟩
    case measure => simp [intOf]; omega
   ·have HL := qH (mR x t wr)
    rw [Bool.not_eq_true] at hc
    rw [hc] at HL
    have HCm := qH (show 0 ≤ bD x.toList t.toList from Int.not_lt.1 fun h => by rw [eO, hc] at h; cases h)
    clear hc
    go_wp2_with fail
    refine HL.out.mono ?_
    rintro e w' ⟨rfl, rfl⟩
    go_wp2
    go_roundw
    case rel => exact ⟨i, m, by omega, by omega, rfl, by first | rfl | (congr 1; done) | (congr 1; omega), qH ⟨hb.out.1, fun y hy => by rw [HX.out] at hy; cases hy; exact HCm.out⟩, hex⟩
    case measure => simp [intOf]; omega
  ·have eij : i = j := by omega
   subst eij
   by_cases hin : i < n
   ·obtain ⟨x, hx⟩ : ∃ x, xs[i]? = some x := ⟨_, qG (by have := HN.out; omega)⟩
    obtain ⟨bk, off, eao, c0⟩ := HC.out i (.string x) (by simp [strs, hx])
    subst eao
    replace c0 := hex.out.cell c0 id
    have HI := qH hij
    clear hx hij
    by_cases he : x = t
    ·subst he
     have hq := aKt x
     go_wp2_with (go_at_call 270; (with_reducible refine (uU _ _).mono ?_); rintro e w' ⟨rfl, rfl⟩)
     go_ret2
     exact RetN.mk hex.out ⟨i, _, rfl, hj, hb.out.1, hb.out.2⟩
    ·have hq := aKs he
     clear he
     go_wp2_with (go_at_call 270; (with_reducible refine (uU _ _).mono ?_); rintro e w' ⟨rfl, rfl⟩)
     go_ret2
     exact RetN.mk hex.out ⟨i, _, rfl, hj, hb.out.1, hb.out.2⟩
   ·go_wp2
    go_ret2
    exact RetN.mk hex.out ⟨i, _, rfl, hj, hb.out.1, hb.out.2⟩
end
section
section
variable {P : Program} {ops : Array Oper} {Q : Exit -> Act -> World -> Prop} {md : Region.Mode} {S : World -> Prop} {lates : List Nat}
def dS (lates : List Nat) (listed : Array Bool) : Bool := lates.all fun d => !listed.getD d true
def bZ (P : Program) (md : Region.Mode) (ops : Array Oper) (Q : Exit -> Act -> World -> Prop) (S : World -> Prop) (lates : List Nat) : Nat -> Array Bool -> Act -> World -> Prop
 | 0, listed, a, w => Region.ready md ops listed = [] /\ Q .normal a w
 | fuel + 1, listed, a, w => (Region.ready md ops listed = [] -> Q .normal a w) /\
  ∀ i ∈ Region.ready md ops listed, wpOp P ops Q i (fun a' w' => (dS lates (listed.setIfInBounds i true) = true -> S w') /\ bZ P md ops Q S lates fuel (listed.setIfInBounds i true) a' w') a w
theorem oN : ∀ (fuel : Nat) (listed : Array Bool) (a : Act) (w : World), bZ P md ops Q S lates fuel listed a w -> wpAny P md ops Q fuel listed a w
 | 0, _, _, _, h => h
 | fuel + 1, _, _, _, h => ⟨h.1, fun i hi => wpOp_mono (fun a' w' h' => oN fuel _ a' w' h'.2) (h.2 i hi)⟩
def aFr (md : Region.Mode) (ops : Array Oper) (i : Nat) : List Nat :=
 (List.range ops.size).foldl (fun D j => if j == i || (match ops[j]? with | some o => o.after.any (fun e => Region.binds md e && D.contains e.on) | none => false) then j :: D else D) []
def yM (md : Region.Mode) (ops : Array Oper) (listed : Array Bool) (lates : List Nat) (i : Nat) (D : List Nat) : Bool :=
 lates.all (fun d => D.contains d && d != i) && D.all fun d => !listed.getD d true && (d == i || match ops[d]? with | some o => o.after.any (fun e => Region.binds md e && D.contains e.on) | none => false)
theorem aDj {listed : Array Bool} {i : Nat} {D : List Nat} (h : yM md ops listed lates i D = true) :
 (∀ d ∈ lates, d ∈ D /\ d ≠ i) /\ (∀ d ∈ D, listed.getD d true = false) /\ ∀ d ∈ D, d ≠ i -> ∀ o, ops[d]? = some o -> ∃ e ∈ o.after, Region.binds md e = true /\ e.on ∈ D := by
 unfold yM at h
 rw [Bool.and_eq_true, List.all_eq_true, List.all_eq_true] at h
 refine ⟨fun d hd => ?_, fun d hd => ?_, fun d hd hne o ho => ?_⟩
 ·have := h.1 d hd
  simp only [Bool.and_eq_true, List.contains_iff_mem, bne_iff_ne, ne_eq] at this
  exact this
 ·have := h.2 d hd
  rw [Bool.and_eq_true] at this
  simpa using this.1
 ·have h1 := h.2 d hd
  rw [Bool.and_eq_true, Bool.or_eq_true, ho] at h1
  rcases h1.2 with h2 | h2
  ·exact absurd (by simpa using h2) hne
  ·obtain ⟨e, he, hb⟩ := Array.any_eq_true'.1 h2
   rw [Bool.and_eq_true, List.contains_iff_mem] at hb
   exact ⟨e, he, hb.1, hb.2⟩
theorem aGz {listed : Array Bool} {D : List Nat} (hl : ∀ d ∈ lates, d ∈ D) (h : ∀ d ∈ D, listed.getD d true = false) : dS lates listed = true := by
 unfold dS
 rw [List.all_eq_true]
 intro d hd
 rw [h d (hl d hd)]; rfl
theorem lD {listed : Array Bool} {i : Nat} (hi : i ∉ lates) : dS lates (listed.setIfInBounds i true) = dS lates listed := by
 unfold dS
 rw [Bool.eq_iff_iff, List.all_eq_true, List.all_eq_true]
 have h : ∀ d ∈ lates, (listed.setIfInBounds i true).getD d true = listed.getD d true := fun d hd => getD_set_ne true (fun e => hi (e ▸ hd))
 exact ⟨fun k d hd => by rw [<- h d hd]; exact k d hd, fun k d hd => by rw [h d hd]; exact k d hd⟩
theorem yL {i : Nat} {oi : Oper} {v : Value} {D : List Nat} (hi : ops[i]? = some oi) (hsel : ∀ (j : Nat) (o : Oper) cs b, ops[j]? = some o -> o.op ≠ .select cs b)
 (hQ : ∀ c a w, Q (.panic c) (a.put oi.dst v) w -> Q (.panic c) a w) (hl : ∀ d ∈ lates, d ∈ D /\ d ≠ i) (hD : ∀ d ∈ D, d ≠ i -> ∀ o, ops[d]? = some o -> ∃ e ∈ o.after, Region.binds md e = true /\ e.on ∈ D) :
 ∀ (fuel : Nat) (listed : Array Bool) (a : Act) (w : World),
  (∀ j oj, ops[j]? = some oj -> j ≠ i -> listed.getD j true = false -> (∀ e ∈ oj.after, Region.binds md e = true -> e.on ≠ i) -> oi.apart ops oj = true) ->
  (∀ d ∈ D, listed.getD d true = false) ->
  i ∈ Region.ready md ops listed -> YieldsIf P ops S oi v a -> S w ->
  bZ P md ops Q S lates fuel (listed.setIfInBounds i true) (a.put oi.dst v) w -> bZ P md ops Q S lates (fuel + 1) listed a w := by
 have hil : i ∉ lates := fun h => (hl i h).2 rfl
 intro fuel
 induction fuel with
 | zero =>
  intro listed a w _ _ hr hy hS H
  refine ⟨fun h => (by rw [h] at hr; cases hr), fun j hj => ?_⟩
  by_cases hji : j = i
  ·subst hji; exact hy.wpOp hi hS ⟨fun _ => hS, H⟩
  ·have := ready_mono hj hji
   rw [H.1] at this
   cases this
 | succ fuel ih =>
  intro listed a w hfree hun0 hr hy hS H
  refine ⟨fun h => (by rw [h] at hr; cases hr), fun j hj => ?_⟩
  by_cases hji : j = i
  ·subst hji; exact hy.wpOp hi hS ⟨fun _ => hS, H⟩
  ·have h1 := H.2 j (ready_mono hj hji)
   obtain ⟨hjun, oj, hoj, hall⟩ := mem_ready.1 hj
   have hjD : j ∉ D := fun hjd => by
    obtain ⟨e, he, hb, heD⟩ := hD j hjd hji oj hoj
    have h2 := hall e he hb
    have h0 := hun0 e.on heD
    rcases Nat.lt_or_ge e.on listed.size with h' | h'
    ·simp [h'] at h0 h2; rw [h0] at h2; cases h2
    ·simp [Array.getElem?_eq_none h'] at h2
   have hnot : ∀ e ∈ oj.after, Region.binds md e = true -> e.on ≠ i := fun e he hb heq => by
    have h1 := hall e he hb
    have h0 := (mem_ready.1 hr).1
    rw [heq] at h1
    rcases Nat.lt_or_ge i listed.size with h' | h'
    ·simp [h'] at h0 h1; rw [h0] at h1; cases h1
    ·simp [Array.getElem?_eq_none h'] at h1
   have h2 := wpOp_putIf hoj (hfree j oj hoj hji hjun hnot) (fun cs b => hsel i oi cs b hi) (fun cs b => hsel j oj cs b hoj) hQ hy h1
   have hfree' : ∀ k ok, ops[k]? = some ok -> k ≠ i -> (listed.setIfInBounds j true).getD k true = false ->
    (∀ e ∈ ok.after, Region.binds md e = true -> e.on ≠ i) -> oi.apart ops ok = true := fun k ok hk hki hun hno => by
    refine hfree k ok hk hki ?_ hno
    by_cases hjk : j = k
    ·subst hjk; exact hjun
    ·rw [getD_set_ne true hjk] at hun; exact hun
   have hun' : ∀ d ∈ D, (listed.setIfInBounds j true).getD d true = false := fun d hd => by
    rw [getD_set_ne true (fun e : j = d => hjD (e.symm ▸ hd))]; exact hun0 d hd
   have hnl : dS lates (listed.setIfInBounds j true) = true := aGz (fun d hd => (hl d hd).1) hun'
   have hnl2 : dS lates ((listed.setIfInBounds i true).setIfInBounds j true) = true := by
    rw [Array.setIfInBounds_comm _ _ (Ne.symm hji), lD hil]; exact hnl
   refine wpOp_mono (fun a' w' h3 => ⟨fun _ => h3.2.1 hnl2, ih (listed.setIfInBounds j true) a' w' hfree' hun' (ready_mono hr (Ne.symm hji)) h3.1 (h3.2.1 hnl2) ?_⟩) h2
   rw [Array.setIfInBounds_comm _ _ hji]
   exact h3.2.2
theorem rK {i : Nat} {oi : Oper} {v : Value} (hi : ops[i]? = some oi) (hsel : ∀ (j : Nat) (o : Oper) cs b, ops[j]? = some o -> o.op ≠ .select cs b)
 (hQ : ∀ c a w, Q (.panic c) (a.put oi.dst v) w -> Q (.panic c) a w) (hil : i ∉ lates) :
 ∀ (fuel : Nat) (listed : Array Bool) (a : Act) (w : World),
  (∀ j oj, ops[j]? = some oj -> j ≠ i -> listed.getD j true = false -> (∀ e ∈ oj.after, Region.binds md e = true -> e.on ≠ i) -> oi.apart ops oj = true) ->
  i ∈ Region.ready md ops listed -> YieldsIf P ops (fun _ => True) oi v a -> (dS lates listed = true -> S w) ->
  bZ P md ops Q S lates fuel (listed.setIfInBounds i true) (a.put oi.dst v) w -> bZ P md ops Q S lates (fuel + 1) listed a w := by
 intro fuel
 induction fuel with
 | zero =>
  intro listed a w _ hr hy hS H
  refine ⟨fun h => (by rw [h] at hr; cases hr), fun j hj => ?_⟩
  by_cases hji : j = i
  ·subst hji; exact hy.wpOp hi trivial ⟨fun h => hS (by rw [lD hil] at h; exact h), H⟩
  ·have := ready_mono hj hji
   rw [H.1] at this
   cases this
 | succ fuel ih =>
  intro listed a w hfree hr hy hS H
  refine ⟨fun h => (by rw [h] at hr; cases hr), fun j hj => ?_⟩
  by_cases hji : j = i
  ·subst hji; exact hy.wpOp hi trivial ⟨fun h => hS (by rw [lD hil] at h; exact h), H⟩
  ·have h1 := H.2 j (ready_mono hj hji)
   obtain ⟨hjun, oj, hoj, hall⟩ := mem_ready.1 hj
   have hnot : ∀ e ∈ oj.after, Region.binds md e = true -> e.on ≠ i := fun e he hb heq => by
    have h1 := hall e he hb
    have h0 := (mem_ready.1 hr).1
    rw [heq] at h1
    rcases Nat.lt_or_ge i listed.size with h' | h'
    ·simp [h'] at h0 h1; rw [h0] at h1; cases h1
    ·simp [Array.getElem?_eq_none h'] at h1
   have h2 := wpOp_putIf hoj (hfree j oj hoj hji hjun hnot) (fun cs b => hsel i oi cs b hi) (fun cs b => hsel j oj cs b hoj) hQ hy h1
   have hfree' : ∀ k ok, ops[k]? = some ok -> k ≠ i -> (listed.setIfInBounds j true).getD k true = false ->
    (∀ e ∈ ok.after, Region.binds md e = true -> e.on ≠ i) -> oi.apart ops ok = true := fun k ok hk hki hun hno => by
    refine hfree k ok hk hki ?_ hno
    by_cases hjk : j = k
    ·subst hjk; exact hjun
    ·rw [getD_set_ne true hjk] at hun; exact hun
   have hcm : dS lates (listed.setIfInBounds j true) = true -> dS lates ((listed.setIfInBounds i true).setIfInBounds j true) = true := fun h => by
    rw [Array.setIfInBounds_comm _ _ (Ne.symm hji), lD hil]; exact h
   refine wpOp_mono (fun a' w' h3 => ⟨fun h => h3.2.1 (hcm h), ih (listed.setIfInBounds j true) a' w' hfree' (ready_mono hr (Ne.symm hji)) h3.1 (fun h => h3.2.1 (hcm h)) ?_⟩) h2
   rw [Array.setIfInBounds_comm _ _ hji]
   exact h3.2.2
theorem aN {listed : Array Bool} {a : Act} {w : World} (hr : Region.ready md ops listed = []) (h : Q .normal a w) : ∀ fuel, bZ P md ops Q S lates fuel listed a w
 | 0 => ⟨hr, h⟩
 | _ + 1 => ⟨fun _ => h, by rw [hr]; simp⟩
theorem bB {id : Nat} {a : Act} {w : World} (S : World -> Prop) (lates : List Nat) (hm : P.follows .mixedOrders = true) (hS : S w.drew)
 (h : S w.drew -> bZ P .any ops Q S lates ops.size (Array.replicate ops.size false) a w.drew) : (Code.region id ops true).wp P Q a w :=
 wp_region_any hm (oN _ _ _ _ (h hS))
end
section
variable {P : Program} {l : List Oper} {Q : Exit -> Act -> World -> Prop} {md : Region.Mode} {S : World -> Prop} {lates : List Nat} {fuel : Nat} {listed : Array Bool} {a : Act} {w : World}
theorem tD {p : Prop} {b : Bool} (h : b = false) : b = true -> p := fun e => by rw [h] at e; cases e
theorem and4 {a b c d : Bool} (h : (a && b && c && d) = true) : a = true /\ b = true /\ c = true /\ d = true := by
 cases a <;> cases b <;> cases c <;> cases d <;> simp_all
theorem opAt {i : Nat} {oi : Oper} (hi : l[i]? = some oi) : l.toArray[i]? = some oi := by rw [List.getElem?_toArray]; exact hi
theorem aK9 {i : Nat} {oi : Oper} {v : Value} (hi : l[i]? = some oi) (hy : ∀ w, S w -> (execOp a.eval oi).run P w = .ok (.value v) w)
 (h : bZ P md l.toArray Q S lates fuel (listed.setIfInBounds i true) (a.put oi.dst v) w)
 (side : (Region.noSelect l.toArray && Region.free md l.toArray listed i && (Region.ready md l.toArray listed).contains i && yM md l.toArray listed lates i (aFr md l.toArray i)) = true := by kernel_rfl)
 (hw : Region.wanted oi (yielded l.toArray a.tmps) = true := by rfl) (hQ : ∀ c a w, Q (.panic c) (a.put oi.dst v) w -> Q (.panic c) a w := by exact fun _ _ _ h => h) (hS : S w := by assumption) :
 bZ P md l.toArray Q S lates (fuel + 1) listed a w :=
 let c := and4 side
 let z := aDj c.2.2.2
 yL (opAt hi) (Region.noSelect_spec c.1) hQ z.1 z.2.2 fuel listed a w (Region.free_spec (opAt hi) c.2.1) z.2.1 (by simpa using c.2.2.1) (.inl ⟨hw, hy⟩) hS h
theorem aHr {i : Nat} {oi : Oper} {v : Value} (hi : l[i]? = some oi) (hy : ∀ w, (execOp a.eval oi).run P w = .ok (.value v) w)
 (h : bZ P md l.toArray Q S lates fuel (listed.setIfInBounds i true) (a.put oi.dst v) w)
 (side : (Region.noSelect l.toArray && Region.free md l.toArray listed i && (Region.ready md l.toArray listed).contains i && !lates.contains i) = true := by kernel_rfl)
 (hw : Region.wanted oi (yielded l.toArray a.tmps) = true := by rfl) (hQ : ∀ c a w, Q (.panic c) (a.put oi.dst v) w -> Q (.panic c) a w := by exact fun _ _ _ h => h) (hS : dS lates listed = true -> S w := by first | exact fun _ => by assumption | exact tD (by kernel_rfl)) :
 bZ P md l.toArray Q S lates (fuel + 1) listed a w :=
 let c := and4 side
 rK (opAt hi) (Region.noSelect_spec c.1) hQ (by simpa using c.2.2.2) fuel listed a w (Region.free_spec (opAt hi) c.2.1) (by simpa using c.2.2.1) (.inl ⟨hw, fun w _ => hy w⟩) hS h
theorem aJ3 {i : Nat} {oi : Oper} (hi : l[i]? = some oi) (h : bZ P md l.toArray Q S lates fuel (listed.setIfInBounds i true) (a.put oi.dst undef) w)
 (side : (Region.noSelect l.toArray && Region.free md l.toArray listed i && (Region.ready md l.toArray listed).contains i && !lates.contains i) = true := by kernel_rfl)
 (hw : Region.wanted oi (yielded l.toArray a.tmps) = false := by rfl) (hQ : ∀ c a w, Q (.panic c) (a.put oi.dst undef) w -> Q (.panic c) a w := by exact fun _ _ _ h => h) (hS : dS lates listed = true -> S w := by first | exact fun _ => by assumption | exact tD (by kernel_rfl)) :
 bZ P md l.toArray Q S lates (fuel + 1) listed a w :=
 let c := and4 side
 rK (opAt hi) (Region.noSelect_spec c.1) hQ (by simpa using c.2.2.2) fuel listed a w (Region.free_spec (opAt hi) c.2.1) (by simpa using c.2.2.1) (.inr ⟨hw, rfl⟩) hS h
theorem dF (i : Nat) {oi : Oper} {v : Value} (h : bZ P md l.toArray Q S lates fuel (listed.setIfInBounds i true) (a.put oi.dst v) w) (hi : l[i]? = some oi := by rfl)
 (hy : ∀ w, (execOp a.eval oi).run P w = .ok (.value v) w := by (intro w; go_simp; try with_reducible rfl))
 (side : (Region.noSelect l.toArray && Region.free md l.toArray listed i && (Region.ready md l.toArray listed).contains i && !lates.contains i) = true := by kernel_rfl)
 (hw : Region.wanted oi (yielded l.toArray a.tmps) = true := by rfl) (hQ : ∀ c a w, Q (.panic c) (a.put oi.dst v) w -> Q (.panic c) a w := by exact fun _ _ _ h => h) (hS : dS lates listed = true -> S w := by first | exact fun _ => by assumption | exact tD (by kernel_rfl)) :
 bZ P md l.toArray Q S lates (fuel + 1) listed a w := aHr hi hy h side hw hQ hS
theorem dI (i : Nat) {oi : Oper} {v : Value} (h : bZ P md l.toArray Q S lates fuel (listed.setIfInBounds i true) (a.put oi.dst v) w) (hi : l[i]? = some oi := by rfl)
 (hy : ∀ w, S w -> (execOp a.eval oi).run P w = .ok (.value v) w := by (intro w hSw; (try dsimp only at hSw); go_simp; try with_reducible rfl))
 (side : (Region.noSelect l.toArray && Region.free md l.toArray listed i && (Region.ready md l.toArray listed).contains i && yM md l.toArray listed lates i (aFr md l.toArray i)) = true := by kernel_rfl)
 (hw : Region.wanted oi (yielded l.toArray a.tmps) = true := by rfl) (hQ : ∀ c a w, Q (.panic c) (a.put oi.dst v) w -> Q (.panic c) a w := by exact fun _ _ _ h => h) (hS : S w := by assumption) :
 bZ P md l.toArray Q S lates (fuel + 1) listed a w := aK9 hi hy h side hw hQ hS
theorem dO (i : Nat) {oi : Oper} (h : bZ P md l.toArray Q S lates fuel (listed.setIfInBounds i true) (a.put oi.dst undef) w) (hi : l[i]? = some oi := by rfl)
 (side : (Region.noSelect l.toArray && Region.free md l.toArray listed i && (Region.ready md l.toArray listed).contains i && !lates.contains i) = true := by kernel_rfl)
 (hw : Region.wanted oi (yielded l.toArray a.tmps) = false := by rfl) (hQ : ∀ c a w, Q (.panic c) (a.put oi.dst undef) w -> Q (.panic c) a w := by exact fun _ _ _ h => h) (hS : dS lates listed = true -> S w := by first | exact fun _ => by assumption | exact tD (by kernel_rfl)) :
 bZ P md l.toArray Q S lates (fuel + 1) listed a w := aJ3 hi h side hw hQ hS
def Comes (P : Program) (md : Region.Mode) (l : List Oper) (Q : Exit -> Act -> World -> Prop) (S : World -> Prop) (lates : List Nat) (fuel : Nat) (listed : Array Bool) (a : Act) (w : World) (i : Nat) : Prop :=
 wpOp P l.toArray Q i (fun a' w' => (dS lates (listed.setIfInBounds i true) = true -> S w') /\ bZ P md l.toArray Q S lates fuel (listed.setIfInBounds i true) a' w') a w
theorem aG {i : Nat} {o : Oper} (ho : l[i]? = some o)
 (h : ∀ K' : Act -> World -> Prop, Shut (∀ a w, S w -> (S w -> bZ P md l.toArray Q S lates fuel (listed.setIfInBounds i true) a w) -> K' a w) -> if Region.wanted o (yielded l.toArray a.tmps) = true then Oper.wp P o a w K' Q else K' (a.put o.dst undef) w) : Comes P md l Q S lates fuel listed a w i :=
 wpOp_step (opAt ho) fun K' hK => h K' fun a w hS hW => hK a w ⟨fun _ => hS, hW hS⟩
theorem aJ {i : Nat} {o : Oper} (ho : l[i]? = some o) (hi : dS lates (listed.setIfInBounds i true) = false)
 (h : ∀ K' : Act -> World -> Prop, Shut (∀ a w, bZ P md l.toArray Q S lates fuel (listed.setIfInBounds i true) a w -> K' a w) -> if Region.wanted o (yielded l.toArray a.tmps) = true then Oper.wp P o a w K' Q else K' (a.put o.dst undef) w) : Comes P md l Q S lates fuel listed a w i :=
 wpOp_step (opAt ho) fun K' hK => h K' fun a w hW => hK a w ⟨fun hn => absurd (hn.symm.trans hi) Bool.noConfusion, hW⟩
theorem aF {i : Nat} (h : Comes P md l Q S lates fuel listed a w i) (hr : Region.ready md l.toArray listed = [i] := by kernel_rfl) : bZ P md l.toArray Q S lates (fuel + 1) listed a w :=
 ⟨fun h0 => absurd (hr ▸ h0) (by simp), fun j hj => by rw [hr] at hj; simp at hj; subst hj; exact h⟩
theorem vL {i k : Nat} (h : Comes P md l Q S lates fuel listed a w i) (h' : Comes P md l Q S lates fuel listed a w k) (hr : Region.ready md l.toArray listed = [i, k] := by kernel_rfl) : bZ P md l.toArray Q S lates (fuel + 1) listed a w :=
 ⟨fun h0 => absurd (hr ▸ h0) (by simp), fun j hj => by
  rw [hr] at hj; simp at hj
  rcases hj with rfl | rfl
  ·exact h
  ·exact h'⟩
theorem aCp {o : Oper} {K : Act -> World -> Prop} {E : Prop} (hgd : o.guard = none) (s x : Operand) {t1 t2 : TypeId}
 (ho : o.op = .call { callee := .builtin .append, args := #[s, x], argTypes := #[t1, t2] }) {v u v' : Value} {w' : World} (hs : a.eval s = v) (hx : a.eval x = u)
 (hr : (Builtin.append_ #[t1, t2] o.type #[v, u]).run P w = .ok v' w') (h : K (a.put o.dst v') w') :
 if Region.wanted o (yielded l.toArray a.tmps) = true then Oper.wp P o a w K Q else E := by
 have hw : Region.wanted o (yielded l.toArray a.tmps) = true := by simp [Region.wanted, hgd]
 rw [if_pos hw]
 unfold Oper.wp execOp
 simp only [ho, resolve, invoke, builtin, Sem.run_bind, Sem.run_pure, Result.andThen_ok, List.map_toArray, List.map_cons, List.map_nil, hs, hx, hr]
 exact h
end
end
section
open Go.RowKit
def sJ (T : Nat -> Prop) (W W' : World) : Nat -> Prop := fun k => T k \/ (W.heap.size ≤ k /\ k < W'.heap.size)
def fT (Z T : Nat -> Prop) : Nat -> Prop := fun k => T k \/ Z k
def vW {α : Type} (F : Fence) (n : Nat) (P : Program) (g : Nat) (lb : Array Value) (encs : α -> Array Value) (Z : Nat -> Prop) (Gv : World -> (Nat -> Prop) -> World -> α -> Prop) (S Sp : List α -> Prop) (w : World) : Prop :=
 ∀ (l : Nat) (J Jx : (Nat -> Prop) -> List α -> World -> Prop) (W : World), Kp (fun k => ¬ Z k) w W ->
  (∀ T T' pre x W1 W2, J T pre W1 -> Kp T W1 W2 -> (∀ k, T' k -> sJ T W1 W2 k) -> Gv W1 T' W2 x -> Sp (pre ++ [x]) -> YieldAt F (n - 1) P l (encs x) W2 fun e W' =>
   (e = .returned (.bool true) /\ J T' (pre ++ [x]) W' /\ Kp (fun k => ¬ fT Z T' k) W2 W') \/ (e = .returned (.bool false) /\ Jx T' (pre ++ [x]) W' /\ Kp (fun k => ¬ fT Z T' k) W2 W')) ->
  J (fun _ => False) [] W ->
  CallsIn F n P g (#[.func (.yield l) #[] #[]] ++ lb) W fun e W' => (∃ v, e = .returned v) /\ ∃ T W1, Kp T W1 W' /\ ((∃ xs, S xs /\ J T xs W1) \/ (∃ pre, Sp pre /\ Jx T pre W1))
def aL4 : Exit -> Option (Option Code)
 | .normal => some none
 | .ret => some (some .ret)
 | .exit id => some (some (.exit id))
 | .goto t => some (some (.goto t))
 | .panic _ => none
 | .outgrown => none
def aA6 {α : Type} (Z : Nat -> Prop) (B : Nat) (T : Nat -> Prop) (I : (Nat -> Prop) -> List α -> World -> Prop) (Ix : Code -> (Nat -> Prop) -> List α -> World -> Prop) (xs : List α) (W : World) (e : Exit) (_ : Act) (W' : World) : Prop :=
 match aL4 e with
 | some none => KeepsFrom B W W' /\ Kp (fun k => ¬ fT Z T k) W W' /\ I T xs W'
 | some (some c) => KeepsFrom B W W' /\ Kp (fun k => ¬ fT Z T k) W W' /\ Ix c T xs W'
 | none => False
structure BookT (b : Nat) (r : Loop) (T : Nat -> Prop) (W : World) : Prop where
 loop : W.heap[b + 1]? = some (.loop r)
 later : W.heap[b]? = some (.deferred (some []))
 off : ∀ k, T k -> k ≠ b /\ k ≠ b + 1
theorem BookT.lt {b : Nat} {r : Loop} {T : Nat -> Prop} {W : World} (h : BookT b r T W) : b + 1 < W.heap.size := (Array.getElem?_eq_some_iff.1 h.loop).1
theorem BookT.step {b : Nat} {r : Loop} {T T' : Nat -> Prop} {W W' : World} (h : BookT b r T W) (hs : Kp T W W') (hT : ∀ k, T' k -> sJ T W W' k) : BookT b r T' W' := by
 have hl := h.lt
 refine ⟨(hs.block _ hl fun e => (h.off _ e).2 rfl).trans h.loop, (hs.block _ (by omega) fun e => (h.off _ e).1 rfl).trans h.later, fun k hk => ?_⟩
 rcases hT k hk with hk | hk
 ·exact h.off k hk
 ·omega
theorem Kp.putF {F : Nat -> Prop} {W : World} {l : Nat} (hF : F l) (o : Obj) : Kp F W (W.putObj l o) :=
 ⟨rfl, rfl, rfl, by simp [World.putObj], fun k hk hf => World.putObj_heap_other (fun e => hf (by rw [e]; exact hF))⟩
theorem BookT.set {Z : Nat -> Prop} {b : Nat} {r : Loop} {T : Nat -> Prop} {W : World} (h : BookT b r T W) (hZ : ∀ k, Z k -> k < b) (r' : Loop) : BookT b r' T (W.putObj (b + 1) (.loop r')) /\ Kp (fun k => ¬ fT Z T k) W (W.putObj (b + 1) (.loop r')) :=
 ⟨⟨World.putObj_heap_same h.lt, (World.putObj_heap_other (by omega)).trans h.later, h.off⟩, Kp.putF (fun hk => by
  rcases hk with hk | hk
  ·exact (h.off _ hk).2 rfl
  ·have := hZ _ hk; omega) _⟩
theorem BookT.keeps {b : Nat} {r : Loop} {T : Nat -> Prop} {W W' : World} {B : Nat} (h : BookT b r T W) (hB : B ≤ b) (hk : KeepsFrom B W W') : BookT b r T W' :=
 ⟨hk.same _ _ (by omega) h.loop rfl, hk.same _ _ hB h.later rfl, h.off⟩
theorem size_put (W : World) (l : Nat) (o : Obj) : (W.putObj l o).heap.size = W.heap.size := by
 simp [World.putObj]
theorem Kp.put {F : Nat -> Prop} {W W' : World} (h : Kp F W W') (l : Nat) (o : Obj) (hl : l < W.heap.size) : Kp F (W.putObj l o) (W'.putObj l o) := by
 refine ⟨h.os, h.tape, h.output, by rw [size_put, size_put]; exact h.size, fun k hk hf => ?_⟩
 rw [size_put] at hk
 by_cases e : k = l
 ·subst e
  rw [World.putObj_heap_same hl, World.putObj_heap_same (Nat.lt_of_lt_of_le hl h.size)]
 ·rw [World.putObj_heap_other e, World.putObj_heap_other e]
  exact h.block k hk hf
section
variable {F : Fence} {n : Nat} {P : Program}
theorem oC {α : Type} {g : Operand} {ps : Array Tmp} {assign body : Code} {Q : Exit -> Act -> World -> Prop} {a : Act} {w : World}
 (hro : F.round = none) (h1 : 1 ≤ n) {gf : Nat} {lb : Array Value} (hg : a.eval g = .func (.func gf) #[] lb) (hFg : F.fn gf) (eg : ∀ args w, (callFunc gf args).run P w = .ok (.enter gf args) w)
 {encs : α -> Array Value} {Z : Nat -> Prop} {Gv : World -> (Nat -> Prop) -> World -> α -> Prop} {S Sp : List α -> Prop} {w0 : World} (hseq : vW F (n - 1) P gf lb encs Z Gv S Sp w0) (hb0 : Kp (fun k => ¬ Z k) w0 w) (hZ : ∀ k, Z k -> k < w.heap.size) (hps : ∀ x, (encs x).size = ps.size)
 (hGv : ∀ T W1 W2 x l r o, Gv W1 T W2 x -> W2.heap[l]? = some r -> r.isCells = false -> Gv (W1.putObj l o) T (W2.putObj l o) x)
 (I : (Nat -> Prop) -> List α -> World -> Prop) (Ix : Code -> (Nat -> Prop) -> List α -> World -> Prop)
 (hIB : ∀ T s W l o o', I T s W -> ¬ T l -> w.heap.size ≤ l -> W.heap[l]? = some o -> o.isCells = false -> I T s (W.putObj l o'))
 (hIxB : ∀ c T s W l o o', Ix c T s W -> ¬ T l -> w.heap.size ≤ l -> W.heap[l]? = some o -> o.isCells = false -> Ix c T s (W.putObj l o'))
 (hIA : ∀ W o, I (fun _ => False) [] W -> I (fun _ => False) [] (W.alloc o)) (h0 : I (fun _ => False) [] w) (a₁ : α -> Act)
 (hassign : ∀ (l : Nat) (x : α) (W : World) (K : Act -> World -> Prop), K (a₁ x) W ->
  assign.wpIn (F.inRound l) (n - 1 - 1) P (Exit.then K (fun _ _ _ => False)) { tmps := (ps.zip (encs x)).foldl (fun t (p, v) => t.setIfInBounds p v) a.tmps, defers := [] } W)
 (hbody : ∀ (l : Nat) (T T' : Nat -> Prop) (pre : List α) (x : α) (W1 W : World), I T pre W1 -> (∀ k, T k -> k < W1.heap.size) -> Kp T W1 W -> (∀ k, T' k -> sJ T W1 W k) -> Gv W1 T' W x -> Sp (pre ++ [x]) -> body.wpIn (F.inRound l) (n - 1 - 1) P (aA6 Z w.heap.size T' I Ix (pre ++ [x]) W) (a₁ x) W)
 (hdone : ∀ (D : Nat) (T : Nat -> Prop) (xs : List α) (W1 W : World), w.heap.size ≤ D -> S xs -> I T xs W1 -> (∀ k, T k -> k < W1.heap.size) -> Kp T W1 W -> W.heap[D]? = some (.deferred (some [])) -> Q .normal { a with defers := { target := .collected D, args := #[] } :: a.defers } W)
 (hstop : ∀ (D : Nat) (c : Code) (T : Nat -> Prop) (pre : List α) (W1 W : World), w.heap.size ≤ D -> Sp pre -> Ix c T pre W1 -> (∀ k, T k -> k < W1.heap.size) -> Kp T W1 W -> W.heap[D]? = some (.deferred (some [])) -> c.wpIn F n P Q { a with defers := { target := .collected D, args := #[] } :: a.defers } W) :
 (Code.rangeFunc g ps assign body).wpIn F n P Q a w := by
 refine wpIn_rangeFunc fun fn hfn => ?_
 rw [hro]
 obtain ⟨b, eb⟩ : ∃ b, w.heap.size = b := ⟨_, rfl⟩
 rw [eb] at hIB hIxB hbody hdone hstop hZ
 let rc (st : LoopState) (pe : Option Code) : Loop := { state := st, pending := pe, fn, tmps := a.tmps, params := ps, assign, body, defers := b }
 obtain ⟨W1, hW1⟩ : ∃ W1, (w.alloc (.deferred (some []))).alloc (.loop (rc .ready none)) = W1 := ⟨_, rfl⟩
 have hB1 : BookT b (rc .ready none) (fun _ => False) W1 := by
  refine ⟨?_, ?_, fun k hk => hk.elim⟩
  ·have h := World.alloc_heap_new (w.alloc (.deferred (some []))) (.loop (rc .ready none))
   rw [World.size_alloc, eb] at h
   rw [<- hW1]; exact h
  ·have h := World.alloc_heap_new w (.deferred (some []))
   rw [eb] at h
   rw [<- hW1, <- h]
   exact Below.heap_alloc _ _ _ (by rw [World.size_alloc]; omega)
 have hI1 : I (fun _ => False) [] W1 := by rw [<- hW1]; exact hIA _ _ (hIA _ _ h0)
 have hX1 : Kp (fun k => ¬ Z k) w0 W1 := by rw [<- hW1]; exact (hb0.alloc _).alloc _
 refine ⟨b + 1, [{ target := .collected b, args := #[] }], W1, { target := .fn (.func gf) lb, args := #[.func (.yield (b + 1)) #[] #[]] }, W1, gf, #[.func (.yield (b + 1)) #[] #[]] ++ lb, W1, ?_, ?_, ?_, ?_, fun _ => h1, ?_⟩
 ·have h := run_enterLoop_outer (P := P) (w := w) fn a.tmps ps assign body
  rw [eb] at h
  rw [<- hW1]; exact h
 ·simp only [resolve, hg]
  simp [go_sem]
 ·intro f' hf'
  simp [Target.leads] at hf'
  subst hf'; exact hFg
 ·simp [invoke, go_sem, eg]
 ·refine (hseq (b + 1) (fun T pre W => I T pre W /\ BookT b (rc .ready none) T W /\ ∀ k, T k -> k < W.heap.size) (fun T pre W => ∃ c, Ix c T pre W /\ BookT b (rc .done (some c)) T W /\ ∀ k, T k -> k < W.heap.size) W1 hX1 ?_ ⟨hI1, hB1, fun k hk => hk.elim⟩).mono ?_
  ·rintro T T' pre x V W ⟨hi, hbk0, hT0⟩ hkp hsub hgv hlen
   have hbk := hbk0.step hkp hsub
   have hT : ∀ k, T' k -> k < W.heap.size := fun k hk => by
    rcases hsub k hk with h | h
    ·exact Nat.lt_of_lt_of_le (hT0 k h) hkp.size
    ·exact h.2
   have hy := run_yield (P := P) (args := encs x) hbk.loop (by exact hps x)
   refine ⟨fn, _, assign, body, hy, roundIn_of_wpIn hfn (hassign _ x W _ ⟨_, run_beginRound hbk.loop rfl, ?_⟩)⟩
   obtain ⟨hbk2, hs2⟩ := hbk.set hZ { rc .ready none with state := .busy }
   have hi2 := hIB T pre V (b + 1) _ (.loop { rc .ready none with state := .busy }) hi (fun h => (hbk0.off _ h).2 rfl) (by omega) hbk0.loop rfl
   refine wpIn_mono (hbody _ T T' pre x _ _ hi2 (fun k hk => by rw [size_put]; exact hT0 k hk) (hkp.put _ _ hbk0.lt) (fun k hk => by
    rcases hsub k hk with h | h
    ·exact .inl h
    ·exact .inr (by rw [size_put, size_put]; exact h)) (hGv _ _ _ _ _ _ _ hgv hbk.loop rfl) hlen) ?_
   intro e a3 W3 hp
   unfold aA6 at hp
   have fin : ∀ (jump : Option Code), KeepsFrom b (W.putObj (b + 1) (.loop { rc .ready none with state := .busy })) W3 -> Kp (fun k => ¬ fT Z T' k) (W.putObj (b + 1) (.loop { rc .ready none with state := .busy })) W3 ->
    (Instr.endRound (b + 1) jump).run P W3 = .ok (.bool jump.isNone) (W3.putObj (b + 1) (.loop (rc (if jump.isNone then .ready else .done) jump))) /\
    BookT b (rc (if jump.isNone then .ready else .done) jump) T' (W3.putObj (b + 1) (.loop (rc (if jump.isNone then .ready else .done) jump))) /\
    Kp (fun k => ¬ fT Z T' k) W (W3.putObj (b + 1) (.loop (rc (if jump.isNone then .ready else .done) jump))) /\ W3.heap[b + 1]? = some (.loop { rc .ready none with state := .busy }) := fun jump hk hs => by
    have hbk3 := hbk2.keeps (Nat.le_refl b) hk
    obtain ⟨hbk4, hs4⟩ := hbk3.set hZ (rc (if jump.isNone then .ready else .done) jump)
    exact ⟨run_endRound jump hbk3.loop, hbk4, (hs2.trans hs).trans hs4, hbk3.loop⟩
   have leave : ∀ c : Code, KeepsFrom b (W.putObj (b + 1) (.loop { rc .ready none with state := .busy })) W3 /\ Kp (fun k => ¬ fT Z T' k) (W.putObj (b + 1) (.loop { rc .ready none with state := .busy })) W3 /\ Ix c T' (pre ++ [x]) W3 ->
    ∃ v w', (Instr.endRound (b + 1) (some c)).run P W3 = .ok v w' /\ ((Ending.returned v = .returned (.bool true) /\ (I T' (pre ++ [x]) w' /\ BookT b (rc .ready none) T' w' /\ ∀ k, T' k -> k < w'.heap.size) /\ Kp (fun k => ¬ fT Z T' k) W w') \/
     (Ending.returned v = .returned (.bool false) /\ (∃ c, Ix c T' (pre ++ [x]) w' /\ BookT b (rc .done (some c)) T' w' /\ ∀ k, T' k -> k < w'.heap.size) /\ Kp (fun k => ¬ fT Z T' k) W w')) := fun c ⟨hk, hs, hx⟩ => by
    obtain ⟨hr, hbk4, hs4, hl3⟩ := fin (some c) hk hs
    exact ⟨_, _, hr, .inr ⟨rfl, ⟨c, hIxB c T' _ W3 (b + 1) _ _ hx (fun h => (hbk.off _ h).2 rfl) (by omega) hl3 rfl, hbk4, fun k hk => Nat.lt_of_lt_of_le (hT k hk) hs4.size⟩, hs4⟩⟩
   cases e with
   | normal =>
    obtain ⟨hk, hs, hx⟩ := hp
    obtain ⟨hr, hbk4, hs4, hl3⟩ := fin none hk hs
    exact ⟨_, _, hr, .inl ⟨rfl, ⟨hIB T' _ W3 (b + 1) _ _ hx (fun h => (hbk.off _ h).2 rfl) (by omega) hl3 rfl, hbk4, fun k hk => Nat.lt_of_lt_of_le (hT k hk) hs4.size⟩, hs4⟩⟩
   | ret => exact leave _ hp
   | exit id => exact leave _ hp
   | goto t => exact leave _ hp
   | panic ch => exact hp.elim
   | outgrown => exact hp.elim
  ·rintro e W2 ⟨⟨v, rfl⟩, T, V, hkp, (⟨xs, hS, hi, hbk, hT⟩ | ⟨pre, hSp, c, hi, hbk, hT⟩)⟩
   ·have hbk2 := hbk.step (T' := T) hkp fun k hk => .inl hk
    refine ⟨none, _, run_endLoop hbk2.loop (by simp [rc]), ?_⟩
    exact hdone b T xs _ _ (Nat.le_refl _) hS (hIB T _ V (b + 1) _ _ hi (fun h => (hbk.off _ h).2 rfl) (by omega) hbk.loop rfl) (fun k hk => by rw [size_put]; exact hT k hk) (hkp.put _ _ hbk.lt) ((World.putObj_heap_other (by omega)).trans hbk2.later)
   ·have hbk2 := hbk.step (T' := T) hkp fun k hk => .inl hk
    refine ⟨some c, _, run_endLoop hbk2.loop (by simp [rc]), ?_⟩
    exact hstop b c T pre _ _ (Nat.le_refl _) hSp (hIxB c T _ V (b + 1) _ _ hi (fun h => (hbk.off _ h).2 rfl) (by omega) hbk.loop rfl) (fun k hk => by rw [size_put]; exact hT k hk) (hkp.put _ _ hbk.lt) ((World.putObj_heap_other (by omega)).trans hbk2.later)
end
theorem aHm : cM Tryz.prog 66 9 1 16 (.string ⟨#[]⟩) := ⟨by kernel_rfl, by kernel_rfl, rfl, by decide⟩
theorem aDa (a : List ByteArray) (t : aE) : (bE a t).length ≤ a.length + 1 /\ a.length ≤ (bE a t).length := by
 unfold bE; split <;> simp
theorem oQ : ∀ (ts : List aE) (a : List ByteArray), (cK a ts).length ≤ a.length + ts.length
 | [], a => by simp [cK]
 | t :: ts, a => by
  have := oQ ts (bE a t)
  have := (aDa a t).1
  unfold cK at *
  rw [List.foldl_cons]; simp only [List.length_cons]; omega
theorem aEj (a : List ByteArray) (l : aM) : (bR a l).length ≤ a.length + (aB l).length := by
 unfold bR; split
 ·exact oQ _ _
 ·omega
theorem uF (M : Nat) : ∀ (ls : List aM) (a : List ByteArray), (∀ l ∈ ls, (aB l).length ≤ M) -> (ls.foldl bR a).length ≤ a.length + ls.length * M
 | [], a, _ => by simp
 | l :: ls, a, h => by
  have h1 := uF M ls (bR a l) fun x hx => h x (List.mem_cons_of_mem _ hx)
  have h2 := aEj a l
  have h3 := h l List.mem_cons_self
  rw [List.foldl_cons, List.length_cons, Nat.succ_mul]; omega
theorem uG {M : Nat} {ls : List aM} (h : ∀ l ∈ ls, (aB l).length ≤ M) : (aA ls).length ≤ ls.length * M := by
 have := uF M ls [] h; unfold aA; simpa using this
def cT (a : List ByteArray) (l : aM) (c : Nat) : List ByteArray := if l.1 = 1 then cK a ((aB l).take c) else a
theorem zE (a : List ByteArray) (l : aM) : cT a l 0 = a := by unfold cT; split <;> rfl
theorem aBf (a : List ByteArray) (l : aM) {c : Nat} (h : (aB l).length ≤ c) : cT a l c = bR a l := by
 unfold cT bR; rw [List.take_of_length_le h]
theorem zF (a : List ByteArray) {l : aM} {c : Nat} {t : aE} (h : (aB l)[c]? = some t) : cT a l (c + 1) = if l.1 = 1 /\ t.1 = 1 /\ kK (cT a l c) t.2.1 = false then cT a l c ++ [t.2.1] else cT a l c := by
 unfold cT
 by_cases h1 : l.1 = 1
 ·simp only [h1, true_and]
  unfold cK
  rw [xL _ _ h]
  rfl
 ·simp only [h1, false_and, if_false]
theorem aBe (a : List ByteArray) (l : aM) (c : Nat) : (cT a l c).length ≤ a.length + c := by
 unfold cT; split
 ·have := oQ ((aB l).take c) a
  rw [List.length_take] at this; omega
 ·omega
theorem Row.old {w : World} {e : TypeId} {k : Nat} {v : Value} {n : Nat} {xs : List Value} {M : Nat -> Prop} (h : Row w e k v n xs M) : Row w e k v n xs (fun g => M g /\ g < w.heap.size) := by
 obtain ⟨h1, h2 | ⟨g, cap, rest, a, b, c, d⟩⟩ := h
 ·exact ⟨h1, .inl h2⟩
 ·exact ⟨h1, .inr ⟨g, cap, rest, a, ⟨b, c.lt⟩, c, d⟩⟩
theorem Row.beside {w w' : World} {e : TypeId} {k : Nat} {v : Value} {n : Nat} {xs : List Value} {M : Nat -> Prop} (h : Row w e k v n xs M) (hx : Ext w w') : Row w' e k v n xs (fun g => M g /\ g ≠ w.heap.size) :=
 (h.old.ext hx).mono fun g hg => ⟨hg.1, by omega⟩
theorem wS (ss : List ByteArray) (s : ByteArray) : strs ss ++ [.string s] = strs (ss ++ [s]) := by simp [strs]
structure Fit (ls : List aM) : Prop where
 len : ls.length ≤ 1048576
 terms : ∀ l ∈ ls, (aB l).length ≤ 1048576
def aLg (w0 : World) (ls : List aM) (n : Nat) (iv ov : Value) (w : World) : Prop := ∃ i : Nat, i ≤ n /\ iv = .int .i64 i /\ Hid (Row w 9 1 ov (aA (ls.take i)).length (strs (aA (ls.take i))) (New w0)) /\ Hid (Ext w0 w)
def aMa (w0 : World) (a : List ByteArray) (l : aM) (g : Nat) (cs : List Value) (m : Nat) (iv ov : Value) (w : World) : Prop := ∃ i : Nat, i ≤ m /\ iv = .int .i64 i /\ Hid (Row w 9 1 ov (cT a l i).length (strs (cT a l i)) (fun k => New w0 k /\ k ≠ g)) /\ Hid (Ext w0 w) /\ Hid (Blk w g cs 60)
def OwnSl (w0 w : World) (v : Value) (ss : List ByteArray) : Prop := ∃ a cap, v = .slice a ss.length cap /\ (a = none /\ ss = [] /\ cap = 0 \/ ∃ g rest, a = some ⟨g, 0, none⟩ /\ Blk w g (strs ss ++ rest) 9 /\ ss.length ≤ cap /\ cap ≤ (strs ss ++ rest).length /\ cap ≤ maxLen /\ w0.heap.size ≤ g)
theorem OwnSl.ext {w0 w w' : World} {v : Value} {ss : List ByteArray} (h : OwnSl w0 w v ss) (hk : Ext w w') : OwnSl w0 w' v ss := by
 obtain ⟨a, cap, e, h | ⟨g, rest, h1, h2, h3⟩⟩ := h
 ·exact ⟨a, cap, e, .inl h⟩
 ·exact ⟨a, cap, e, .inr ⟨g, rest, h1, h2.ext hk, h3⟩⟩
theorem OwnSl.old {w0 w1 w : World} {v : Value} {ss : List ByteArray} (h : OwnSl w1 w v ss) (hs : w0.heap.size ≤ w1.heap.size) : OwnSl w0 w v ss := by
 obtain ⟨a, cap, e, h | ⟨g, rest, h1, h2, h3, h4, h5, h6⟩⟩ := h
 ·exact ⟨a, cap, e, .inl h⟩
 ·exact ⟨a, cap, e, .inr ⟨g, rest, h1, h2, h3, h4, h5, Nat.le_trans hs h6⟩⟩
theorem Row.own' {w0 w : World} {v : Value} {ss : List ByteArray} (h : Row w 9 1 v ss.length (strs ss) (New w0)) : OwnSl w0 w v ss := by
 obtain ⟨h1, ⟨e, h0⟩ | ⟨g, cap, rest, e, hM, hB, hl, hc, hm⟩⟩ := h
 ·exact ⟨none, 0, by rw [e, h0], .inl ⟨rfl, List.eq_nil_of_length_eq_zero h0, rfl⟩⟩
 ·exact ⟨_, cap, e, .inr ⟨g, rest, rfl, hB, hc, by omega, hm, hM⟩⟩
theorem OwnSl.clip {w0 w : World} {a : Option Addr} {n cap : Nat} {ss : List ByteArray} (h : OwnSl w0 w (.slice a n cap) ss) : OwnSl w0 w (.slice a n n) ss := by
 obtain ⟨a', cap', e, h | ⟨g, rest, h1, h2, h3, h4, h5, h6⟩⟩ := h
 ·cases e
  obtain ⟨rfl, rfl, rfl⟩ := h
  exact ⟨none, 0, rfl, .inl ⟨rfl, rfl, rfl⟩⟩
 ·cases e
  exact ⟨a, _, rfl, .inr ⟨g, rest, h1, h2, Nat.le_refl _, by omega, by omega, h6⟩⟩
set_option maxHeartbeats 4000000 in
theorem aAe (p : ByteArray) (ha : Option Addr) (hn hcap : Nat) (ls : List aM) (ba : Option Addr) (n bcap : Nat) (w : World) (G : Nat -> Prop) (hbn : n = ls.length) (h : cD w G ba ls) (hf : Fit ls) :
 Calls Tryz.prog 107 #[dL p ha hn hcap ba n bcap] w (RetN w fun w' v => ∃ ao cap, v = .slice ao (aA ls).length cap /\ (aA ls).length ≤ cap /\ CellsAt w' ao (strs (aA ls)) /\ cap = (aA ls).length /\ OwnSl w w' v (aA ls)) := by
 have HN := qH hbn; have HE := qH h; have HF := qH hf; have hl : n ≤ 1048576 := by have := hf.len; omega
 clear hbn h hf
 go_enter Tryz.func107, Tryz.ntmps107
 go_wp2
 go_loopw [11, 3] (fun iv ov wr => aLg w ls n iv ov wr) (fun iv _ _ => n - (intOf iv).toNat)
 case atStart => exact ⟨0, Nat.zero_le _, rfl, Row.nil _ _ _ _, (Kp.refl w).alloc _⟩
 case round =>
  obtain ⟨i, hi, rfl, hrow, hex⟩ := hrel
  by_cases hlt : i < n
  ·have hlt' : i < ls.length := by rw [<- HN.out]; exact hlt
   obtain ⟨l, hli⟩ : ∃ l, ls[i]? = some l := ⟨_, qG hlt'⟩
   obtain ⟨b, off, a, cap, eao, hG, hb, hL, c0, c1, c2, c3, c4, c5, c6, c7⟩ := oR HE.out hli
   subst eao
   replace c0 := hex.out.cell c0 id
   replace c1 := hex.out.cell c1 id
   replace c2 := hex.out.cell c2 id
   replace c3 := hex.out.cell c3 id
   replace c4 := hex.out.cell c4 id
   replace c5 := hex.out.cell c5 id
   replace c6 := hex.out.cell c6 id
   replace c7 := hex.out.cell c7 id
   obtain ⟨m, em⟩ : ∃ m, m = (aB l).length := ⟨_, rfl⟩
   rw [<- em] at c2
   have hm : m ≤ 1048576 := by rw [em]; exact HF.out.terms l (List.mem_of_getElem? hli)
   have HL := qH (And.intro hli (And.intro hL em))
   clear hli hlt' hL em hG hb
   obtain ⟨k, ek⟩ : ∃ k, l.1 = k := ⟨_, rfl⟩
   rw [ek] at c0
   generalize bF l = s1 at c1
   generalize iC l = s3 at c3
   generalize (leftOf l).1 = s4 at c4
   generalize (leftOf l).2.1 = s5 at c5
   generalize (aS l).1 = s6 at c6
   generalize (aS l).2.1 = s7 at c7
   have HK := qH ek; clear ek
   go_wp2
   obtain ⟨wb, eb⟩ : ∃ wb, wr.alloc (.cells #[.int .i64 k, .string s1, .slice a m cap, .int .i64 s3, .int .i64 s4, .string s5, .int .i64 s6, .string s7] 60) = wb := ⟨_, rfl⟩
   rw [eb]
   have hB : Blk wb wr.heap.size [.int .i64 k, .string s1, .slice a m cap, .int .i64 s3, .int .i64 s4, .string s5, .int .i64 s6, .string s7] 60 := by rw [<- eb]; exact Blk.new wr [_, _, _, _, _, _, _, _] _
   have hx : Ext wr wb := by rw [<- eb]; exact (Kp.refl wr).alloc _
   have hrow2 : Row wb 9 1 u3 (cT (aA (ls.take i)) l 0).length (strs (cT (aA (ls.take i)) l 0)) (fun k => New w k /\ k ≠ wr.heap.size) := by
    rw [zE]
    exact hrow.out.beside hx
   have HX := qH (hex.out.trans hx)
   have HB := qH hB
   have HR := qH hrow2
   have hnew : New w wr.heap.size := hex.out.size
   have HW := qH (And.intro hnew (Nat.lt_of_lt_of_le (Nat.lt_succ_self _) (by rw [<- eb, aI]; exact Nat.le_refl _) : wr.heap.size < wb.heap.size))
   have d0 := hB.c2
   obtain ⟨g, eg⟩ : ∃ g, g = wr.heap.size := ⟨_, rfl⟩
   rw [<- eg] at HB HR HW d0
   have hlt2 : (i : Int) < (n : Int) := by omega
   clear hB hrow2 hx eb hnew c0 c1 c2 c3 c4 c5 c6 c7
   rw [<- eg]
   clear eg
   go_wp2
   clear d0
   go_loopw [19, 3] (fun iv ov wr => aMa w (aA (ls.take i)) l g [.int .i64 k, .string s1, .slice a m cap, .int .i64 s3, .int .i64 s4, .string s5, .int .i64 s6, .string s7] m iv ov wr) (fun iv _ _ => m - (intOf iv).toNat)
   case atStart => exact ⟨0, Nat.zero_le _, rfl, HR.out, HX.out, HB.out⟩
   case round =>
    obtain ⟨j, hj, rfl, hrow3, hex3, hblk3⟩ := hrel
    by_cases hlt3 : j < m
    ·have hlt4 : j < (aB l).length := by rw [<- HL.out.2.2]; exact hlt3
     obtain ⟨t, ht⟩ : ∃ t, (aB l)[j]? = some t := ⟨_, qG hlt4⟩
     obtain ⟨b2, off2, eao2, f0, f1, _⟩ := dU (HL.out.2.1.terms.ext hex3.out) ht
     subst eao2
     obtain ⟨kt, st, ⟨⟩⟩ := t
     simp only at f0 f1
     have hs := zF (aA (ls.take i)) ht
     have HT := qH hs
     clear ht hlt4 hs
     have e0 : (wr.alloc (.cells #[.int .i64 kt, .string st] 58)).cell? ⟨g, 0, none⟩ = some (.int .i64 k) := by rw [(hblk3.out.alloc _).cell']; rfl
     have hlen : (cT (aA (ls.take i)) l j).length ≤ 1099513724928 := by
      have h1 := aBe (aA (ls.take i)) l j
      have h2 : (aA (ls.take i)).length ≤ (ls.take i).length * 1048576 := uG fun x hx => HF.out.terms x (List.mem_of_mem_take hx)
      rw [List.length_take] at h2
      omega
     generalize eN : cT (aA (ls.take i)) l j = N at *
     by_cases h1 : k = 1
     ·subst h1
      by_cases h2 : kt = 1
      ·subst h2
       have hrow4 := hrow3.out
       obtain ⟨ao, cap4, eov, hcells, hle⟩ := hrow4.shape
       subst eov
       have HS := qH (fun (W : World) (hW : Ext wr W) => oK N st ao N.length cap4 W rfl (hcells.ext hW) (by omega))
       have HR4 := qH hrow4
       clear hcells hrow4 hrow3
       go_wp2_with fail
       refine (HS.out _ ((Kp.refl _).alloc _)).mono ?_
       rintro e w1 ⟨v, rfl, hk1, rfl⟩
       have bb := Blk.new wr [.int .i64 1, .string st] 58
       have f2 := (bb.ext hk1).c1
       have HE1 := qH (((Kp.refl _).alloc _).trans hk1)
       clear hk1 bb
       cases hh : kK N st
       ·have HT2 := qH (HT.out.trans (if_pos ⟨HK.out, by first | rfl | trivial, hh⟩))
        go_wp2_with (first | (at_builtin; refine Halted.out ?_))
        refine Halted.mk (aDh aHm rfl _ _ rfl ((hex3.out.trans HE1.out).alloc _) (fun q h1 h2 => absurd h2 (Nat.not_lt.2 h1.1)) (fun q h1 => ?_) rfl ((HR4.out.ext HE1.out).alloc _) rfl (by rfl) (CellsAt.one _ _ _) (by simp [Value.oneCell']) (by omega) (by unfold maxLen; omega) ?_)
        ·have a1 := hex3.out.size
         have a2 := HE1.out.size
         have a3 := hblk3.out.lt
         rw [aI] at h1
         exact ⟨by unfold New; omega, by omega⟩
        ·intro v1 w2 hr1 hk1 hk2 _
         have hk3 := hk2
         have hb2 : Blk w2 g _ _ := ((hblk3.out.ext HE1.out).alloc _).kp hk2 (fun e => absurd rfl (HR4.out.block g e).2)
         have HR5 := qH (And.intro hr1 (And.intro hk1 hb2))
         clear hr1 hk1 hk2 hk3 hb2
         go_wp2
         go_roundw
         case rel =>
          refine ⟨j + 1, by omega, by first | rfl | (congr 1; done) | (congr 1; omega), ?_, HR5.out.2.1, HR5.out.2.2⟩
          have h := HR5.out.1
          rw [HT2.out, <- wS, List.length_append]
          exact h
         case measure => simp [intOf]; omega
       ·have HT2 := qH (HT.out.trans (if_neg fun x => by rw [hh] at x; cases x.2.2))
        go_wp2
        go_roundw
        case rel =>
         exact ⟨j + 1, by omega, by first | rfl | (congr 1; done) | (congr 1; omega), by rw [HT2.out]; exact HR4.out.ext HE1.out, hex3.out.trans HE1.out, hblk3.out.ext HE1.out⟩
        case measure => simp [intOf]; omega
      ·have HT2 := qH (HT.out.trans (if_neg fun x => h2 x.2.1))
       have b2 : (kt == 1) = false := by simp [h2]
       go_wp2
       go_roundw
       case rel =>
        exact ⟨j + 1, by omega, by first | rfl | (congr 1; done) | (congr 1; omega), by rw [HT2.out]; exact hrow3.out.alloc _, hex3.out.alloc _, hblk3.out.alloc _⟩
       case measure => simp [intOf]; omega
     ·have HT2 := qH (HT.out.trans (if_neg fun x => h1 (HK.out.symm.trans x.1)))
      have b2 : (k == 1) = false := by simp [h1]
      go_wp2
      go_roundw
      case rel =>
       exact ⟨j + 1, by omega, by first | rfl | (congr 1; done) | (congr 1; omega), by rw [HT2.out]; exact hrow3.out.alloc _, hex3.out.alloc _, hblk3.out.alloc _⟩
      case measure => simp [intOf]; omega
    ·have HA := qH (aBf (aA (ls.take i)) l (c := j) (by have := HL.out.2.2; omega))
     go_wp2
     go_roundw
     case rel =>
      refine ⟨i + 1, by omega, by first | rfl | (congr 1; done) | (congr 1; omega), ?_, hex3⟩
      have h := hrow3.out
      have e : aA (ls.take (i + 1)) = bR (aA (ls.take i)) l := xL _ _ HL.out.1
      rw [HA.out, <- e] at h
      exact h.mono fun _ x => x.1
     case measure => simp [intOf]; omega
  ·have e : ls.take i = ls := List.take_of_length_le (by have := HN.out; omega)
   have hrow4 := hrow.out
   rw [e] at hrow4
   obtain ⟨ao, cap4, eov, hcells, hle⟩ := hrow4.shape
   subst eov
   have HS := qH (fun (W : World) => rC ao (aA ls).length cap4 W hle)
   have HC := qH (And.intro hcells hrow4.own')
   clear hcells hrow4 hrow hle e
   go_wp2_with fail
   refine (HS.out _).mono ?_
   rintro e w1 ⟨v, rfl, hk1, rfl⟩
   go_wp2
   go_ret
   exact RetN.mk (hex.out.trans hk1) ⟨ao, _, rfl, Nat.le_refl _, HC.out.1.ext hk1, rfl, (HC.out.2.ext hk1).clip⟩
theorem tK (p : ByteArray) (ha : Option Addr) (hn hcap : Nat) (ls : List aM) (ba : Option Addr) (n bcap : Nat) (w : World) (G : Nat -> Prop) (hbn : n = ls.length) (h : cD w G ba ls) (hf : Fit ls) :
 Calls Tryz.prog 107 #[dL p ha hn hcap ba n bcap] w (RetN w fun w' v => ∃ ao cap, v = .slice ao (aA ls).length cap /\ (aA ls).length ≤ cap /\ CellsAt w' ao (strs (aA ls))) := by
 refine (aAe p ha hn hcap ls ba n bcap w G hbn h hf).mono ?_
 rintro e w' ⟨v, rfl, hk, ao, cap, h1, h2, h3, -⟩
 exact RetN.mk hk ⟨ao, cap, h1, h2, h3⟩
theorem aIr (N : List ByteArray) (ao : Option Addr) (m cap gb : Nat) (k : Int) (s : ByteArray) (blank : Bool) (w : World) (hm : m = N.length) (hc : w.cell? ⟨gb, 0, none⟩ = some (.slice ao m cap)) (h : CellsAt w ao (strs N)) (hl : m ≤ 4611686018427387904) :
 Calls Tryz.prog 108 #[wP k s, .bool blank, .pointer (some ⟨gb, 0, none⟩)] w (RetN w fun w' v => v = .bool (dQ N blank (k, s, ()))) := by
 by_cases h2 : k = 2
 ·subst h2
  go_enter Tryz.func108, Tryz.ntmps108
  go_wp2
  go_ret
  exact RetN.mk ((Kp.refl w).alloc _) (by unfold dQ; simp)
 ·have b2 : (k == 2) = false := by simp [h2]
  by_cases h34 : k = 3 \/ k = 4
  ·rcases h34 with rfl | rfl
   all_goals
    clear h2 b2
    go_enter Tryz.func108, Tryz.ntmps108
    go_wp2
    go_ret
    exact RetN.mk ((Kp.refl w).alloc _) (by unfold dQ; simp)
  ·have b3 : (k == 3) = false := by simp; exact fun e => h34 (.inl e)
   have b4 : (k == 4) = false := by simp; exact fun e => h34 (.inr e)
   have HS := qH (fun (W : World) (hW : Ext w W) => oK N s ao m cap W hm (h.ext hW) hl)
   have e0 : (w.alloc (.cells #[.int .i64 k, .string s] 58)).cell? ⟨gb, 0, none⟩ = some (.slice ao m cap) := ((Kp.refl (F := fun _ => False) w).alloc _).cell hc id
   have HH := qH (And.intro h2 h34); clear h2 h34 h hm hc
   go_enter Tryz.func108, Tryz.ntmps108
   go_wp2_with fail
   refine (HS.out _ ((Kp.refl _).alloc _)).mono ?_
   rintro e w1 ⟨v, rfl, hk1, rfl⟩
   go_wp2
   go_ret
   refine RetN.mk (((Kp.refl w).alloc _).trans hk1) ?_
   obtain ⟨h2, h34⟩ := HH.out
   show Value.bool (kK N s) = _
   refine congrArg Value.bool ?_
   unfold dQ
   rw [if_neg h2]
   cases hh : kK N s
   ·symm; apply decide_eq_false; rintro (x | x | x)
    ·exact h34 (.inl x)
    ·exact h34 (.inr x)
    ·cases x
   ·symm; exact decide_eq_true (.inr (.inr rfl))
def aDf (w0 : World) {α : Type} (xs : List α) (q : α -> Bool) (n : Nat) (iv : Value) (w : World) : Prop := ∃ i : Nat, i ≤ n /\ iv = .int .i64 i /\ Hid ((xs.take i).all q = true) /\ Hid (Ext w0 w)
theorem gU {α : Type} {q : α -> Bool} {xs : List α} {i : Nat} {x : α} (h : xs[i]? = some x) : (xs.take (i + 1)).all q = ((xs.take i).all q && q x) := by
 rw [List.take_add_one, h, List.all_append]; simp
theorem nH {α : Type} {q : α -> Bool} {xs : List α} {i : Nat} {x : α} (h : xs[i]? = some x) (hq : q x = false) : xs.all q = false := by
 rw [List.all_eq_false]; exact ⟨x, List.mem_of_getElem? h, by rw [hq]; decide⟩
set_option maxHeartbeats 8000000 in
theorem iL (p : ByteArray) (hs : List aE) (ls : List aM) (ha : Option Addr) (hn hcap : Nat) (ba : Option Addr) (n bcap : Nat) (w : World) (G : Nat -> Prop) (hhn : hn = hs.length) (hh : aU w G ha hs) (hhl : hn ≤ 1048576) (hbn : n = ls.length) (h : cD w G ba ls) (hf : Fit ls) :
 Calls Tryz.prog 64 #[dL p ha hn hcap ba n bcap] w (RetN w fun w' v => v = .int .i64 (aP ((p, hs, ()), ls, ()))) := by
 have HN := qH hbn; have HE := qH h; have HF := qH hf; have hl : n ≤ 1048576 := by have := hf.len; omega
 have HHN := qH hhn; have HHE := qH hh
 have HHead := qH (fun (W : World) (hW : Ext w W) => aJr hs ha hn hcap W G hhn (hh.ext hW) hhl)
 obtain ⟨m, em⟩ : ∃ m, m = (aA ls).length := ⟨_, rfl⟩
 have HVars0 := fun (W : World) (hW : Ext w W) => tK p ha hn hcap ls ba n bcap W G hbn (h.ext hW) hf
 rw [<- em] at HVars0
 have HVars := qH HVars0
 have EM := qH em
 clear HVars0 em
 have HLit := qH (fun (W : World) (hW : Ext w W) (l : aM) (hl : l ∈ ls) (a : Option Addr) (cap : Nat) (hin : LitIn w G l a cap) => aBk l.1 (bF l) (aB l) a (aB l).length cap (iC l) (leftOf l).1 (leftOf l).2.1 (aS l).1 (aS l).2.1 W G rfl (hin.terms.ext hW) (hf.terms l hl) hin.left.1 hin.left.2 hin.right.1 hin.right.2)
 clear hbn h hf hhn hh
 go_enter Tryz.func64, Tryz.ntmps64
 go_wp2_with fail
 refine (HHead.out _ ((Kp.refl _).alloc _)).mono ?_
 rintro e w1 ⟨v, rfl, hk1, rfl⟩
 have bb := Blk.new w [.string p, .slice ha hn hcap, .slice ba n bcap] 43
 have B1 := qH (bb.ext hk1)
 have b1 := B1.out.c2
 have X1 := qH (((Kp.refl _).alloc _).trans hk1)
 clear hk1 bb
 cases hhd : iX hs
 ·go_wp2
  go_ret
  exact RetN.mk X1.out (by unfold aP eE; rw [if_neg (by rw [hhd]; simp)]; rfl)
 ·go_wp2
  clear b1
  go_loopw [21] (fun iv wr => aDf w1 ls kE n iv wr) (fun iv _ => n - (intOf iv).toNat)
  case atStart => exact ⟨0, Nat.zero_le _, rfl, rfl, Kp.refl _⟩
  case round =>
   obtain ⟨i, hi, rfl, hall, hex⟩ := hrel
   have XR := qH (X1.out.trans hex.out)
   by_cases hlt : i < n
   ·have hlt' : i < ls.length := by rw [<- HN.out]; exact hlt
    obtain ⟨l, hli⟩ : ∃ l, ls[i]? = some l := ⟨_, qG hlt'⟩
    obtain ⟨b, off, a, cap, eao, hG, hb, hL, c0, c1, c2, c3, c4, c5, c6, c7⟩ := oR HE.out hli
    subst eao
    replace c0 := XR.out.cell c0 id
    replace c1 := XR.out.cell c1 id
    replace c2 := XR.out.cell c2 id
    replace c3 := XR.out.cell c3 id
    replace c4 := XR.out.cell c4 id
    replace c5 := XR.out.cell c5 id
    replace c6 := XR.out.cell c6 id
    replace c7 := XR.out.cell c7 id
    have HL := qH hli
    have HC := qH (fun (W : World) (hW : Ext w W) => HLit.out W hW l (List.mem_of_getElem? hli) a cap hL)
    clear hli hlt' hL hG hb
    go_wp2_with fail
    refine (HC.out _ (XR.out.alloc _)).mono ?_
    rintro e w2 ⟨v, rfl, hk2, rfl⟩
    have X2 := qH ((hex.out.alloc _).trans hk2)
    clear hk2 c0 c1 c2 c3 c4 c5 c6 c7
    cases hq : kE l
    ·go_wp2
     go_ret
     refine RetN.mk (X1.out.trans X2.out) ?_
     unfold aP eE
     rw [if_neg (by rw [nH HL.out hq]; simp)]; rfl
    ·go_wp2
     go_roundw
     case rel => exact ⟨i + 1, by omega, by first | rfl | (congr 1; done) | (congr 1; omega), by rw [gU HL.out, hall.out, hq]; rfl, X2⟩
     case measure => simp [intOf]; omega
   ·have e : ls.take i = ls := List.take_of_length_le (by have := HN.out; omega)
    have HA := qH hall.out
    rw [e] at HA
    have c0 := (B1.out.ext hex.out).c0
    have c1 := (B1.out.ext hex.out).c1
    have c2 := (B1.out.ext hex.out).c2
    clear e hall
    go_wp2_with fail
    refine (HVars.out _ XR.out).mono ?_
    rintro e w2 ⟨v, rfl, hk2, ao, cap, rfl, hle, hcells⟩
    have hm : m ≤ 4611686018427387904 := by
     have h1 := uG HF.out.terms
     have h2 := HF.out.len
     have h3 := Nat.mul_le_mul_right 1048576 h2
     have h4 := EM.out
     omega
    clear c0 c1 c2
    have B2 := qH (B1.out.ext (hex.out.trans hk2))
    have hx2 : Ext w (w2.alloc (.cells #[.slice ao m cap] 66)) := (XR.out.trans hk2).alloc _
    obtain ⟨wb, eb⟩ : ∃ wb, w2.alloc (.cells #[.slice ao m cap] 66) = wb := ⟨_, rfl⟩
    have bn := Blk.new w2 [.slice ao m cap] 66
    have HSafe := qH (fun (W : World) (hW : Ext wb W) (k : Int) (s : ByteArray) (blank : Bool) => aIr (aA ls) ao m cap w2.heap.size k s blank W EM.out (by
     have := bn.cell 0 (by simp)
     rw [<- eb] at hW
     exact hW.cell this id) ((hcells.alloc _).ext (eb ▸ hW)) hm)
    have HX2 := qH hx2
    rw [eb] at HX2
    have C1 := qH (B2.out.alloc (.cells #[.slice ao m cap] 66))
    rw [eb] at C1
    have c1 : (w2.alloc (.cells #[.slice ao m cap] 66)).cell? ⟨w.heap.size, 1, none⟩ = some (.slice ha hn hcap) := by rw [eb, C1.out.cell']; rfl
    clear hk2 hle hcells hx2 bn
    have EB := qH eb; clear eb
    go_wp2
    rw [EB.out]
    clear c1
    go_loopw [36] (fun iv wr => aDf wb hs (dQ (aA ls) false) hn iv wr) (fun iv _ => hn - (intOf iv).toNat)
    case atStart => exact ⟨0, Nat.zero_le _, rfl, rfl, Kp.refl _⟩
    case round =>
     obtain ⟨j, hj, rfl, hall3, hex3⟩ := hrel
     have X3 := qH (HX2.out.trans hex3.out)
     by_cases hlt3 : j < hn
     ·have hlt4 : j < hs.length := by rw [<- HHN.out]; exact hlt3
      obtain ⟨t, ht⟩ : ∃ t, hs[j]? = some t := ⟨_, qG hlt4⟩
      obtain ⟨b2, off2, eao2, f0, f1, _⟩ := dU (HHE.out.ext X3.out) ht
      subst eao2
      obtain ⟨kt, st, ⟨⟩⟩ := t
      simp only at f0 f1
      have HT := qH ht
      clear ht hlt4
      go_wp2_with fail
      refine (HSafe.out _ (hex3.out.alloc _) kt st false).mono ?_
      rintro e w3 ⟨v, rfl, hk3, rfl⟩
      have X4 := qH ((hex3.out.alloc _).trans hk3)
      clear hk3 f0 f1
      cases hq : dQ (aA ls) false (kt, st, ())
      ·go_wp2
       go_ret
       refine RetN.mk (HX2.out.trans X4.out) ?_
       unfold aP mF eE
       rw [if_pos (by simp only [Bool.and_eq_true]; exact ⟨hhd, HA.out⟩), if_neg (by rw [nH HT.out hq]; simp)]; rfl
      ·go_wp2
       go_roundw
       case rel => exact ⟨j + 1, by omega, by first | rfl | (congr 1; done) | (congr 1; omega), by rw [gU HT.out, hall3.out, hq]; rfl, X4⟩
       case measure => simp [intOf]; omega
     ·have e : hs.take j = hs := List.take_of_length_le (by have := HHN.out; omega)
      have HB := qH hall3.out
      rw [e] at HB
      have c2 := (C1.out.ext hex3.out).c2
      clear e hall3
      have hltn : ¬ (j : Int) < (hn : Int) := by omega
      go_wp2
      clear c2
      go_loopw [48] (fun iv wr => aDf wb ls (jK (aA ls)) n iv wr) (fun iv _ => n - (intOf iv).toNat)
      case atStart => exact ⟨0, Nat.zero_le _, rfl, rfl, hex3⟩
      case round =>
       obtain ⟨q, hq, rfl, hall4, hex4⟩ := hrel
       have X5 := qH (HX2.out.trans hex4.out)
       by_cases hlt5 : q < n
       ·have hlt6 : q < ls.length := by rw [<- HN.out]; exact hlt5
        obtain ⟨l, hli⟩ : ∃ l, ls[q]? = some l := ⟨_, qG hlt6⟩
        obtain ⟨b, off, a, cap2, eao, hG, hb, hL, c0, c1, c2, c3, c4, c5, c6, c7⟩ := oR HE.out hli
        subst eao
        replace c0 := X5.out.cell c0 id
        replace c1 := X5.out.cell c1 id
        replace c2 := X5.out.cell c2 id
        replace c3 := X5.out.cell c3 id
        replace c4 := X5.out.cell c4 id
        replace c5 := X5.out.cell c5 id
        replace c6 := X5.out.cell c6 id
        replace c7 := X5.out.cell c7 id
        have HL := qH (And.intro hli hL)
        have hq2 : (q : Int) < (n : Int) := by omega
        obtain ⟨mm, emm⟩ : ∃ mm, mm = (aB l).length := ⟨_, rfl⟩
        rw [<- emm] at c2
        have HM := qH emm
        have hmm : mm ≤ 1048576 := by rw [emm]; exact HF.out.terms l (List.mem_of_getElem? hli)
        clear hli hlt6 hL hG hb emm
        have HSafe2 := HSafe
        obtain ⟨k, ek⟩ : ∃ k, l.1 = k := ⟨_, rfl⟩
        obtain ⟨lk, elk⟩ : ∃ lk, (leftOf l).1 = lk := ⟨_, rfl⟩
        obtain ⟨lt, elt⟩ : ∃ lt, (leftOf l).2.1 = lt := ⟨_, rfl⟩
        obtain ⟨rk, erk⟩ : ∃ rk, (aS l).1 = rk := ⟨_, rfl⟩
        obtain ⟨rt, ert⟩ : ∃ rt, (aS l).2.1 = rt := ⟨_, rfl⟩
        rw [ek] at c0
        rw [elk] at c4
        rw [elt] at c5
        rw [erk] at c6
        rw [ert] at c7
        have eleft : leftOf l = (lk, lt, ()) := by rw [<- elk, <- elt]
        have eright : aS l = (rk, rt, ()) := by rw [<- erk, <- ert]
        generalize bF l = s1 at c1
        generalize iC l = s3 at c3
        have HK := qH (And.intro ek (And.intro eleft eright)); clear ek elk elt erk ert eleft eright
        obtain ⟨wx, ewx⟩ : ∃ wx, wr.alloc (.cells #[.int .i64 k, .string s1, .slice a mm cap2, .int .i64 s3, .int .i64 lk, .string lt, .int .i64 rk, .string rt] 60) = wx := ⟨_, rfl⟩
        have hB := Blk.new wr [.int .i64 k, .string s1, .slice a mm cap2, .int .i64 s3, .int .i64 lk, .string lt, .int .i64 rk, .string rt] 60
        have hWX : Ext wb wx := by rw [<- ewx]; exact hex4.out.alloc _
        have hXX : Ext w wx := HX2.out.trans hWX
        obtain ⟨g, eg⟩ : ∃ g, g = wr.heap.size := ⟨_, rfl⟩
        have HGB := qH hB
        rw [<- eg] at HGB
        have ewx2 : wr.alloc (.cells [Value.int .i64 k, .string s1, .slice a mm cap2, .int .i64 s3, .int .i64 lk, .string lt, .int .i64 rk, .string rt].toArray 60) = wx := ewx
        rw [ewx2] at HGB
        have HWX := qH hWX
        have HXX := qH hXX
        have EG := qH (And.intro eg ewx)
        clear hB hWX hXX eg ewx ewx2
        by_cases h3 : k = 3
        ·have b3 : (k == 3) = true := by simp [h3]
         have n2 : ¬ k = 2 := by omega
         have HH3 := qH (And.intro h3 n2); clear h3 n2
         go_wp2_with fail
         rw [EG.out.2, <- EG.out.1]
         refine (HSafe.out _ HWX.out lk lt false).mono ?_
         rintro e w5 ⟨v, rfl, hk5, rfl⟩
         have X6 := qH hk5
         have d6 := (HGB.out.ext hk5).c6
         have d7 := (HGB.out.ext hk5).c7
         clear hk5 c0 c1 c2 c3 c4 c5 c6 c7
         cases hsl : dQ (aA ls) false (lk, lt, ())
         ·go_wp2
          go_ret
          refine RetN.mk (HXX.out.trans X6.out) ?_
          have hno : jK (aA ls) l = false := by unfold jK; rw [if_pos (HK.out.1.trans HH3.out.1), HK.out.2.1, hsl]; rfl
          unfold aP mF eE
          rw [if_pos (by simp only [Bool.and_eq_true]; exact ⟨hhd, HA.out⟩), if_neg (by rw [nH HL.out.1 hno]; simp)]; rfl
         ·go_wp2_with fail
          refine (HSafe.out _ (HWX.out.trans X6.out) rk rt false).mono ?_
          rintro e w7 ⟨v, rfl, hk7, rfl⟩
          have X7 := qH (X6.out.trans hk7)
          clear hk7 d6 d7
          cases hsr : dQ (aA ls) false (rk, rt, ())
          ·go_wp2
           go_ret
           refine RetN.mk (HXX.out.trans X7.out) ?_
           have hno : jK (aA ls) l = false := by unfold jK; rw [if_pos (HK.out.1.trans HH3.out.1), HK.out.2.1, HK.out.2.2, hsr, Bool.and_false]
           unfold aP mF eE
           rw [if_pos (by simp only [Bool.and_eq_true]; exact ⟨hhd, HA.out⟩), if_neg (by rw [nH HL.out.1 hno]; simp)]; rfl
          ·have HSL := qH (show jK (aA ls) l = (aB l).all (fun t => if k = 2 then dQ (aA ls) true t else true) by
            unfold jK; rw [if_pos (HK.out.1.trans HH3.out.1), HK.out.2.1, HK.out.2.2, hsl, hsr]
            exact (List.all_eq_true.2 (fun t _ => if_neg HH3.out.2)).symm)
           have d0 := (HGB.out.ext X7.out).c2
           have HX7 := X7
           clear X7
           go_wp2
           clear d0
           go_loopw [73] (fun iv wr => aDf wx (aB l) (fun t => if k = 2 then dQ (aA ls) true t else true) mm iv wr) (fun iv _ => mm - (intOf iv).toNat)
           case atStart => exact ⟨0, Nat.zero_le _, rfl, rfl, HX7.out⟩
           case round =>
            obtain ⟨z, hz, rfl, hall8, hex8⟩ := hrel
            have X8 := qH (HXX.out.trans hex8.out)
            by_cases hlt7 : z < mm
            ·have hlt8 : z < (aB l).length := by rw [<- HM.out]; exact hlt7
             obtain ⟨t, ht⟩ : ∃ t, (aB l)[z]? = some t := ⟨_, qG hlt8⟩
             obtain ⟨b9, off9, eao9, f0, f1, _⟩ := dU (HL.out.2.terms.ext X8.out) ht
             subst eao9
             obtain ⟨kt, st, ⟨⟩⟩ := t
             simp only at f0 f1
             have HT := qH ht
             have e0 : (wr.alloc (.cells #[.int .i64 kt, .string st] 58)).cell? ⟨g, 0, none⟩ = some (.int .i64 k) := by rw [((HGB.out.ext hex8.out).alloc _).cell']; rfl
             clear ht hlt8
             by_cases h2 : k = 2
             ·have b2 : (k == 2) = true := by simp [h2]
              have HH2 := qH h2; clear h2
              go_wp2_with fail
              refine (HSafe.out _ ((HWX.out.trans hex8.out).alloc _) kt st true).mono ?_
              rintro e w9 ⟨v, rfl, hk9, rfl⟩
              have X9 := qH ((hex8.out.alloc _).trans hk9)
              clear hk9 f0 f1 e0
              cases hqq : dQ (aA ls) true (kt, st, ())
              ·go_wp2
               go_ret
               refine RetN.mk (HXX.out.trans X9.out) ?_
               have hno : jK (aA ls) l = false := by rw [HSL.out]; exact nH HT.out (by show (if k = 2 then _ else _) = false; rw [if_pos HH2.out]; exact hqq)
               unfold aP mF eE
               rw [if_pos (by simp only [Bool.and_eq_true]; exact ⟨hhd, HA.out⟩), if_neg (by rw [nH HL.out.1 hno]; simp)]; rfl
              ·go_wp2
               go_roundw
               case rel => exact ⟨z + 1, by omega, by first | rfl | (congr 1; done) | (congr 1; omega), by rw [gU HT.out, hall8.out]; show (if k = 2 then _ else _) = true; rw [if_pos HH2.out]; exact hqq, X9⟩
               case measure => simp [intOf]; omega
             ·have b2 : (k == 2) = false := by simp [h2]
              have HH2 := qH h2; clear h2
              go_wp2
              go_roundw
              case rel => exact ⟨z + 1, by omega, by first | rfl | (congr 1; done) | (congr 1; omega), by rw [gU HT.out, hall8.out]; show (if k = 2 then _ else _) = true; rw [if_neg HH2.out], hex8.out.alloc _⟩
              case measure => simp [intOf]; omega
            ·have e : (aB l).take z = aB l := List.take_of_length_le (by have := HM.out; omega)
             have H9 := qH hall8.out
             rw [e] at H9
             clear e hall8
             have hzm : ¬ (z : Int) < (mm : Int) := by omega
             go_wp2
             go_roundw
             case rel => exact ⟨q + 1, by omega, by first | rfl | (congr 1; done) | (congr 1; omega), by rw [gU HL.out.1, hall4.out, HSL.out, H9.out]; rfl, HWX.out.trans hex8.out⟩
             case measure => simp [intOf]; omega
        ·have b3 : (k == 3) = false := by simp [h3]
         have HSL := qH (show jK (aA ls) l = (aB l).all (fun t => if k = 2 then dQ (aA ls) true t else true) by
          unfold jK; rw [if_neg (fun x => h3 (HK.out.1.symm.trans x)), HK.out.1]
          by_cases h2 : k = 2
          ·rw [if_pos h2]; congr 1; funext t; rw [if_pos h2]
          ·rw [if_neg h2]; symm; rw [List.all_eq_true]; intro t _; rw [if_neg h2])
         have HH3 := qH h3; clear h3
         have d0 : (wr.alloc (.cells #[.int .i64 k, .string s1, .slice a mm cap2, .int .i64 s3, .int .i64 lk, .string lt, .int .i64 rk, .string rt] 60)).cell? ⟨wr.heap.size, 2, none⟩ = some (.slice a mm cap2) := by rw [EG.out.2, <- EG.out.1, HGB.out.cell']; rfl
         go_wp2
         rw [EG.out.2, <- EG.out.1]
         have HX7 := qH (Kp.refl (F := fun _ => False) wx)
         clear c0 c1 c2 c3 c4 c5 c6 c7
         clear d0
         go_loopw [73] (fun iv wr => aDf wx (aB l) (fun t => if k = 2 then dQ (aA ls) true t else true) mm iv wr) (fun iv _ => mm - (intOf iv).toNat)
         case atStart => exact ⟨0, Nat.zero_le _, rfl, rfl, HX7.out⟩
         case round =>
          obtain ⟨z, hz, rfl, hall8, hex8⟩ := hrel
          have X8 := qH (HXX.out.trans hex8.out)
          by_cases hlt7 : z < mm
          ·have hlt8 : z < (aB l).length := by rw [<- HM.out]; exact hlt7
           obtain ⟨t, ht⟩ : ∃ t, (aB l)[z]? = some t := ⟨_, qG hlt8⟩
           obtain ⟨b9, off9, eao9, f0, f1, _⟩ := dU (HL.out.2.terms.ext X8.out) ht
           subst eao9
           obtain ⟨kt, st, ⟨⟩⟩ := t
           simp only at f0 f1
           have HT := qH ht
           have e0 : (wr.alloc (.cells #[.int .i64 kt, .string st] 58)).cell? ⟨g, 0, none⟩ = some (.int .i64 k) := by rw [((HGB.out.ext hex8.out).alloc _).cell']; rfl
           clear ht hlt8
           by_cases h2 : k = 2
           ·have b2 : (k == 2) = true := by simp [h2]
            have HH2 := qH h2; clear h2
            go_wp2_with fail
            refine (HSafe.out _ ((HWX.out.trans hex8.out).alloc _) kt st true).mono ?_
            rintro e w9 ⟨v, rfl, hk9, rfl⟩
            have X9 := qH ((hex8.out.alloc _).trans hk9)
            clear hk9 f0 f1 e0
            cases hqq : dQ (aA ls) true (kt, st, ())
            ·go_wp2
             go_ret
             refine RetN.mk (HXX.out.trans X9.out) ?_
             have hno : jK (aA ls) l = false := by rw [HSL.out]; exact nH HT.out (by show (if k = 2 then _ else _) = false; rw [if_pos HH2.out]; exact hqq)
             unfold aP mF eE
             rw [if_pos (by simp only [Bool.and_eq_true]; exact ⟨hhd, HA.out⟩), if_neg (by rw [nH HL.out.1 hno]; simp)]; rfl
            ·go_wp2
             go_roundw
             case rel => exact ⟨z + 1, by omega, by first | rfl | (congr 1; done) | (congr 1; omega), by rw [gU HT.out, hall8.out]; show (if k = 2 then _ else _) = true; rw [if_pos HH2.out]; exact hqq, X9⟩
             case measure => simp [intOf]; omega
           ·have b2 : (k == 2) = false := by simp [h2]
            have HH2 := qH h2; clear h2
            go_wp2
            go_roundw
            case rel => exact ⟨z + 1, by omega, by first | rfl | (congr 1; done) | (congr 1; omega), by rw [gU HT.out, hall8.out]; show (if k = 2 then _ else _) = true; rw [if_neg HH2.out], hex8.out.alloc _⟩
            case measure => simp [intOf]; omega
          ·have e : (aB l).take z = aB l := List.take_of_length_le (by have := HM.out; omega)
           have H9 := qH hall8.out
           rw [e] at H9
           clear e hall8
           have hzm : ¬ (z : Int) < (mm : Int) := by omega
           go_wp2
           go_roundw
           case rel => exact ⟨q + 1, by omega, by first | rfl | (congr 1; done) | (congr 1; omega), by rw [gU HL.out.1, hall4.out, HSL.out, H9.out]; rfl, HWX.out.trans hex8.out⟩
           case measure => simp [intOf]; omega
       ·have e : ls.take q = ls := List.take_of_length_le (by have := HN.out; omega)
        have HC := qH hall4.out
        rw [e] at HC
        clear e hall4
        have hqn : ¬ (q : Int) < (n : Int) := by omega
        go_wp2
        go_ret
        refine RetN.mk X5.out ?_
        unfold aP mF eE
        rw [if_pos (by simp only [Bool.and_eq_true]; exact ⟨hhd, HA.out⟩), if_pos (by simp only [Bool.and_eq_true]; exact ⟨HB.out, HC.out⟩)]; rfl
theorem zK (p : ByteArray) (hs : List aE) (ls : List aM) (ha : Option Addr) (hn hcap : Nat) (ba : Option Addr) (n bcap : Nat) (w : World) (G : Nat -> Prop) (hhn : hn = hs.length) (hh : aU w G ha hs) (hhl : hn ≤ 1048576) (hbn : n = ls.length) (h : cD w G ba ls) (hf : Fit ls) (hc : aP ((p, hs, ()), ls, ()) = 0) :
 Calls Tryz.prog 115 #[dL p ha hn hcap ba n bcap] w (RetN w fun w' v => ∃ ao cap, v = .slice ao (aA ls).length cap /\ (aA ls).length ≤ cap /\ CellsAt w' ao (strs (aA ls)) /\ cap = (aA ls).length /\ OwnSl w w' v (aA ls)) := by
 have h1 := fun (W : World) (hW : Ext w W) => iL p hs ls ha hn hcap ba n bcap W G hhn (hh.ext hW) hhl hbn (h.ext hW) hf
 rw [hc] at h1
 have HC := qH h1
 have HV := qH (fun (W : World) (hW : Ext w W) => aAe p ha hn hcap ls ba n bcap W G hbn (h.ext hW) hf)
 clear h1 hhn hh hbn h hf hc
 go_enter Tryz.func115, Tryz.ntmps115
 go_wp2_with fail
 refine (HC.out _ ((Kp.refl _).alloc _)).mono ?_
 rintro e w1 ⟨v, rfl, hk1, rfl⟩
 have bb := (Blk.new w [.string p, .slice ha hn hcap, .slice ba n bcap] 43).ext hk1
 have c0 := bb.c0
 have c1 := bb.c1
 have c2 := bb.c2
 have X1 := qH (((Kp.refl _).alloc _).trans hk1)
 clear hk1 bb
 go_wp2_with fail
 refine (HV.out _ X1.out).mono ?_
 rintro e w2 ⟨v, rfl, hk2, ao, cap, rfl, h1, h2⟩
 have X2 := qH (And.intro (X1.out.trans hk2) (And.intro h1 h2))
 clear hk2 h1 h2 c0 c1 c2
 go_wp2
 go_ret
 exact RetN.mk X2.out.1 ⟨ao, cap, rfl, X2.out.2.1, X2.out.2.2.1, X2.out.2.2.2.1, X2.out.2.2.2.2.old X1.out.size⟩
end
section
theorem aAw {n : Nat} {P : Program} {row : String} {args : Array Value} {w : World} {R : Value -> World -> Prop} (h : Rows P row args w R) : RowsIn Fence.wide n P row args w R :=
 fun c cs _ => let ⟨v, w', r, s⟩ := h c cs; ⟨v, w', r, stepsIn_wide.2 s⟩
section
variable {P : Program} {l n : Nat}
theorem Oper.wpIn_of_wp {o : Oper} {a : Act} {w : World} {K : Act -> World -> Prop} {Q : Exit -> Act -> World -> Prop} (hd : ∀ c, o.op ≠ .defer c) (h : o.wp P a w K Q) : o.wpIn (Fence.wide.inRound l) n P a w K Q := by
 refine ⟨fun f _ => trivial, ?_⟩
 rw [Oper.semAt_plain _ _ _ hd]
 unfold Oper.wp at h
 generalize (execOp a.eval o).run P w = r at *
 cases r with
 | ok x w' =>
  cases x with
  | value v => exact h
  | skip => exact h
  | defer d => exact h
  | enter f args => exact ⟨fun e => (by cases e), CallsIn.inRound l (callsIn_wide.2 h)⟩
  | row row args => exact ⟨fun e => (by cases e), aAw h⟩
  | _ => exact h.elim
 | halt x w' =>
  cases x with
  | panic v => exact h
  | _ => exact h.elim
def zA (ops : List Oper) : Bool := ops.all fun o => match o.op with | .defer _ => false | _ => true
theorem aEg {ops : List Oper} (h : zA ops = true) {i : Nat} {o : Oper} (ho : ops.toArray[i]? = some o) : ∀ c, o.op ≠ .defer c := fun c e => by
 rw [List.getElem?_toArray] at ho
 have := List.all_eq_true.1 h o (List.mem_of_getElem? ho)
 rw [e] at this
 cases this
theorem fF {md : Region.Mode} {ops : List Oper} {Q : Exit -> Act -> World -> Prop} (hd : zA ops = true) (hQ : ∀ a w, ¬ Q .outgrown a w) : ∀ (fuel : Nat) (listed : Array Bool) (a : Act) (w : World), wpAny P md ops.toArray Q fuel listed a w -> wpAnyIn (Fence.wide.inRound l) n P md ops.toArray Q fuel listed a w
 | 0, _, _, _, h => h
 | fuel + 1, listed, a, w, h => by
  refine ⟨h.1, fun i hi => ?_⟩
  have h1 := h.2 i hi
  unfold wpOp at h1
  unfold wpOpIn
  cases ho : ops.toArray[i]? with
  | none =>
   rw [ho] at h1
   exact fF hd hQ fuel _ _ _ h1
  | some o =>
   rw [ho] at h1
   simp only at h1 ⊢
   split
   ·rename_i hw
    rw [if_pos hw] at h1
    replace h1 := h1.resolve_right fun h => by
     obtain ⟨_, a', w', h⟩ := h
     exact hQ a' w' h
    exact Oper.wpIn_mono (fun a w h => fF hd hQ fuel _ a w h) (Oper.wpIn_of_wp (aEg hd ho) h1)
   ·rename_i hw
    rw [if_neg hw] at h1
    exact ⟨fun f _ => trivial, fF hd hQ fuel _ _ _ h1⟩
theorem bY {id : Nat} {ops : List Oper} {Q : Exit -> Act -> World -> Prop} {a : Act} {w : World} (S : World -> Prop) (lates : List Nat) (hm : P.follows .mixedOrders = true) (hS : S w.drew)
 (h : S w.drew -> bZ P .any ops.toArray Q S lates ops.toArray.size (Array.replicate ops.toArray.size false) a w.drew) (hd : zA ops = true := by kernel_rfl) (hQ : ∀ a w, ¬ Q .outgrown a w := by exact fun _ _ h => h) : (Code.region id ops.toArray true).wpIn (Fence.wide.inRound l) n P Q a w :=
 wpIn_region_any hm (fF hd hQ _ _ _ _ (oN _ _ _ _ (h hS)))
end
end
section
open Go.RowKit
theorem aG6 {cs : Array Value} {c : Value} {k : Nat} (hk : 0 < k) (h : cs = (List.replicate k c).toArray) (m : Nat) : madeCells cs m = (List.replicate m c).toArray := by
 subst h
 apply Array.ext_getElem?
 intro j
 unfold madeCells
 rw [Array.getElem?_map]
 by_cases hj : j < m
 ·have h1 : (Array.range m)[j]? = some j := by simp [hj]
  have h2 : j % (List.replicate k c).toArray.size < (List.replicate k c).toArray.size := Nat.mod_lt _ (by simp; exact hk)
  rw [h1, Option.map_some, getElem!_pos (List.replicate k c).toArray (j % (List.replicate k c).toArray.size) h2]
  simp [hj]
 ·simp [hj]
theorem iU {P : Program} {t e : TypeId} {k bytes : Nat} {z c : Value} (E : cM P t e k bytes z) (hc : z.cells = (List.replicate k c).toArray) (n : Nat) (hb : bytes * n ≤ 281474976710656) (h63 : n ≤ maxLen) (w : World) :
 (Instr.makeSlice t (.int .i64 (n : Int)) (.int .i64 (n : Int))).run P w = .ok (.slice (some ⟨w.heap.size, 0, none⟩) n n) (w.alloc (.cells (List.replicate (n * k) c).toArray e)) := by
 obtain ⟨ht, hi, hz, hk⟩ := E
 obtain ⟨i, hi, h1, h2, h3⟩ := info_parts hi
 have hb' : (i.bytes : Int) * (n : Int) ≤ 281474976710656 := by
  have h : ((i.bytes * n : Nat) : Int) ≤ 281474976710656 := by rw [h3]; omega
  rwa [Int.natCast_mul] at h
 have hr := run_make (P := P) w t e i z ht hi h1 .i64 .i64 n n (by omega) (Int.le_refl _) hb' (by unfold maxLen at h63; omega)
 simp only [Int.toNat_natCast, h2] at hr
 rw [aG6 hk hc] at hr
 exact hr
theorem flat_get {α : Type} (f : α -> List Value) (k : Nat) (hk : ∀ x, (f x).length = k) : ∀ (L : List α) (i : Nat) (x : α) (c : Nat), L[i]? = some x -> c < k -> (L.flatMap f)[i * k + c]? = (f x)[c]?
 | [], i, x, c, h, _ => by simp at h
 | a :: L, 0, x, c, h, hc => by
  simp at h; subst h
  rw [List.flatMap_cons, Nat.zero_mul, Nat.zero_add, List.getElem?_append_left (by rw [hk]; exact hc)]
 | a :: L, i + 1, x, c, h, hc => by
  rw [List.flatMap_cons, List.getElem?_append_right (by rw [hk, Nat.succ_mul]; omega), hk]
  have := flat_get f k hk L i x c (by simpa using h) hc
  rw [<- this]; congr 1; rw [Nat.succ_mul]; omega
theorem vE {α : Type} (f : α -> List Value) (k : Nat) (hk : ∀ x, (f x).length = k) (L : List α) : (L.flatMap f).length = L.length * k := by
 induction L with
 | nil => simp
 | cons a L ih => rw [List.flatMap_cons, List.length_append, hk, ih, List.length_cons, Nat.succ_mul]; omega
theorem Row.blkOf {w : World} {e : TypeId} {k : Nat} {v : Value} {n : Nat} {xs : List Value} {M : Nat -> Prop} (h : Row w e k v n xs M) {g : Nat} (hg : v.ownBlock = some g) : ∃ cs, Blk w g cs e := by
 obtain ⟨h1, ⟨rfl, rfl⟩ | ⟨g', cap, rest, rfl, b, c, d⟩⟩ := h
 ·cases hg
 ·cases hg; exact ⟨_, c⟩
theorem dH {w : World} {g : Nat} {cs cs' : List Value} {e e' : TypeId} (h : Blk w g cs e) (h' : Blk w g cs' e') : e = e' := by
 unfold Blk at h h'; rw [h] at h'; injection h' with h'; injection h'
theorem CellsAt.new (w : World) (xs : List Value) (e : TypeId) : CellsAt (w.alloc (.cells xs.toArray e)) (some ⟨w.heap.size, 0, none⟩) xs := CellsAt.pre (rest := []) (by rw [List.append_nil]; exact Blk.new w xs e)
theorem pA {α : Type} {xs : List α} {k : Nat} {x : α} (h : xs[k]? = some x) : xs.take (k + 1) = xs.take k ++ [x] := by rw [List.take_add_one, h]; rfl
def NoPanic (Q : Exit -> Act -> World -> Prop) (e : Exit) (a : Act) (w : World) : Prop := match e with
 | .panic _ => False
 | e => Q e a w
theorem tH {P : Program} {c : Code} {Q : Exit -> Act -> World -> Prop} {a : Act} {w : World} (h : c.wp P (NoPanic Q) a w) : c.wp P Q a w := wp_mono h fun e a w h => by
 cases e <;> first | exact h.elim | exact h
theorem fI {Q : Exit -> Act -> World -> Prop} {a : Act} {w : World} (h : Q .normal a w) : NoPanic Q .normal a w := h
def aMb (w0 : World) (n : Nat) (iv : Value) (w : World) : Prop := ∃ i : Nat, i ≤ n /\ iv = .int .i64 i /\ Hid (Ext w0 w)
def lU (t : aE) : List Value := [.int .i64 t.1, .string t.2.1]
theorem aGm (t : aE) : (lU t).length = 2 := rfl
def kS (ts : List aE) : List Value := ts.flatMap lU
theorem tM (ts : List aE) : (kS ts).length = ts.length * 2 := vE lU 2 aGm ts
theorem xU : cM Tryz.prog 38 58 2 24 (.agg #[.int .i64 0, .string ⟨#[]⟩]) := ⟨by kernel_rfl, by kernel_rfl, rfl, by decide⟩
theorem aCn : cM Tryz.prog 41 60 8 104 (.agg #[.int .i64 0, .string ⟨#[]⟩, .slice none 0 0, .int .i64 0, .int .i64 0, .string ⟨#[]⟩, .int .i64 0, .string ⟨#[]⟩]) := ⟨by kernel_rfl, by kernel_rfl, rfl, by decide⟩
theorem aCm {α : Type} {s : Shp Tryz.prog α} {f : α -> List Value} {w : World} {G : Nat -> Prop} {ao : Option Addr} {xs : List α} (hn : 0 < s.n) (hf : ∀ x, (f x).length = s.n) (hat : ∀ es x, s.At w G es x -> es = f x) (h : ElemsAt s w G ao xs) : CellsAt w ao (xs.flatMap f) := fun i u hu => by
 have hq := Nat.div_add_mod i s.n
 have hm := Nat.mod_lt i hn
 have hl := (List.getElem?_eq_some_iff.1 hu).1
 rw [vE f s.n hf] at hl
 have hi : i / s.n < xs.length := Nat.div_lt_of_lt_mul (by rw [Nat.mul_comm]; exact hl)
 obtain ⟨b, off, es, e, _, _, ha, hc⟩ := h (i / s.n) _ (qG hi)
 have hg := flat_get f s.n hf xs (i / s.n) _ (i % s.n) (qG hi) hm
 have e1 : i / s.n * s.n + i % s.n = i := by rw [Nat.mul_comm]; exact hq
 rw [e1, hu] at hg
 have := hc (i % s.n) u (by rw [hat es _ ha]; exact hg.symm)
 rw [e1] at this
 exact ⟨b, off, e, this⟩
theorem aAl {w : World} {G : Nat -> Prop} {ao : Option Addr} {ts : List aE} (h : aU w G ao ts) : CellsAt w ao (kS ts) :=
 aCm (s := bS) (f := lU) (by decide) (fun x => rfl) (fun es x ha => kQ ha) h
theorem aCl {α : Type} {s : Shp Tryz.prog α} {f : α -> List Value} {w : World} {G : Nat -> Prop} {g : Nat} {xs : List α} {rest : List Value} {e : TypeId} (hf : ∀ x, (f x).length = s.n) (hat : ∀ (i : Nat) x, xs[i]? = some x -> s.At w G (f x) x) (hG : G g) (hB : Blk w g (xs.flatMap f ++ rest) e) : ElemsAt s w G (some ⟨g, 0, none⟩) xs := fun i x hi => by
 refine ⟨g, 0, f x, rfl, hG, hB.lt, hat i x hi, fun c u hu => ?_⟩
 have hc : c < s.n := by rw [<- hf x]; exact (List.getElem?_eq_some_iff.1 hu).1
 have hg := flat_get f s.n hf xs i x c hi hc
 rw [hB.cell', Nat.zero_add, List.getElem?_append_left (by
  have := (List.getElem?_eq_some_iff.1 (hg.trans hu)).1
  exact this), hg, hu]
theorem sY {w : World} {G : Nat -> Prop} {t : aE} (h : dZ t) : bS.At w G (lU t) t := ⟨[.int .i64 t.1], [.string t.2.1], rfl, ⟨rfl, h.1⟩, [.string t.2.1], [], rfl, ⟨rfl, h.2⟩, rfl⟩
theorem qK {w : World} {G : Nat -> Prop} {ao : Option Addr} {ts : List aE} (h : aU w G ao ts) : ∀ t ∈ ts, dZ t := fun t ht => by
 obtain ⟨i, hi⟩ := List.mem_iff_getElem?.1 ht
 obtain ⟨b, off, es, e, _, _, ha, _⟩ := h i t hi
 exact lT ha
theorem lV (ts : List aE) (t : aE) : kS (ts ++ [t]) = kS ts ++ lU t := by unfold kS; rw [List.flatMap_append]; simp
theorem aDt (ts : List aE) : ∀ u ∈ kS ts, u.oneCell' = true := fun u hu => by
 obtain ⟨t, _, h⟩ := List.mem_flatMap.1 hu
 simp [lU] at h
 rcases h with rfl | rfl <;> rfl
def kF (x : aM × (Option Addr × Nat)) : List Value := [.int .i64 x.1.1, .string (bF x.1), .slice x.2.1 (aB x.1).length x.2.2, .int .i64 (iC x.1), .int .i64 (leftOf x.1).1, .string (leftOf x.1).2.1, .int .i64 (aS x.1).1, .string (aS x.1).2.1]
theorem uL (x : aM × (Option Addr × Nat)) : (kF x).length = 8 := rfl
structure LitAll (l : aM) : Prop where
 kind : (Lit.int .i64 l.1).wf = true
 pred : (bF l).size ≤ maxLen
 terms : ∀ t ∈ aB l, dZ t
 op : (Lit.int .i64 (iC l)).wf = true
 left : dZ (leftOf l)
 right : dZ (aS l)
theorem aBj {w : World} {G : Nat -> Prop} {ao : Option Addr} {ls : List aM} (h : cD w G ao ls) : ∀ l ∈ ls, LitAll l := fun l hl => by
 obtain ⟨i, hi⟩ := List.mem_iff_getElem?.1 hl
 obtain ⟨b, off, es, e, _, _, ha, _⟩ := h i l hi
 obtain ⟨a1, b1, e1, ⟨e2, k2⟩, ⟨a3, b3, e3, h3, ⟨a4, b4, e4, ⟨e5, k5⟩, ⟨a6, b6, e6, h6, ⟨a7, b7, e7, h7, e8⟩⟩⟩⟩⟩ := ha
 obtain ⟨c1, d1, f1, ⟨f2, g2⟩, ⟨c3, d3, f3, ⟨ao', cap, f4, g1, g3, g4⟩, f5⟩⟩ := h3
 exact ⟨k2, g2, qK g4, k5, lT h6, lT h7⟩
theorem aL1 {w : World} {G : Nat -> Prop} {l : aM} (h : LitAll l) {a : Option Addr} {cap : Nat} (ht : aU w G a (aB l)) (h1 : (aB l).length ≤ cap) (h2 : cap ≤ maxLen) : fG.At w G (kF (l, (a, cap))) l :=
 ⟨[.int .i64 l.1], _, rfl, ⟨rfl, h.kind⟩, ⟨[.string (bF l), .slice a (aB l).length cap], _, rfl, ⟨[.string (bF l)], _, rfl, ⟨rfl, h.pred⟩, [.slice a (aB l).length cap], [], rfl, ⟨a, cap, rfl, h1, h2, ht⟩, rfl⟩,
   ⟨[.int .i64 (iC l)], _, rfl, ⟨rfl, h.op⟩, ⟨lU (leftOf l), _, rfl, sY h.left, ⟨lU (aS l), [], rfl, sY h.right, rfl⟩⟩⟩⟩⟩
theorem uK {w : World} {G : Nat -> Prop} {g : Nat} {ls : List aM} {vs : List (Option Addr × Nat)} {rest : List Value} {e : TypeId} (hl : vs.length = ls.length) (hall : ∀ l ∈ ls, LitAll l) (ht : ∀ x ∈ ls.zip vs, aU w G x.2.1 (aB x.1) /\ (aB x.1).length ≤ x.2.2 /\ x.2.2 ≤ maxLen) (hG : G g) (hB : Blk w g ((ls.zip vs).flatMap kF ++ rest) e) : cD w G (some ⟨g, 0, none⟩) ls := fun i l hi => by
 have hv : i < vs.length := by rw [hl]; exact (List.getElem?_eq_some_iff.1 hi).1
 have hz : (ls.zip vs)[i]? = some (l, vs[i]) := by rw [List.getElem?_zip_eq_some]; exact ⟨hi, qG hv⟩
 obtain ⟨t1, t2, t3⟩ := ht _ (List.mem_of_getElem? hz)
 refine ⟨g, 0, kF (l, vs[i]), rfl, hG, hB.lt, aL1 (hall l (List.mem_of_getElem? hi)) t1 t2 t3, fun c u hu => ?_⟩
 have hc : c < 8 := (List.getElem?_eq_some_iff.1 hu).1
 have hg := flat_get kF 8 uL (ls.zip vs) i _ c hz hc
 rw [show fG.n = 8 from rfl, hB.cell', Nat.zero_add, List.getElem?_append_left (List.getElem?_eq_some_iff.1 (hg.trans hu)).1, hg, hu]
theorem aDo : 58 ≠ 60 := by decide
theorem aDn : 58 ≠ 43 := by decide
theorem aFu : 60 ≠ 43 := by decide
theorem aJc (x : aM × (Option Addr × Nat)) : ∀ u ∈ kF x, u.oneCell' = true := fun u hu => by
 simp [kF] at hu
 rcases hu with rfl | rfl | rfl | rfl | rfl | rfl | rfl | rfl <;> rfl
end
section
section
variable {P : Program} {l : List Oper} {Q : Exit -> Act -> World -> Prop} {md : Region.Mode} {S : World -> Prop} {fuel : Nat} {listed : Array Bool} {a : Act} {w : World}
theorem aI5 {i : Nat} {oi : Oper} (hi : l[i]? = some oi) : l.toArray[i]? = some oi := by rw [List.getElem?_toArray]; exact hi
theorem aH8 {a b c : Bool} (h : (a && b && c) = true) : a = true /\ b = true /\ c = true := by
 cases a <;> cases b <;> cases c <;> simp_all
theorem bU {i : Nat} {oi : Oper} {v : Value} (hi : l[i]? = some oi) (hy : ∀ w, S w -> (execOp a.eval oi).run P w = .ok (.value v) w)
 (h : wpAnyH P md l.toArray Q S fuel (listed.setIfInBounds i true) (a.put oi.dst v) w)
 (side : (Region.noSelect l.toArray && Region.free md l.toArray listed i && (Region.ready md l.toArray listed).contains i) = true := by kernel_rfl)
 (hw : Region.wanted oi (yielded l.toArray a.tmps) = true := by rfl) (hQ : ∀ c a w, Q (.panic c) (a.put oi.dst v) w -> Q (.panic c) a w := by exact fun _ _ _ h => h) (hS : S w := by assumption) :
 wpAnyH P md l.toArray Q S (fuel + 1) listed a w :=
 wpAnyH_take (aI5 hi) (aH8 side).1 (aH8 side).2.1 (aH8 side).2.2 hQ (.inl ⟨hw, hy⟩) hS h
theorem cI {i : Nat} {oi : Oper} (hi : l[i]? = some oi) (h : wpAnyH P md l.toArray Q S fuel (listed.setIfInBounds i true) (a.put oi.dst undef) w)
 (side : (Region.noSelect l.toArray && Region.free md l.toArray listed i && (Region.ready md l.toArray listed).contains i) = true := by kernel_rfl)
 (hw : Region.wanted oi (yielded l.toArray a.tmps) = false := by rfl) (hQ : ∀ c a w, Q (.panic c) (a.put oi.dst undef) w -> Q (.panic c) a w := by exact fun _ _ _ h => h) (hS : S w := by assumption) :
 wpAnyH P md l.toArray Q S (fuel + 1) listed a w :=
 wpAnyH_take (aI5 hi) (aH8 side).1 (aH8 side).2.1 (aH8 side).2.2 hQ (.inr ⟨hw, rfl⟩) hS h
theorem qM {i : Nat} {o : Oper} (ho : l[i]? = some o)
 (h : ∀ K' : Act -> World -> Prop, Shut (∀ a w, S w -> (S w -> wpAnyH P md l.toArray Q S fuel (listed.setIfInBounds i true) a w) -> K' a w) -> if Region.wanted o (yielded l.toArray a.tmps) = true then Oper.wp P o a w K' Q else K' (a.put o.dst undef) w)
 (hr : Region.ready md l.toArray listed = [i] := by kernel_rfl) : wpAnyH P md l.toArray Q S (fuel + 1) listed a w :=
 wpAnyH_ready hr (by simp) (AllReadyH.cons (aI5 ho) h AllReadyH.nil)
end
end
section
open Go.RowKit
theorem aIt {r : bM} (hb : gW.bulk r ≤ 1048576) : r.1.2.1.length ≤ 1048576 /\ Fit r.2.1 := by
 have e : gW.bulk r = (iR.bulk r.1 + ((dA fG.bulk r.2.1 + 1) + 0)) + 1 := rfl
 have ea : ∀ a : aDe, iR.bulk a = ((a.1.size + 1) + ((dA bS.bulk a.2.1 + 1) + 0)) + 1 := fun _ => rfl
 have el : ∀ l : aM, fG.bulk l = (1 + (iR.bulk l.2.1 + (1 + (bS.bulk l.2.2.2.1 + (bS.bulk l.2.2.2.2.1 + 0))))) + 1 := fun _ => rfl
 have et : ∀ ts : List aE, ts.length ≤ dA bS.bulk ts := fun ts => fD bS.bulk (fun t => by show 1 ≤ _ + 1; omega) ts
 have h1 := ea r.1
 have h2 := et r.1.2.1
 have h3 := fD fG.bulk (fun l => by show 1 ≤ _ + 1; omega) r.2.1
 refine ⟨by omega, by omega, fun l hl => ?_⟩
 have h4 := gA fG.bulk hl
 have h5 := el l
 have h6 := ea l.2.1
 have h7 := et (aB l)
 have h8 : dA bS.bulk (aB l) = dA bS.bulk l.2.1.2.1 := rfl
 omega
theorem aAb (a : List ByteArray) (t : aE) : (bE a t).length ≤ a.length + 1 := by
 unfold bE
 split
 ·rw [List.length_append]; exact Nat.le_refl _
 ·exact Nat.le_succ _
theorem rT : ∀ (ts : List aE) (a : List ByteArray), (cK a ts).length ≤ a.length + ts.length
 | [], a => Nat.le_refl _
 | t :: ts, a => by
  have h1 := rT ts (bE a t)
  have h2 := aAb a t
  show (cK (bE a t) ts).length ≤ _
  rw [List.length_cons]; omega
theorem rU : ∀ (ls : List aM) (a : List ByteArray), (ls.foldl bR a).length ≤ a.length + dA fG.bulk ls
 | [], a => Nat.le_refl _
 | l :: ls, a => by
  have h1 := rU ls (bR a l)
  have h2 : (bR a l).length ≤ a.length + (aB l).length := by
   unfold bR
   split
   ·exact rT _ _
   ·exact Nat.le_add_right _ _
  have h3 : (aB l).length ≤ fG.bulk l := by
   have el : fG.bulk l = (1 + (iR.bulk l.2.1 + (1 + (bS.bulk l.2.2.2.1 + (bS.bulk l.2.2.2.2.1 + 0))))) + 1 := rfl
   have ea : iR.bulk l.2.1 = ((l.2.1.1.size + 1) + ((dA bS.bulk l.2.1.2.1 + 1) + 0)) + 1 := rfl
   have et : (aB l).length ≤ dA bS.bulk l.2.1.2.1 := fD bS.bulk (fun t => by show 1 ≤ _ + 1; omega) _
   omega
  rw [lJ]
  show (ls.foldl bR (bR a l)).length ≤ _
  omega
theorem aG3 {r : bM} (hb : gW.bulk r ≤ 1048576) : (aA r.2.1).length ≤ 1048576 := by
 have e : gW.bulk r = (iR.bulk r.1 + ((dA fG.bulk r.2.1 + 1) + 0)) + 1 := rfl
 have h1 := rU r.2.1 []
 have h2 : (aA r.2.1).length ≤ 0 + dA fG.bulk r.2.1 := h1
 omega
def bV (z : Nat -> Option Addr × Nat × Nat) (i : Nat) : Value := (Value.slice (z (i)).1 (z (i)).2.1 (z (i)).2.2)
theorem eS : cM Tryz.prog 51 66 1 24 (.slice none 0 0) := ⟨by kernel_rfl, by kernel_rfl, rfl, by decide⟩
def aDd (P : Program) (f : FuncId) (first captured : Array Value) (w0 : World) (vs : List Value) (t : Value) (c : Nat -> Int) : Prop :=
 (∀ args w, (callFunc f args).run P w = .ok (Next.enter f args) w) /\ ∀ w, Ext w0 w -> ∀ i v, vs[i]? = some v -> Calls P f (first ++ (#[v, t] ++ captured)) w fun e w' => e = .returned (.int .i64 (c i)) /\ Ext w w'
def aKn (n : Nat) (c : Nat -> Int) (w0 : World) (iv jv : Value) (w : World) : Prop :=
 ∃ i j : Nat, i ≤ j /\ j ≤ n /\ iv = .int .i64 i /\ jv = .int .i64 j /\ (i = 0 \/ c (i - 1) < 0) /\ (j = n \/ 0 ≤ c j) /\ Ext w0 w
set_option maxHeartbeats 2000000 in
theorem rE (zs : List (Option Addr × Nat × Nat)) (z : Nat -> Option Addr × Nat × Nat) (ao : Option Addr) (cap : Nat) (t : Value) (f : FuncId) (first captured : Array Value) (c : Nat -> Int) (w : World) (n : Nat)
 (hc : CellsAt w ao ((List.range n).map fun i => (Value.slice (z (i)).1 (z (i)).2.1 (z (i)).2.2))) (hcmp : aDd Tryz.prog f first captured w ((List.range n).map fun i => (Value.slice (z (i)).1 (z (i)).2.1 (z (i)).2.2)) t c) (hm : n ≤ 4611686018427387904) :
 Calls Tryz.prog 175 #[.slice ao n cap, t, .func (Fn.func f) first captured] w
  (RetF (fun _ => False) w fun w' v => ∃ i : Nat, i ≤ n /\ (i = 0 \/ c (i - 1) < 0) /\ (i = n \/ 0 ≤ c i) /\ v = .tuple #[.int .i64 i, .bool (decide (i < n /\ c i = 0))]) := by
 have hent := hcmp.1
 have HC := qH hcmp.2; clear hcmp
 have cell : ∀ W : World, Ext w W -> ∀ i, i < n -> ∃ b off, ao = some ⟨b, off, none⟩ /\ W.cell? ⟨b, off + i, none⟩ = some ((Value.slice (z (i)).1 (z (i)).2.1 (z (i)).2.2)) := fun W hW i hi => by
  have := hc.ext hW
  exact this i _ (by simp [hi])
 have HCELL := qH cell; clear cell
 go_enter Tryz.func175, Tryz.ntmps175
 go_wp2
 go_loopw [9, 10] (aKn n c w) (fun i j _ => (intOf j).toNat - (intOf i).toNat)
 case atStart => exact ⟨0, n, Nat.zero_le _, Nat.le_refl _, rfl, rfl, .inl rfl, .inl rfl, Kp.refl _⟩
 case round =>
  obtain ⟨i, j, hij, hj, rfl, rfl, hlo, hhi, hkp⟩ := hrel
  have HL := qH (And.intro hlo hhi); clear hlo hhi
  by_cases hlt : i < j
  ·obtain ⟨h, eh⟩ : ∃ h, h = (i + j) / 2 := ⟨_, rfl⟩
   have rh : ((i : Int) + j) / 2 = (h : Int) := by omega
   have hhn : h < n := by omega
   have h1 : i ≤ h := by omega
   have h2 : h < j := by omega
   clear eh
   obtain ⟨b, off, rfl, c1⟩ := HCELL.out _ hkp h hhn
   have hcall := fun W hW => HC.out W hW h ((Value.slice (z (h)).1 (z (h)).2.1 (z (h)).2.2)) (by simp [hhn])
   have HCall := qH hcall; clear hcall
   generalize hcc : c h = cc at HCall
   have HCC := qH hcc; clear hcc
   by_cases hneg : cc < 0
   ·go_wp2_with fail
    refine (HCall.out _ hkp).mono ?_
    rintro e w1 ⟨rfl, hk2⟩
    have hkp2 := hkp.ext hk2
    clear hk2 c1
    go_wp2
    go_roundw
    case rel => exact ⟨h + 1, j, by omega, hj, by first | rfl | (congr 1; done) | (congr 1; omega), rfl, .inr (by rw [Nat.add_sub_cancel, HCC.out]; omega), HL.out.2, hkp2⟩
    case measure => simp [intOf]; omega
   ·go_wp2_with fail
    refine (HCall.out _ hkp).mono ?_
    rintro e w1 ⟨rfl, hk2⟩
    have hkp2 := hkp.ext hk2
    clear hk2 c1
    go_wp2
    go_roundw
    case rel => exact ⟨i, h, by omega, by omega, rfl, by first | rfl | (congr 1; done) | (congr 1; omega), HL.out.1, .inr (by rw [HCC.out]; omega), hkp2⟩
    case measure => simp [intOf]; omega
  ·obtain rfl : i = j := by omega
   by_cases hin : i < n
   ·obtain ⟨b, off, rfl, c1⟩ := HCELL.out _ hkp i hin
    have hcall := fun W hW => HC.out W hW i ((Value.slice (z (i)).1 (z (i)).2.1 (z (i)).2.2)) (by simp [hin])
    have HCall := qH hcall; clear hcall
    generalize hcc : c i = cc at HCall
    have HCC := qH hcc; clear hcc
    have key : decide (i < n /\ c i = 0) = (cc == 0) := by rw [HCC.out]; simp [hin]; rfl
    have HK := qH key; clear key
    generalize hbb : (cc == 0) = bb at HK
    go_wp2_with fail
    refine (HCall.out _ hkp).mono ?_
    rintro e w1 ⟨rfl, hk2⟩
    have hkp2 := hkp.ext hk2
    clear hk2 c1
    go_wp2
    go_ret2
    exact RetF.mk hkp2 ⟨i, by omega, HL.out.1, HL.out.2, aDq HK.out⟩
   ·have key : decide (i < n /\ c i = 0) = false := by simp; omega
    have HK := qH key; clear key
    go_wp2
    go_ret2
    exact RetF.mk hkp ⟨i, by omega, HL.out.1, HL.out.2, aDq HK.out⟩
set_option maxHeartbeats 4000000 in
theorem vQ (z : Nat -> Option Addr × Nat × Nat) (C : List Nat) (g n cap N : Nat) (rest : List Value) (f : FuncId) (first captured : Array Value) (q : Nat -> Nat -> Bool) (w : World)
 (hcmp : aKi Tryz.prog f first captured g N w (bV z) q) (hn : n = C.length) (hC : ∀ i ∈ C, i < N) (hm : n ≤ 4611686018427387904) (hB : Blk w g (C.map (bV z) ++ rest) 66) (hlen : (C.map (bV z) ++ rest).length = cap) (hcm : cap ≤ maxLen) :
 Calls Tryz.prog 252 #[.slice (some ⟨g, 0, none⟩) n cap, .func (Fn.func f) first captured] w
  (RetF (fun k => k = g) w fun w' v => ∃ rest', v = .slice (some ⟨g, 0, none⟩) (bX q C n).length cap /\ Blk w' g ((bX q C n).map (bV z) ++ rest') 66 /\ ((bX q C n).map (bV z) ++ rest').length = cap) := by
 have hent := hcmp.1
 have HC := qH hcmp.2; clear hcmp
 have HN := qH (And.intro hn (And.intro hC hlen)); clear hn hC
 have hcap : n ≤ cap := by have := HN.out.1; simp at hlen; omega
 clear hlen
 have cell : ∀ W : World, Blk W g (C.map (bV z) ++ rest) 66 -> ∀ i, i < n -> W.cell? ⟨g, i, none⟩ = some (bV z (C.getD i 0)) := fun W h i hi => h.at i (by have := HN.out.1; omega)
 have HB := qH hB; clear hB
 by_cases hlt2 : n < 2
 ·go_enter Tryz.func252, Tryz.ntmps252
  go_wp2
  go_ret
  have e : bX q C n = C := by
   rw [lF (by have := HN.out.1; omega) (fun j h1 h2 => by omega), List.take_of_length_le (by have := HN.out.1; omega)]
  refine RetF.mk (Kp.refl _) ⟨rest, ?_, by rw [e]; exact HB.out, by rw [e]; exact HN.out.2.2⟩
  rw [e, <- HN.out.1]; rfl
 ·go_enter Tryz.func252, Tryz.ntmps252
  go_wp2
  go_loopw [5] (aKm n q C (fun k => False) w) (fun k _ => n - (intOf k).toNat)
  case atStart => exact ⟨1, Nat.le_refl _, by omega, rfl, fun j h1 h2 => by omega, Kp.refl _⟩
  case round =>
   obtain ⟨k, hk1, hkn, rfl, hq, hkp⟩ := hrel
   have HQ := qH hq; clear hq
   have hext : Kp (fun i => i = g) w wr := Ext.kp hkp
   by_cases hkl : k < n
   ·have HBw : Blk wr g (C.map (bV z) ++ rest) 66 := HB.out.ext hkp
    obtain ⟨p, rfl⟩ : ∃ p, k = p + 1 := ⟨k - 1, by omega⟩
    have c1 := cell wr HBw (p + 1) hkl
    have c2 := cell wr HBw p (by omega)
    have HBW := qH HBw; clear HBw
    have hx : C.getD (p + 1) 0 < N := HN.out.2.1 _ (pW (by have := HN.out.1; omega))
    have hy : C.getD p 0 < N := HN.out.2.1 _ (pW (by have := HN.out.1; omega))
    have hcall := fun W hW => HC.out W hW _ _ hx hy
    have HCall := qH hcall; clear hcall
    obtain ⟨x, ex⟩ : ∃ x, x = C.getD (p + 1) 0 := ⟨_, rfl⟩
    obtain ⟨y, ey⟩ : ∃ y, y = C.getD p 0 := ⟨_, rfl⟩
    rw [<- ex, <- ey] at HCall
    rw [<- ex] at c1
    rw [<- ey] at c2
    have HE := qH (And.intro ex ey); clear ex ey hx hy
    unfold bV at c1 c2
    obtain ⟨i1, i2, i3, i4, i5, i6, i7⟩ := aBx (k := p) (n := n) (by omega) hm
    cases hqk : q x y
    ·rw [hqk] at HCall
     have HK := qH hqk; clear hqk
     go_wp2
     go_still_tail 10, (by kernel_rfl)
     go_wp2_with fail
     refine (HCall.out _ hext.drew).mono ?_
     rintro e w1 ⟨rfl, hk2⟩
     have hkp2 : Ext w w1 := hkp.drew.ext hk2
     clear hk2 c1 c2
     go_wp2
     go_roundw
     case rel =>
      refine ⟨p + 2, by omega, by omega, by first | rfl | (congr 1; done) | (congr 1; omega), fun j h1 h2 => ?_, hkp2⟩
      by_cases e : j = p + 1
      ·subst e
       rw [<- HE.out.1, Nat.add_sub_cancel, <- HE.out.2]; exact HK.out
      ·exact HQ.out j h1 (by omega)
     case measure => simp [intOf]; omega
    ·rw [hqk] at HCall
     have HK := qH hqk; clear hqk
     have start : Blk wr g ((bX q C (p + 1 + 1)).map (bV z) ++ (C.map (bV z) ++ rest).drop (p + 1)) 66 /\ (bX q C (p + 1 + 1)).length = p + 1 := by
      have hn := HN.out.1
      have e : bX q C (p + 1 + 1) = C.take (p + 1) := by
       rw [uT (by omega) (by rw [<- HE.out.1, Nat.add_sub_cancel, <- HE.out.2]; exact HK.out), lF (by omega) HQ.out]
      rw [e]
      refine ⟨HBW.out.congrL ?_, by simp; omega⟩
      rw [List.drop_append_of_le_length (by simp; omega), <- List.append_assoc, <- List.map_drop, <- List.map_append, List.take_append_drop]
     have HS := qH start; clear start
     have hpc : (p : Int) + 1 ≤ (cap : Int) := by omega
     have hpn : (p : Int) + 1 ≤ (n : Int) := by omega
     go_wp2
     go_still_tail 10, (by kernel_rfl)
     go_wp2_with fail
     refine (HCall.out _ hext.drew).mono ?_
     rintro e w1 ⟨rfl, hk2⟩
     have hkp2 : Ext w w1 := hkp.drew.ext hk2
     have HS1 : Blk w1 g ((bX q C (p + 1 + 1)).map (bV z) ++ (C.map (bV z) ++ rest).drop (p + 1)) 66 := HS.out.1.drew.ext hk2
     have HS2 := qH (And.intro HS1 HS.out.2); clear HS1
     clear hk2 c1 c2
     obtain ⟨m, em⟩ : ∃ m, n - (p + 1) = m := ⟨_, rfl⟩
     have hcapk : ¬ cap = p + 1 := by omega
     go_wp2
     go_loopw [5, 7] (aKl n (p + 1) q C w g (bV z) rest 66) (fun k j _ => n - (intOf j).toNat)
     case atStart => exact ⟨p + 1, 1, Nat.le_refl _, hkl, by go_num, rfl, Nat.le_refl _, by omega, HS2.out.2, Ext.kp hkp2, HS2.out.1⟩
     case round =>
      obtain ⟨k, j, hj1, hjn, rfl, rfl, hk0, hkj, hkl2, hkp3, hb3⟩ := hrel
      have f1 := hb3.free k
      have HB3 := qH (And.intro hkl2 hb3); clear hkl2
      by_cases hjm : j < m
      ·obtain ⟨t, rfl⟩ : ∃ t, j = t + 1 := ⟨j - 1, by omega⟩
       have hCl := HN.out.1
       have c1 : wr.cell? ⟨g, p + 1 + (t + 1), none⟩ = some (bV z (C.getD (p + 1 + (t + 1)) 0)) := by
        rw [hb3.cell']; exact pX HB3.out.1 (by omega) (by omega)
       have c2 : wr.cell? ⟨g, p + 1 + t, none⟩ = some (bV z (C.getD (p + 1 + t) 0)) := by
        rw [hb3.cell']; exact pX HB3.out.1 (by omega) (by omega)
       have hx : C.getD (p + 1 + (t + 1)) 0 < N := HN.out.2.1 _ (pW (by omega))
       have hy : C.getD (p + 1 + t) 0 < N := HN.out.2.1 _ (pW (by omega))
       clear hCl hb3
       have hcall := fun W hW => HC.out W hW _ _ hx hy
       have HCall := qH hcall; clear hcall
       obtain ⟨x, ex⟩ : ∃ x, x = C.getD (p + 1 + (t + 1)) 0 := ⟨_, rfl⟩
       obtain ⟨y, ey⟩ : ∃ y, y = C.getD (p + 1 + t) 0 := ⟨_, rfl⟩
       rw [<- ex, <- ey] at HCall
       rw [<- ex] at c1
       rw [<- ey] at c2
       have HE := qH (And.intro ex ey); clear ex ey hx hy
       unfold bV at c1 c2
       obtain ⟨i1, i2, i3, i4, i5, i6, i7⟩ := aBx (k := t) (n := m) (by omega) (by omega)
       have hkn2 : k < n := by omega
       cases hqk : q x y
       ·rw [hqk] at HCall
        have HK := qH hqk; clear hqk
        go_wp2
        go_still_tail 10, (by kernel_rfl)
        go_wp2_with fail
        refine (HCall.out _ hkp3.drew).mono ?_
        rintro e w2 ⟨rfl, hk2⟩
        have hkp4 : Kp (fun i => i = g) w w2 := hkp3.drew.ext hk2
        have d1 := hk2.cell c1 id
        have HB4 : Blk w2 g ((bX q C (p + 1 + (t + 1))).map (bV z) ++ (C.map (bV z) ++ rest).drop k) 66 := HB3.out.2.drew.ext hk2
        have f2 := HB4.free k
        have d2 : ∃ u, w2.cell? ⟨g, k, none⟩ = some u := ⟨_, HB4.cell k (by have h2 := HN.out.2.2; have h1 := HN.out.1; have h3 := HB3.out.1; simp at h2 ⊢; omega)⟩
        obtain ⟨u, d2⟩ := d2
        have HB5 := qH HB4; clear HB4
        clear hk2 c1 c2 f1
        go_wp2
        go_roundw
        case rel =>
         have e : bX q C (p + 1 + (t + 2)) = bX q C (p + 1 + (t + 1)) ++ [x] := by
          have := xG (q := q) (C := C) (k := p + 1 + (t + 1)) (by rw [<- HE.out.1, show p + 1 + (t + 1) - 1 = p + 1 + t by omega, <- HE.out.2]; exact HK.out)
          rw [HE.out.1, <- this]; rfl
         refine ⟨k + 1, t + 2, by omega, by omega, by first | rfl | (congr 1; done) | (congr 1; omega), by first | rfl | (congr 1; done) | (congr 1; omega), by omega, by omega, by rw [e, List.length_append, HB3.out.1]; rfl, ?_, ?_⟩
         ·exact hkp4.setCell (fun _ => rfl) _
         ·rw [e]; exact (HB5.out.set k _).congrL (aCq HB3.out.1 (by have := HN.out.1; omega))
        case measure => simp [intOf]; omega
       ·rw [hqk] at HCall
        have HK := qH hqk; clear hqk
        go_wp2
        go_still_tail 10, (by kernel_rfl)
        go_wp2_with fail
        refine (HCall.out _ hkp3.drew).mono ?_
        rintro e w2 ⟨rfl, hk2⟩
        have hkp4 : Kp (fun i => i = g) w w2 := hkp3.drew.ext hk2
        have HB4 : Blk w2 g ((bX q C (p + 1 + (t + 1))).map (bV z) ++ (C.map (bV z) ++ rest).drop k) 66 := HB3.out.2.drew.ext hk2
        have HB5 := qH HB4; clear HB4
        clear hk2 c1 c2 f1
        go_wp2
        go_roundw
        case rel =>
         have e : bX q C (p + 1 + (t + 2)) = bX q C (p + 1 + (t + 1)) := by
          have := uT (q := q) (C := C) (k := p + 1 + (t + 1)) (by omega) (by rw [<- HE.out.1, show p + 1 + (t + 1) - 1 = p + 1 + t by omega, <- HE.out.2]; exact HK.out)
          rw [<- this]; rfl
         exact ⟨k, t + 2, by omega, by omega, rfl, by first | rfl | (congr 1; done) | (congr 1; omega), hk0, by omega, by rw [e]; exact HB3.out.1, hkp4, by rw [e]; exact HB5.out⟩
        case measure => simp [intOf]; omega
      ·have hjn' : p + 1 + j = n := by omega
       rw [hjn'] at HB3
       obtain ⟨w3, hrun, hk3, hb4⟩ := tU eS rfl (fun w => by kernel_rfl) HB3.out.2 (off := k) (n := n - k) (c := cap - k) (sp := some ⟨g, k, none⟩) (fun _ => rfl) (by have := HB3.out.1; have h2 := HN.out.2.2; have h1 := HN.out.1; simp at h2 ⊢; omega)
       have HB4 := qH hb4; clear hb4 hb3
       have HK3 := qH hk3; clear hk3
       have hkc : ¬ cap = k := by omega
       have hkc2 : (k : Int) ≤ (cap : Int) := by omega
       have hkn2 : (k : Int) ≤ (n : Int) := by omega
       have hjj : j = m := by omega
       clear hjn'
       go_wp2
       go_ret
       have h2 := HN.out.2.2; have h1 := HN.out.1
       have hk := HB3.out.1
       refine RetF.mk (hkp3.trans HK3.out) ⟨List.replicate (n - k) (.slice none 0 0) ++ ((C.map (bV z) ++ rest).drop k).drop (n - k), ?_, ?_, ?_⟩
       ·rw [hk]; rfl
       ·refine HB4.out.congrL ?_
        unfold splice
        rw [List.take_append_of_le_length (by simp; omega), List.take_of_length_le (by simp; omega), List.drop_append, List.drop_of_length_le (by simp; omega), List.length_map, hk, List.length_replicate, List.nil_append, Nat.add_sub_cancel_left]
       ·simp at h2 ⊢; omega
   ·go_wp2
    go_ret
    have e : bX q C n = C := by
     rw [lF (by have := HN.out.1; omega) (fun j h1 h2 => HQ.out j h1 (by omega)), List.take_of_length_le (by have := HN.out.1; omega)]
    refine RetF.mk hext ⟨rest, ?_, by rw [e]; exact HB.out.ext hkp, by rw [e]; exact HN.out.2.2⟩
    rw [e, <- HN.out.1]; rfl
theorem lI (vs : List Value) (ao : Option Addr) (cap : Nat) (w : World) (n : Nat) (hn : n = vs.length) (hc : CellsAt w ao vs) (h1 : ∀ u ∈ vs, u.oneCell' = true) (hm : n * 24 ≤ 140737488355328) :
 Calls Tryz.prog 121 #[.slice ao n cap] w (RetN w fun w' v => Row w' 66 1 v n vs (New w)) := by
 have hq : ∀ w : World, (binOp .eql 51 (.slice ao n cap) (.slice none 0 0)).run Tryz.prog w = .ok (.bool ao.isNone) w := fun w => Lib.run_eql_slice_nil w _ _ _ _ _ _ _ Tryz.underlying51
 have HNN := qH hn; clear hn
 have hl : n ≤ maxLen := by unfold maxLen; omega
 cases ao with
 | none =>
  have hv : vs = [] := by
   cases vs with
   | nil => rfl
   | cons x vs => obtain ⟨b, o, h, _⟩ := hc.off (by simp); cases h
  subst hv
  have h0 : n = 0 := HNN.out
  subst h0
  go_enter Tryz.func121, Tryz.ntmps121
  go_wp2
  go_ret
  exact RetN.mk (Kp.refl _) (Row.nil _ _ _ _)
 | some a =>
  go_enter Tryz.func121, Tryz.ntmps121
  go_wp2_with (first | (at_builtin; refine Halted.out ?_))
  refine Halted.mk (dK eS rfl _ _ rfl ((Kp.refl (F := fun _ => False) w).alloc _) rfl (Row.empty w 66 1 (New w) (Nat.le_refl _)) rfl (hc.alloc _) (by rw [HNN.out, Nat.mul_one]) h1 (by omega) (by omega) ?_)
  intro v1 w1 hr1 hk1 _ _
  have HR := qH hr1; clear hr1
  go_wp2
  go_ret
  exact RetN.mk hk1 (by simpa using HR.out)
def yJ (P : Program) (f : FuncId) (first captured : Array Value) (w0 : World) (us vs : List Value) (q : Nat -> Bool) : Prop :=
 (∀ args w, (callFunc f args).run P w = .ok (Next.enter f args) w) /\ ∀ w, Ext w0 w -> ∀ i u v, us[i]? = some u -> vs[i]? = some v -> Calls P f (first ++ (#[u, v] ++ captured)) w fun e w' => e = .returned (.bool (q i)) /\ Ext w w'
def aLl (n : Nat) (q : Nat -> Bool) (w0 : World) (iv : Value) (w : World) : Prop :=
 ∃ i : Nat, i ≤ n /\ iv = .int .i64 i /\ (∀ j, j < i -> q j = true) /\ Ext w0 w
set_option maxHeartbeats 2000000 in
theorem qZ (us vs : List Value) (ao bo : Option Addr) (c d : Nat) (f : FuncId) (first captured : Array Value) (q : Nat -> Bool) (w : World) (n m : Nat) (hn : n = us.length) (hm : m = vs.length)
 (ha : CellsAt w ao us) (hb : CellsAt w bo vs) (hcmp : yJ Tryz.prog f first captured w us vs q) (hbig : n ≤ 4611686018427387904) (hbig2 : m ≤ 4611686018427387904) :
 Calls Tryz.prog 130 #[.slice ao n c, .slice bo m d, .func (Fn.func f) first captured] w
  (RetF (fun _ => False) w fun w' v => ∃ r : Bool, v = .bool r /\ (r = true ↔ n = m /\ ∀ i, i < n -> q i = true)) := by
 by_cases hnm : n = m
 ·subst hnm
  have hent := hcmp.1
  have HC := qH hcmp.2; clear hcmp
  have HA := qH ha; have HB := qH hb; clear ha hb
  have HN := qH hn; have HM := qH hm; clear hn hm
  have hne : ((n : Int) != (n : Int)) = false := by simp
  go_enter Tryz.func130, Tryz.ntmps130
  go_wp2
  go_loopw [17] (aLl n q w) (fun i _ => n - (intOf i).toNat)
  case atStart => exact ⟨0, Nat.zero_le _, rfl, by simp, Kp.refl _⟩
  case round =>
   obtain ⟨i, hi, rfl, hq, hkp⟩ := hrel
   have HQ := qH hq; clear hq
   by_cases hlt : i < n
   ·have g1 : us[i]? = some (us[i]'(by have := HN.out; omega)) := qG _
    have g2 : vs[i]? = some (vs[i]'(by have := HM.out; omega)) := qG _
    obtain ⟨b1, o1, rfl, c1⟩ := (HA.out.ext hkp) i _ g1
    obtain ⟨b2, o2, rfl, c2⟩ := (HB.out.ext hkp) i _ g2
    have hcall := fun W hW => HC.out W hW i _ _ g1 g2
    have HCall := qH hcall; clear hcall
    have HG := qH (And.intro g1 g2); clear g1 g2
    generalize us[i]'(by have := HN.out; omega) = u at *
    generalize vs[i]'(by have := HM.out; omega) = v at *
    cases hqi : q i
    ·rw [hqi] at HCall
     have HI := qH hqi; clear hqi
     go_wp2_with fail
     refine (HCall.out _ hkp).mono ?_
     rintro e w1 ⟨rfl, hk2⟩
     have hkp2 := hkp.ext hk2
     clear hk2 c1 c2
     go_wp2
     go_ret
     refine RetF.mk hkp2 ⟨false, rfl, by simp, fun h => ?_⟩
     have := h.2 i hlt; rw [HI.out] at this; cases this
    ·rw [hqi] at HCall
     have HI := qH hqi; clear hqi
     go_wp2_with fail
     refine (HCall.out _ hkp).mono ?_
     rintro e w1 ⟨rfl, hk2⟩
     have hkp2 := hkp.ext hk2
     clear hk2 c1 c2
     go_wp2
     go_roundw
     case rel =>
      refine ⟨i + 1, by omega, by first | rfl | (congr 1; done) | (congr 1; omega), fun j hj => ?_, hkp2⟩
      by_cases e : j = i
      ·subst e; exact HI.out
      ·exact HQ.out j (by omega)
     case measure => simp [intOf]; omega
   ·go_wp2
    go_ret
    exact RetF.mk hkp ⟨true, rfl, by simp only [true_iff]; exact ⟨trivial, fun i hi => HQ.out i (by omega)⟩⟩
 ·have hne : ((n : Int) != (m : Int)) = true := by rw [bne_iff_ne]; omega
  clear hcmp hn hm ha hb
  go_enter Tryz.func130, Tryz.ntmps130
  go_wp2
  go_ret
  exact RetF.mk (Kp.refl _) ⟨false, rfl, by simp; omega⟩
def OrdVRow (P : Program) (S : Nat -> Prop) (w0 : World) (ov : Value) (D : Option Addr × Nat × Nat -> Prop) (c : Option Addr × Nat × Nat -> Option Addr × Nat × Nat -> Int) : Prop :=
 (ov = .nilFunc /\ ∀ x y, D x -> D y -> c x y = 0) \/ ∃ f first cap, ov = .func (Fn.func f) first cap /\ (∀ args w, (callFunc f args).run P w = .ok (Next.enter f args) w) /\
  ∀ w, Same S w0 w -> ∀ x y, D x -> D y -> Calls P f (first ++ (#[(Value.slice (x).1 (x).2.1 (x).2.2), (Value.slice (y).1 (y).2.1 (y).2.2)] ++ cap)) w fun e w' => e = .returned (.int .i64 (c x y)) /\ Ext w w'
theorem OrdVRow.same {P : Program} {S : Nat -> Prop} {w0 w1 : World} {ov : Value} {D : Option Addr × Nat × Nat -> Prop} {c : Option Addr × Nat × Nat -> Option Addr × Nat × Nat -> Int} (h : OrdVRow P S w0 ov D c) (hs : Same S w0 w1) : OrdVRow P S w1 ov D c := by
 rcases h with h | ⟨f, first, cap, e, he, h⟩
 ·exact .inl h
 ·exact .inr ⟨f, first, cap, e, he, fun w hw => h w (hs.trans hw)⟩
structure SetAtRow (P : Program) (S : Nat -> Prop) (w : World) (b : Nat) (ov iv : Value) (tail : List Value) (te : TypeId) (D : Option Addr × Nat × Nat -> Prop) (c : Option Addr × Nat × Nat -> Option Addr × Nat × Nat -> Int) (zs : List (Option Addr × Nat × Nat)) : Prop where
 blk : Blk w b (ov :: iv :: tail) te
 row : Row w 66 1 iv zs.length (zs.map fun x => (Value.slice (x).1 (x).2.1 (x).2.2)) (fun k => iv.ownBlock = some k)
 apart : iv.ownBlock ≠ some b
 inS : ∀ k, S k -> k < w.heap.size
 notS : ∀ k, bN b iv k -> ¬ S k
 ord : OrdVRow P S w ov D c
 all : ∀ x ∈ zs, D x
 len : zs.length ≤ 1048576 * 1048576
section
variable {P : Program} {S : Nat -> Prop} {w w' : World} {b : Nat} {ov iv : Value} {tail : List Value} {te : TypeId} {D : Option Addr × Nat × Nat -> Prop} {c : Option Addr × Nat × Nat -> Option Addr × Nat × Nat -> Int} {zs : List (Option Addr × Nat × Nat)}
theorem SetAtRow.kp {F : Nat -> Prop} (h : SetAtRow P S w b ov iv tail te D c zs) (hk : Kp F w w') (hF : ∀ k, F k -> ¬ bN b iv k) (hS : ∀ k, F k -> ¬ S k) : SetAtRow P S w' b ov iv tail te D c zs :=
 ⟨h.blk.kp hk fun hf => hF _ hf (.inl rfl), h.row.kp hk fun g hg hf => hF _ hf (.inr hg), h.apart, fun k hk' => Nat.lt_of_lt_of_le (h.inS k hk') hk.size, h.notS, h.ord.same (hk.same h.inS fun k hk' hf => hS k hf hk'), h.all, h.len⟩
theorem SetAtRow.ext (h : SetAtRow P S w b ov iv tail te D c zs) (hk : Ext w w') : SetAtRow P S w' b ov iv tail te D c zs := h.kp hk (fun _ x => x.elim) (fun _ x => x.elim)
theorem SetAtRow.cells (h : SetAtRow P S w b ov iv tail te D c zs) : w.cell? ⟨b, 0, none⟩ = some ov /\ w.cell? ⟨b, 1, none⟩ = some iv := ⟨by rw [h.blk.cell']; rfl, by rw [h.blk.cell']; rfl⟩
end
theorem oG (S : Nat -> Prop) (w : World) (b : Nat) (ov : Value) (cs : List Value) (te : TypeId) (D : Option Addr × Nat × Nat -> Prop) (c : Option Addr × Nat × Nat -> Option Addr × Nat × Nat -> Int) (x y : Option Addr × Nat × Nat) (hx : D x) (hy : D y) (hB : Blk w b (ov :: cs) te)
 (hS : ∀ k, S k -> k < w.heap.size) (ho : OrdVRow Tryz.prog S w ov D c) :
 Calls Tryz.prog 176 #[.pointer (some ⟨b, 0, none⟩), (Value.slice (x).1 (x).2.1 (x).2.2), (Value.slice (y).1 (y).2.1 (y).2.2)] w (fun e w' => e = .returned (.int .i64 (c x y)) /\ Ext w w') := by
 have c1 := hB.c0
 clear hB
 rcases ho with ⟨rfl, h0⟩ | ⟨f, first, cap, rfl, hent, hc⟩
 ·have h00 := qH (h0 x y hx hy); clear h0
  have hq : ∀ w : World, (binOp .eql 132 .nilFunc .nilFunc).run Tryz.prog w = .ok (.bool true) w := fun _ => by kernel_rfl
  go_enter Tryz.func176, Tryz.ntmps176
  go_wp2
  go_ret
  exact ⟨by rw [h00.out]; rfl, Kp.refl _⟩
 ·have HC := qH hc; clear hc
  have hq : ∀ w : World, (binOp .eql 132 (.func (Fn.func f) first cap) .nilFunc).run Tryz.prog w = .ok (.bool false) w := fun _ => by kernel_rfl
  go_enter Tryz.func176, Tryz.ntmps176
  go_wp2_with fail
  refine (HC.out w (Same.refl hS) x y hx hy).mono ?_
  rintro e w1 ⟨rfl, hk⟩
  have HK := qH hk; clear hk
  go_wp2
  go_ret
  exact ⟨rfl, HK.out⟩
theorem sN (S : Nat -> Prop) (w : World) (b : Nat) (ov : Value) (cs : List Value) (te : TypeId) (D : Option Addr × Nat × Nat -> Prop) (c : Option Addr × Nat × Nat -> Option Addr × Nat × Nat -> Int) (x y : Option Addr × Nat × Nat) (hx : D x) (hy : D y) (hB : Blk w b (ov :: cs) te)
 (hS : ∀ k, S k -> k < w.heap.size) (ho : OrdVRow Tryz.prog S w ov D c) :
 Calls Tryz.prog 131 #[.pointer (some ⟨b, 0, none⟩), (Value.slice (x).1 (x).2.1 (x).2.2), (Value.slice (y).1 (y).2.1 (y).2.2)] w (fun e w' => e = .returned (.bool (decide (c x y = 0))) /\ Ext w w') := by
 go_enter Tryz.func131, Tryz.ntmps131
 go_wp2_with fail
 refine (oG S w b ov cs te D c x y hx hy hB hS ho).mono ?_
 rintro e w1 ⟨rfl, hk⟩
 have HK := qH hk; clear hk hB ho
 go_wp2
 go_ret
 exact ⟨rfl, HK.out⟩
theorem oE {S : Nat -> Prop} {w : World} {b : Nat} {ov iv : Value} {tail : List Value} {te : TypeId} {D : Option Addr × Nat × Nat -> Prop} {c : Option Addr × Nat × Nat -> Option Addr × Nat × Nat -> Int} {zs : List (Option Addr × Nat × Nat)} (h : SetAtRow Tryz.prog S w b ov iv tail te D c zs) :
 Calls Tryz.prog 72 #[.pointer (some ⟨b, 0, none⟩)] w (Ret (.int .i64 (zs.length : Nat)) w) := by
 obtain ⟨c1, c2⟩ := h.cells
 obtain ⟨ao, cap, rfl, _, _⟩ := h.row.shape
 clear h
 go_enter Tryz.func72, Tryz.ntmps72
 go_wp2
 go_ret
 exact Ret.mk rfl
theorem vY (w : World) : Calls Tryz.prog 72 #[.pointer none] w (Ret (.int .i64 0) w) := by
 go_enter Tryz.func72, Tryz.ntmps72
 go_wp2
 go_ret
 exact Ret.mk rfl
theorem sL {S : Nat -> Prop} {w : World} {b : Nat} {ov iv : Value} {tail : List Value} {te : TypeId} {D : Option Addr × Nat × Nat -> Prop} {c : Option Addr × Nat × Nat -> Option Addr × Nat × Nat -> Int} {zs : List (Option Addr × Nat × Nat)} (h : SetAtRow Tryz.prog S w b ov iv tail te D c zs) :
 Calls Tryz.prog 125 #[.pointer (some ⟨b, 0, none⟩)] w (RetN w fun w' v => Row w' 66 1 v zs.length (zs.map fun x => (Value.slice (x).1 (x).2.1 (x).2.2)) (New w)) := by
 obtain ⟨c1, c2⟩ := h.cells
 obtain ⟨ao, cap, rfl, hc, _⟩ := h.row.shape
 have hl := h.len
 have HC := qH hc; clear h hc
 go_enter Tryz.func125, Tryz.ntmps125
 go_wp2_with fail
 refine (lI (zs.map fun x => (Value.slice (x).1 (x).2.1 (x).2.2)) ao cap w zs.length (by simp) HC.out (by intro u hu; obtain ⟨x, _, rfl⟩ := List.mem_map.1 hu; rfl) (by omega)).mono ?_
 rintro e w1 ⟨v, rfl, hk, hr⟩
 have HR := qH (And.intro hk hr); clear hk hr
 go_wp2
 go_ret
 exact RetN.mk HR.out.1 HR.out.2
theorem sK (w : World) : Calls Tryz.prog 125 #[.pointer none] w (Ret (.slice none 0 0) w) := by
 go_enter Tryz.func125, Tryz.ntmps125
 go_wp2
 go_ret
 exact Ret.mk rfl
set_option maxHeartbeats 1000000 in
theorem iS {S : Nat -> Prop} {w : World} {b : Nat} {ov iv : Value} {tail : List Value} {te : TypeId} {D : Option Addr × Nat × Nat -> Prop} {c : Option Addr × Nat × Nat -> Option Addr × Nat × Nat -> Int} {zs : List (Option Addr × Nat × Nat)} (O : OrdLaw c) (x : Option Addr × Nat × Nat) (hx : D x) (hs : Strict c zs) (h : SetAtRow Tryz.prog S w b ov iv tail te D c zs) :
 Calls Tryz.prog 122 #[.pointer (some ⟨b, 0, none⟩), (Value.slice (x).1 (x).2.1 (x).2.2)] w
  (RetF (fun _ => False) w fun w' v => v = .tuple #[.int .i64 (below c zs x : Nat), .bool (bA c zs x)]) := by
 obtain ⟨c1, c2⟩ := h.cells
 obtain ⟨ao, cap, eiv, hc, _⟩ := h.row.shape
 subst eiv
 have hl := h.len
 obtain ⟨n, en⟩ : ∃ n, n = zs.length := ⟨_, rfl⟩
 have get : ∀ i (hi : i < n), zs.getD i x = zs[i]'(by omega) := fun i hi => by simp [List.getD, show i < zs.length by omega]
 have evals : (List.range n).map (fun i => (Value.slice (zs.getD i x).1 (zs.getD i x).2.1 (zs.getD i x).2.2)) = zs.map fun x => (Value.slice (x).1 (x).2.1 (x).2.2) := by
  refine List.ext_getElem (by simp [en]) fun i h1 h2 => ?_
  simp only [List.getElem_map, List.getElem_range]
  rw [get i (by simpa using h1)]
 have hent : ∀ args w, (callFunc 176 args).run Tryz.prog w = .ok (.enter 176 args) w := enters_of Tryz.func176 (by kernel_rfl) rfl
 have hcmp : aDd Tryz.prog 176 #[.pointer (some ⟨b, 0, none⟩)] #[] w ((List.range n).map fun i => (Value.slice (zs.getD i x).1 (zs.getD i x).2.1 (zs.getD i x).2.2)) ((Value.slice (x).1 (x).2.1 (x).2.2)) (fun i => c (zs.getD i x) x) := by
  refine ⟨hent, fun w' hw i v hv => ?_⟩
  have hi : i < n := by simpa using (List.getElem?_eq_some_iff.1 hv).1
  have ev : v = (Value.slice (zs.getD i x).1 (zs.getD i x).2.1 (zs.getD i x).2.2) := by simp [hi] at hv; rw [<- hv, List.getD_eq_getElem?_getD]
  subst ev
  have h' := h.ext hw
  exact oG S w' b ov _ te D c (zs.getD i x) x (by rw [get i hi]; exact h.all _ (List.getElem_mem _)) hx h'.blk h'.inS h'.ord
 have hbin := rE zs (fun i => zs.getD i x) ao cap ((Value.slice (x).1 (x).2.1 (x).2.2)) 176 #[.pointer (some ⟨b, 0, none⟩)] #[] (fun i => c (zs.getD i x) x) w n (by rw [evals]; exact hc) hcmp (by omega)
 rw [en] at hbin
 have HB := qH hbin
 have HH := qH (And.intro en get)
 clear hbin hcmp hc evals hent h get
 go_enter Tryz.func122, Tryz.ntmps122
 go_wp2_with fail
 refine HB.out.mono ?_
 rintro e w1 ⟨v, rfl, hk, i, hi, h1, h2, rfl⟩
 have ei : i = below c zs x := by
  refine hs.place O hi (fun y hp hy => ?_) (fun y hy => ?_)
  ·have e := (List.getElem?_eq_some_iff.1 hy).2
   rcases h1 with h1 | h1
   ·omega
   ·rw [HH.out.2 _ (by rw [HH.out.1]; omega), e] at h1; exact h1
  ·obtain ⟨hl', e⟩ := List.getElem?_eq_some_iff.1 hy
   rcases h2 with h2 | h2
   ·omega
   ·rw [HH.out.2 _ (by rw [HH.out.1]; omega), e] at h2; exact h2
 have eb : decide (i < zs.length /\ c (zs.getD i x) x = 0) = bA c zs x := by
  rw [Bool.eq_iff_iff, decide_eq_true_iff, hs.there O x, <- ei]
  constructor
  ·rintro ⟨a1, a2⟩
   exact ⟨zs[i], qG a1, by rw [HH.out.2 _ (by rw [HH.out.1]; omega)] at a2; exact a2⟩
  ·rintro ⟨y, hy, hz⟩
   obtain ⟨hl', e⟩ := List.getElem?_eq_some_iff.1 hy
   exact ⟨hl', by rw [HH.out.2 _ (by rw [HH.out.1]; omega), e]; exact hz⟩
 rw [eb, ei]
 have HK := qH hk
 clear hk h1 h2 eb ei hi
 go_wp2
 go_ret2
 exact RetF.mk HK.out (aDq rfl)
theorem mD {P : Program} {S : Nat -> Prop} {w : World} {b : Nat} {ov iv0 iv : Value} {tail : List Value} {te : TypeId} {D : Option Addr × Nat × Nat -> Prop} {c : Option Addr × Nat × Nat -> Option Addr × Nat × Nat -> Int} {zs : List (Option Addr × Nat × Nat)} {M : Nat -> Prop}
 (hB : Blk w b (ov :: iv0 :: tail) te) (hr : Row w 66 1 iv zs.length (zs.map fun x => (Value.slice (x).1 (x).2.1 (x).2.2)) M) (hap : iv.ownBlock ≠ some b) (hS : ∀ k, S k -> k < w.heap.size) (hn : ∀ k, bN b iv k -> ¬ S k)
 (ho : OrdVRow P S w ov D c) (hD : ∀ x ∈ zs, D x) (hl : zs.length ≤ 1048576 * 1048576) : SetAtRow P S (w.setCell ⟨b, 1, none⟩ iv) b ov iv tail te D c zs := by
 have hk : Kp (fun k => k = b) w (w.setCell ⟨b, 1, none⟩ iv) := Kp.setCell (F := fun k => k = b) (Kp.refl w) (fun _ => rfl) iv
 exact ⟨hB.set 1 iv, hr.own.kp hk fun g hg e => hap (by rw [hg, e]), hap, fun k h => Nat.lt_of_lt_of_le (hS k h) hk.size, hn, ho.same (hk.same hS fun k h e => hn k (.inl e) h), hD, hl⟩
end
end Go.Proofs.YtikgpedgmnbcaaaGreatDoor
