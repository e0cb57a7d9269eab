/- Texts joined for a claim (JoinT, JoinL, SearchS, Draw, RangeOwn, JoinV, JoinC, DrawIn, Make, Flat, NoPanic, LawMem, Takes, AggNum, Flow, SwapRow, InsRow, SymLRow, SymRow, SymGRow, SortRow, BinRow, CompactRow, GenRow, SetRow, NewRow, InsertRow). -/
import Derived.Test.YtikgpedgmnbcaaaGreatDoorAk1
import Derived.Deep.QuietTactic
import Derived.Shelf.Abstract
import Derived.BigQuiet
import Derived.Deep.RegionHeld3
import Derived.RangeFuncWrites
import Derived.Laws.MakeOwn
import Derived.Test.YtikgpedgmnbcaaaGreatDoorProg
import Derived.BigRegion
import Derived.StillTailTactics
import Derived.Deep.DeepCutAuto
import Derived.Deep.RegionWith
set_option linter.unusedVariables false
set_option linter.unusedSimpArgs false
set_option maxRecDepth 100000
namespace Go.Proofs.YtikgpedgmnbcaaaGreatDoor
section
open Go.RowKit
abbrev vQ (k : Int) (s : ByteArray) : Value := .agg #[.int .i64 k, .string s]
def aK1 (f : FuncId) (first captured : Array Value) (w0 : World) (q : aE -> Bool) : Prop :=
 (∀ args w, (callFunc f args).run Tryz.prog w = .ok (Next.enter f args) w) /\ ∀ w, Ext w0 w -> ∀ (k : Int) (s : ByteArray), Calls Tryz.prog f (first.push (vQ k s) ++ captured) w (RetN w fun w' v => v = .bool (q (k, s, ())))
def NoneT (w0 : World) (ts : List aE) (q : aE -> Bool) (n : Nat) (iv : Value) (w : World) : Prop := ∃ i : Nat, i ≤ n /\ iv = .int .i64 i /\ Hid (∀ (j : Nat) u, j < i -> ts[j]? = some u -> q u = false) /\ Hid (Ext w0 w)
theorem qM {α : Type} {l : List α} {q : α -> Bool} {n : Nat} (hn : n = l.length) (h : ∀ (j : Nat) u, j < n -> l[j]? = some u -> q u = false) : l.any q = false := by
 rw [List.any_eq_false]
 intro t ht
 obtain ⟨j, hj, rfl⟩ := List.mem_iff_getElem.1 ht
 rw [h j _ (by omega) (qG hj)]; decide
theorem mR {α : Type} {l : List α} {q : α -> Bool} {i : Nat} {u : α} (h : l[i]? = some u) (hq : q u = true) : l.any q = true := List.any_eq_true.2 ⟨u, List.mem_of_getElem? h, hq⟩
set_option maxHeartbeats 1000000 in
theorem aDq (ts : List aE) (ao : Option Addr) (n cap : Nat) (f : FuncId) (first captured : Array Value) (q : aE -> Bool) (w : World) (G : Nat -> Prop) (hn : n = ts.length) (h : aQ w G ao ts) (hq : aK1 f first captured w q) (hl : n ≤ 4611686018427387904) :
 Calls Tryz.prog 62 #[.slice ao n cap, .func (Fn.func f) first captured] w (RetN w fun w' v => ∃ z : Int, v = .int .i64 z /\ decide (0 ≤ z) = ts.any q) := by
 have HN := qH hn; have HE := qH h; clear hn h
 have hent := hq.1
 have HQ := qH hq.2; clear hq
 go_enter Tryz.func62, Tryz.ntmps62
 go_wp2
 go_loopw [8] (fun iv wr => NoneT w ts q n iv wr) (fun iv _ => n - (intOf iv).toNat)
 case atStart => exact ⟨0, Nat.zero_le _, rfl, fun j u h => by omega, Kp.refl w⟩
 case round =>
  obtain ⟨i, hi, rfl, hno, hex⟩ := hrel
  by_cases hlt : i < n
  ·have hlt' : i < ts.length := by rw [<- HN.out]; exact hlt
   obtain ⟨t, ht⟩ : ∃ t, ts[i]? = some t := ⟨_, qG hlt'⟩
   obtain ⟨b, off, eao, hc0, hc1, _⟩ := fG (HE.out.ext hex.out) ht
   subst eao
   obtain ⟨k, s, ⟨⟩⟩ := t
   simp only at hc0 hc1
   have HC := qH (HQ.out wr hex.out k s)
   obtain ⟨r, er⟩ : ∃ r : Bool, q (k, s, ()) = r := ⟨_, rfl⟩
   rw [er] at HC
   have HT := qH (And.intro ht er)
   clear ht hlt' er
   cases r
   ·go_wp2_with fail
    refine HC.out.mono ?_
    rintro e w1 ⟨v, rfl, hk1, rfl⟩
    have HX := qH (hex.out.trans hk1); clear hk1 hc0 hc1
    go_wp2
    go_roundw
    case rel =>
     refine ⟨i + 1, by omega, by first | rfl | (congr 1; done) | (congr 1; omega), fun j u hj hu => ?_, HX⟩
     by_cases e : j = i
     ·subst e; rw [HT.out.1] at hu; cases hu; exact HT.out.2
     ·exact hno.out j u (by omega) hu
    case measure => simp [intOf]; omega
   ·go_wp2_with fail
    refine HC.out.mono ?_
    rintro e w1 ⟨v, rfl, hk1, rfl⟩
    have HX := qH (hex.out.trans hk1); clear hk1 hc0 hc1
    go_wp2
    go_ret
    exact RetN.mk HX.out ⟨i, rfl, by rw [mR HT.out.1 HT.out.2]; simp⟩
  ·go_wp2
   go_ret
   exact RetN.mk hex.out ⟨-1, rfl, by rw [qM HN.out fun j u hj => hno.out j u (by omega)]; decide⟩
theorem nN (ts : List aE) (ao : Option Addr) (n cap : Nat) (f : FuncId) (first captured : Array Value) (q : aE -> Bool) (w : World) (G : Nat -> Prop) (hn : n = ts.length) (h : aQ w G ao ts) (hq : aK1 f first captured w q) (hl : n ≤ 4611686018427387904) :
 Calls Tryz.prog 110 #[.slice ao n cap, .func (Fn.func f) first captured] w (RetN w fun w' v => v = .bool (ts.any q)) := by
 have HI := qH (aDq ts ao n cap f first captured q w G hn h hq hl)
 clear hn h hq hl
 go_enter Tryz.func110, Tryz.ntmps110
 go_wp2_with fail
 refine HI.out.mono ?_
 rintro e w1 ⟨v, rfl, hk, z, rfl, hz⟩
 go_wp2
 go_ret
 exact RetN.mk hk (congrArg Value.bool (by first | exact hz | simp [<- hz]))
theorem yE (k : Int) (s : ByteArray) (w : World) : Calls Tryz.prog 195 #[vQ k s] w (RetN w fun w' v => v = .bool (decide (k < 1 \/ 3 < k))) := by
 by_cases h1 : k < 1
 ·go_enter Tryz.func195, Tryz.ntmps195
  go_wp2
  go_ret
  exact RetN.mk ((Kp.refl w).alloc _) (by simp [h1])
 ·go_enter Tryz.func195, Tryz.ntmps195
  go_wp2
  go_ret
  exact RetN.mk ((Kp.refl w).alloc _) (by simp; omega)
theorem aGd (ts : List aE) (up : Int) : (!ts.any fun t => decide (t.1 < 1 \/ up < t.1)) = kinds ts up := by
 unfold kinds
 induction ts with
 | nil => rfl
 | cons t ts ih =>
  rw [List.any_cons, List.all_cons, <- ih, Bool.not_or]
  congr 1
  rw [<- decide_not]
  apply decide_eq_decide.2; omega
theorem sO (ts : List aE) (ao : Option Addr) (n cap : Nat) (w : World) (G : Nat -> Prop) (hn : n = ts.length) (h : aQ w G ao ts) (hl : n ≤ 4611686018427387904) :
 Calls Tryz.prog 158 #[.slice ao n cap] w (RetN w fun w' v => v = .bool (kinds ts 3)) := by
 have HI := qH (nN ts ao n cap 195 #[] #[] (fun t => decide (t.1 < 1 \/ 3 < t.1)) w G hn h ⟨enters_of Tryz.func195 (by kernel_rfl) rfl, fun w' _ k s => yE k s w'⟩ hl)
 clear hn h hl
 go_enter Tryz.func158, Tryz.ntmps158
 go_wp2_with fail
 refine HI.out.mono ?_
 rintro e w1 ⟨v, rfl, hk, rfl⟩
 go_wp2
 go_ret
 exact RetN.mk hk (congrArg Value.bool (by rw [<- aGd ts 3]; simp))
def aLo (w0 : World) (ts : List aE) (n : Nat) (iv av : Value) (w : World) : Prop := ∃ i a : Nat, i ≤ n /\ a ≤ i /\ iv = .int .i64 i /\ av = .int .i64 a /\ Hid (kinds (ts.take i) 7 = true /\ a = rU (ts.take i)) /\ Hid (Ext w0 w)
theorem tO {ts : List aE} {i : Nat} {t : aE} (up : Int) (h : ts[i]? = some t) : kinds (ts.take (i + 1)) up = (kinds (ts.take i) up && decide (1 ≤ t.1 /\ t.1 ≤ up)) := by
 unfold kinds; rw [List.take_add_one, h, List.all_append]; simp
theorem xQ {ts : List aE} {i : Nat} {t : aE} (h : ts[i]? = some t) : rU (ts.take (i + 1)) = rU (ts.take i) + if 4 ≤ t.1 then 1 else 0 := by
 unfold rU; rw [List.take_add_one, h, List.countP_append]
 congr 1
 by_cases h4 : 4 ≤ t.1 <;> simp [h4]
theorem qZ {ts : List aE} {i : Nat} {t : aE} {up : Int} (h : ts[i]? = some t) (ht : ¬ (1 ≤ t.1 /\ t.1 ≤ up)) : kinds ts up = false := by
 unfold kinds
 rw [List.all_eq_false]
 exact ⟨t, List.mem_of_getElem? h, by simp only [decide_eq_true_eq]; exact ht⟩
set_option maxHeartbeats 1000000 in
theorem aIq (ts : List aE) (ao : Option Addr) (n cap : Nat) (w : World) (G : Nat -> Prop) (hn : n = ts.length) (h : aQ w G ao ts) (hl : n ≤ 1048576) :
 Calls Tryz.prog 105 #[.slice ao n cap] w (RetN w fun w' v => v = .bool (iS ts)) := by
 have HN := qH hn; have HE := qH h; clear hn h
 go_enter Tryz.func105, Tryz.ntmps105
 go_wp2
 go_loopw [8, 3] (fun iv av wr => aLo w ts n iv av wr) (fun iv _ _ => n - (intOf iv).toNat)
 case atStart => exact ⟨0, 0, Nat.zero_le _, Nat.le_refl _, rfl, rfl, ⟨rfl, rfl⟩, Kp.refl w⟩
 case round =>
  obtain ⟨i, a, hi, hai, rfl, rfl, hst, hex⟩ := hrel
  by_cases hlt : i < n
  ·have hlt' : i < ts.length := by rw [<- HN.out]; exact hlt
   obtain ⟨t, ht⟩ : ∃ t, ts[i]? = some t := ⟨_, qG hlt'⟩
   obtain ⟨b, off, eao, hc0, hc1, _⟩ := fG (HE.out.ext hex.out) ht
   subst eao
   obtain ⟨k, s, ⟨⟩⟩ := t
   simp only at hc0 hc1
   have HT := qH ht
   clear ht hlt'
   by_cases h1 : k < 1
   ·go_wp2
    go_ret
    exact RetN.mk (by first | exact hex.out.alloc _ | exact (hex.out.alloc _).drew) (by rw [iS, qZ HT.out (up := 7) (by simp only; omega)]; rfl)
   ·by_cases h7 : 7 < k
    ·go_wp2
     go_ret
     exact RetN.mk (by first | exact hex.out.alloc _ | exact (hex.out.alloc _).drew) (by rw [iS, qZ HT.out (up := 7) (by simp only; omega)]; rfl)
    ·by_cases h4 : 4 ≤ k
     ·go_wp2
      go_roundw
      case rel =>
       refine ⟨i + 1, a + 1, by omega, by omega, by first | rfl | (congr 1; done) | (congr 1; omega), by first | rfl | (congr 1; done) | (congr 1; omega), ⟨?_, ?_⟩, by first | exact hex.out.alloc _ | exact (hex.out.alloc _).drew⟩
       ·rw [tO 7 HT.out, hst.out.1]; simp; omega
       ·rw [xQ HT.out, <- hst.out.2]; simp [h4]
      case measure => simp [intOf]; omega
     ·go_wp2
      go_roundw
      case rel =>
       refine ⟨i + 1, a, by omega, by omega, by first | rfl | (congr 1; done) | (congr 1; omega), by first | rfl | trivial, ⟨?_, ?_⟩, by first | exact hex.out.alloc _ | exact (hex.out.alloc _).drew⟩
       ·rw [tO 7 HT.out, hst.out.1]; simp; omega
       ·rw [xQ HT.out, <- hst.out.2]; simp [h4]
      case measure => simp [intOf]; omega
  ·have e : ts.take i = ts := List.take_of_length_le (by have := HN.out; omega)
   have HS := qH (And.intro hst.out e)
   have HN2 := qH (show n = ts.length from HN.out)
   by_cases h2 : a < 2
   ·by_cases h64 : n ≤ 64
    ·have h64' : (n : Int) ≤ 64 := by omega
     go_wp2
     go_ret
     refine RetN.mk hex.out ?_
     obtain ⟨⟨g1, g2⟩, g3⟩ := HS.out
     rw [g3] at g1 g2
     have g4 := HN2.out
     unfold iS; rw [g1, <- g2, <- g4]; simp [h2, h64]
    ·have h64' : ¬ (n : Int) ≤ 64 := by omega
     go_wp2
     go_ret
     refine RetN.mk hex.out ?_
     obtain ⟨⟨g1, g2⟩, g3⟩ := HS.out
     rw [g3] at g1 g2
     have g4 := HN2.out
     unfold iS; rw [g1, <- g2, <- g4]; simp [h64]
   ·go_wp2
    go_ret
    refine RetN.mk hex.out ?_
    obtain ⟨⟨g1, g2⟩, g3⟩ := HS.out
    rw [g3] at g1 g2
    have g4 := HN2.out
    unfold iS; rw [g1, <- g2, <- g4]; simp [h2]
theorem aFp (w : World) (k1 : Int) (s1 : ByteArray) (k2 : Int) (s2 : ByteArray) (h1 : (Lit.int .i64 k1).wf = true) (h2 : (Lit.int .i64 k2).wf = true) (g1 : s1.size ≤ maxLen) (g2 : s2.size ≤ maxLen) (e : TypeId) :
 aQ (w.alloc (.cells #[.int .i64 k1, .string s1, .int .i64 k2, .string s2] e)) (fun _ => True) (some ⟨w.heap.size, 0, none⟩) [(k1, s1, ()), (k2, s2, ())] := by
 have hB := Blk.new w [.int .i64 k1, .string s1, .int .i64 k2, .string s2] e
 have hlt := hB.lt
 intro i x hx
 match i, hx with
 | 0, hx =>
  cases hx
  refine ⟨_, 0, [.int .i64 k1, .string s1], rfl, trivial, hlt, ⟨[.int .i64 k1], [.string s1], rfl, ⟨rfl, h1⟩, [.string s1], [], rfl, ⟨rfl, g1⟩, rfl⟩, fun c u hu => ?_⟩
  match c, hu with
  | 0, hu => cases hu; exact hB.cell 0 (by simp)
  | 1, hu => cases hu; exact hB.cell 1 (by simp)
 | 1, hx =>
  cases hx
  refine ⟨_, 0, [.int .i64 k2, .string s2], rfl, trivial, hlt, ⟨[.int .i64 k2], [.string s2], rfl, ⟨rfl, h2⟩, [.string s2], [], rfl, ⟨rfl, g2⟩, rfl⟩, fun c u hu => ?_⟩
  match c, hu with
  | 0, hu => cases hu; exact hB.cell 2 (by simp)
  | 1, hu => cases hu; exact hB.cell 3 (by simp)
structure LitFit (l : aO) : Prop where
 left : (Lit.int .i64 (leftOf l).1).wf = true /\ (leftOf l).2.1.size ≤ maxLen
 right : (Lit.int .i64 (aY l).1).wf = true /\ (aY l).2.1.size ≤ maxLen
set_option maxHeartbeats 1000000 in
theorem aAz (k : Int) (p : ByteArray) (ts : List aE) (a : Option Addr) (n cap : Nat) (op lk : Int) (lt : ByteArray) (rk : Int) (rt : ByteArray) (w : World) (G : Nat -> Prop) (hn : n = ts.length) (h : aQ w G a ts) (hl : n ≤ 1048576)
 (g1 : (Lit.int .i64 lk).wf = true) (g2 : lt.size ≤ maxLen) (g3 : (Lit.int .i64 rk).wf = true) (g4 : rt.size ≤ maxLen) :
 Calls Tryz.prog 106 #[litV k p a n cap op lk lt rk rt] w (RetN w fun w' v => v = .bool (jV (k, (p, ts, ()), op, (lk, lt, ()), (rk, rt, ()), ()))) := by
 have HN := qH hn; have HE := qH h
 have HG := qH (And.intro (And.intro g1 g2) (And.intro g3 g4)); clear g1 g2 g3 g4
 have HS := qH (fun (W : World) (hW : Ext w W) => sO ts a n cap W G hn (h.ext hW) (by omega))
 clear hn h
 have pos : ∀ k, k = 1 \/ k = 2 -> jV (k, (p, ts, ()), op, (lk, lt, ()), (rk, rt, ()), ()) = (decide (ts.length ≤ 64) && kinds ts 3) := fun k hk => by unfold jV; rw [if_pos hk]
 have cmp : jV (3, (p, ts, ()), op, (lk, lt, ()), (rk, rt, ()), ()) = (decide (1 ≤ op /\ op ≤ 4) && kinds [(lk, lt, ()), (rk, rt, ())] 3) := by unfold jV; rw [if_neg (by rintro (h | h) <;> cases h), if_pos rfl]
 have HP := qH (And.intro pos cmp); clear pos cmp
 by_cases hk1 : k = 1 \/ k = 2
 ·by_cases h64 : n ≤ 64
  ·have h64' : (n : Int) ≤ 64 := by omega
   rcases hk1 with rfl | rfl
   all_goals
    go_enter Tryz.func106, Tryz.ntmps106
    go_wp2_with fail
    refine (HS.out _ ((Kp.refl w).alloc _)).mono ?_
    rintro e w1 ⟨v, rfl, hk, rfl⟩
    go_wp2
    go_ret
    refine RetN.mk (((Kp.refl w).alloc _).trans hk) ?_
    have g := HN.out
    rw [HP.out.1 _ (by first | exact .inl rfl | exact .inr rfl), <- g]; simp [h64]
  ·have h64' : ¬ (n : Int) ≤ 64 := by omega
   rcases hk1 with rfl | rfl
   all_goals
    go_enter Tryz.func106, Tryz.ntmps106
    go_wp2
    go_ret
    refine RetN.mk ((Kp.refl w).alloc _) ?_
    have g := HN.out
    rw [HP.out.1 _ (by first | exact .inl rfl | exact .inr rfl), <- g]; simp [h64]
 ·have n1 : k ≠ 1 := fun e => hk1 (.inl e)
  have n2 : k ≠ 2 := fun e => hk1 (.inr e)
  by_cases h3 : k = 3
  ·subst h3
   clear hk1 n1 n2
   by_cases o1 : 1 ≤ op
   ·by_cases o4 : op ≤ 4
    ·have HT := qH (fun (W : World) (g : Nat) (hg : g = W.heap.size) => sO [(lk, lt, ()), (rk, rt, ())] (some ⟨g, 0, none⟩) 2 2 _ _ rfl (hg ▸ aFp W lk lt rk rt HG.out.1.1 HG.out.2.1 HG.out.1.2 HG.out.2.2 58) (by decide))
     go_enter Tryz.func106, Tryz.ntmps106
     go_wp2_with fail
     refine (HT.out _ _ (aK _ _).symm).mono ?_
     rintro e w1 ⟨v, rfl, hk, rfl⟩
     go_wp2
     go_ret
     refine RetN.mk ((((Kp.refl w).alloc _).alloc _).trans hk) ?_
     rw [HP.out.2, decide_eq_true (And.intro o1 o4)]; rfl
    ·go_enter Tryz.func106, Tryz.ntmps106
     go_wp2
     go_ret
     refine RetN.mk ((Kp.refl w).alloc _) ?_
     rw [HP.out.2, decide_eq_false (by omega)]; rfl
   ·go_enter Tryz.func106, Tryz.ntmps106
    go_wp2
    go_ret
    refine RetN.mk ((Kp.refl w).alloc _) ?_
    rw [HP.out.2, decide_eq_false (by omega)]; rfl
  ·go_enter Tryz.func106, Tryz.ntmps106
   go_wp2
   go_ret
   refine RetN.mk ((Kp.refl w).alloc _) ?_
   unfold jV; rw [if_neg hk1, if_neg h3]; rfl
def aK4 (w0 : World) (ss : List ByteArray) (s : ByteArray) (n : Nat) (iv : Value) (w : World) : Prop := ∃ i : Nat, i ≤ n /\ iv = .int .i64 i /\ Hid (∀ (j : Nat) u, j < i -> ss[j]? = some u -> decide (u = s) = false) /\ Hid (Ext w0 w)
set_option maxHeartbeats 1000000 in
theorem aDr (ss : List ByteArray) (s : ByteArray) (ao : Option Addr) (n cap : Nat) (w : World) (hn : n = ss.length) (h : CellsAt w ao (strs ss)) (hl : n ≤ 4611686018427387904) :
 Calls Tryz.prog 114 #[.slice ao n cap, .string s] w (RetN w fun w' v => ∃ z : Int, v = .int .i64 z /\ decide (0 ≤ z) = kC ss s) := by
 have HN := qH hn; have HE := qH h; clear hn h
 go_enter Tryz.func114, Tryz.ntmps114
 go_wp2
 go_loopw [8] (fun iv wr => aK4 w ss s n iv wr) (fun iv _ => n - (intOf iv).toNat)
 case atStart => exact ⟨0, Nat.zero_le _, rfl, fun j u h => by omega, Kp.refl w⟩
 case round =>
  obtain ⟨i, hi, rfl, hno, hex⟩ := hrel
  by_cases hlt : i < n
  ·have hlt' : i < ss.length := by rw [<- HN.out]; exact hlt
   obtain ⟨b, off, eao, hc0⟩ := (HE.out.ext hex.out).str hlt'
   subst eao
   have ht : ss[i]? = some ss[i] := qG hlt'
   generalize ss[i] = u at *
   by_cases hu : s = u
   ·have HT := qH (And.intro ht hu)
    clear ht hlt'
    subst hu
    have hb := str_eq s
    go_wp2
    go_ret
    exact RetN.mk hex.out ⟨i, rfl, by unfold kC; rw [mR HT.out.1 (by simp)]; simp⟩
   ·have HT := qH (And.intro ht hu)
    have hb := kO hu
    clear ht hlt' hu
    go_wp2
    go_roundw
    case rel =>
     refine ⟨i + 1, by omega, by first | rfl | (congr 1; done) | (congr 1; omega), fun j u hj hu => ?_, hex⟩
     by_cases e : j = i
     ·subst e; rw [HT.out.1] at hu; cases hu; exact decide_eq_false (fun e => HT.out.2 e.symm)
     ·exact hno.out j u (by omega) hu
    case measure => simp [intOf]; omega
  ·go_wp2
   go_ret
   exact RetN.mk hex.out ⟨-1, rfl, by unfold kC; rw [qM HN.out fun j u hj => hno.out j u (by omega)]; decide⟩
theorem nO (ss : List ByteArray) (s : ByteArray) (ao : Option Addr) (n cap : Nat) (w : World) (hn : n = ss.length) (h : CellsAt w ao (strs ss)) (hl : n ≤ 4611686018427387904) :
 Calls Tryz.prog 109 #[.slice ao n cap, .string s] w (RetN w fun w' v => v = .bool (kC ss s)) := by
 have HI := qH (aDr ss s ao n cap w hn h hl)
 clear hn h hl
 go_enter Tryz.func109, Tryz.ntmps109
 go_wp2_with fail
 refine HI.out.mono ?_
 rintro e w1 ⟨v, rfl, hk, z, rfl, hz⟩
 go_wp2
 go_ret
 exact RetN.mk hk (congrArg Value.bool (by first | exact hz | simp [<- hz]))
theorem qF (ao : Option Addr) (n cap : Nat) (w : World) (h : n ≤ cap) :
 Calls Tryz.prog 159 #[.slice ao n cap] w (RetN w fun w' v => v = .slice ao n n) := by
 have h1 : (n : Int) ≤ (cap : Int) := by omega
 go_enter Tryz.func159, Tryz.ntmps159
 go_wp2
 go_ret
 exact RetN.mk (Kp.refl _) (by first | rfl | simp)
theorem mE (s t : ByteArray) (w : World) : Calls Tryz.prog 269 #[.string s, .string t] w (Ret (.bool (Op.bytesLess s.toList t.toList)) w) := by
 cases h : Op.bytesLess s.toList t.toList
 ·go_enter Tryz.func269, Tryz.ntmps269
  go_wp2_with (go_at_call 220; (with_reducible refine (jZ _ _).mono ?_); rintro e w' ⟨rfl, rfl⟩)
  go_ret
  exact Ret.mk rfl
 ·go_enter Tryz.func269, Tryz.ntmps269
  go_wp2_with (go_at_call 220; (with_reducible refine (jZ _ _).mono ?_); rintro e w' ⟨rfl, rfl⟩)
  go_ret
  exact Ret.mk rfl
theorem tY (s : ByteArray) (w : World) : Calls Tryz.prog 270 #[.string s] w (Ret (.bool false) w) := by
 go_enter Tryz.func270, Tryz.ntmps270
 go_wp2
 go_ret
 exact Ret.mk (by simp)
theorem aJw {a b : ByteArray} (h : ¬ a = b) : (a.toList == b.toList) = false := by
 cases hb : (a.toList == b.toList) with
 | false => rfl
 | true => exact absurd (dQ (eq_of_beq hb)) h
theorem aJx (a : ByteArray) : (a.toList == a.toList) = true := by simp
def SeekB (xs : List ByteArray) (t : ByteArray) (n : Nat) (w0 : World) (iv jv : Value) (w : World) : Prop :=
 ∃ i j : Nat, i ≤ j /\ j ≤ n /\ iv = .int .i64 i /\ jv = .int .i64 j /\ Hid ((∀ x, 0 < i -> xs[i - 1]? = some x -> bE x.toList t.toList < 0) /\ ∀ x, xs[j]? = some x -> 0 ≤ bE x.toList t.toList) /\ Hid (Ext w0 w)
def aKl (xs : List ByteArray) (t : ByteArray) (n : Nat) (_ : World) (v : Value) : Prop := ∃ (i : Nat) (b : Bool), v = .tuple #[.int .i64 i, .bool b] /\ i ≤ n /\ (∀ x, 0 < i -> xs[i - 1]? = some x -> bE x.toList t.toList < 0) /\ ∀ x, xs[i]? = some x -> 0 ≤ bE x.toList t.toList
set_option maxHeartbeats 2000000 in
theorem lS (xs : List ByteArray) (t : ByteArray) (ao : Option Addr) (n cap : Nat) (w : World) (hn : n = xs.length) (h : CellsAt w ao (strs xs)) (hl : n ≤ 4611686018427387904) :
 Calls Tryz.prog 259 #[.slice ao n cap, .string t] w (RetN w (aKl xs t n)) := by
 have HN := qH hn
 have HC := qH h
 clear hn h
 go_enter Tryz.func259, Tryz.ntmps259
 go_wp2
 go_loopw [7, 8] (fun iv jv wr => SeekB xs t n w iv jv wr) (fun iv jv _ => (intOf jv).toNat - (intOf iv).toNat)
 case atStart => exact ⟨0, n, Nat.zero_le _, Nat.le_refl _, rfl, rfl, qH ⟨fun x hx => by omega, fun x hx => by have := (List.getElem?_eq_some_iff.1 hx).1; have := HN.out; omega⟩, qH (Kp.refl _)⟩
 case round =>
  obtain ⟨i, j, hij, hj, rfl, rfl, hb, hex⟩ := hrel
  by_cases hlt : i < j
  ·obtain ⟨m, em⟩ : ∃ m, m = (i + j) / 2 := ⟨_, rfl⟩
   have rm : ((i : Int) + j) / 2 = (m : Int) := by omega
   have h1 : i ≤ m := by omega
   have h2 : m < j := by omega
   clear em
   obtain ⟨x, hx⟩ : ∃ x, xs[m]? = some x := ⟨_, qG (by have := HN.out; omega)⟩
   obtain ⟨bk, off, eao, c0⟩ := HC.out m (.string x) (by simp [strs, hx])
   subst eao
   replace c0 := hex.out.cell c0 id
   have HX := qH hx
   clear hx
   by_cases hc : Op.bytesLess x.toList t.toList = true
   ·have HL := qH (mE x t wr)
    rw [hc] at HL
    have HCm := qH (eO.2 hc)
    clear hc
    go_wp2_with fail
    refine HL.out.mono ?_
    rintro e w' ⟨rfl, rfl⟩
    go_wp2
    go_roundw
    case rel => exact ⟨m + 1, j, by omega, hj, by first | rfl | (congr 1; done) | (congr 1; omega), rfl, qH ⟨fun y _ hy => by rw [Nat.add_sub_cancel, HX.out] at hy; cases hy; exact HCm.out, hb.out.2⟩, hex⟩
    case measure => simp [intOf]; omega
   ·have HL := qH (mE x t wr)
    rw [Bool.not_eq_true] at hc
    rw [hc] at HL
    have HCm := qH (show 0 ≤ bE x.toList t.toList from Int.not_lt.1 fun h => by rw [eO, hc] at h; cases h)
    clear hc
    go_wp2_with fail
    refine HL.out.mono ?_
    rintro e w' ⟨rfl, rfl⟩
    go_wp2
    go_roundw
    case rel => exact ⟨i, m, by omega, by omega, rfl, by first | rfl | (congr 1; done) | (congr 1; omega), qH ⟨hb.out.1, fun y hy => by rw [HX.out] at hy; cases hy; exact HCm.out⟩, hex⟩
    case measure => simp [intOf]; omega
  ·have eij : i = j := by omega
   subst eij
   by_cases hin : i < n
   ·obtain ⟨x, hx⟩ : ∃ x, xs[i]? = some x := ⟨_, qG (by have := HN.out; omega)⟩
    obtain ⟨bk, off, eao, c0⟩ := HC.out i (.string x) (by simp [strs, hx])
    subst eao
    replace c0 := hex.out.cell c0 id
    have HI := qH hij
    clear hx hij
    by_cases he : x = t
    ·subst he
     have hq := aJx x
     go_wp2_with (go_at_call 270; (with_reducible refine (tY _ _).mono ?_); rintro e w' ⟨rfl, rfl⟩)
     go_ret2
     exact RetN.mk hex.out ⟨i, _, rfl, hj, hb.out.1, hb.out.2⟩
    ·have hq := aJw he
     clear he
     go_wp2_with (go_at_call 270; (with_reducible refine (tY _ _).mono ?_); rintro e w' ⟨rfl, rfl⟩)
     go_ret2
     exact RetN.mk hex.out ⟨i, _, rfl, hj, hb.out.1, hb.out.2⟩
   ·go_wp2
    go_ret2
    exact RetN.mk hex.out ⟨i, _, rfl, hj, hb.out.1, hb.out.2⟩
end
section
section
variable {P : Program} {ops : Array Oper} {Q : Exit -> Act -> World -> Prop} {md : Region.Mode} {S : World -> Prop} {lates : List Nat}
def dS (lates : List Nat) (listed : Array Bool) : Bool := lates.all fun d => !listed.getD d true
def bZ (P : Program) (md : Region.Mode) (ops : Array Oper) (Q : Exit -> Act -> World -> Prop) (S : World -> Prop) (lates : List Nat) : Nat -> Array Bool -> Act -> World -> Prop
 | 0, listed, a, w => Region.ready md ops listed = [] /\ Q .normal a w
 | fuel + 1, listed, a, w => (Region.ready md ops listed = [] -> Q .normal a w) /\
  ∀ i ∈ Region.ready md ops listed, wpOp P ops Q i (fun a' w' => (dS lates (listed.setIfInBounds i true) = true -> S w') /\ bZ P md ops Q S lates fuel (listed.setIfInBounds i true) a' w') a w
theorem nS : ∀ (fuel : Nat) (listed : Array Bool) (a : Act) (w : World), bZ P md ops Q S lates fuel listed a w -> wpAny P md ops Q fuel listed a w
 | 0, _, _, _, h => h
 | fuel + 1, _, _, _, h => ⟨h.1, fun i hi => wpOp_mono (fun a' w' h' => nS fuel _ a' w' h'.2) (h.2 i hi)⟩
def aEx (md : Region.Mode) (ops : Array Oper) (i : Nat) : List Nat :=
 (List.range ops.size).foldl (fun D j => if j == i || (match ops[j]? with | some o => o.after.any (fun e => Region.binds md e && D.contains e.on) | none => false) then j :: D else D) []
def xZ (md : Region.Mode) (ops : Array Oper) (listed : Array Bool) (lates : List Nat) (i : Nat) (D : List Nat) : Bool :=
 lates.all (fun d => D.contains d && d != i) && D.all fun d => !listed.getD d true && (d == i || match ops[d]? with | some o => o.after.any (fun e => Region.binds md e && D.contains e.on) | none => false)
theorem aCt {listed : Array Bool} {i : Nat} {D : List Nat} (h : xZ md ops listed lates i D = true) :
 (∀ d ∈ lates, d ∈ D /\ d ≠ i) /\ (∀ d ∈ D, listed.getD d true = false) /\ ∀ d ∈ D, d ≠ i -> ∀ o, ops[d]? = some o -> ∃ e ∈ o.after, Region.binds md e = true /\ e.on ∈ D := by
 unfold xZ at h
 rw [Bool.and_eq_true, List.all_eq_true, List.all_eq_true] at h
 refine ⟨fun d hd => ?_, fun d hd => ?_, fun d hd hne o ho => ?_⟩
 ·have := h.1 d hd
  simp only [Bool.and_eq_true, List.contains_iff_mem, bne_iff_ne, ne_eq] at this
  exact this
 ·have := h.2 d hd
  rw [Bool.and_eq_true] at this
  simpa using this.1
 ·have h1 := h.2 d hd
  rw [Bool.and_eq_true, Bool.or_eq_true, ho] at h1
  rcases h1.2 with h2 | h2
  ·exact absurd (by simpa using h2) hne
  ·obtain ⟨e, he, hb⟩ := Array.any_eq_true'.1 h2
   rw [Bool.and_eq_true, List.contains_iff_mem] at hb
   exact ⟨e, he, hb.1, hb.2⟩
theorem aF0 {listed : Array Bool} {D : List Nat} (hl : ∀ d ∈ lates, d ∈ D) (h : ∀ d ∈ D, listed.getD d true = false) : dS lates listed = true := by
 unfold dS
 rw [List.all_eq_true]
 intro d hd
 rw [h d (hl d hd)]; rfl
theorem kY {listed : Array Bool} {i : Nat} (hi : i ∉ lates) : dS lates (listed.setIfInBounds i true) = dS lates listed := by
 unfold dS
 rw [Bool.eq_iff_iff, List.all_eq_true, List.all_eq_true]
 have h : ∀ d ∈ lates, (listed.setIfInBounds i true).getD d true = listed.getD d true := fun d hd => getD_set_ne true (fun e => hi (e ▸ hd))
 exact ⟨fun k d hd => by rw [<- h d hd]; exact k d hd, fun k d hd => by rw [h d hd]; exact k d hd⟩
theorem xY {i : Nat} {oi : Oper} {v : Value} {D : List Nat} (hi : ops[i]? = some oi) (hsel : ∀ (j : Nat) (o : Oper) cs b, ops[j]? = some o -> o.op ≠ .select cs b)
 (hQ : ∀ c a w, Q (.panic c) (a.put oi.dst v) w -> Q (.panic c) a w) (hl : ∀ d ∈ lates, d ∈ D /\ d ≠ i) (hD : ∀ d ∈ D, d ≠ i -> ∀ o, ops[d]? = some o -> ∃ e ∈ o.after, Region.binds md e = true /\ e.on ∈ D) :
 ∀ (fuel : Nat) (listed : Array Bool) (a : Act) (w : World),
  (∀ j oj, ops[j]? = some oj -> j ≠ i -> listed.getD j true = false -> (∀ e ∈ oj.after, Region.binds md e = true -> e.on ≠ i) -> oi.apart ops oj = true) ->
  (∀ d ∈ D, listed.getD d true = false) ->
  i ∈ Region.ready md ops listed -> YieldsIf P ops S oi v a -> S w ->
  bZ P md ops Q S lates fuel (listed.setIfInBounds i true) (a.put oi.dst v) w -> bZ P md ops Q S lates (fuel + 1) listed a w := by
 have hil : i ∉ lates := fun h => (hl i h).2 rfl
 intro fuel
 induction fuel with
 | zero =>
  intro listed a w _ _ hr hy hS H
  refine ⟨fun h => (by rw [h] at hr; cases hr), fun j hj => ?_⟩
  by_cases hji : j = i
  ·subst hji; exact hy.wpOp hi hS ⟨fun _ => hS, H⟩
  ·have := ready_mono hj hji
   rw [H.1] at this
   cases this
 | succ fuel ih =>
  intro listed a w hfree hun0 hr hy hS H
  refine ⟨fun h => (by rw [h] at hr; cases hr), fun j hj => ?_⟩
  by_cases hji : j = i
  ·subst hji; exact hy.wpOp hi hS ⟨fun _ => hS, H⟩
  ·have h1 := H.2 j (ready_mono hj hji)
   obtain ⟨hjun, oj, hoj, hall⟩ := mem_ready.1 hj
   have hjD : j ∉ D := fun hjd => by
    obtain ⟨e, he, hb, heD⟩ := hD j hjd hji oj hoj
    have h2 := hall e he hb
    have h0 := hun0 e.on heD
    rcases Nat.lt_or_ge e.on listed.size with h' | h'
    ·simp [h'] at h0 h2; rw [h0] at h2; cases h2
    ·simp [Array.getElem?_eq_none h'] at h2
   have hnot : ∀ e ∈ oj.after, Region.binds md e = true -> e.on ≠ i := fun e he hb heq => by
    have h1 := hall e he hb
    have h0 := (mem_ready.1 hr).1
    rw [heq] at h1
    rcases Nat.lt_or_ge i listed.size with h' | h'
    ·simp [h'] at h0 h1; rw [h0] at h1; cases h1
    ·simp [Array.getElem?_eq_none h'] at h1
   have h2 := wpOp_putIf hoj (hfree j oj hoj hji hjun hnot) (fun cs b => hsel i oi cs b hi) (fun cs b => hsel j oj cs b hoj) hQ hy h1
   have hfree' : ∀ k ok, ops[k]? = some ok -> k ≠ i -> (listed.setIfInBounds j true).getD k true = false ->
    (∀ e ∈ ok.after, Region.binds md e = true -> e.on ≠ i) -> oi.apart ops ok = true := fun k ok hk hki hun hno => by
    refine hfree k ok hk hki ?_ hno
    by_cases hjk : j = k
    ·subst hjk; exact hjun
    ·rw [getD_set_ne true hjk] at hun; exact hun
   have hun' : ∀ d ∈ D, (listed.setIfInBounds j true).getD d true = false := fun d hd => by
    rw [getD_set_ne true (fun e : j = d => hjD (e.symm ▸ hd))]; exact hun0 d hd
   have hnl : dS lates (listed.setIfInBounds j true) = true := aF0 (fun d hd => (hl d hd).1) hun'
   have hnl2 : dS lates ((listed.setIfInBounds i true).setIfInBounds j true) = true := by
    rw [Array.setIfInBounds_comm _ _ (Ne.symm hji), kY hil]; exact hnl
   refine wpOp_mono (fun a' w' h3 => ⟨fun _ => h3.2.1 hnl2, ih (listed.setIfInBounds j true) a' w' hfree' hun' (ready_mono hr (Ne.symm hji)) h3.1 (h3.2.1 hnl2) ?_⟩) h2
   rw [Array.setIfInBounds_comm _ _ hji]
   exact h3.2.2
theorem qO {i : Nat} {oi : Oper} {v : Value} (hi : ops[i]? = some oi) (hsel : ∀ (j : Nat) (o : Oper) cs b, ops[j]? = some o -> o.op ≠ .select cs b)
 (hQ : ∀ c a w, Q (.panic c) (a.put oi.dst v) w -> Q (.panic c) a w) (hil : i ∉ lates) :
 ∀ (fuel : Nat) (listed : Array Bool) (a : Act) (w : World),
  (∀ j oj, ops[j]? = some oj -> j ≠ i -> listed.getD j true = false -> (∀ e ∈ oj.after, Region.binds md e = true -> e.on ≠ i) -> oi.apart ops oj = true) ->
  i ∈ Region.ready md ops listed -> YieldsIf P ops (fun _ => True) oi v a -> (dS lates listed = true -> S w) ->
  bZ P md ops Q S lates fuel (listed.setIfInBounds i true) (a.put oi.dst v) w -> bZ P md ops Q S lates (fuel + 1) listed a w := by
 intro fuel
 induction fuel with
 | zero =>
  intro listed a w _ hr hy hS H
  refine ⟨fun h => (by rw [h] at hr; cases hr), fun j hj => ?_⟩
  by_cases hji : j = i
  ·subst hji; exact hy.wpOp hi trivial ⟨fun h => hS (by rw [kY hil] at h; exact h), H⟩
  ·have := ready_mono hj hji
   rw [H.1] at this
   cases this
 | succ fuel ih =>
  intro listed a w hfree hr hy hS H
  refine ⟨fun h => (by rw [h] at hr; cases hr), fun j hj => ?_⟩
  by_cases hji : j = i
  ·subst hji; exact hy.wpOp hi trivial ⟨fun h => hS (by rw [kY hil] at h; exact h), H⟩
  ·have h1 := H.2 j (ready_mono hj hji)
   obtain ⟨hjun, oj, hoj, hall⟩ := mem_ready.1 hj
   have hnot : ∀ e ∈ oj.after, Region.binds md e = true -> e.on ≠ i := fun e he hb heq => by
    have h1 := hall e he hb
    have h0 := (mem_ready.1 hr).1
    rw [heq] at h1
    rcases Nat.lt_or_ge i listed.size with h' | h'
    ·simp [h'] at h0 h1; rw [h0] at h1; cases h1
    ·simp [Array.getElem?_eq_none h'] at h1
   have h2 := wpOp_putIf hoj (hfree j oj hoj hji hjun hnot) (fun cs b => hsel i oi cs b hi) (fun cs b => hsel j oj cs b hoj) hQ hy h1
   have hfree' : ∀ k ok, ops[k]? = some ok -> k ≠ i -> (listed.setIfInBounds j true).getD k true = false ->
    (∀ e ∈ ok.after, Region.binds md e = true -> e.on ≠ i) -> oi.apart ops ok = true := fun k ok hk hki hun hno => by
    refine hfree k ok hk hki ?_ hno
    by_cases hjk : j = k
    ·subst hjk; exact hjun
    ·rw [getD_set_ne true hjk] at hun; exact hun
   have hcm : dS lates (listed.setIfInBounds j true) = true -> dS lates ((listed.setIfInBounds i true).setIfInBounds j true) = true := fun h => by
    rw [Array.setIfInBounds_comm _ _ (Ne.symm hji), kY hil]; exact h
   refine wpOp_mono (fun a' w' h3 => ⟨fun h => h3.2.1 (hcm h), ih (listed.setIfInBounds j true) a' w' hfree' (ready_mono hr (Ne.symm hji)) h3.1 (fun h => h3.2.1 (hcm h)) ?_⟩) h2
   rw [Array.setIfInBounds_comm _ _ hji]
   exact h3.2.2
theorem aN {listed : Array Bool} {a : Act} {w : World} (hr : Region.ready md ops listed = []) (h : Q .normal a w) : ∀ fuel, bZ P md ops Q S lates fuel listed a w
 | 0 => ⟨hr, h⟩
 | _ + 1 => ⟨fun _ => h, by rw [hr]; simp⟩
theorem bC {id : Nat} {a : Act} {w : World} (S : World -> Prop) (lates : List Nat) (hm : P.follows .mixedOrders = true) (hS : S w.drew)
 (h : S w.drew -> bZ P .any ops Q S lates ops.size (Array.replicate ops.size false) a w.drew) : (Code.region id ops true).wp P Q a w :=
 wp_region_any hm (nS _ _ _ _ (h hS))
end
section
variable {P : Program} {l : List Oper} {Q : Exit -> Act -> World -> Prop} {md : Region.Mode} {S : World -> Prop} {lates : List Nat} {fuel : Nat} {listed : Array Bool} {a : Act} {w : World}
theorem sB {p : Prop} {b : Bool} (h : b = false) : b = true -> p := fun e => by rw [h] at e; cases e
theorem and4 {a b c d : Bool} (h : (a && b && c && d) = true) : a = true /\ b = true /\ c = true /\ d = true := by
 cases a <;> cases b <;> cases c <;> cases d <;> simp_all
theorem opAt {i : Nat} {oi : Oper} (hi : l[i]? = some oi) : l.toArray[i]? = some oi := by rw [List.getElem?_toArray]; exact hi
theorem aKd {i : Nat} {oi : Oper} {v : Value} (hi : l[i]? = some oi) (hy : ∀ w, S w -> (execOp a.eval oi).run P w = .ok (.value v) w)
 (h : bZ P md l.toArray Q S lates fuel (listed.setIfInBounds i true) (a.put oi.dst v) w)
 (side : (Region.noSelect l.toArray && Region.free md l.toArray listed i && (Region.ready md l.toArray listed).contains i && xZ md l.toArray listed lates i (aEx md l.toArray i)) = true := by kernel_rfl)
 (hw : Region.wanted oi (yielded l.toArray a.tmps) = true := by rfl) (hQ : ∀ c a w, Q (.panic c) (a.put oi.dst v) w -> Q (.panic c) a w := by exact fun _ _ _ h => h) (hS : S w := by assumption) :
 bZ P md l.toArray Q S lates (fuel + 1) listed a w :=
 let c := and4 side
 let z := aCt c.2.2.2
 xY (opAt hi) (Region.noSelect_spec c.1) hQ z.1 z.2.2 fuel listed a w (Region.free_spec (opAt hi) c.2.1) z.2.1 (by simpa using c.2.2.1) (.inl ⟨hw, hy⟩) hS h
theorem aGs {i : Nat} {oi : Oper} {v : Value} (hi : l[i]? = some oi) (hy : ∀ w, (execOp a.eval oi).run P w = .ok (.value v) w)
 (h : bZ P md l.toArray Q S lates fuel (listed.setIfInBounds i true) (a.put oi.dst v) w)
 (side : (Region.noSelect l.toArray && Region.free md l.toArray listed i && (Region.ready md l.toArray listed).contains i && !lates.contains i) = true := by kernel_rfl)
 (hw : Region.wanted oi (yielded l.toArray a.tmps) = true := by rfl) (hQ : ∀ c a w, Q (.panic c) (a.put oi.dst v) w -> Q (.panic c) a w := by exact fun _ _ _ h => h) (hS : dS lates listed = true -> S w := by first | exact fun _ => by assumption | exact sB (by kernel_rfl)) :
 bZ P md l.toArray Q S lates (fuel + 1) listed a w :=
 let c := and4 side
 qO (opAt hi) (Region.noSelect_spec c.1) hQ (by simpa using c.2.2.2) fuel listed a w (Region.free_spec (opAt hi) c.2.1) (by simpa using c.2.2.1) (.inl ⟨hw, fun w _ => hy w⟩) hS h
theorem aI5 {i : Nat} {oi : Oper} (hi : l[i]? = some oi) (h : bZ P md l.toArray Q S lates fuel (listed.setIfInBounds i true) (a.put oi.dst undef) w)
 (side : (Region.noSelect l.toArray && Region.free md l.toArray listed i && (Region.ready md l.toArray listed).contains i && !lates.contains i) = true := by kernel_rfl)
 (hw : Region.wanted oi (yielded l.toArray a.tmps) = false := by rfl) (hQ : ∀ c a w, Q (.panic c) (a.put oi.dst undef) w -> Q (.panic c) a w := by exact fun _ _ _ h => h) (hS : dS lates listed = true -> S w := by first | exact fun _ => by assumption | exact sB (by kernel_rfl)) :
 bZ P md l.toArray Q S lates (fuel + 1) listed a w :=
 let c := and4 side
 qO (opAt hi) (Region.noSelect_spec c.1) hQ (by simpa using c.2.2.2) fuel listed a w (Region.free_spec (opAt hi) c.2.1) (by simpa using c.2.2.1) (.inr ⟨hw, rfl⟩) hS h
theorem dF (i : Nat) {oi : Oper} {v : Value} (h : bZ P md l.toArray Q S lates fuel (listed.setIfInBounds i true) (a.put oi.dst v) w) (hi : l[i]? = some oi := by rfl)
 (hy : ∀ w, (execOp a.eval oi).run P w = .ok (.value v) w := by (intro w; go_simp; try with_reducible rfl))
 (side : (Region.noSelect l.toArray && Region.free md l.toArray listed i && (Region.ready md l.toArray listed).contains i && !lates.contains i) = true := by kernel_rfl)
 (hw : Region.wanted oi (yielded l.toArray a.tmps) = true := by rfl) (hQ : ∀ c a w, Q (.panic c) (a.put oi.dst v) w -> Q (.panic c) a w := by exact fun _ _ _ h => h) (hS : dS lates listed = true -> S w := by first | exact fun _ => by assumption | exact sB (by kernel_rfl)) :
 bZ P md l.toArray Q S lates (fuel + 1) listed a w := aGs hi hy h side hw hQ hS
theorem dI (i : Nat) {oi : Oper} {v : Value} (h : bZ P md l.toArray Q S lates fuel (listed.setIfInBounds i true) (a.put oi.dst v) w) (hi : l[i]? = some oi := by rfl)
 (hy : ∀ w, S w -> (execOp a.eval oi).run P w = .ok (.value v) w := by (intro w hSw; (try dsimp only at hSw); go_simp; try with_reducible rfl))
 (side : (Region.noSelect l.toArray && Region.free md l.toArray listed i && (Region.ready md l.toArray listed).contains i && xZ md l.toArray listed lates i (aEx md l.toArray i)) = true := by kernel_rfl)
 (hw : Region.wanted oi (yielded l.toArray a.tmps) = true := by rfl) (hQ : ∀ c a w, Q (.panic c) (a.put oi.dst v) w -> Q (.panic c) a w := by exact fun _ _ _ h => h) (hS : S w := by assumption) :
 bZ P md l.toArray Q S lates (fuel + 1) listed a w := aKd hi hy h side hw hQ hS
theorem dO (i : Nat) {oi : Oper} (h : bZ P md l.toArray Q S lates fuel (listed.setIfInBounds i true) (a.put oi.dst undef) w) (hi : l[i]? = some oi := by rfl)
 (side : (Region.noSelect l.toArray && Region.free md l.toArray listed i && (Region.ready md l.toArray listed).contains i && !lates.contains i) = true := by kernel_rfl)
 (hw : Region.wanted oi (yielded l.toArray a.tmps) = false := by rfl) (hQ : ∀ c a w, Q (.panic c) (a.put oi.dst undef) w -> Q (.panic c) a w := by exact fun _ _ _ h => h) (hS : dS lates listed = true -> S w := by first | exact fun _ => by assumption | exact sB (by kernel_rfl)) :
 bZ P md l.toArray Q S lates (fuel + 1) listed a w := aI5 hi h side hw hQ hS
def Comes (P : Program) (md : Region.Mode) (l : List Oper) (Q : Exit -> Act -> World -> Prop) (S : World -> Prop) (lates : List Nat) (fuel : Nat) (listed : Array Bool) (a : Act) (w : World) (i : Nat) : Prop :=
 wpOp P l.toArray Q i (fun a' w' => (dS lates (listed.setIfInBounds i true) = true -> S w') /\ bZ P md l.toArray Q S lates fuel (listed.setIfInBounds i true) a' w') a w
theorem aG {i : Nat} {o : Oper} (ho : l[i]? = some o)
 (h : ∀ K' : Act -> World -> Prop, Shut (∀ a w, S w -> (S w -> bZ P md l.toArray Q S lates fuel (listed.setIfInBounds i true) a w) -> K' a w) -> if Region.wanted o (yielded l.toArray a.tmps) = true then Oper.wp P o a w K' Q else K' (a.put o.dst undef) w) : Comes P md l Q S lates fuel listed a w i :=
 wpOp_step (opAt ho) fun K' hK => h K' fun a w hS hW => hK a w ⟨fun _ => hS, hW hS⟩
theorem aJ {i : Nat} {o : Oper} (ho : l[i]? = some o) (hi : dS lates (listed.setIfInBounds i true) = false)
 (h : ∀ K' : Act -> World -> Prop, Shut (∀ a w, bZ P md l.toArray Q S lates fuel (listed.setIfInBounds i true) a w -> K' a w) -> if Region.wanted o (yielded l.toArray a.tmps) = true then Oper.wp P o a w K' Q else K' (a.put o.dst undef) w) : Comes P md l Q S lates fuel listed a w i :=
 wpOp_step (opAt ho) fun K' hK => h K' fun a w hW => hK a w ⟨fun hn => absurd (hn.symm.trans hi) Bool.noConfusion, hW⟩
theorem aF {i : Nat} (h : Comes P md l Q S lates fuel listed a w i) (hr : Region.ready md l.toArray listed = [i] := by kernel_rfl) : bZ P md l.toArray Q S lates (fuel + 1) listed a w :=
 ⟨fun h0 => absurd (hr ▸ h0) (by simp), fun j hj => by rw [hr] at hj; simp at hj; subst hj; exact h⟩
theorem uO {i k : Nat} (h : Comes P md l Q S lates fuel listed a w i) (h' : Comes P md l Q S lates fuel listed a w k) (hr : Region.ready md l.toArray listed = [i, k] := by kernel_rfl) : bZ P md l.toArray Q S lates (fuel + 1) listed a w :=
 ⟨fun h0 => absurd (hr ▸ h0) (by simp), fun j hj => by
  rw [hr] at hj; simp at hj
  rcases hj with rfl | rfl
  ·exact h
  ·exact h'⟩
theorem aB3 {o : Oper} {K : Act -> World -> Prop} {E : Prop} (hgd : o.guard = none) (s x : Operand) {t1 t2 : TypeId}
 (ho : o.op = .call { callee := .builtin .append, args := #[s, x], argTypes := #[t1, t2] }) {v u v' : Value} {w' : World} (hs : a.eval s = v) (hx : a.eval x = u)
 (hr : (Builtin.append_ #[t1, t2] o.type #[v, u]).run P w = .ok v' w') (h : K (a.put o.dst v') w') :
 if Region.wanted o (yielded l.toArray a.tmps) = true then Oper.wp P o a w K Q else E := by
 have hw : Region.wanted o (yielded l.toArray a.tmps) = true := by simp [Region.wanted, hgd]
 rw [if_pos hw]
 unfold Oper.wp execOp
 simp only [ho, resolve, invoke, builtin, Sem.run_bind, Sem.run_pure, Result.andThen_ok, List.map_toArray, List.map_cons, List.map_nil, hs, hx, hr]
 exact h
end
end
section
open Go.RowKit
def rK (T : Nat -> Prop) (W W' : World) : Nat -> Prop := fun k => T k \/ (W.heap.size ≤ k /\ k < W'.heap.size)
def fU (Z T : Nat -> Prop) : Nat -> Prop := fun k => T k \/ Z k
def uZ {α : Type} (F : Fence) (n : Nat) (P : Program) (g : Nat) (lb : Array Value) (encs : α -> Array Value) (Z : Nat -> Prop) (Gv : World -> (Nat -> Prop) -> World -> α -> Prop) (S Sp : List α -> Prop) (w : World) : Prop :=
 ∀ (l : Nat) (J Jx : (Nat -> Prop) -> List α -> World -> Prop) (W : World), Kp (fun k => ¬ Z k) w W ->
  (∀ T T' pre x W1 W2, J T pre W1 -> Kp T W1 W2 -> (∀ k, T' k -> rK T W1 W2 k) -> Gv W1 T' W2 x -> Sp (pre ++ [x]) -> YieldAt F (n - 1) P l (encs x) W2 fun e W' =>
   (e = .returned (.bool true) /\ J T' (pre ++ [x]) W' /\ Kp (fun k => ¬ fU Z T' k) W2 W') \/ (e = .returned (.bool false) /\ Jx T' (pre ++ [x]) W' /\ Kp (fun k => ¬ fU Z T' k) W2 W')) ->
  J (fun _ => False) [] W ->
  CallsIn F n P g (#[.func (.yield l) #[] #[]] ++ lb) W fun e W' => (∃ v, e = .returned v) /\ ∃ T W1, Kp T W1 W' /\ ((∃ xs, S xs /\ J T xs W1) \/ (∃ pre, Sp pre /\ Jx T pre W1))
def aLg : Exit -> Option (Option Code)
 | .normal => some none
 | .ret => some (some .ret)
 | .exit id => some (some (.exit id))
 | .goto t => some (some (.goto t))
 | .panic _ => none
 | .outgrown => none
def aAn {α : Type} (Z : Nat -> Prop) (B : Nat) (T : Nat -> Prop) (I : (Nat -> Prop) -> List α -> World -> Prop) (Ix : Code -> (Nat -> Prop) -> List α -> World -> Prop) (xs : List α) (W : World) (e : Exit) (_ : Act) (W' : World) : Prop :=
 match aLg e with
 | some none => KeepsFrom B W W' /\ Kp (fun k => ¬ fU Z T k) W W' /\ I T xs W'
 | some (some c) => KeepsFrom B W W' /\ Kp (fun k => ¬ fU Z T k) W W' /\ Ix c T xs W'
 | none => False
structure BookT (b : Nat) (r : Loop) (T : Nat -> Prop) (W : World) : Prop where
 loop : W.heap[b + 1]? = some (.loop r)
 later : W.heap[b]? = some (.deferred (some []))
 off : ∀ k, T k -> k ≠ b /\ k ≠ b + 1
theorem BookT.lt {b : Nat} {r : Loop} {T : Nat -> Prop} {W : World} (h : BookT b r T W) : b + 1 < W.heap.size := (Array.getElem?_eq_some_iff.1 h.loop).1
theorem BookT.step {b : Nat} {r : Loop} {T T' : Nat -> Prop} {W W' : World} (h : BookT b r T W) (hs : Kp T W W') (hT : ∀ k, T' k -> rK T W W' k) : BookT b r T' W' := by
 have hl := h.lt
 refine ⟨(hs.block _ hl fun e => (h.off _ e).2 rfl).trans h.loop, (hs.block _ (by omega) fun e => (h.off _ e).1 rfl).trans h.later, fun k hk => ?_⟩
 rcases hT k hk with hk | hk
 ·exact h.off k hk
 ·omega
theorem Kp.putF {F : Nat -> Prop} {W : World} {l : Nat} (hF : F l) (o : Obj) : Kp F W (W.putObj l o) :=
 ⟨rfl, rfl, rfl, by simp [World.putObj], fun k hk hf => World.putObj_heap_other (fun e => hf (by rw [e]; exact hF))⟩
theorem BookT.set {Z : Nat -> Prop} {b : Nat} {r : Loop} {T : Nat -> Prop} {W : World} (h : BookT b r T W) (hZ : ∀ k, Z k -> k < b) (r' : Loop) : BookT b r' T (W.putObj (b + 1) (.loop r')) /\ Kp (fun k => ¬ fU Z T k) W (W.putObj (b + 1) (.loop r')) :=
 ⟨⟨World.putObj_heap_same h.lt, (World.putObj_heap_other (by omega)).trans h.later, h.off⟩, Kp.putF (fun hk => by
  rcases hk with hk | hk
  ·exact (h.off _ hk).2 rfl
  ·have := hZ _ hk; omega) _⟩
theorem BookT.keeps {b : Nat} {r : Loop} {T : Nat -> Prop} {W W' : World} {B : Nat} (h : BookT b r T W) (hB : B ≤ b) (hk : KeepsFrom B W W') : BookT b r T W' :=
 ⟨hk.same _ _ (by omega) h.loop rfl, hk.same _ _ hB h.later rfl, h.off⟩
theorem size_put (W : World) (l : Nat) (o : Obj) : (W.putObj l o).heap.size = W.heap.size := by
 simp [World.putObj]
theorem Kp.put {F : Nat -> Prop} {W W' : World} (h : Kp F W W') (l : Nat) (o : Obj) (hl : l < W.heap.size) : Kp F (W.putObj l o) (W'.putObj l o) := by
 refine ⟨h.os, h.tape, h.output, by rw [size_put, size_put]; exact h.size, fun k hk hf => ?_⟩
 rw [size_put] at hk
 by_cases e : k = l
 ·subst e
  rw [World.putObj_heap_same hl, World.putObj_heap_same (Nat.lt_of_lt_of_le hl h.size)]
 ·rw [World.putObj_heap_other e, World.putObj_heap_other e]
  exact h.block k hk hf
section
variable {F : Fence} {n : Nat} {P : Program}
theorem nH {α : Type} {g : Operand} {ps : Array Tmp} {assign body : Code} {Q : Exit -> Act -> World -> Prop} {a : Act} {w : World}
 (hro : F.round = none) (h1 : 1 ≤ n) {gf : Nat} {lb : Array Value} (hg : a.eval g = .func (.func gf) #[] lb) (hFg : F.fn gf) (eg : ∀ args w, (callFunc gf args).run P w = .ok (.enter gf args) w)
 {encs : α -> Array Value} {Z : Nat -> Prop} {Gv : World -> (Nat -> Prop) -> World -> α -> Prop} {S Sp : List α -> Prop} {w0 : World} (hseq : uZ F (n - 1) P gf lb encs Z Gv S Sp w0) (hb0 : Kp (fun k => ¬ Z k) w0 w) (hZ : ∀ k, Z k -> k < w.heap.size) (hps : ∀ x, (encs x).size = ps.size)
 (hGv : ∀ T W1 W2 x l r o, Gv W1 T W2 x -> W2.heap[l]? = some r -> r.isCells = false -> Gv (W1.putObj l o) T (W2.putObj l o) x)
 (I : (Nat -> Prop) -> List α -> World -> Prop) (Ix : Code -> (Nat -> Prop) -> List α -> World -> Prop)
 (hIB : ∀ T s W l o o', I T s W -> ¬ T l -> w.heap.size ≤ l -> W.heap[l]? = some o -> o.isCells = false -> I T s (W.putObj l o'))
 (hIxB : ∀ c T s W l o o', Ix c T s W -> ¬ T l -> w.heap.size ≤ l -> W.heap[l]? = some o -> o.isCells = false -> Ix c T s (W.putObj l o'))
 (hIA : ∀ W o, I (fun _ => False) [] W -> I (fun _ => False) [] (W.alloc o)) (h0 : I (fun _ => False) [] w) (a₁ : α -> Act)
 (hassign : ∀ (l : Nat) (x : α) (W : World) (K : Act -> World -> Prop), K (a₁ x) W ->
  assign.wpIn (F.inRound l) (n - 1 - 1) P (Exit.then K (fun _ _ _ => False)) { tmps := (ps.zip (encs x)).foldl (fun t (p, v) => t.setIfInBounds p v) a.tmps, defers := [] } W)
 (hbody : ∀ (l : Nat) (T T' : Nat -> Prop) (pre : List α) (x : α) (W1 W : World), I T pre W1 -> (∀ k, T k -> k < W1.heap.size) -> Kp T W1 W -> (∀ k, T' k -> rK T W1 W k) -> Gv W1 T' W x -> Sp (pre ++ [x]) -> body.wpIn (F.inRound l) (n - 1 - 1) P (aAn Z w.heap.size T' I Ix (pre ++ [x]) W) (a₁ x) W)
 (hdone : ∀ (D : Nat) (T : Nat -> Prop) (xs : List α) (W1 W : World), w.heap.size ≤ D -> S xs -> I T xs W1 -> (∀ k, T k -> k < W1.heap.size) -> Kp T W1 W -> W.heap[D]? = some (.deferred (some [])) -> Q .normal { a with defers := { target := .collected D, args := #[] } :: a.defers } W)
 (hstop : ∀ (D : Nat) (c : Code) (T : Nat -> Prop) (pre : List α) (W1 W : World), w.heap.size ≤ D -> Sp pre -> Ix c T pre W1 -> (∀ k, T k -> k < W1.heap.size) -> Kp T W1 W -> W.heap[D]? = some (.deferred (some [])) -> c.wpIn F n P Q { a with defers := { target := .collected D, args := #[] } :: a.defers } W) :
 (Code.rangeFunc g ps assign body).wpIn F n P Q a w := by
 refine wpIn_rangeFunc fun fn hfn => ?_
 rw [hro]
 obtain ⟨b, eb⟩ : ∃ b, w.heap.size = b := ⟨_, rfl⟩
 rw [eb] at hIB hIxB hbody hdone hstop hZ
 let rc (st : LoopState) (pe : Option Code) : Loop := { state := st, pending := pe, fn, tmps := a.tmps, params := ps, assign, body, defers := b }
 obtain ⟨W1, hW1⟩ : ∃ W1, (w.alloc (.deferred (some []))).alloc (.loop (rc .ready none)) = W1 := ⟨_, rfl⟩
 have hB1 : BookT b (rc .ready none) (fun _ => False) W1 := by
  refine ⟨?_, ?_, fun k hk => hk.elim⟩
  ·have h := World.alloc_heap_new (w.alloc (.deferred (some []))) (.loop (rc .ready none))
   rw [World.size_alloc, eb] at h
   rw [<- hW1]; exact h
  ·have h := World.alloc_heap_new w (.deferred (some []))
   rw [eb] at h
   rw [<- hW1, <- h]
   exact Below.heap_alloc _ _ _ (by rw [World.size_alloc]; omega)
 have hI1 : I (fun _ => False) [] W1 := by rw [<- hW1]; exact hIA _ _ (hIA _ _ h0)
 have hX1 : Kp (fun k => ¬ Z k) w0 W1 := by rw [<- hW1]; exact (hb0.alloc _).alloc _
 refine ⟨b + 1, [{ target := .collected b, args := #[] }], W1, { target := .fn (.func gf) lb, args := #[.func (.yield (b + 1)) #[] #[]] }, W1, gf, #[.func (.yield (b + 1)) #[] #[]] ++ lb, W1, ?_, ?_, ?_, ?_, fun _ => h1, ?_⟩
 ·have h := run_enterLoop_outer (P := P) (w := w) fn a.tmps ps assign body
  rw [eb] at h
  rw [<- hW1]; exact h
 ·simp only [resolve, hg]
  simp [go_sem]
 ·intro f' hf'
  simp [Target.leads] at hf'
  subst hf'; exact hFg
 ·simp [invoke, go_sem, eg]
 ·refine (hseq (b + 1) (fun T pre W => I T pre W /\ BookT b (rc .ready none) T W /\ ∀ k, T k -> k < W.heap.size) (fun T pre W => ∃ c, Ix c T pre W /\ BookT b (rc .done (some c)) T W /\ ∀ k, T k -> k < W.heap.size) W1 hX1 ?_ ⟨hI1, hB1, fun k hk => hk.elim⟩).mono ?_
  ·rintro T T' pre x V W ⟨hi, hbk0, hT0⟩ hkp hsub hgv hlen
   have hbk := hbk0.step hkp hsub
   have hT : ∀ k, T' k -> k < W.heap.size := fun k hk => by
    rcases hsub k hk with h | h
    ·exact Nat.lt_of_lt_of_le (hT0 k h) hkp.size
    ·exact h.2
   have hy := run_yield (P := P) (args := encs x) hbk.loop (by exact hps x)
   refine ⟨fn, _, assign, body, hy, roundIn_of_wpIn hfn (hassign _ x W _ ⟨_, run_beginRound hbk.loop rfl, ?_⟩)⟩
   obtain ⟨hbk2, hs2⟩ := hbk.set hZ { rc .ready none with state := .busy }
   have hi2 := hIB T pre V (b + 1) _ (.loop { rc .ready none with state := .busy }) hi (fun h => (hbk0.off _ h).2 rfl) (by omega) hbk0.loop rfl
   refine wpIn_mono (hbody _ T T' pre x _ _ hi2 (fun k hk => by rw [size_put]; exact hT0 k hk) (hkp.put _ _ hbk0.lt) (fun k hk => by
    rcases hsub k hk with h | h
    ·exact .inl h
    ·exact .inr (by rw [size_put, size_put]; exact h)) (hGv _ _ _ _ _ _ _ hgv hbk.loop rfl) hlen) ?_
   intro e a3 W3 hp
   unfold aAn at hp
   have fin : ∀ (jump : Option Code), KeepsFrom b (W.putObj (b + 1) (.loop { rc .ready none with state := .busy })) W3 -> Kp (fun k => ¬ fU Z T' k) (W.putObj (b + 1) (.loop { rc .ready none with state := .busy })) W3 ->
    (Instr.endRound (b + 1) jump).run P W3 = .ok (.bool jump.isNone) (W3.putObj (b + 1) (.loop (rc (if jump.isNone then .ready else .done) jump))) /\
    BookT b (rc (if jump.isNone then .ready else .done) jump) T' (W3.putObj (b + 1) (.loop (rc (if jump.isNone then .ready else .done) jump))) /\
    Kp (fun k => ¬ fU Z T' k) W (W3.putObj (b + 1) (.loop (rc (if jump.isNone then .ready else .done) jump))) /\ W3.heap[b + 1]? = some (.loop { rc .ready none with state := .busy }) := fun jump hk hs => by
    have hbk3 := hbk2.keeps (Nat.le_refl b) hk
    obtain ⟨hbk4, hs4⟩ := hbk3.set hZ (rc (if jump.isNone then .ready else .done) jump)
    exact ⟨run_endRound jump hbk3.loop, hbk4, (hs2.trans hs).trans hs4, hbk3.loop⟩
   have leave : ∀ c : Code, KeepsFrom b (W.putObj (b + 1) (.loop { rc .ready none with state := .busy })) W3 /\ Kp (fun k => ¬ fU Z T' k) (W.putObj (b + 1) (.loop { rc .ready none with state := .busy })) W3 /\ Ix c T' (pre ++ [x]) W3 ->
    ∃ v w', (Instr.endRound (b + 1) (some c)).run P W3 = .ok v w' /\ ((Ending.returned v = .returned (.bool true) /\ (I T' (pre ++ [x]) w' /\ BookT b (rc .ready none) T' w' /\ ∀ k, T' k -> k < w'.heap.size) /\ Kp (fun k => ¬ fU Z T' k) W w') \/
     (Ending.returned v = .returned (.bool false) /\ (∃ c, Ix c T' (pre ++ [x]) w' /\ BookT b (rc .done (some c)) T' w' /\ ∀ k, T' k -> k < w'.heap.size) /\ Kp (fun k => ¬ fU Z T' k) W w')) := fun c ⟨hk, hs, hx⟩ => by
    obtain ⟨hr, hbk4, hs4, hl3⟩ := fin (some c) hk hs
    exact ⟨_, _, hr, .inr ⟨rfl, ⟨c, hIxB c T' _ W3 (b + 1) _ _ hx (fun h => (hbk.off _ h).2 rfl) (by omega) hl3 rfl, hbk4, fun k hk => Nat.lt_of_lt_of_le (hT k hk) hs4.size⟩, hs4⟩⟩
   cases e with
   | normal =>
    obtain ⟨hk, hs, hx⟩ := hp
    obtain ⟨hr, hbk4, hs4, hl3⟩ := fin none hk hs
    exact ⟨_, _, hr, .inl ⟨rfl, ⟨hIB T' _ W3 (b + 1) _ _ hx (fun h => (hbk.off _ h).2 rfl) (by omega) hl3 rfl, hbk4, fun k hk => Nat.lt_of_lt_of_le (hT k hk) hs4.size⟩, hs4⟩⟩
   | ret => exact leave _ hp
   | exit id => exact leave _ hp
   | goto t => exact leave _ hp
   | panic ch => exact hp.elim
   | outgrown => exact hp.elim
  ·rintro e W2 ⟨⟨v, rfl⟩, T, V, hkp, (⟨xs, hS, hi, hbk, hT⟩ | ⟨pre, hSp, c, hi, hbk, hT⟩)⟩
   ·have hbk2 := hbk.step (T' := T) hkp fun k hk => .inl hk
    refine ⟨none, _, run_endLoop hbk2.loop (by simp [rc]), ?_⟩
    exact hdone b T xs _ _ (Nat.le_refl _) hS (hIB T _ V (b + 1) _ _ hi (fun h => (hbk.off _ h).2 rfl) (by omega) hbk.loop rfl) (fun k hk => by rw [size_put]; exact hT k hk) (hkp.put _ _ hbk.lt) ((World.putObj_heap_other (by omega)).trans hbk2.later)
   ·have hbk2 := hbk.step (T' := T) hkp fun k hk => .inl hk
    refine ⟨some c, _, run_endLoop hbk2.loop (by simp [rc]), ?_⟩
    exact hstop b c T pre _ _ (Nat.le_refl _) hSp (hIxB c T _ V (b + 1) _ _ hi (fun h => (hbk.off _ h).2 rfl) (by omega) hbk.loop rfl) (fun k hk => by rw [size_put]; exact hT k hk) (hkp.put _ _ hbk.lt) ((World.putObj_heap_other (by omega)).trans hbk2.later)
end
theorem aGo : dB Tryz.prog 66 9 1 16 (.string ⟨#[]⟩) := ⟨by kernel_rfl, by kernel_rfl, rfl, by decide⟩
theorem aCk (a : List ByteArray) (t : aE) : (bI a t).length ≤ a.length + 1 /\ a.length ≤ (bI a t).length := by
 unfold bI; split <;> simp
theorem nY : ∀ (ts : List aE) (a : List ByteArray), (cW a ts).length ≤ a.length + ts.length
 | [], a => by simp [cW]
 | t :: ts, a => by
  have := nY ts (bI a t)
  have := (aCk a t).1
  unfold cW at *
  rw [List.foldl_cons]; simp only [List.length_cons]; omega
theorem aDk (a : List ByteArray) (l : aO) : (cJ a l).length ≤ a.length + (aB l).length := by
 unfold cJ; split
 ·exact nY _ _
 ·omega
theorem tG (M : Nat) : ∀ (ls : List aO) (a : List ByteArray), (∀ l ∈ ls, (aB l).length ≤ M) -> (ls.foldl cJ a).length ≤ a.length + ls.length * M
 | [], a, _ => by simp
 | l :: ls, a, h => by
  have h1 := tG M ls (cJ a l) fun x hx => h x (List.mem_cons_of_mem _ hx)
  have h2 := aDk a l
  have h3 := h l List.mem_cons_self
  rw [List.foldl_cons, List.length_cons, Nat.succ_mul]; omega
theorem tH {M : Nat} {ls : List aO} (h : ∀ l ∈ ls, (aB l).length ≤ M) : (aA ls).length ≤ ls.length * M := by
 have := tG M ls [] h; unfold aA; simpa using this
def cQ (a : List ByteArray) (l : aO) (c : Nat) : List ByteArray := if l.1 = 1 then cW a ((aB l).take c) else a
theorem yN (a : List ByteArray) (l : aO) : cQ a l 0 = a := by unfold cQ; split <;> rfl
theorem aAw (a : List ByteArray) (l : aO) {c : Nat} (h : (aB l).length ≤ c) : cQ a l c = cJ a l := by
 unfold cQ cJ; rw [List.take_of_length_le h]
theorem yO (a : List ByteArray) {l : aO} {c : Nat} {t : aE} (h : (aB l)[c]? = some t) : cQ a l (c + 1) = if l.1 = 1 /\ t.1 = 1 /\ kC (cQ a l c) t.2.1 = false then cQ a l c ++ [t.2.1] else cQ a l c := by
 unfold cQ
 by_cases h1 : l.1 = 1
 ·simp only [h1, true_and]
  unfold cW
  rw [xA _ _ h]
  rfl
 ·simp only [h1, false_and, if_false]
theorem aAv (a : List ByteArray) (l : aO) (c : Nat) : (cQ a l c).length ≤ a.length + c := by
 unfold cQ; split
 ·have := nY ((aB l).take c) a
  rw [List.length_take] at this; omega
 ·omega
theorem Row.old {w : World} {e : TypeId} {k : Nat} {v : Value} {n : Nat} {xs : List Value} {M : Nat -> Prop} (h : Row w e k v n xs M) : Row w e k v n xs (fun g => M g /\ g < w.heap.size) := by
 obtain ⟨h1, h2 | ⟨g, cap, rest, a, b, c, d⟩⟩ := h
 ·exact ⟨h1, .inl h2⟩
 ·exact ⟨h1, .inr ⟨g, cap, rest, a, ⟨b, c.lt⟩, c, d⟩⟩
theorem Row.beside {w w' : World} {e : TypeId} {k : Nat} {v : Value} {n : Nat} {xs : List Value} {M : Nat -> Prop} (h : Row w e k v n xs M) (hx : Ext w w') : Row w' e k v n xs (fun g => M g /\ g ≠ w.heap.size) :=
 (h.old.ext hx).mono fun g hg => ⟨hg.1, by omega⟩
theorem vY (ss : List ByteArray) (s : ByteArray) : strs ss ++ [.string s] = strs (ss ++ [s]) := by simp [strs]
structure Fit (ls : List aO) : Prop where
 len : ls.length ≤ 1048576
 terms : ∀ l ∈ ls, (aB l).length ≤ 1048576
def aKk (w0 : World) (ls : List aO) (n : Nat) (iv ov : Value) (w : World) : Prop := ∃ i : Nat, i ≤ n /\ iv = .int .i64 i /\ Hid (Row w 9 1 ov (aA (ls.take i)).length (strs (aA (ls.take i))) (New w0)) /\ Hid (Ext w0 w)
def aLl (w0 : World) (a : List ByteArray) (l : aO) (g : Nat) (cs : List Value) (m : Nat) (iv ov : Value) (w : World) : Prop := ∃ i : Nat, i ≤ m /\ iv = .int .i64 i /\ Hid (Row w 9 1 ov (cQ a l i).length (strs (cQ a l i)) (fun k => New w0 k /\ k ≠ g)) /\ Hid (Ext w0 w) /\ Hid (Blk w g cs 60)
def OwnSl (w0 w : World) (v : Value) (ss : List ByteArray) : Prop := ∃ a cap, v = .slice a ss.length cap /\ (a = none /\ ss = [] /\ cap = 0 \/ ∃ g rest, a = some ⟨g, 0, none⟩ /\ Blk w g (strs ss ++ rest) 9 /\ ss.length ≤ cap /\ cap ≤ (strs ss ++ rest).length /\ cap ≤ maxLen /\ w0.heap.size ≤ g)
theorem OwnSl.ext {w0 w w' : World} {v : Value} {ss : List ByteArray} (h : OwnSl w0 w v ss) (hk : Ext w w') : OwnSl w0 w' v ss := by
 obtain ⟨a, cap, e, h | ⟨g, rest, h1, h2, h3⟩⟩ := h
 ·exact ⟨a, cap, e, .inl h⟩
 ·exact ⟨a, cap, e, .inr ⟨g, rest, h1, h2.ext hk, h3⟩⟩
theorem OwnSl.old {w0 w1 w : World} {v : Value} {ss : List ByteArray} (h : OwnSl w1 w v ss) (hs : w0.heap.size ≤ w1.heap.size) : OwnSl w0 w v ss := by
 obtain ⟨a, cap, e, h | ⟨g, rest, h1, h2, h3, h4, h5, h6⟩⟩ := h
 ·exact ⟨a, cap, e, .inl h⟩
 ·exact ⟨a, cap, e, .inr ⟨g, rest, h1, h2, h3, h4, h5, Nat.le_trans hs h6⟩⟩
theorem Row.own' {w0 w : World} {v : Value} {ss : List ByteArray} (h : Row w 9 1 v ss.length (strs ss) (New w0)) : OwnSl w0 w v ss := by
 obtain ⟨h1, ⟨e, h0⟩ | ⟨g, cap, rest, e, hM, hB, hl, hc, hm⟩⟩ := h
 ·exact ⟨none, 0, by rw [e, h0], .inl ⟨rfl, List.eq_nil_of_length_eq_zero h0, rfl⟩⟩
 ·exact ⟨_, cap, e, .inr ⟨g, rest, rfl, hB, hc, by omega, hm, hM⟩⟩
theorem OwnSl.clip {w0 w : World} {a : Option Addr} {n cap : Nat} {ss : List ByteArray} (h : OwnSl w0 w (.slice a n cap) ss) : OwnSl w0 w (.slice a n n) ss := by
 obtain ⟨a', cap', e, h | ⟨g, rest, h1, h2, h3, h4, h5, h6⟩⟩ := h
 ·cases e
  obtain ⟨rfl, rfl, rfl⟩ := h
  exact ⟨none, 0, rfl, .inl ⟨rfl, rfl, rfl⟩⟩
 ·cases e
  exact ⟨a, _, rfl, .inr ⟨g, rest, h1, h2, Nat.le_refl _, by omega, by omega, h6⟩⟩
set_option maxHeartbeats 4000000 in
theorem zL (p : ByteArray) (ha : Option Addr) (hn hcap : Nat) (ls : List aO) (ba : Option Addr) (n bcap : Nat) (w : World) (G : Nat -> Prop) (hbn : n = ls.length) (h : bQ w G ba ls) (hf : Fit ls) :
 Calls Tryz.prog 107 #[dM p ha hn hcap ba n bcap] w (RetN w fun w' v => ∃ ao cap, v = .slice ao (aA ls).length cap /\ (aA ls).length ≤ cap /\ CellsAt w' ao (strs (aA ls)) /\ cap = (aA ls).length /\ OwnSl w w' v (aA ls)) := by
 have HN := qH hbn; have HE := qH h; have HF := qH hf; have hl : n ≤ 1048576 := by have := hf.len; omega
 clear hbn h hf
 go_enter Tryz.func107, Tryz.ntmps107
 go_wp2
 go_loopw [11, 3] (fun iv ov wr => aKk w ls n iv ov wr) (fun iv _ _ => n - (intOf iv).toNat)
 case atStart => exact ⟨0, Nat.zero_le _, rfl, Row.nil _ _ _ _, (Kp.refl w).alloc _⟩
 case round =>
  obtain ⟨i, hi, rfl, hrow, hex⟩ := hrel
  by_cases hlt : i < n
  ·have hlt' : i < ls.length := by rw [<- HN.out]; exact hlt
   obtain ⟨l, hli⟩ : ∃ l, ls[i]? = some l := ⟨_, qG hlt'⟩
   obtain ⟨b, off, a, cap, eao, hG, hb, hL, c0, c1, c2, c3, c4, c5, c6, c7⟩ := yR HE.out hli
   subst eao
   replace c0 := hex.out.cell c0 id
   replace c1 := hex.out.cell c1 id
   replace c2 := hex.out.cell c2 id
   replace c3 := hex.out.cell c3 id
   replace c4 := hex.out.cell c4 id
   replace c5 := hex.out.cell c5 id
   replace c6 := hex.out.cell c6 id
   replace c7 := hex.out.cell c7 id
   obtain ⟨m, em⟩ : ∃ m, m = (aB l).length := ⟨_, rfl⟩
   rw [<- em] at c2
   have hm : m ≤ 1048576 := by rw [em]; exact HF.out.terms l (List.mem_of_getElem? hli)
   have HL := qH (And.intro hli (And.intro hL em))
   clear hli hlt' hL em hG hb
   obtain ⟨k, ek⟩ : ∃ k, l.1 = k := ⟨_, rfl⟩
   rw [ek] at c0
   generalize bR l = s1 at c1
   generalize iZ l = s3 at c3
   generalize (leftOf l).1 = s4 at c4
   generalize (leftOf l).2.1 = s5 at c5
   generalize (aY l).1 = s6 at c6
   generalize (aY l).2.1 = s7 at c7
   have HK := qH ek; clear ek
   go_wp2
   obtain ⟨wb, eb⟩ : ∃ wb, wr.alloc (.cells #[.int .i64 k, .string s1, .slice a m cap, .int .i64 s3, .int .i64 s4, .string s5, .int .i64 s6, .string s7] 60) = wb := ⟨_, rfl⟩
   rw [eb]
   have hB : Blk wb wr.heap.size [.int .i64 k, .string s1, .slice a m cap, .int .i64 s3, .int .i64 s4, .string s5, .int .i64 s6, .string s7] 60 := by rw [<- eb]; exact Blk.new wr [_, _, _, _, _, _, _, _] _
   have hx : Ext wr wb := by rw [<- eb]; exact (Kp.refl wr).alloc _
   have hrow2 : Row wb 9 1 u3 (cQ (aA (ls.take i)) l 0).length (strs (cQ (aA (ls.take i)) l 0)) (fun k => New w k /\ k ≠ wr.heap.size) := by
    rw [yN]
    exact hrow.out.beside hx
   have HX := qH (hex.out.trans hx)
   have HB := qH hB
   have HR := qH hrow2
   have hnew : New w wr.heap.size := hex.out.size
   have HW := qH (And.intro hnew (Nat.lt_of_lt_of_le (Nat.lt_succ_self _) (by rw [<- eb, aK]; exact Nat.le_refl _) : wr.heap.size < wb.heap.size))
   have d0 : wb.cell? ⟨wr.heap.size, 2, none⟩ = some (.slice a m cap) := by rw [hB.cell']; rfl
   obtain ⟨g, eg⟩ : ∃ g, g = wr.heap.size := ⟨_, rfl⟩
   rw [<- eg] at HB HR HW d0
   have hlt2 : (i : Int) < (n : Int) := by omega
   clear hB hrow2 hx eb hnew c0 c1 c2 c3 c4 c5 c6 c7
   rw [<- eg]
   clear eg
   go_wp2
   clear d0
   go_loopw [19, 3] (fun iv ov wr => aLl w (aA (ls.take i)) l g [.int .i64 k, .string s1, .slice a m cap, .int .i64 s3, .int .i64 s4, .string s5, .int .i64 s6, .string s7] m iv ov wr) (fun iv _ _ => m - (intOf iv).toNat)
   case atStart => exact ⟨0, Nat.zero_le _, rfl, HR.out, HX.out, HB.out⟩
   case round =>
    obtain ⟨j, hj, rfl, hrow3, hex3, hblk3⟩ := hrel
    by_cases hlt3 : j < m
    ·have hlt4 : j < (aB l).length := by rw [<- HL.out.2.2]; exact hlt3
     obtain ⟨t, ht⟩ : ∃ t, (aB l)[j]? = some t := ⟨_, qG hlt4⟩
     obtain ⟨b2, off2, eao2, f0, f1, _⟩ := fG (HL.out.2.1.terms.ext hex3.out) ht
     subst eao2
     obtain ⟨kt, st, ⟨⟩⟩ := t
     simp only at f0 f1
     have hs := yO (aA (ls.take i)) ht
     have HT := qH hs
     clear ht hlt4 hs
     have e0 : (wr.alloc (.cells #[.int .i64 kt, .string st] 58)).cell? ⟨g, 0, none⟩ = some (.int .i64 k) := by rw [(hblk3.out.alloc _).cell']; rfl
     have hlen : (cQ (aA (ls.take i)) l j).length ≤ 1099513724928 := by
      have h1 := aAv (aA (ls.take i)) l j
      have h2 : (aA (ls.take i)).length ≤ (ls.take i).length * 1048576 := tH fun x hx => HF.out.terms x (List.mem_of_mem_take hx)
      rw [List.length_take] at h2
      omega
     generalize eN : cQ (aA (ls.take i)) l j = N at *
     by_cases h1 : k = 1
     ·subst h1
      by_cases h2 : kt = 1
      ·subst h2
       have hrow4 := hrow3.out
       obtain ⟨ao, cap4, eov, hcells, hle⟩ := hrow4.shape
       subst eov
       have HS := qH (fun (W : World) (hW : Ext wr W) => nO N st ao N.length cap4 W rfl (hcells.ext hW) (by omega))
       have HR4 := qH hrow4
       clear hcells hrow4 hrow3
       go_wp2_with fail
       refine (HS.out _ ((Kp.refl _).alloc _)).mono ?_
       rintro e w1 ⟨v, rfl, hk1, rfl⟩
       have bb := Blk.new wr [.int .i64 1, .string st] 58
       have f2 : w1.cell? ⟨wr.heap.size, 1, none⟩ = some (.string st) := by rw [(bb.ext hk1).cell']; rfl
       have HE1 := qH (((Kp.refl _).alloc _).trans hk1)
       clear hk1 bb
       cases hh : kC N st
       ·have HT2 := qH (HT.out.trans (if_pos ⟨HK.out, by first | rfl | trivial, hh⟩))
        go_wp2_with (first | (at_builtin; refine Halted.out ?_))
        refine Halted.mk (aCr aGo rfl _ _ rfl ((hex3.out.trans HE1.out).alloc _) (fun q h1 h2 => absurd h2 (Nat.not_lt.2 h1.1)) (fun q h1 => ?_) rfl ((HR4.out.ext HE1.out).alloc _) rfl (by rfl) (CellsAt.one _ _ _) (by simp [Value.oneCell']) (by omega) (by unfold maxLen; omega) ?_)
        ·have a1 := hex3.out.size
         have a2 := HE1.out.size
         have a3 := hblk3.out.lt
         rw [aK] at h1
         exact ⟨by unfold New; omega, by omega⟩
        ·intro v1 w2 hr1 hk1 hk2 _
         have hk3 := hk2
         have hb2 : Blk w2 g _ _ := ((hblk3.out.ext HE1.out).alloc _).kp hk2 (fun e => absurd rfl (HR4.out.block g e).2)
         have HR5 := qH (And.intro hr1 (And.intro hk1 hb2))
         clear hr1 hk1 hk2 hk3 hb2
         go_wp2
         go_roundw
         case rel =>
          refine ⟨j + 1, by omega, by first | rfl | (congr 1; done) | (congr 1; omega), ?_, HR5.out.2.1, HR5.out.2.2⟩
          have h := HR5.out.1
          rw [HT2.out, <- vY, List.length_append]
          exact h
         case measure => simp [intOf]; omega
       ·have HT2 := qH (HT.out.trans (if_neg fun x => by rw [hh] at x; cases x.2.2))
        go_wp2
        go_roundw
        case rel =>
         exact ⟨j + 1, by omega, by first | rfl | (congr 1; done) | (congr 1; omega), by rw [HT2.out]; exact HR4.out.ext HE1.out, hex3.out.trans HE1.out, hblk3.out.ext HE1.out⟩
        case measure => simp [intOf]; omega
      ·have HT2 := qH (HT.out.trans (if_neg fun x => h2 x.2.1))
       have b2 : (kt == 1) = false := by simp [h2]
       go_wp2
       go_roundw
       case rel =>
        exact ⟨j + 1, by omega, by first | rfl | (congr 1; done) | (congr 1; omega), by rw [HT2.out]; exact hrow3.out.alloc _, hex3.out.alloc _, hblk3.out.alloc _⟩
       case measure => simp [intOf]; omega
     ·have HT2 := qH (HT.out.trans (if_neg fun x => h1 (HK.out.symm.trans x.1)))
      have b2 : (k == 1) = false := by simp [h1]
      go_wp2
      go_roundw
      case rel =>
       exact ⟨j + 1, by omega, by first | rfl | (congr 1; done) | (congr 1; omega), by rw [HT2.out]; exact hrow3.out.alloc _, hex3.out.alloc _, hblk3.out.alloc _⟩
      case measure => simp [intOf]; omega
    ·have HA := qH (aAw (aA (ls.take i)) l (c := j) (by have := HL.out.2.2; omega))
     go_wp2
     go_roundw
     case rel =>
      refine ⟨i + 1, by omega, by first | rfl | (congr 1; done) | (congr 1; omega), ?_, hex3⟩
      have h := hrow3.out
      have e : aA (ls.take (i + 1)) = cJ (aA (ls.take i)) l := xA _ _ HL.out.1
      rw [HA.out, <- e] at h
      exact h.mono fun _ x => x.1
     case measure => simp [intOf]; omega
  ·have e : ls.take i = ls := List.take_of_length_le (by have := HN.out; omega)
   have hrow4 := hrow.out
   rw [e] at hrow4
   obtain ⟨ao, cap4, eov, hcells, hle⟩ := hrow4.shape
   subst eov
   have HS := qH (fun (W : World) => qF ao (aA ls).length cap4 W hle)
   have HC := qH (And.intro hcells hrow4.own')
   clear hcells hrow4 hrow hle e
   go_wp2_with fail
   refine (HS.out _).mono ?_
   rintro e w1 ⟨v, rfl, hk1, rfl⟩
   go_wp2
   go_ret
   exact RetN.mk (hex.out.trans hk1) ⟨ao, _, rfl, Nat.le_refl _, HC.out.1.ext hk1, rfl, (HC.out.2.ext hk1).clip⟩
theorem sJ (p : ByteArray) (ha : Option Addr) (hn hcap : Nat) (ls : List aO) (ba : Option Addr) (n bcap : Nat) (w : World) (G : Nat -> Prop) (hbn : n = ls.length) (h : bQ w G ba ls) (hf : Fit ls) :
 Calls Tryz.prog 107 #[dM p ha hn hcap ba n bcap] w (RetN w fun w' v => ∃ ao cap, v = .slice ao (aA ls).length cap /\ (aA ls).length ≤ cap /\ CellsAt w' ao (strs (aA ls))) := by
 refine (zL p ha hn hcap ls ba n bcap w G hbn h hf).mono ?_
 rintro e w' ⟨v, rfl, hk, ao, cap, h1, h2, h3, -⟩
 exact RetN.mk hk ⟨ao, cap, h1, h2, h3⟩
theorem aHr (N : List ByteArray) (ao : Option Addr) (m cap gb : Nat) (k : Int) (s : ByteArray) (blank : Bool) (w : World) (hm : m = N.length) (hc : w.cell? ⟨gb, 0, none⟩ = some (.slice ao m cap)) (h : CellsAt w ao (strs N)) (hl : m ≤ 4611686018427387904) :
 Calls Tryz.prog 108 #[vQ k s, .bool blank, .pointer (some ⟨gb, 0, none⟩)] w (RetN w fun w' v => v = .bool (dR N blank (k, s, ()))) := by
 by_cases h2 : k = 2
 ·subst h2
  go_enter Tryz.func108, Tryz.ntmps108
  go_wp2
  go_ret
  exact RetN.mk ((Kp.refl w).alloc _) (by unfold dR; simp)
 ·have b2 : (k == 2) = false := by simp [h2]
  by_cases h34 : k = 3 \/ k = 4
  ·rcases h34 with rfl | rfl
   all_goals
    clear h2 b2
    go_enter Tryz.func108, Tryz.ntmps108
    go_wp2
    go_ret
    exact RetN.mk ((Kp.refl w).alloc _) (by unfold dR; simp)
  ·have b3 : (k == 3) = false := by simp; exact fun e => h34 (.inl e)
   have b4 : (k == 4) = false := by simp; exact fun e => h34 (.inr e)
   have HS := qH (fun (W : World) (hW : Ext w W) => nO N s ao m cap W hm (h.ext hW) hl)
   have e0 : (w.alloc (.cells #[.int .i64 k, .string s] 58)).cell? ⟨gb, 0, none⟩ = some (.slice ao m cap) := ((Kp.refl (F := fun _ => False) w).alloc _).cell hc id
   have HH := qH (And.intro h2 h34); clear h2 h34 h hm hc
   go_enter Tryz.func108, Tryz.ntmps108
   go_wp2_with fail
   refine (HS.out _ ((Kp.refl _).alloc _)).mono ?_
   rintro e w1 ⟨v, rfl, hk1, rfl⟩
   go_wp2
   go_ret
   refine RetN.mk (((Kp.refl w).alloc _).trans hk1) ?_
   obtain ⟨h2, h34⟩ := HH.out
   show Value.bool (kC N s) = _
   refine congrArg Value.bool ?_
   unfold dR
   rw [if_neg h2]
   cases hh : kC N s
   ·symm; apply decide_eq_false; rintro (x | x | x)
    ·exact h34 (.inl x)
    ·exact h34 (.inr x)
    ·cases x
   ·symm; exact decide_eq_true (.inr (.inr rfl))
def aCp (w0 : World) {α : Type} (xs : List α) (q : α -> Bool) (n : Nat) (iv : Value) (w : World) : Prop := ∃ i : Nat, i ≤ n /\ iv = .int .i64 i /\ Hid ((xs.take i).all q = true) /\ Hid (Ext w0 w)
theorem gO {α : Type} {q : α -> Bool} {xs : List α} {i : Nat} {x : α} (h : xs[i]? = some x) : (xs.take (i + 1)).all q = ((xs.take i).all q && q x) := by
 rw [List.take_add_one, h, List.all_append]; simp
theorem mS {α : Type} {q : α -> Bool} {xs : List α} {i : Nat} {x : α} (h : xs[i]? = some x) (hq : q x = false) : xs.all q = false := by
 rw [List.all_eq_false]; exact ⟨x, List.mem_of_getElem? h, by rw [hq]; decide⟩
set_option maxHeartbeats 8000000 in
theorem iF (p : ByteArray) (hs : List aE) (ls : List aO) (ha : Option Addr) (hn hcap : Nat) (ba : Option Addr) (n bcap : Nat) (w : World) (G : Nat -> Prop) (hhn : hn = hs.length) (hh : aQ w G ha hs) (hhl : hn ≤ 1048576) (hbn : n = ls.length) (h : bQ w G ba ls) (hf : Fit ls) :
 Calls Tryz.prog 64 #[dM p ha hn hcap ba n bcap] w (RetN w fun w' v => v = .int .i64 (aS ((p, hs, ()), ls, ()))) := by
 have HN := qH hbn; have HE := qH h; have HF := qH hf; have hl : n ≤ 1048576 := by have := hf.len; omega
 have HHN := qH hhn; have HHE := qH hh
 have HHead := qH (fun (W : World) (hW : Ext w W) => aIq hs ha hn hcap W G hhn (hh.ext hW) hhl)
 obtain ⟨m, em⟩ : ∃ m, m = (aA ls).length := ⟨_, rfl⟩
 have HVars0 := fun (W : World) (hW : Ext w W) => sJ p ha hn hcap ls ba n bcap W G hbn (h.ext hW) hf
 rw [<- em] at HVars0
 have HVars := qH HVars0
 have EM := qH em
 clear HVars0 em
 have HLit := qH (fun (W : World) (hW : Ext w W) (l : aO) (hl : l ∈ ls) (a : Option Addr) (cap : Nat) (hin : LitIn w G l a cap) => aAz l.1 (bR l) (aB l) a (aB l).length cap (iZ l) (leftOf l).1 (leftOf l).2.1 (aY l).1 (aY l).2.1 W G rfl (hin.terms.ext hW) (hf.terms l hl) hin.left.1 hin.left.2 hin.right.1 hin.right.2)
 clear hbn h hf hhn hh
 go_enter Tryz.func64, Tryz.ntmps64
 go_wp2_with fail
 refine (HHead.out _ ((Kp.refl _).alloc _)).mono ?_
 rintro e w1 ⟨v, rfl, hk1, rfl⟩
 have bb := Blk.new w [.string p, .slice ha hn hcap, .slice ba n bcap] 43
 have B1 := qH (bb.ext hk1)
 have b1 : w1.cell? ⟨w.heap.size, 2, none⟩ = some (.slice ba n bcap) := by rw [B1.out.cell']; rfl
 have X1 := qH (((Kp.refl _).alloc _).trans hk1)
 clear hk1 bb
 cases hhd : iS hs
 ·go_wp2
  go_ret
  exact RetN.mk X1.out (by unfold aS eE; rw [if_neg (by rw [hhd]; simp)]; rfl)
 ·go_wp2
  clear b1
  go_loopw [21] (fun iv wr => aCp w1 ls jV n iv wr) (fun iv _ => n - (intOf iv).toNat)
  case atStart => exact ⟨0, Nat.zero_le _, rfl, rfl, Kp.refl _⟩
  case round =>
   obtain ⟨i, hi, rfl, hall, hex⟩ := hrel
   have XR := qH (X1.out.trans hex.out)
   by_cases hlt : i < n
   ·have hlt' : i < ls.length := by rw [<- HN.out]; exact hlt
    obtain ⟨l, hli⟩ : ∃ l, ls[i]? = some l := ⟨_, qG hlt'⟩
    obtain ⟨b, off, a, cap, eao, hG, hb, hL, c0, c1, c2, c3, c4, c5, c6, c7⟩ := yR HE.out hli
    subst eao
    replace c0 := XR.out.cell c0 id
    replace c1 := XR.out.cell c1 id
    replace c2 := XR.out.cell c2 id
    replace c3 := XR.out.cell c3 id
    replace c4 := XR.out.cell c4 id
    replace c5 := XR.out.cell c5 id
    replace c6 := XR.out.cell c6 id
    replace c7 := XR.out.cell c7 id
    have HL := qH hli
    have HC := qH (fun (W : World) (hW : Ext w W) => HLit.out W hW l (List.mem_of_getElem? hli) a cap hL)
    clear hli hlt' hL hG hb
    go_wp2_with fail
    refine (HC.out _ (XR.out.alloc _)).mono ?_
    rintro e w2 ⟨v, rfl, hk2, rfl⟩
    have X2 := qH ((hex.out.alloc _).trans hk2)
    clear hk2 c0 c1 c2 c3 c4 c5 c6 c7
    cases hq : jV l
    ·go_wp2
     go_ret
     refine RetN.mk (X1.out.trans X2.out) ?_
     unfold aS eE
     rw [if_neg (by rw [mS HL.out hq]; simp)]; rfl
    ·go_wp2
     go_roundw
     case rel => exact ⟨i + 1, by omega, by first | rfl | (congr 1; done) | (congr 1; omega), by rw [gO HL.out, hall.out, hq]; rfl, X2⟩
     case measure => simp [intOf]; omega
   ·have e : ls.take i = ls := List.take_of_length_le (by have := HN.out; omega)
    have HA := qH hall.out
    rw [e] at HA
    have c0 : wr.cell? ⟨w.heap.size, 0, none⟩ = some (.string p) := by rw [(B1.out.ext hex.out).cell']; rfl
    have c1 : wr.cell? ⟨w.heap.size, 1, none⟩ = some (.slice ha hn hcap) := by rw [(B1.out.ext hex.out).cell']; rfl
    have c2 : wr.cell? ⟨w.heap.size, 2, none⟩ = some (.slice ba n bcap) := by rw [(B1.out.ext hex.out).cell']; rfl
    clear e hall
    go_wp2_with fail
    refine (HVars.out _ XR.out).mono ?_
    rintro e w2 ⟨v, rfl, hk2, ao, cap, rfl, hle, hcells⟩
    have hm : m ≤ 4611686018427387904 := by
     have h1 := tH HF.out.terms
     have h2 := HF.out.len
     have h3 := Nat.mul_le_mul_right 1048576 h2
     have h4 := EM.out
     omega
    clear c0 c1 c2
    have B2 := qH (B1.out.ext (hex.out.trans hk2))
    have hx2 : Ext w (w2.alloc (.cells #[.slice ao m cap] 66)) := (XR.out.trans hk2).alloc _
    obtain ⟨wb, eb⟩ : ∃ wb, w2.alloc (.cells #[.slice ao m cap] 66) = wb := ⟨_, rfl⟩
    have bn := Blk.new w2 [.slice ao m cap] 66
    have HSafe := qH (fun (W : World) (hW : Ext wb W) (k : Int) (s : ByteArray) (blank : Bool) => aHr (aA ls) ao m cap w2.heap.size k s blank W EM.out (by
     have := bn.cell 0 (by simp)
     rw [<- eb] at hW
     exact hW.cell this id) ((hcells.alloc _).ext (eb ▸ hW)) hm)
    have HX2 := qH hx2
    rw [eb] at HX2
    have C1 := qH (B2.out.alloc (.cells #[.slice ao m cap] 66))
    rw [eb] at C1
    have c1 : (w2.alloc (.cells #[.slice ao m cap] 66)).cell? ⟨w.heap.size, 1, none⟩ = some (.slice ha hn hcap) := by rw [eb, C1.out.cell']; rfl
    clear hk2 hle hcells hx2 bn
    have EB := qH eb; clear eb
    go_wp2
    rw [EB.out]
    clear c1
    go_loopw [36] (fun iv wr => aCp wb hs (dR (aA ls) false) hn iv wr) (fun iv _ => hn - (intOf iv).toNat)
    case atStart => exact ⟨0, Nat.zero_le _, rfl, rfl, Kp.refl _⟩
    case round =>
     obtain ⟨j, hj, rfl, hall3, hex3⟩ := hrel
     have X3 := qH (HX2.out.trans hex3.out)
     by_cases hlt3 : j < hn
     ·have hlt4 : j < hs.length := by rw [<- HHN.out]; exact hlt3
      obtain ⟨t, ht⟩ : ∃ t, hs[j]? = some t := ⟨_, qG hlt4⟩
      obtain ⟨b2, off2, eao2, f0, f1, _⟩ := fG (HHE.out.ext X3.out) ht
      subst eao2
      obtain ⟨kt, st, ⟨⟩⟩ := t
      simp only at f0 f1
      have HT := qH ht
      clear ht hlt4
      go_wp2_with fail
      refine (HSafe.out _ (hex3.out.alloc _) kt st false).mono ?_
      rintro e w3 ⟨v, rfl, hk3, rfl⟩
      have X4 := qH ((hex3.out.alloc _).trans hk3)
      clear hk3 f0 f1
      cases hq : dR (aA ls) false (kt, st, ())
      ·go_wp2
       go_ret
       refine RetN.mk (HX2.out.trans X4.out) ?_
       unfold aS lT eE
       rw [if_pos (by simp only [Bool.and_eq_true]; exact ⟨hhd, HA.out⟩), if_neg (by rw [mS HT.out hq]; simp)]; rfl
      ·go_wp2
       go_roundw
       case rel => exact ⟨j + 1, by omega, by first | rfl | (congr 1; done) | (congr 1; omega), by rw [gO HT.out, hall3.out, hq]; rfl, X4⟩
       case measure => simp [intOf]; omega
     ·have e : hs.take j = hs := List.take_of_length_le (by have := HHN.out; omega)
      have HB := qH hall3.out
      rw [e] at HB
      have c2 : wr.cell? ⟨w.heap.size, 2, none⟩ = some (.slice ba n bcap) := by rw [(C1.out.ext hex3.out).cell']; rfl
      clear e hall3
      have hltn : ¬ (j : Int) < (hn : Int) := by omega
      go_wp2
      clear c2
      go_loopw [48] (fun iv wr => aCp wb ls (jE (aA ls)) n iv wr) (fun iv _ => n - (intOf iv).toNat)
      case atStart => exact ⟨0, Nat.zero_le _, rfl, rfl, hex3⟩
      case round =>
       obtain ⟨q, hq, rfl, hall4, hex4⟩ := hrel
       have X5 := qH (HX2.out.trans hex4.out)
       by_cases hlt5 : q < n
       ·have hlt6 : q < ls.length := by rw [<- HN.out]; exact hlt5
        obtain ⟨l, hli⟩ : ∃ l, ls[q]? = some l := ⟨_, qG hlt6⟩
        obtain ⟨b, off, a, cap2, eao, hG, hb, hL, c0, c1, c2, c3, c4, c5, c6, c7⟩ := yR HE.out hli
        subst eao
        replace c0 := X5.out.cell c0 id
        replace c1 := X5.out.cell c1 id
        replace c2 := X5.out.cell c2 id
        replace c3 := X5.out.cell c3 id
        replace c4 := X5.out.cell c4 id
        replace c5 := X5.out.cell c5 id
        replace c6 := X5.out.cell c6 id
        replace c7 := X5.out.cell c7 id
        have HL := qH (And.intro hli hL)
        have hq2 : (q : Int) < (n : Int) := by omega
        obtain ⟨mm, emm⟩ : ∃ mm, mm = (aB l).length := ⟨_, rfl⟩
        rw [<- emm] at c2
        have HM := qH emm
        have hmm : mm ≤ 1048576 := by rw [emm]; exact HF.out.terms l (List.mem_of_getElem? hli)
        clear hli hlt6 hL hG hb emm
        have HSafe2 := HSafe
        obtain ⟨k, ek⟩ : ∃ k, l.1 = k := ⟨_, rfl⟩
        obtain ⟨lk, elk⟩ : ∃ lk, (leftOf l).1 = lk := ⟨_, rfl⟩
        obtain ⟨lt, elt⟩ : ∃ lt, (leftOf l).2.1 = lt := ⟨_, rfl⟩
        obtain ⟨rk, erk⟩ : ∃ rk, (aY l).1 = rk := ⟨_, rfl⟩
        obtain ⟨rt, ert⟩ : ∃ rt, (aY l).2.1 = rt := ⟨_, rfl⟩
        rw [ek] at c0
        rw [elk] at c4
        rw [elt] at c5
        rw [erk] at c6
        rw [ert] at c7
        have eleft : leftOf l = (lk, lt, ()) := by rw [<- elk, <- elt]
        have eright : aY l = (rk, rt, ()) := by rw [<- erk, <- ert]
        generalize bR l = s1 at c1
        generalize iZ l = s3 at c3
        have HK := qH (And.intro ek (And.intro eleft eright)); clear ek elk elt erk ert eleft eright
        obtain ⟨wx, ewx⟩ : ∃ wx, wr.alloc (.cells #[.int .i64 k, .string s1, .slice a mm cap2, .int .i64 s3, .int .i64 lk, .string lt, .int .i64 rk, .string rt] 60) = wx := ⟨_, rfl⟩
        have hB := Blk.new wr [.int .i64 k, .string s1, .slice a mm cap2, .int .i64 s3, .int .i64 lk, .string lt, .int .i64 rk, .string rt] 60
        have hWX : Ext wb wx := by rw [<- ewx]; exact hex4.out.alloc _
        have hXX : Ext w wx := HX2.out.trans hWX
        obtain ⟨g, eg⟩ : ∃ g, g = wr.heap.size := ⟨_, rfl⟩
        have HGB := qH hB
        rw [<- eg] at HGB
        have ewx2 : wr.alloc (.cells [Value.int .i64 k, .string s1, .slice a mm cap2, .int .i64 s3, .int .i64 lk, .string lt, .int .i64 rk, .string rt].toArray 60) = wx := ewx
        rw [ewx2] at HGB
        have HWX := qH hWX
        have HXX := qH hXX
        have EG := qH (And.intro eg ewx)
        clear hB hWX hXX eg ewx ewx2
        by_cases h3 : k = 3
        ·have b3 : (k == 3) = true := by simp [h3]
         have n2 : ¬ k = 2 := by omega
         have HH3 := qH (And.intro h3 n2); clear h3 n2
         go_wp2_with fail
         rw [EG.out.2, <- EG.out.1]
         refine (HSafe.out _ HWX.out lk lt false).mono ?_
         rintro e w5 ⟨v, rfl, hk5, rfl⟩
         have X6 := qH hk5
         have d6 : w5.cell? ⟨g, 6, none⟩ = some (.int .i64 rk) := by rw [(HGB.out.ext hk5).cell']; rfl
         have d7 : w5.cell? ⟨g, 7, none⟩ = some (.string rt) := by rw [(HGB.out.ext hk5).cell']; rfl
         clear hk5 c0 c1 c2 c3 c4 c5 c6 c7
         cases hsl : dR (aA ls) false (lk, lt, ())
         ·go_wp2
          go_ret
          refine RetN.mk (HXX.out.trans X6.out) ?_
          have hno : jE (aA ls) l = false := by unfold jE; rw [if_pos (HK.out.1.trans HH3.out.1), HK.out.2.1, hsl]; rfl
          unfold aS lT eE
          rw [if_pos (by simp only [Bool.and_eq_true]; exact ⟨hhd, HA.out⟩), if_neg (by rw [mS HL.out.1 hno]; simp)]; rfl
         ·go_wp2_with fail
          refine (HSafe.out _ (HWX.out.trans X6.out) rk rt false).mono ?_
          rintro e w7 ⟨v, rfl, hk7, rfl⟩
          have X7 := qH (X6.out.trans hk7)
          clear hk7 d6 d7
          cases hsr : dR (aA ls) false (rk, rt, ())
          ·go_wp2
           go_ret
           refine RetN.mk (HXX.out.trans X7.out) ?_
           have hno : jE (aA ls) l = false := by unfold jE; rw [if_pos (HK.out.1.trans HH3.out.1), HK.out.2.1, HK.out.2.2, hsr, Bool.and_false]
           unfold aS lT eE
           rw [if_pos (by simp only [Bool.and_eq_true]; exact ⟨hhd, HA.out⟩), if_neg (by rw [mS HL.out.1 hno]; simp)]; rfl
          ·have HSL := qH (show jE (aA ls) l = (aB l).all (fun t => if k = 2 then dR (aA ls) true t else true) by
            unfold jE; rw [if_pos (HK.out.1.trans HH3.out.1), HK.out.2.1, HK.out.2.2, hsl, hsr]
            exact (List.all_eq_true.2 (fun t _ => if_neg HH3.out.2)).symm)
           have d0 : w7.cell? ⟨g, 2, none⟩ = some (.slice a mm cap2) := by rw [(HGB.out.ext X7.out).cell']; rfl
           have HX7 := X7
           clear X7
           go_wp2
           clear d0
           go_loopw [73] (fun iv wr => aCp wx (aB l) (fun t => if k = 2 then dR (aA ls) true t else true) mm iv wr) (fun iv _ => mm - (intOf iv).toNat)
           case atStart => exact ⟨0, Nat.zero_le _, rfl, rfl, HX7.out⟩
           case round =>
            obtain ⟨z, hz, rfl, hall8, hex8⟩ := hrel
            have X8 := qH (HXX.out.trans hex8.out)
            by_cases hlt7 : z < mm
            ·have hlt8 : z < (aB l).length := by rw [<- HM.out]; exact hlt7
             obtain ⟨t, ht⟩ : ∃ t, (aB l)[z]? = some t := ⟨_, qG hlt8⟩
             obtain ⟨b9, off9, eao9, f0, f1, _⟩ := fG (HL.out.2.terms.ext X8.out) ht
             subst eao9
             obtain ⟨kt, st, ⟨⟩⟩ := t
             simp only at f0 f1
             have HT := qH ht
             have e0 : (wr.alloc (.cells #[.int .i64 kt, .string st] 58)).cell? ⟨g, 0, none⟩ = some (.int .i64 k) := by rw [((HGB.out.ext hex8.out).alloc _).cell']; rfl
             clear ht hlt8
             by_cases h2 : k = 2
             ·have b2 : (k == 2) = true := by simp [h2]
              have HH2 := qH h2; clear h2
              go_wp2_with fail
              refine (HSafe.out _ ((HWX.out.trans hex8.out).alloc _) kt st true).mono ?_
              rintro e w9 ⟨v, rfl, hk9, rfl⟩
              have X9 := qH ((hex8.out.alloc _).trans hk9)
              clear hk9 f0 f1 e0
              cases hqq : dR (aA ls) true (kt, st, ())
              ·go_wp2
               go_ret
               refine RetN.mk (HXX.out.trans X9.out) ?_
               have hno : jE (aA ls) l = false := by rw [HSL.out]; exact mS HT.out (by show (if k = 2 then _ else _) = false; rw [if_pos HH2.out]; exact hqq)
               unfold aS lT eE
               rw [if_pos (by simp only [Bool.and_eq_true]; exact ⟨hhd, HA.out⟩), if_neg (by rw [mS HL.out.1 hno]; simp)]; rfl
              ·go_wp2
               go_roundw
               case rel => exact ⟨z + 1, by omega, by first | rfl | (congr 1; done) | (congr 1; omega), by rw [gO HT.out, hall8.out]; show (if k = 2 then _ else _) = true; rw [if_pos HH2.out]; exact hqq, X9⟩
               case measure => simp [intOf]; omega
             ·have b2 : (k == 2) = false := by simp [h2]
              have HH2 := qH h2; clear h2
              go_wp2
              go_roundw
              case rel => exact ⟨z + 1, by omega, by first | rfl | (congr 1; done) | (congr 1; omega), by rw [gO HT.out, hall8.out]; show (if k = 2 then _ else _) = true; rw [if_neg HH2.out], hex8.out.alloc _⟩
              case measure => simp [intOf]; omega
            ·have e : (aB l).take z = aB l := List.take_of_length_le (by have := HM.out; omega)
             have H9 := qH hall8.out
             rw [e] at H9
             clear e hall8
             have hzm : ¬ (z : Int) < (mm : Int) := by omega
             go_wp2
             go_roundw
             case rel => exact ⟨q + 1, by omega, by first | rfl | (congr 1; done) | (congr 1; omega), by rw [gO HL.out.1, hall4.out, HSL.out, H9.out]; rfl, HWX.out.trans hex8.out⟩
             case measure => simp [intOf]; omega
        ·have b3 : (k == 3) = false := by simp [h3]
         have HSL := qH (show jE (aA ls) l = (aB l).all (fun t => if k = 2 then dR (aA ls) true t else true) by
          unfold jE; rw [if_neg (fun x => h3 (HK.out.1.symm.trans x)), HK.out.1]
          by_cases h2 : k = 2
          ·rw [if_pos h2]; congr 1; funext t; rw [if_pos h2]
          ·rw [if_neg h2]; symm; rw [List.all_eq_true]; intro t _; rw [if_neg h2])
         have HH3 := qH h3; clear h3
         have d0 : (wr.alloc (.cells #[.int .i64 k, .string s1, .slice a mm cap2, .int .i64 s3, .int .i64 lk, .string lt, .int .i64 rk, .string rt] 60)).cell? ⟨wr.heap.size, 2, none⟩ = some (.slice a mm cap2) := by rw [EG.out.2, <- EG.out.1, HGB.out.cell']; rfl
         go_wp2
         rw [EG.out.2, <- EG.out.1]
         have HX7 := qH (Kp.refl (F := fun _ => False) wx)
         clear c0 c1 c2 c3 c4 c5 c6 c7
         clear d0
         go_loopw [73] (fun iv wr => aCp wx (aB l) (fun t => if k = 2 then dR (aA ls) true t else true) mm iv wr) (fun iv _ => mm - (intOf iv).toNat)
         case atStart => exact ⟨0, Nat.zero_le _, rfl, rfl, HX7.out⟩
         case round =>
          obtain ⟨z, hz, rfl, hall8, hex8⟩ := hrel
          have X8 := qH (HXX.out.trans hex8.out)
          by_cases hlt7 : z < mm
          ·have hlt8 : z < (aB l).length := by rw [<- HM.out]; exact hlt7
           obtain ⟨t, ht⟩ : ∃ t, (aB l)[z]? = some t := ⟨_, qG hlt8⟩
           obtain ⟨b9, off9, eao9, f0, f1, _⟩ := fG (HL.out.2.terms.ext X8.out) ht
           subst eao9
           obtain ⟨kt, st, ⟨⟩⟩ := t
           simp only at f0 f1
           have HT := qH ht
           have e0 : (wr.alloc (.cells #[.int .i64 kt, .string st] 58)).cell? ⟨g, 0, none⟩ = some (.int .i64 k) := by rw [((HGB.out.ext hex8.out).alloc _).cell']; rfl
           clear ht hlt8
           by_cases h2 : k = 2
           ·have b2 : (k == 2) = true := by simp [h2]
            have HH2 := qH h2; clear h2
            go_wp2_with fail
            refine (HSafe.out _ ((HWX.out.trans hex8.out).alloc _) kt st true).mono ?_
            rintro e w9 ⟨v, rfl, hk9, rfl⟩
            have X9 := qH ((hex8.out.alloc _).trans hk9)
            clear hk9 f0 f1 e0
            cases hqq : dR (aA ls) true (kt, st, ())
            ·go_wp2
             go_ret
             refine RetN.mk (HXX.out.trans X9.out) ?_
             have hno : jE (aA ls) l = false := by rw [HSL.out]; exact mS HT.out (by show (if k = 2 then _ else _) = false; rw [if_pos HH2.out]; exact hqq)
             unfold aS lT eE
             rw [if_pos (by simp only [Bool.and_eq_true]; exact ⟨hhd, HA.out⟩), if_neg (by rw [mS HL.out.1 hno]; simp)]; rfl
            ·go_wp2
             go_roundw
             case rel => exact ⟨z + 1, by omega, by first | rfl | (congr 1; done) | (congr 1; omega), by rw [gO HT.out, hall8.out]; show (if k = 2 then _ else _) = true; rw [if_pos HH2.out]; exact hqq, X9⟩
             case measure => simp [intOf]; omega
           ·have b2 : (k == 2) = false := by simp [h2]
            have HH2 := qH h2; clear h2
            go_wp2
            go_roundw
            case rel => exact ⟨z + 1, by omega, by first | rfl | (congr 1; done) | (congr 1; omega), by rw [gO HT.out, hall8.out]; show (if k = 2 then _ else _) = true; rw [if_neg HH2.out], hex8.out.alloc _⟩
            case measure => simp [intOf]; omega
          ·have e : (aB l).take z = aB l := List.take_of_length_le (by have := HM.out; omega)
           have H9 := qH hall8.out
           rw [e] at H9
           clear e hall8
           have hzm : ¬ (z : Int) < (mm : Int) := by omega
           go_wp2
           go_roundw
           case rel => exact ⟨q + 1, by omega, by first | rfl | (congr 1; done) | (congr 1; omega), by rw [gO HL.out.1, hall4.out, HSL.out, H9.out]; rfl, HWX.out.trans hex8.out⟩
           case measure => simp [intOf]; omega
       ·have e : ls.take q = ls := List.take_of_length_le (by have := HN.out; omega)
        have HC := qH hall4.out
        rw [e] at HC
        clear e hall4
        have hqn : ¬ (q : Int) < (n : Int) := by omega
        go_wp2
        go_ret
        refine RetN.mk X5.out ?_
        unfold aS lT eE
        rw [if_pos (by simp only [Bool.and_eq_true]; exact ⟨hhd, HA.out⟩), if_pos (by simp only [Bool.and_eq_true]; exact ⟨HB.out, HC.out⟩)]; rfl
theorem yV (p : ByteArray) (hs : List aE) (ls : List aO) (ha : Option Addr) (hn hcap : Nat) (ba : Option Addr) (n bcap : Nat) (w : World) (G : Nat -> Prop) (hhn : hn = hs.length) (hh : aQ w G ha hs) (hhl : hn ≤ 1048576) (hbn : n = ls.length) (h : bQ w G ba ls) (hf : Fit ls) (hc : aS ((p, hs, ()), ls, ()) = 0) :
 Calls Tryz.prog 115 #[dM p ha hn hcap ba n bcap] w (RetN w fun w' v => ∃ ao cap, v = .slice ao (aA ls).length cap /\ (aA ls).length ≤ cap /\ CellsAt w' ao (strs (aA ls)) /\ cap = (aA ls).length /\ OwnSl w w' v (aA ls)) := by
 have h1 := fun (W : World) (hW : Ext w W) => iF p hs ls ha hn hcap ba n bcap W G hhn (hh.ext hW) hhl hbn (h.ext hW) hf
 rw [hc] at h1
 have HC := qH h1
 have HV := qH (fun (W : World) (hW : Ext w W) => zL p ha hn hcap ls ba n bcap W G hbn (h.ext hW) hf)
 clear h1 hhn hh hbn h hf hc
 go_enter Tryz.func115, Tryz.ntmps115
 go_wp2_with fail
 refine (HC.out _ ((Kp.refl _).alloc _)).mono ?_
 rintro e w1 ⟨v, rfl, hk1, rfl⟩
 have bb := (Blk.new w [.string p, .slice ha hn hcap, .slice ba n bcap] 43).ext hk1
 have c0 : w1.cell? ⟨w.heap.size, 0, none⟩ = some (.string p) := by rw [bb.cell']; rfl
 have c1 : w1.cell? ⟨w.heap.size, 1, none⟩ = some (.slice ha hn hcap) := by rw [bb.cell']; rfl
 have c2 : w1.cell? ⟨w.heap.size, 2, none⟩ = some (.slice ba n bcap) := by rw [bb.cell']; rfl
 have X1 := qH (((Kp.refl _).alloc _).trans hk1)
 clear hk1 bb
 go_wp2_with fail
 refine (HV.out _ X1.out).mono ?_
 rintro e w2 ⟨v, rfl, hk2, ao, cap, rfl, h1, h2⟩
 have X2 := qH (And.intro (X1.out.trans hk2) (And.intro h1 h2))
 clear hk2 h1 h2 c0 c1 c2
 go_wp2
 go_ret
 exact RetN.mk X2.out.1 ⟨ao, cap, rfl, X2.out.2.1, X2.out.2.2.1, X2.out.2.2.2.1, X2.out.2.2.2.2.old X1.out.size⟩
end
section
theorem aAd {n : Nat} {P : Program} {row : String} {args : Array Value} {w : World} {R : Value -> World -> Prop} (h : Rows P row args w R) : RowsIn Fence.wide n P row args w R :=
 fun c cs _ => let ⟨v, w', r, s⟩ := h c cs; ⟨v, w', r, stepsIn_wide.2 s⟩
section
variable {P : Program} {l n : Nat}
theorem Oper.wpIn_of_wp {o : Oper} {a : Act} {w : World} {K : Act -> World -> Prop} {Q : Exit -> Act -> World -> Prop} (hd : ∀ c, o.op ≠ .defer c) (h : o.wp P a w K Q) : o.wpIn (Fence.wide.inRound l) n P a w K Q := by
 refine ⟨fun f _ => trivial, ?_⟩
 rw [Oper.semAt_plain _ _ _ hd]
 unfold Oper.wp at h
 generalize (execOp a.eval o).run P w = r at *
 cases r with
 | ok x w' =>
  cases x with
  | value v => exact h
  | skip => exact h
  | defer d => exact h
  | enter f args => exact ⟨fun e => (by cases e), CallsIn.inRound l (callsIn_wide.2 h)⟩
  | row row args => exact ⟨fun e => (by cases e), aAd h⟩
  | _ => exact h.elim
 | halt x w' =>
  cases x with
  | panic v => exact h
  | _ => exact h.elim
def yL (ops : List Oper) : Bool := ops.all fun o => match o.op with | .defer _ => false | _ => true
theorem aDg {ops : List Oper} (h : yL ops = true) {i : Nat} {o : Oper} (ho : ops.toArray[i]? = some o) : ∀ c, o.op ≠ .defer c := fun c e => by
 rw [List.getElem?_toArray] at ho
 have := List.all_eq_true.1 h o (List.mem_of_getElem? ho)
 rw [e] at this
 cases this
theorem fF {md : Region.Mode} {ops : List Oper} {Q : Exit -> Act -> World -> Prop} (hd : yL ops = true) (hQ : ∀ a w, ¬ Q .outgrown a w) : ∀ (fuel : Nat) (listed : Array Bool) (a : Act) (w : World), wpAny P md ops.toArray Q fuel listed a w -> wpAnyIn (Fence.wide.inRound l) n P md ops.toArray Q fuel listed a w
 | 0, _, _, _, h => h
 | fuel + 1, listed, a, w, h => by
  refine ⟨h.1, fun i hi => ?_⟩
  have h1 := h.2 i hi
  unfold wpOp at h1
  unfold wpOpIn
  cases ho : ops.toArray[i]? with
  | none =>
   rw [ho] at h1
   exact fF hd hQ fuel _ _ _ h1
  | some o =>
   rw [ho] at h1
   simp only at h1 ⊢
   split
   ·rename_i hw
    rw [if_pos hw] at h1
    replace h1 := h1.resolve_right fun h => by
     obtain ⟨_, a', w', h⟩ := h
     exact hQ a' w' h
    exact Oper.wpIn_mono (fun a w h => fF hd hQ fuel _ a w h) (Oper.wpIn_of_wp (aDg hd ho) h1)
   ·rename_i hw
    rw [if_neg hw] at h1
    exact ⟨fun f _ => trivial, fF hd hQ fuel _ _ _ h1⟩
theorem bX {id : Nat} {ops : List Oper} {Q : Exit -> Act -> World -> Prop} {a : Act} {w : World} (S : World -> Prop) (lates : List Nat) (hm : P.follows .mixedOrders = true) (hS : S w.drew)
 (h : S w.drew -> bZ P .any ops.toArray Q S lates ops.toArray.size (Array.replicate ops.toArray.size false) a w.drew) (hd : yL ops = true := by kernel_rfl) (hQ : ∀ a w, ¬ Q .outgrown a w := by exact fun _ _ h => h) : (Code.region id ops.toArray true).wpIn (Fence.wide.inRound l) n P Q a w :=
 wpIn_region_any hm (fF hd hQ _ _ _ _ (nS _ _ _ _ (h hS)))
end
end
section
open Go.RowKit
theorem aF5 {cs : Array Value} {c : Value} {k : Nat} (hk : 0 < k) (h : cs = (List.replicate k c).toArray) (m : Nat) : madeCells cs m = (List.replicate m c).toArray := by
 subst h
 apply Array.ext_getElem?
 intro j
 unfold madeCells
 rw [Array.getElem?_map]
 by_cases hj : j < m
 ·have h1 : (Array.range m)[j]? = some j := by simp [hj]
  have h2 : j % (List.replicate k c).toArray.size < (List.replicate k c).toArray.size := Nat.mod_lt _ (by simp; exact hk)
  rw [h1, Option.map_some, getElem!_pos (List.replicate k c).toArray (j % (List.replicate k c).toArray.size) h2]
  simp [hj]
 ·simp [hj]
theorem iP {P : Program} {t e : TypeId} {k bytes : Nat} {z c : Value} (E : dB P t e k bytes z) (hc : z.cells = (List.replicate k c).toArray) (n : Nat) (hb : bytes * n ≤ 281474976710656) (h63 : n ≤ maxLen) (w : World) :
 (Instr.makeSlice t (.int .i64 (n : Int)) (.int .i64 (n : Int))).run P w = .ok (.slice (some ⟨w.heap.size, 0, none⟩) n n) (w.alloc (.cells (List.replicate (n * k) c).toArray e)) := by
 obtain ⟨ht, hi, hz, hk⟩ := E
 obtain ⟨i, hi, h1, h2, h3⟩ := info_parts hi
 have hb' : (i.bytes : Int) * (n : Int) ≤ 281474976710656 := by
  have h : ((i.bytes * n : Nat) : Int) ≤ 281474976710656 := by rw [h3]; omega
  rwa [Int.natCast_mul] at h
 have hr := run_make (P := P) w t e i z ht hi h1 .i64 .i64 n n (by omega) (Int.le_refl _) hb' (by unfold maxLen at h63; omega)
 simp only [Int.toNat_natCast, h2] at hr
 rw [aF5 hk hc] at hr
 exact hr
theorem flat_get {α : Type} (f : α -> List Value) (k : Nat) (hk : ∀ x, (f x).length = k) : ∀ (L : List α) (i : Nat) (x : α) (c : Nat), L[i]? = some x -> c < k -> (L.flatMap f)[i * k + c]? = (f x)[c]?
 | [], i, x, c, h, _ => by simp at h
 | a :: L, 0, x, c, h, hc => by
  simp at h; subst h
  rw [List.flatMap_cons, Nat.zero_mul, Nat.zero_add, List.getElem?_append_left (by rw [hk]; exact hc)]
 | a :: L, i + 1, x, c, h, hc => by
  rw [List.flatMap_cons, List.getElem?_append_right (by rw [hk, Nat.succ_mul]; omega), hk]
  have := flat_get f k hk L i x c (by simpa using h) hc
  rw [<- this]; congr 1; rw [Nat.succ_mul]; omega
theorem CellsAt.new (w : World) (xs : List Value) (e : TypeId) : CellsAt (w.alloc (.cells xs.toArray e)) (some ⟨w.heap.size, 0, none⟩) xs := CellsAt.pre (rest := []) (by rw [List.append_nil]; exact Blk.new w xs e)
theorem oG {α : Type} {xs : List α} {k : Nat} {x : α} (h : xs[k]? = some x) : xs.take (k + 1) = xs.take k ++ [x] := by rw [List.take_add_one, h]; rfl
def NoPanic (Q : Exit -> Act -> World -> Prop) (e : Exit) (a : Act) (w : World) : Prop := match e with
 | .panic _ => False
 | e => Q e a w
theorem sF {P : Program} {c : Code} {Q : Exit -> Act -> World -> Prop} {a : Act} {w : World} (h : c.wp P (NoPanic Q) a w) : c.wp P Q a w := wp_mono h fun e a w h => by
 cases e <;> first | exact h.elim | exact h
theorem fJ {Q : Exit -> Act -> World -> Prop} {a : Act} {w : World} (h : Q .normal a w) : NoPanic Q .normal a w := h
def vU (t : aE) : List Value := [.int .i64 t.1, .string t.2.1]
def yD (ts : List aE) : List Value := ts.flatMap vU
theorem aB1 {α : Type} {s : Shp Tryz.prog α} {f : α -> List Value} {w : World} {G : Nat -> Prop} {g : Nat} {xs : List α} {rest : List Value} {e : TypeId} (hf : ∀ x, (f x).length = s.n) (hat : ∀ (i : Nat) x, xs[i]? = some x -> s.At w G (f x) x) (hG : G g) (hB : Blk w g (xs.flatMap f ++ rest) e) : ElemsAt s w G (some ⟨g, 0, none⟩) xs := fun i x hi => by
 refine ⟨g, 0, f x, rfl, hG, hB.lt, hat i x hi, fun c u hu => ?_⟩
 have hc : c < s.n := by rw [<- hf x]; exact (List.getElem?_eq_some_iff.1 hu).1
 have hg := flat_get f s.n hf xs i x c hi hc
 rw [hB.cell', Nat.zero_add, List.getElem?_append_left (by
  have := (List.getElem?_eq_some_iff.1 (hg.trans hu)).1
  exact this), hg, hu]
theorem rX {w : World} {G : Nat -> Prop} {t : aE} (h : iA t) : jO.At w G (vU t) t := ⟨[.int .i64 t.1], [.string t.2.1], rfl, ⟨rfl, h.1⟩, [.string t.2.1], [], rfl, ⟨rfl, h.2⟩, rfl⟩
def yT (x : aO × (Option Addr × Nat)) : List Value := [.int .i64 x.1.1, .string (bR x.1), .slice x.2.1 (aB x.1).length x.2.2, .int .i64 (iZ x.1), .int .i64 (leftOf x.1).1, .string (leftOf x.1).2.1, .int .i64 (aY x.1).1, .string (aY x.1).2.1]
theorem aH7 (x : aO × (Option Addr × Nat)) : (yT x).length = 8 := rfl
structure LitAll (l : aO) : Prop where
 kind : (Lit.int .i64 l.1).wf = true
 pred : (bR l).size ≤ maxLen
 terms : ∀ t ∈ aB l, iA t
 op : (Lit.int .i64 (iZ l)).wf = true
 left : iA (leftOf l)
 right : iA (aY l)
theorem aLe {w : World} {G : Nat -> Prop} {l : aO} (h : LitAll l) {a : Option Addr} {cap : Nat} (ht : aQ w G a (aB l)) (h1 : (aB l).length ≤ cap) (h2 : cap ≤ maxLen) : zW.At w G (yT (l, (a, cap))) l :=
 ⟨[.int .i64 l.1], _, rfl, ⟨rfl, h.kind⟩, ⟨[.string (bR l), .slice a (aB l).length cap], _, rfl, ⟨[.string (bR l)], _, rfl, ⟨rfl, h.pred⟩, [.slice a (aB l).length cap], [], rfl, ⟨a, cap, rfl, h1, h2, ht⟩, rfl⟩,
   ⟨[.int .i64 (iZ l)], _, rfl, ⟨rfl, h.op⟩, ⟨vU (leftOf l), _, rfl, rX h.left, ⟨vU (aY l), [], rfl, rX h.right, rfl⟩⟩⟩⟩⟩
theorem tL {w : World} {G : Nat -> Prop} {g : Nat} {ls : List aO} {vs : List (Option Addr × Nat)} {rest : List Value} {e : TypeId} (hl : vs.length = ls.length) (hall : ∀ l ∈ ls, LitAll l) (ht : ∀ x ∈ ls.zip vs, aQ w G x.2.1 (aB x.1) /\ (aB x.1).length ≤ x.2.2 /\ x.2.2 ≤ maxLen) (hG : G g) (hB : Blk w g ((ls.zip vs).flatMap yT ++ rest) e) : bQ w G (some ⟨g, 0, none⟩) ls := fun i l hi => by
 have hv : i < vs.length := by rw [hl]; exact (List.getElem?_eq_some_iff.1 hi).1
 have hz : (ls.zip vs)[i]? = some (l, vs[i]) := by rw [List.getElem?_zip_eq_some]; exact ⟨hi, qG hv⟩
 obtain ⟨t1, t2, t3⟩ := ht _ (List.mem_of_getElem? hz)
 refine ⟨g, 0, yT (l, vs[i]), rfl, hG, hB.lt, aLe (hall l (List.mem_of_getElem? hi)) t1 t2 t3, fun c u hu => ?_⟩
 have hc : c < 8 := (List.getElem?_eq_some_iff.1 hu).1
 have hg := flat_get yT 8 aH7 (ls.zip vs) i _ c hz hc
 rw [show zW.n = 8 from rfl, hB.cell', Nat.zero_add, List.getElem?_append_left (List.getElem?_eq_some_iff.1 (hg.trans hu)).1, hg, hu]
end
section
section
variable {P : Program} {l : List Oper} {Q : Exit -> Act -> World -> Prop} {md : Region.Mode} {S : World -> Prop} {fuel : Nat} {listed : Array Bool} {a : Act} {w : World}
end
end
section
open Go.RowKit Go.Shelf
attribute [local go_sem] Oper.semAt_some
def numT (s : ByteArray) : ByteArray := if (bM s.data.toList).2 = true then ⟨(Lib.itoa (bM s.data.toList).1).toArray⟩ else ⟨#[110, 111]⟩
theorem yK (l : List UInt8) : ((bM l).2 = false -> (bM l).1 = 0) /\ -9223372036854775808 ≤ (bM l).1 /\ (bM l).1 ≤ 9223372036854775807 := by
 unfold bM
 split
 ·rename_i v hp
  have hb := Lib.parseIntB_bounds hp
  split
  ·exact ⟨fun h => (by cases h), (by have := hb.1; omega), (by have := hb.2; omega)⟩
  ·exact ⟨fun _ => rfl, by decide, by decide⟩
 ·exact ⟨fun _ => rfl, by decide, by decide⟩
set_option maxHeartbeats 2000000 in
theorem bS (s t : ByteArray) (hs : s.size ≤ 281474976710656) (w : World) (hN : NumW w) (ht : numT s = t) :
 Calls Tryz.prog 26 #[.string s] w (RetN w fun w' v => v = .string t) := by
 subst ht
 have HN := qH hN
 have HC := qH (tA s hs w hN)
 have HT := qH (show numT s = _ from rfl)
 obtain ⟨b2, b3, b4⟩ := yK s.data.toList
 unfold numT
 obtain ⟨z, ez⟩ : ∃ x, (bM s.data.toList).1 = x := ⟨_, rfl⟩
 obtain ⟨ok, eok⟩ : ∃ x, (bM s.data.toList).2 = x := ⟨_, rfl⟩
 rw [ez, eok] at HC ⊢
 rw [ez] at b2 b3 b4
 rw [eok] at b2
 have HB := qH (And.intro b2 (And.intro b3 b4))
 clear hs hN b2 b3 b4 ez eok HT
 go_enter Tryz.func26, Tryz.ntmps26
 go_wp2_with fail
 refine HC.out.mono ?_
 rintro e w1 ⟨v, rfl, hk1, rfl⟩
 have X1 := qH hk1
 clear hk1
 cases ok
 ·have hz0 : z = 0 := HB.out.1 rfl
  subst hz0
  go_wp2_with fail
  go_ret
  exact RetN.mk X1.out rfl
 ·have HW := qH (jB z HB.out.2.1 HB.out.2.2 w1 (HN.out.ext X1.out))
  go_wp2_with fail
  refine HW.out.mono ?_
  rintro e w3 ⟨v, rfl, hk3, rfl⟩
  have X3 := qH (X1.out.trans hk3)
  clear hk3
  go_wp2
  go_ret
  exact RetN.mk X3.out rfl
set_option maxHeartbeats 2000000 in
theorem zQ (w : World) : Calls Tryz.prog 29 #[] w (RetN w fun w' v => v = .bool true) := by
 go_enter Tryz.func29, Tryz.ntmps29
 go_wp2_with fail
 refine (oR w).mono ?_
 rintro e w1 ⟨v, rfl, hk1, rfl, -, ht1⟩
 obtain ⟨tb, etb⟩ : ∃ x, w.heap.size = x := ⟨_, rfl⟩
 rw [etb] at ht1 ⊢
 have H1 := qH (And.intro hk1 (And.intro ht1 etb))
 clear hk1 ht1 etb
 go_wp2_with fail
 refine (kL tb 0 9223372036854775807 (by decide) (by decide) w1 H1.out.2.1).mono ?_
 rintro e w2 ⟨rfl, hk2, ht2⟩
 have H2 := qH (And.intro (H1.out.1.trans' hk2 fun i hi e => by have e' : i = tb := e; have := H1.out.2.2; omega) ht2)
 clear hk2 ht2
 go_wp2_with fail
 refine (kL tb _ 1 (by decide) (by decide) w2 H2.out.2).mono ?_
 rintro e w3 ⟨rfl, hk3, ht3⟩
 have H3 := qH (And.intro (H2.out.1.trans' hk3 fun i hi e => by have e' : i = tb := e; have := H1.out.2.2; omega) ht3)
 clear hk3 ht3
 go_wp2_with fail
 refine (nW tb _ (by decide) (by decide) w3 H3.out.2).mono ?_
 rintro e w4 ⟨rfl, hk4⟩
 have X4 := qH (show Ext w3 w4 from hk4 ▸ Kp.refl w3)
 clear hk4
 rw [show vB (0 + 9223372036854775807 + 1) = (0, false) from by decide]
 go_wp2_with fail
 refine (kL tb _ (-1) (by decide) (by decide) w4 (H3.out.2.kp X4.out id)).mono ?_
 rintro e w5 ⟨rfl, hk5, ht5⟩
 have H5 := qH (And.intro ((H3.out.1.trans X4.out).trans' hk5 fun i hi e => by have e' : i = tb := e; have := H1.out.2.2; omega) ht5)
 clear hk5 ht5
 go_wp2_with fail
 refine (nW tb _ (by decide) (by decide) w5 H5.out.2).mono ?_
 rintro e w6 ⟨rfl, hk6⟩
 have X6 := qH (show Ext w w6 from hk6 ▸ H5.out.1)
 clear hk6
 rw [show vB (0 + 9223372036854775807 + 1 + -1) = (9223372036854775807, true) from by decide]
 go_wp2_with fail
 refine (aCy 1 w6).mono ?_
 rintro e w7 ⟨rfl, hk7⟩
 have X7 := qH (X6.out.trans hk7)
 clear hk7
 go_wp2_with fail
 refine (aCx w7).mono ?_
 rintro e w8 ⟨rfl, hk8⟩
 have X8 := qH (show Ext w w8 from hk8 ▸ X7.out)
 clear hk8
 go_wp2
 go_ret
 exact RetN.mk X8.out rfl
end
section
structure VP where
 at_ : World -> Value -> Prop
 mono : ∀ {W W' : World} {v : Value}, at_ W v -> Ext W W' -> at_ W' v
def aFh (md : Region.Mode) (l : List Oper) (N : Nat) : Bool := (List.range l.length).all fun i => match l[i]? with
 | some o => (o.after.toList.all fun e => !Region.binds md e || decide (e.on < i)) && (match o.dst with
  | some d => decide (d < N) && (List.range l.length).all fun j => i == j || (match l[j]? with | some oj => oj.dst != some d | none => true)
  | none => true)
 | none => true
theorem aGi {md : Region.Mode} {l : List Oper} {N i : Nat} {o : Oper} (h : aFh md l N = true) (ho : l[i]? = some o) : ∀ e ∈ o.after, Region.binds md e = true -> e.on < i := fun e he hb => by
 have hi : i < l.length := (List.getElem?_eq_some_iff.1 ho).1
 have h1 := List.all_eq_true.1 h i (List.mem_range.2 hi)
 rw [ho] at h1
 have h2 := (Bool.and_eq_true _ _ ▸ h1 : _ /\ _).1
 have h3 := List.all_eq_true.1 h2 e (by simpa using he)
 rw [hb] at h3
 exact of_decide_eq_true (by simpa using h3)
theorem aBp {md : Region.Mode} {l : List Oper} {N i d : Nat} {o : Oper} (h : aFh md l N = true) (ho : l[i]? = some o) (hd : o.dst = some d) : d < N /\ ∀ j oj, l[j]? = some oj -> j ≠ i -> oj.dst ≠ some d := by
 have hi : i < l.length := (List.getElem?_eq_some_iff.1 ho).1
 have h1 := List.all_eq_true.1 h i (List.mem_range.2 hi)
 rw [ho] at h1
 have h2 := (Bool.and_eq_true _ _ ▸ h1 : _ /\ _).2
 rw [hd] at h2
 have h3 := (Bool.and_eq_true _ _ ▸ h2 : _ /\ _)
 refine ⟨of_decide_eq_true h3.1, fun j oj hj hne => ?_⟩
 have h4 := List.all_eq_true.1 h3.2 j (List.mem_range.2 (List.getElem?_eq_some_iff.1 hj).1)
 rw [hj] at h4
 have h5 : (i == j) = false := by simp; exact fun e => hne e.symm
 rw [h5] at h4
 simpa using h4
def depB (md : Region.Mode) (l : List Oper) (i j d : Nat) : Bool := match l[i]?, l[j]? with
 | some o, some oj => (o.after.toList.any fun e => Region.binds md e && e.on == j) && oj.dst == some d
 | _, _ => false
def uI (l : List Oper) (d : Nat) : Bool := l.all fun o => o.dst != some d
section
variable {P : Program} {md : Region.Mode} {l : List Oper} {Q : Exit -> Act -> World -> Prop} {N : Nat} {t0 : Array Value} {D : List Deferred} {w0 : World} {Φ : List VP}
structure FlowI (l : List Oper) (N : Nat) (t0 : Array Value) (w0 : World) (Φ : List VP) (listed : Array Bool) (t : Array Value) (W : World) : Prop where
 size : t.size = N
 lsize : listed.size = l.length
 ext : Ext w0 W
 val : ∀ (j : Nat) (oj : Oper) (d : Nat) (φ : VP), l[j]? = some oj -> oj.dst = some d -> listed.getD j false = true -> Φ[j]? = some φ -> φ.at_ W (t.getD d undef)
 base : ∀ d, uI l d = true -> t.getD d undef = t0.getD d undef
theorem aBm {t : Array Value} {d e : Nat} {v : Value} (hd : d < t.size) : (t.setIfInBounds d v).getD e undef = if d = e then v else t.getD e undef := by
 by_cases h : d = e
 ·subst h
  rw [if_pos rfl]
  simp [Array.getD_eq_getD_getElem?, hd]
 ·rw [if_neg h]
  simp [Array.getD_eq_getD_getElem?, Array.getElem?_setIfInBounds_ne h]
def aEu (P : Program) (md : Region.Mode) (l : List Oper) (Q : Exit -> Act -> World -> Prop) (N : Nat) (t0 : Array Value) (D : List Deferred) (w0 : World) (Φ : List VP) (i : Nat) : Prop :=
 ∀ (o : Oper) (φ : VP), l[i]? = some o -> Φ[i]? = some φ -> ∀ (t : Array Value) (W : World), t.size = N -> Ext w0 W -> (∀ (j d : Nat) (ψ : VP), depB md l i j d = true -> Φ[j]? = some ψ -> ψ.at_ W (t.getD d undef)) -> (∀ d, uI l d = true -> t.getD d undef = t0.getD d undef) ->
  ∀ K : Act -> World -> Prop, Shut (∀ v W', Ext W W' -> φ.at_ W' v -> K (Act.put ⟨t, D⟩ o.dst v) W') -> if Region.wanted o (yielded l.toArray t) = true then Oper.wp P o ⟨t, D⟩ W K Q else K (Act.put ⟨t, D⟩ o.dst undef) W
theorem aIy (hB : aFh md l N = true) (hl : Φ.length = l.length) (hop : ∀ i, i < l.length -> aEu P md l Q N t0 D w0 Φ i)
 (hend : ∀ t W, t.size = N -> Ext w0 W -> (∀ (j : Nat) (oj : Oper) (d : Nat) (φ : VP), l[j]? = some oj -> oj.dst = some d -> Φ[j]? = some φ -> φ.at_ W (t.getD d undef)) -> (∀ d, uI l d = true -> t.getD d undef = t0.getD d undef) -> Q .normal ⟨t, D⟩ W) :
 ∀ (fuel : Nat) (listed : Array Bool) (t : Array Value) (W : World), (listed.toList.countP fun b => !b) ≤ fuel -> FlowI l N t0 w0 Φ listed t W -> wpAny P md l.toArray Q fuel listed ⟨t, D⟩ W := by
 have stop : ∀ (listed : Array Bool) (t : Array Value) (W : World), FlowI l N t0 w0 Φ listed t W -> Region.ready md l.toArray listed = [] -> Q .normal ⟨t, D⟩ W := fun listed t W hI hr => by
  have all : ∀ n j, j < n -> j < l.length -> listed.getD j false = true := fun n => by
   induction n with
   | zero => intro j h _; omega
   | succ n ih =>
    intro j _ hj
    cases hb : listed.getD j false with
    | true => rfl
    | false =>
     exfalso
     have hm : j ∈ Region.ready md l.toArray listed := by
      rw [mem_ready]
      refine ⟨?_, l[j], by simp [hj], fun e he hbi => ?_⟩
      ·have hls : j < listed.size := by rw [hI.lsize]; exact hj
       rw [Array.getD_eq_getD_getElem?, Array.getElem?_eq_getElem hls] at hb ⊢
       exact hb
      ·have h1 := aGi hB (qG hj) e he hbi
       exact ih e.on (by omega) (by omega)
     rw [hr] at hm; cases hm
  refine hend t W hI.size hI.ext (fun j oj d φ hj hd hφ => ?_) hI.base
  have hjl := (List.getElem?_eq_some_iff.1 hj).1
  exact hI.val j oj d φ hj hd (all (j + 1) j (Nat.lt_succ_self _) hjl) hφ
 intro fuel
 induction fuel with
 | zero =>
  intro listed t W hc hI
  have hr : Region.ready md l.toArray listed = [] := by
   refine List.eq_nil_iff_forall_not_mem.2 fun j hj => ?_
   obtain ⟨h0, o, ho, _⟩ := mem_ready.1 hj
   have hjl : j < listed.size := by
    have := (Array.getElem?_eq_some_iff.1 ho).1
    rw [hI.lsize]; simpa using this
   have h2 : listed[j] = false := by
    rw [Array.getD_eq_getD_getElem?, Array.getElem?_eq_getElem hjl] at h0; exact h0
   have h3 : false ∈ listed.toList := by rw [<- h2]; simp
   have h4 : 0 < listed.toList.countP fun b => !b := List.countP_pos_iff.2 ⟨false, h3, rfl⟩
   omega
  exact ⟨hr, stop listed t W hI hr⟩
 | succ fuel ih =>
  intro listed t W hc hI
  refine ⟨stop listed t W hI, fun i hi => ?_⟩
  obtain ⟨h0, o, ho, hdeps⟩ := mem_ready.1 hi
  have hol : l[i]? = some o := by simpa using ho
  have hil : i < l.length := (List.getElem?_eq_some_iff.1 hol).1
  have his : i < listed.size := by rw [hI.lsize]; exact hil
  have hli : listed[i] = false := by
   rw [Array.getD_eq_getD_getElem?, Array.getElem?_eq_getElem his] at h0; exact h0
  obtain ⟨φ, hφ⟩ : ∃ φ, Φ[i]? = some φ := ⟨_, qG (by rw [hl]; exact hil)⟩
  have hcount : ((listed.setIfInBounds i true).toList.countP fun b => !b) ≤ fuel := by
   have e : (listed.setIfInBounds i true).toList = listed.toList.set i true := by simp
   have hg : (listed.toList[i]'(by simpa using his)) = false := by simpa using hli
   have h4 : 0 < listed.toList.countP fun b => !b := List.countP_pos_iff.2 ⟨false, by rw [<- hg]; exact List.getElem_mem _, rfl⟩
   rw [e, List.countP_set (by simpa using his), hg]
   show listed.toList.countP (fun b => !b) - 1 + 0 ≤ fuel
   omega
  refine wpOp_step ho fun K hK => hop i hil o φ hol hφ t W hI.size hI.ext (fun j d ψ hd hψ => ?_) hI.base K (fun v W' hx hv => hK _ _ ?_)
  ·unfold depB at hd
   rw [hol] at hd
   cases hj : l[j]? with
   | none => rw [hj] at hd; cases hd
   | some oj =>
    rw [hj] at hd
    have hd2 := (Bool.and_eq_true _ _ ▸ hd : _ /\ _)
    obtain ⟨e, he, hee⟩ := List.any_eq_true.1 hd2.1
    have hee2 := (Bool.and_eq_true _ _ ▸ hee : _ /\ _)
    have hlist := hdeps e (by simpa using he) hee2.1
    have ej : e.on = j := by simpa using hee2.2
    rw [ej] at hlist
    exact hI.val j oj d ψ hj (by simpa using hd2.2) hlist hψ
  ·obtain ⟨t2, ht2⟩ : ∃ t2, Act.put ⟨t, D⟩ o.dst v = ⟨t2, D⟩ /\ t2.size = N /\ (∀ d, o.dst = some d -> t2.getD d undef = v) /\ ∀ d, o.dst ≠ some d -> t2.getD d undef = t.getD d undef := by
    cases hd : o.dst with
    | none => exact ⟨t, rfl, hI.size, fun d h => (by cases h), fun d _ => rfl⟩
    | some d0 =>
     have hN := (aBp hB hol hd).1
     refine ⟨t.setIfInBounds d0 v, rfl, by simp [hI.size], fun d h => ?_, fun d h => ?_⟩
     ·cases h; rw [aBm (by rw [hI.size]; exact hN), if_pos rfl]
     ·rw [aBm (by rw [hI.size]; exact hN), if_neg (fun e => h (by rw [e]))]
   obtain ⟨e, hsz, h1, h2⟩ := ht2
   rw [e]
   refine ih _ t2 W' hcount ⟨hsz, by simp [hI.lsize], hI.ext.trans hx, fun j oj d ψ hj hd hlj hψ => ?_, fun d hf => ?_⟩
   ·by_cases hji : j = i
    ·subst hji
     rw [hol] at hj; cases hj
     rw [hφ] at hψ; cases hψ
     rw [h1 d hd]; exact hv
    ·rw [getD_set_ne false (fun e => hji e.symm)] at hlj
     have hne : o.dst ≠ some d := fun hd2 => (aBp hB hol hd2).2 j oj hj hji hd
     rw [h2 d hne]
     exact ψ.mono (hI.val j oj d ψ hj hd hlj hψ) hx
   ·have hne : o.dst ≠ some d := by
     have := List.all_eq_true.1 hf o (List.mem_of_getElem? hol)
     simpa using this
    rw [h2 d hne]; exact hI.base d hf
theorem mK {id : Nat} (Φ : List VP) (N : Nat) (hm : P.follows .mixedOrders = true) (hB : aFh .any l N = true) (hl : Φ.length = l.length) (hN : t0.size = N)
 (hop : ∀ i, i < l.length -> aEu P .any l Q N t0 D w0 Φ i)
 (hend : ∀ t W, t.size = N -> Ext w0 W -> (∀ (j : Nat) (oj : Oper) (d : Nat) (φ : VP), l[j]? = some oj -> oj.dst = some d -> Φ[j]? = some φ -> φ.at_ W (t.getD d undef)) -> (∀ d, uI l d = true -> t.getD d undef = t0.getD d undef) -> Q .normal ⟨t, D⟩ W) :
 (Code.region id l.toArray true).wp P Q ⟨t0, D⟩ w0 := by
 refine wp_region_any hm (aIy hB hl hop hend _ _ _ _ ?_ ⟨hN, by simp, ?_, fun j oj d φ _ _ h _ => ?_, fun _ _ => rfl⟩)
 ·refine Nat.le_trans List.countP_le_length ?_
  simp
 ·exact (Kp.refl w0).drew
 ·rw [Array.getD_eq_getD_getElem?] at h
  by_cases hj : j < l.length
  ·simp [hj] at h
  ·simp [hj] at h
end
end
section
open Go.RowKit
def bU (z : Nat -> Option Addr × Nat × Nat) (i : Nat) : Value := (Value.slice (z (i)).1 (z (i)).2.1 (z (i)).2.2)
theorem eT : dB Tryz.prog 51 66 1 24 (.slice none 0 0) := ⟨by kernel_rfl, by kernel_rfl, rfl, by decide⟩
def aCn (P : Program) (f : FuncId) (first captured : Array Value) (w0 : World) (vs : List Value) (t : Value) (c : Nat -> Int) : Prop :=
 (∀ args w, (callFunc f args).run P w = .ok (Next.enter f args) w) /\ ∀ w, Ext w0 w -> ∀ i v, vs[i]? = some v -> Calls P f (first ++ (#[v, t] ++ captured)) w fun e w' => e = .returned (.int .i64 (c i)) /\ Ext w w'
def aJq (n : Nat) (c : Nat -> Int) (w0 : World) (iv jv : Value) (w : World) : Prop :=
 ∃ i j : Nat, i ≤ j /\ j ≤ n /\ iv = .int .i64 i /\ jv = .int .i64 j /\ (i = 0 \/ c (i - 1) < 0) /\ (j = n \/ 0 ≤ c j) /\ Ext w0 w
set_option maxHeartbeats 2000000 in
theorem qJ (zs : List (Option Addr × Nat × Nat)) (z : Nat -> Option Addr × Nat × Nat) (ao : Option Addr) (cap : Nat) (t : Value) (f : FuncId) (first captured : Array Value) (c : Nat -> Int) (w : World) (n : Nat)
 (hc : CellsAt w ao ((List.range n).map fun i => (Value.slice (z (i)).1 (z (i)).2.1 (z (i)).2.2))) (hcmp : aCn Tryz.prog f first captured w ((List.range n).map fun i => (Value.slice (z (i)).1 (z (i)).2.1 (z (i)).2.2)) t c) (hm : n ≤ 4611686018427387904) :
 Calls Tryz.prog 175 #[.slice ao n cap, t, .func (Fn.func f) first captured] w
  (RetF (fun _ => False) w fun w' v => ∃ i : Nat, i ≤ n /\ (i = 0 \/ c (i - 1) < 0) /\ (i = n \/ 0 ≤ c i) /\ v = .tuple #[.int .i64 i, .bool (decide (i < n /\ c i = 0))]) := by
 have hent := hcmp.1
 have HC := qH hcmp.2; clear hcmp
 have cell : ∀ W : World, Ext w W -> ∀ i, i < n -> ∃ b off, ao = some ⟨b, off, none⟩ /\ W.cell? ⟨b, off + i, none⟩ = some ((Value.slice (z (i)).1 (z (i)).2.1 (z (i)).2.2)) := fun W hW i hi => by
  have := hc.ext hW
  exact this i _ (by simp [hi])
 have HCELL := qH cell; clear cell
 go_enter Tryz.func175, Tryz.ntmps175
 go_wp2
 go_loopw [9, 10] (aJq n c w) (fun i j _ => (intOf j).toNat - (intOf i).toNat)
 case atStart => exact ⟨0, n, Nat.zero_le _, Nat.le_refl _, rfl, rfl, .inl rfl, .inl rfl, Kp.refl _⟩
 case round =>
  obtain ⟨i, j, hij, hj, rfl, rfl, hlo, hhi, hkp⟩ := hrel
  have HL := qH (And.intro hlo hhi); clear hlo hhi
  by_cases hlt : i < j
  ·obtain ⟨h, eh⟩ : ∃ h, h = (i + j) / 2 := ⟨_, rfl⟩
   have rh : ((i : Int) + j) / 2 = (h : Int) := by omega
   have hhn : h < n := by omega
   have h1 : i ≤ h := by omega
   have h2 : h < j := by omega
   clear eh
   obtain ⟨b, off, rfl, c1⟩ := HCELL.out _ hkp h hhn
   have hcall := fun W hW => HC.out W hW h ((Value.slice (z (h)).1 (z (h)).2.1 (z (h)).2.2)) (by simp [hhn])
   have HCall := qH hcall; clear hcall
   generalize hcc : c h = cc at HCall
   have HCC := qH hcc; clear hcc
   by_cases hneg : cc < 0
   ·go_wp2_with fail
    refine (HCall.out _ hkp).mono ?_
    rintro e w1 ⟨rfl, hk2⟩
    have hkp2 := hkp.ext hk2
    clear hk2 c1
    go_wp2
    go_roundw
    case rel => exact ⟨h + 1, j, by omega, hj, by first | rfl | (congr 1; done) | (congr 1; omega), rfl, .inr (by rw [Nat.add_sub_cancel, HCC.out]; omega), HL.out.2, hkp2⟩
    case measure => simp [intOf]; omega
   ·go_wp2_with fail
    refine (HCall.out _ hkp).mono ?_
    rintro e w1 ⟨rfl, hk2⟩
    have hkp2 := hkp.ext hk2
    clear hk2 c1
    go_wp2
    go_roundw
    case rel => exact ⟨i, h, by omega, by omega, rfl, by first | rfl | (congr 1; done) | (congr 1; omega), HL.out.1, .inr (by rw [HCC.out]; omega), hkp2⟩
    case measure => simp [intOf]; omega
  ·obtain rfl : i = j := by omega
   by_cases hin : i < n
   ·obtain ⟨b, off, rfl, c1⟩ := HCELL.out _ hkp i hin
    have hcall := fun W hW => HC.out W hW i ((Value.slice (z (i)).1 (z (i)).2.1 (z (i)).2.2)) (by simp [hin])
    have HCall := qH hcall; clear hcall
    generalize hcc : c i = cc at HCall
    have HCC := qH hcc; clear hcc
    have key : decide (i < n /\ c i = 0) = (cc == 0) := by rw [HCC.out]; simp [hin]; rfl
    have HK := qH key; clear key
    generalize hbb : (cc == 0) = bb at HK
    go_wp2_with fail
    refine (HCall.out _ hkp).mono ?_
    rintro e w1 ⟨rfl, hk2⟩
    have hkp2 := hkp.ext hk2
    clear hk2 c1
    go_wp2
    go_ret2
    exact RetF.mk hkp2 ⟨i, by omega, HL.out.1, HL.out.2, aCw HK.out⟩
   ·have key : decide (i < n /\ c i = 0) = false := by simp; omega
    have HK := qH key; clear key
    go_wp2
    go_ret2
    exact RetF.mk hkp ⟨i, by omega, HL.out.1, HL.out.2, aCw HK.out⟩
set_option maxHeartbeats 4000000 in
theorem uT (z : Nat -> Option Addr × Nat × Nat) (C : List Nat) (g n cap N : Nat) (rest : List Value) (f : FuncId) (first captured : Array Value) (q : Nat -> Nat -> Bool) (w : World)
 (hcmp : aJl Tryz.prog f first captured g N w (bU z) q) (hn : n = C.length) (hC : ∀ i ∈ C, i < N) (hm : n ≤ 4611686018427387904) (hB : Blk w g (C.map (bU z) ++ rest) 66) (hlen : (C.map (bU z) ++ rest).length = cap) (hcm : cap ≤ maxLen) :
 Calls Tryz.prog 252 #[.slice (some ⟨g, 0, none⟩) n cap, .func (Fn.func f) first captured] w
  (RetF (fun k => k = g) w fun w' v => ∃ rest', v = .slice (some ⟨g, 0, none⟩) (bW q C n).length cap /\ Blk w' g ((bW q C n).map (bU z) ++ rest') 66 /\ ((bW q C n).map (bU z) ++ rest').length = cap) := by
 have hent := hcmp.1
 have HC := qH hcmp.2; clear hcmp
 have HN := qH (And.intro hn (And.intro hC hlen)); clear hn hC
 have hcap : n ≤ cap := by have := HN.out.1; simp at hlen; omega
 clear hlen
 have cell : ∀ W : World, Blk W g (C.map (bU z) ++ rest) 66 -> ∀ i, i < n -> W.cell? ⟨g, i, none⟩ = some (bU z (C.getD i 0)) := fun W h i hi => h.at i (by have := HN.out.1; omega)
 have HB := qH hB; clear hB
 by_cases hlt2 : n < 2
 ·go_enter Tryz.func252, Tryz.ntmps252
  go_wp2
  go_ret
  have e : bW q C n = C := by
   rw [lA (by have := HN.out.1; omega) (fun j h1 h2 => by omega), List.take_of_length_le (by have := HN.out.1; omega)]
  refine RetF.mk (Kp.refl _) ⟨rest, ?_, by rw [e]; exact HB.out, by rw [e]; exact HN.out.2.2⟩
  rw [e, <- HN.out.1]; rfl
 ·go_enter Tryz.func252, Tryz.ntmps252
  go_wp2
  go_loopw [5] (aJp n q C (fun k => False) w) (fun k _ => n - (intOf k).toNat)
  case atStart => exact ⟨1, Nat.le_refl _, by omega, rfl, fun j h1 h2 => by omega, Kp.refl _⟩
  case round =>
   obtain ⟨k, hk1, hkn, rfl, hq, hkp⟩ := hrel
   have HQ := qH hq; clear hq
   have hext : Kp (fun i => i = g) w wr := Ext.kp hkp
   by_cases hkl : k < n
   ·have HBw : Blk wr g (C.map (bU z) ++ rest) 66 := HB.out.ext hkp
    obtain ⟨p, rfl⟩ : ∃ p, k = p + 1 := ⟨k - 1, by omega⟩
    have c1 := cell wr HBw (p + 1) hkl
    have c2 := cell wr HBw p (by omega)
    have HBW := qH HBw; clear HBw
    have hx : C.getD (p + 1) 0 < N := HN.out.2.1 _ (pA (by have := HN.out.1; omega))
    have hy : C.getD p 0 < N := HN.out.2.1 _ (pA (by have := HN.out.1; omega))
    have hcall := fun W hW => HC.out W hW _ _ hx hy
    have HCall := qH hcall; clear hcall
    obtain ⟨x, ex⟩ : ∃ x, x = C.getD (p + 1) 0 := ⟨_, rfl⟩
    obtain ⟨y, ey⟩ : ∃ y, y = C.getD p 0 := ⟨_, rfl⟩
    rw [<- ex, <- ey] at HCall
    rw [<- ex] at c1
    rw [<- ey] at c2
    have HE := qH (And.intro ex ey); clear ex ey hx hy
    unfold bU at c1 c2
    obtain ⟨i1, i2, i3, i4, i5, i6, i7⟩ := aBc (k := p) (n := n) (by omega) hm
    cases hqk : q x y
    ·rw [hqk] at HCall
     have HK := qH hqk; clear hqk
     go_wp2
     go_still_tail 10, (by kernel_rfl)
     go_wp2_with fail
     refine (HCall.out _ hext.drew).mono ?_
     rintro e w1 ⟨rfl, hk2⟩
     have hkp2 : Ext w w1 := hkp.drew.ext hk2
     clear hk2 c1 c2
     go_wp2
     go_roundw
     case rel =>
      refine ⟨p + 2, by omega, by omega, by first | rfl | (congr 1; done) | (congr 1; omega), fun j h1 h2 => ?_, hkp2⟩
      by_cases e : j = p + 1
      ·subst e
       rw [<- HE.out.1, Nat.add_sub_cancel, <- HE.out.2]; exact HK.out
      ·exact HQ.out j h1 (by omega)
     case measure => simp [intOf]; omega
    ·rw [hqk] at HCall
     have HK := qH hqk; clear hqk
     have start : Blk wr g ((bW q C (p + 1 + 1)).map (bU z) ++ (C.map (bU z) ++ rest).drop (p + 1)) 66 /\ (bW q C (p + 1 + 1)).length = p + 1 := by
      have hn := HN.out.1
      have e : bW q C (p + 1 + 1) = C.take (p + 1) := by
       rw [tT (by omega) (by rw [<- HE.out.1, Nat.add_sub_cancel, <- HE.out.2]; exact HK.out), lA (by omega) HQ.out]
      rw [e]
      refine ⟨HBW.out.congrL ?_, by simp; omega⟩
      rw [List.drop_append_of_le_length (by simp; omega), <- List.append_assoc, <- List.map_drop, <- List.map_append, List.take_append_drop]
     have HS := qH start; clear start
     have hpc : (p : Int) + 1 ≤ (cap : Int) := by omega
     have hpn : (p : Int) + 1 ≤ (n : Int) := by omega
     go_wp2
     go_still_tail 10, (by kernel_rfl)
     go_wp2_with fail
     refine (HCall.out _ hext.drew).mono ?_
     rintro e w1 ⟨rfl, hk2⟩
     have hkp2 : Ext w w1 := hkp.drew.ext hk2
     have HS1 : Blk w1 g ((bW q C (p + 1 + 1)).map (bU z) ++ (C.map (bU z) ++ rest).drop (p + 1)) 66 := HS.out.1.drew.ext hk2
     have HS2 := qH (And.intro HS1 HS.out.2); clear HS1
     clear hk2 c1 c2
     obtain ⟨m, em⟩ : ∃ m, n - (p + 1) = m := ⟨_, rfl⟩
     have hcapk : ¬ cap = p + 1 := by omega
     go_wp2
     go_loopw [5, 7] (aJo n (p + 1) q C w g (bU z) rest 66) (fun k j _ => n - (intOf j).toNat)
     case atStart => exact ⟨p + 1, 1, Nat.le_refl _, hkl, by go_num, rfl, Nat.le_refl _, by omega, HS2.out.2, Ext.kp hkp2, HS2.out.1⟩
     case round =>
      obtain ⟨k, j, hj1, hjn, rfl, rfl, hk0, hkj, hkl2, hkp3, hb3⟩ := hrel
      have f1 := hb3.free k
      have HB3 := qH (And.intro hkl2 hb3); clear hkl2
      by_cases hjm : j < m
      ·obtain ⟨t, rfl⟩ : ∃ t, j = t + 1 := ⟨j - 1, by omega⟩
       have hCl := HN.out.1
       have c1 : wr.cell? ⟨g, p + 1 + (t + 1), none⟩ = some (bU z (C.getD (p + 1 + (t + 1)) 0)) := by
        rw [hb3.cell']; exact pD HB3.out.1 (by omega) (by omega)
       have c2 : wr.cell? ⟨g, p + 1 + t, none⟩ = some (bU z (C.getD (p + 1 + t) 0)) := by
        rw [hb3.cell']; exact pD HB3.out.1 (by omega) (by omega)
       have hx : C.getD (p + 1 + (t + 1)) 0 < N := HN.out.2.1 _ (pA (by omega))
       have hy : C.getD (p + 1 + t) 0 < N := HN.out.2.1 _ (pA (by omega))
       clear hCl hb3
       have hcall := fun W hW => HC.out W hW _ _ hx hy
       have HCall := qH hcall; clear hcall
       obtain ⟨x, ex⟩ : ∃ x, x = C.getD (p + 1 + (t + 1)) 0 := ⟨_, rfl⟩
       obtain ⟨y, ey⟩ : ∃ y, y = C.getD (p + 1 + t) 0 := ⟨_, rfl⟩
       rw [<- ex, <- ey] at HCall
       rw [<- ex] at c1
       rw [<- ey] at c2
       have HE := qH (And.intro ex ey); clear ex ey hx hy
       unfold bU at c1 c2
       obtain ⟨i1, i2, i3, i4, i5, i6, i7⟩ := aBc (k := t) (n := m) (by omega) (by omega)
       have hkn2 : k < n := by omega
       cases hqk : q x y
       ·rw [hqk] at HCall
        have HK := qH hqk; clear hqk
        go_wp2
        go_still_tail 10, (by kernel_rfl)
        go_wp2_with fail
        refine (HCall.out _ hkp3.drew).mono ?_
        rintro e w2 ⟨rfl, hk2⟩
        have hkp4 : Kp (fun i => i = g) w w2 := hkp3.drew.ext hk2
        have d1 := hk2.cell c1 id
        have HB4 : Blk w2 g ((bW q C (p + 1 + (t + 1))).map (bU z) ++ (C.map (bU z) ++ rest).drop k) 66 := HB3.out.2.drew.ext hk2
        have f2 := HB4.free k
        have d2 : ∃ u, w2.cell? ⟨g, k, none⟩ = some u := ⟨_, HB4.cell k (by have h2 := HN.out.2.2; have h1 := HN.out.1; have h3 := HB3.out.1; simp at h2 ⊢; omega)⟩
        obtain ⟨u, d2⟩ := d2
        have HB5 := qH HB4; clear HB4
        clear hk2 c1 c2 f1
        go_wp2
        go_roundw
        case rel =>
         have e : bW q C (p + 1 + (t + 2)) = bW q C (p + 1 + (t + 1)) ++ [x] := by
          have := wR (q := q) (C := C) (k := p + 1 + (t + 1)) (by rw [<- HE.out.1, show p + 1 + (t + 1) - 1 = p + 1 + t by omega, <- HE.out.2]; exact HK.out)
          rw [HE.out.1, <- this]; rfl
         refine ⟨k + 1, t + 2, by omega, by omega, by first | rfl | (congr 1; done) | (congr 1; omega), by first | rfl | (congr 1; done) | (congr 1; omega), by omega, by omega, by rw [e, List.length_append, HB3.out.1]; rfl, ?_, ?_⟩
         ·exact hkp4.setCell (fun _ => rfl) _
         ·rw [e]; exact (HB5.out.set k _).congrL (aB4 HB3.out.1 (by have := HN.out.1; omega))
        case measure => simp [intOf]; omega
       ·rw [hqk] at HCall
        have HK := qH hqk; clear hqk
        go_wp2
        go_still_tail 10, (by kernel_rfl)
        go_wp2_with fail
        refine (HCall.out _ hkp3.drew).mono ?_
        rintro e w2 ⟨rfl, hk2⟩
        have hkp4 : Kp (fun i => i = g) w w2 := hkp3.drew.ext hk2
        have HB4 : Blk w2 g ((bW q C (p + 1 + (t + 1))).map (bU z) ++ (C.map (bU z) ++ rest).drop k) 66 := HB3.out.2.drew.ext hk2
        have HB5 := qH HB4; clear HB4
        clear hk2 c1 c2 f1
        go_wp2
        go_roundw
        case rel =>
         have e : bW q C (p + 1 + (t + 2)) = bW q C (p + 1 + (t + 1)) := by
          have := tT (q := q) (C := C) (k := p + 1 + (t + 1)) (by omega) (by rw [<- HE.out.1, show p + 1 + (t + 1) - 1 = p + 1 + t by omega, <- HE.out.2]; exact HK.out)
          rw [<- this]; rfl
         exact ⟨k, t + 2, by omega, by omega, rfl, by first | rfl | (congr 1; done) | (congr 1; omega), hk0, by omega, by rw [e]; exact HB3.out.1, hkp4, by rw [e]; exact HB5.out⟩
        case measure => simp [intOf]; omega
      ·have hjn' : p + 1 + j = n := by omega
       rw [hjn'] at HB3
       obtain ⟨w3, hrun, hk3, hb4⟩ := sT eT rfl (fun w => by kernel_rfl) HB3.out.2 (off := k) (n := n - k) (c := cap - k) (sp := some ⟨g, k, none⟩) (fun _ => rfl) (by have := HB3.out.1; have h2 := HN.out.2.2; have h1 := HN.out.1; simp at h2 ⊢; omega)
       have HB4 := qH hb4; clear hb4 hb3
       have HK3 := qH hk3; clear hk3
       have hkc : ¬ cap = k := by omega
       have hkc2 : (k : Int) ≤ (cap : Int) := by omega
       have hkn2 : (k : Int) ≤ (n : Int) := by omega
       have hjj : j = m := by omega
       clear hjn'
       go_wp2
       go_ret
       have h2 := HN.out.2.2; have h1 := HN.out.1
       have hk := HB3.out.1
       refine RetF.mk (hkp3.trans HK3.out) ⟨List.replicate (n - k) (.slice none 0 0) ++ ((C.map (bU z) ++ rest).drop k).drop (n - k), ?_, ?_, ?_⟩
       ·rw [hk]; rfl
       ·refine HB4.out.congrL ?_
        unfold splice
        rw [List.take_append_of_le_length (by simp; omega), List.take_of_length_le (by simp; omega), List.drop_append, List.drop_of_length_le (by simp; omega), List.length_map, hk, List.length_replicate, List.nil_append, Nat.add_sub_cancel_left]
       ·simp at h2 ⊢; omega
   ·go_wp2
    go_ret
    have e : bW q C n = C := by
     rw [lA (by have := HN.out.1; omega) (fun j h1 h2 => HQ.out j h1 (by omega)), List.take_of_length_le (by have := HN.out.1; omega)]
    refine RetF.mk hext ⟨rest, ?_, by rw [e]; exact HB.out.ext hkp, by rw [e]; exact HN.out.2.2⟩
    rw [e, <- HN.out.1]; rfl
theorem zC (vs : List Value) (ao : Option Addr) (cap : Nat) (w : World) (n : Nat) (hn : n = vs.length) (hc : CellsAt w ao vs) (h1 : ∀ u ∈ vs, u.oneCell' = true) (hm : n * 24 ≤ 140737488355328) :
 Calls Tryz.prog 121 #[.slice ao n cap] w (RetN w fun w' v => Row w' 66 1 v n vs (New w)) := by
 have hq : ∀ w : World, (binOp .eql 51 (.slice ao n cap) (.slice none 0 0)).run Tryz.prog w = .ok (.bool ao.isNone) w := fun w => Lib.run_eql_slice_nil w _ _ _ _ _ _ _ Tryz.underlying51
 have HNN := qH hn; clear hn
 have hl : n ≤ maxLen := by unfold maxLen; omega
 cases ao with
 | none =>
  have hv : vs = [] := by
   cases vs with
   | nil => rfl
   | cons x vs => obtain ⟨b, o, h, _⟩ := hc.off (by simp); cases h
  subst hv
  have h0 : n = 0 := HNN.out
  subst h0
  go_enter Tryz.func121, Tryz.ntmps121
  go_wp2
  go_ret
  exact RetN.mk (Kp.refl _) (Row.nil _ _ _ _)
 | some a =>
  go_enter Tryz.func121, Tryz.ntmps121
  go_wp2_with (first | (at_builtin; refine Halted.out ?_))
  refine Halted.mk (kI eT rfl _ _ rfl ((Kp.refl (F := fun _ => False) w).alloc _) rfl (Row.empty w 66 1 (New w) (Nat.le_refl _)) rfl (hc.alloc _) (by rw [HNN.out, Nat.mul_one]) h1 (by omega) (by omega) ?_)
  intro v1 w1 hr1 hk1 _ _
  have HR := qH hr1; clear hr1
  go_wp2
  go_ret
  exact RetN.mk hk1 (by simpa using HR.out)
def OrdVRow (P : Program) (S : Nat -> Prop) (w0 : World) (ov : Value) (D : Option Addr × Nat × Nat -> Prop) (c : Option Addr × Nat × Nat -> Option Addr × Nat × Nat -> Int) : Prop :=
 (ov = .nilFunc /\ ∀ x y, D x -> D y -> c x y = 0) \/ ∃ f first cap, ov = .func (Fn.func f) first cap /\ (∀ args w, (callFunc f args).run P w = .ok (Next.enter f args) w) /\
  ∀ w, Same S w0 w -> ∀ x y, D x -> D y -> Calls P f (first ++ (#[(Value.slice (x).1 (x).2.1 (x).2.2), (Value.slice (y).1 (y).2.1 (y).2.2)] ++ cap)) w fun e w' => e = .returned (.int .i64 (c x y)) /\ Ext w w'
theorem OrdVRow.same {P : Program} {S : Nat -> Prop} {w0 w1 : World} {ov : Value} {D : Option Addr × Nat × Nat -> Prop} {c : Option Addr × Nat × Nat -> Option Addr × Nat × Nat -> Int} (h : OrdVRow P S w0 ov D c) (hs : Same S w0 w1) : OrdVRow P S w1 ov D c := by
 rcases h with h | ⟨f, first, cap, e, he, h⟩
 ·exact .inl h
 ·exact .inr ⟨f, first, cap, e, he, fun w hw => h w (hs.trans hw)⟩
structure SetAtRow (P : Program) (S : Nat -> Prop) (w : World) (b : Nat) (ov iv : Value) (tail : List Value) (te : TypeId) (D : Option Addr × Nat × Nat -> Prop) (c : Option Addr × Nat × Nat -> Option Addr × Nat × Nat -> Int) (zs : List (Option Addr × Nat × Nat)) : Prop where
 blk : Blk w b (ov :: iv :: tail) te
 row : Row w 66 1 iv zs.length (zs.map fun x => (Value.slice (x).1 (x).2.1 (x).2.2)) (fun k => iv.ownBlock = some k)
 apart : iv.ownBlock ≠ some b
 inS : ∀ k, S k -> k < w.heap.size
 notS : ∀ k, cS b iv k -> ¬ S k
 ord : OrdVRow P S w ov D c
 all : ∀ x ∈ zs, D x
 len : zs.length ≤ 1048576 * 1048576
section
variable {P : Program} {S : Nat -> Prop} {w w' : World} {b : Nat} {ov iv : Value} {tail : List Value} {te : TypeId} {D : Option Addr × Nat × Nat -> Prop} {c : Option Addr × Nat × Nat -> Option Addr × Nat × Nat -> Int} {zs : List (Option Addr × Nat × Nat)}
theorem SetAtRow.kp {F : Nat -> Prop} (h : SetAtRow P S w b ov iv tail te D c zs) (hk : Kp F w w') (hF : ∀ k, F k -> ¬ cS b iv k) (hS : ∀ k, F k -> ¬ S k) : SetAtRow P S w' b ov iv tail te D c zs :=
 ⟨h.blk.kp hk fun hf => hF _ hf (.inl rfl), h.row.kp hk fun g hg hf => hF _ hf (.inr hg), h.apart, fun k hk' => Nat.lt_of_lt_of_le (h.inS k hk') hk.size, h.notS, h.ord.same (hk.same h.inS fun k hk' hf => hS k hf hk'), h.all, h.len⟩
theorem SetAtRow.ext (h : SetAtRow P S w b ov iv tail te D c zs) (hk : Ext w w') : SetAtRow P S w' b ov iv tail te D c zs := h.kp hk (fun _ x => x.elim) (fun _ x => x.elim)
theorem SetAtRow.cells (h : SetAtRow P S w b ov iv tail te D c zs) : w.cell? ⟨b, 0, none⟩ = some ov /\ w.cell? ⟨b, 1, none⟩ = some iv := ⟨by rw [h.blk.cell']; rfl, by rw [h.blk.cell']; rfl⟩
end
theorem vC (S : Nat -> Prop) (w : World) (b : Nat) (ov : Value) (cs : List Value) (te : TypeId) (D : Option Addr × Nat × Nat -> Prop) (c : Option Addr × Nat × Nat -> Option Addr × Nat × Nat -> Int) (x y : Option Addr × Nat × Nat) (hx : D x) (hy : D y) (hB : Blk w b (ov :: cs) te)
 (hS : ∀ k, S k -> k < w.heap.size) (ho : OrdVRow Tryz.prog S w ov D c) :
 Calls Tryz.prog 176 #[.pointer (some ⟨b, 0, none⟩), (Value.slice (x).1 (x).2.1 (x).2.2), (Value.slice (y).1 (y).2.1 (y).2.2)] w (fun e w' => e = .returned (.int .i64 (c x y)) /\ Ext w w') := by
 have c1 : w.cell? ⟨b, 0, none⟩ = some ov := by rw [hB.cell']; rfl
 clear hB
 rcases ho with ⟨rfl, h0⟩ | ⟨f, first, cap, rfl, hent, hc⟩
 ·have h00 := qH (h0 x y hx hy); clear h0
  have hq : ∀ w : World, (binOp .eql 132 .nilFunc .nilFunc).run Tryz.prog w = .ok (.bool true) w := fun _ => by kernel_rfl
  go_enter Tryz.func176, Tryz.ntmps176
  go_wp2
  go_ret
  exact ⟨by rw [h00.out]; rfl, Kp.refl _⟩
 ·have HC := qH hc; clear hc
  have hq : ∀ w : World, (binOp .eql 132 (.func (Fn.func f) first cap) .nilFunc).run Tryz.prog w = .ok (.bool false) w := fun _ => by kernel_rfl
  go_enter Tryz.func176, Tryz.ntmps176
  go_wp2_with fail
  refine (HC.out w (Same.refl hS) x y hx hy).mono ?_
  rintro e w1 ⟨rfl, hk⟩
  have HK := qH hk; clear hk
  go_wp2
  go_ret
  exact ⟨rfl, HK.out⟩
theorem nI {S : Nat -> Prop} {w : World} {b : Nat} {ov iv : Value} {tail : List Value} {te : TypeId} {D : Option Addr × Nat × Nat -> Prop} {c : Option Addr × Nat × Nat -> Option Addr × Nat × Nat -> Int} {zs : List (Option Addr × Nat × Nat)} (h : SetAtRow Tryz.prog S w b ov iv tail te D c zs) :
 Calls Tryz.prog 72 #[.pointer (some ⟨b, 0, none⟩)] w (Ret (.int .i64 (zs.length : Nat)) w) := by
 obtain ⟨c1, c2⟩ := h.cells
 obtain ⟨ao, cap, rfl, _, _⟩ := h.row.shape
 clear h
 go_enter Tryz.func72, Tryz.ntmps72
 go_wp2
 go_ret
 exact Ret.mk rfl
theorem rN {S : Nat -> Prop} {w : World} {b : Nat} {ov iv : Value} {tail : List Value} {te : TypeId} {D : Option Addr × Nat × Nat -> Prop} {c : Option Addr × Nat × Nat -> Option Addr × Nat × Nat -> Int} {zs : List (Option Addr × Nat × Nat)} (h : SetAtRow Tryz.prog S w b ov iv tail te D c zs) :
 Calls Tryz.prog 125 #[.pointer (some ⟨b, 0, none⟩)] w (RetN w fun w' v => Row w' 66 1 v zs.length (zs.map fun x => (Value.slice (x).1 (x).2.1 (x).2.2)) (New w)) := by
 obtain ⟨c1, c2⟩ := h.cells
 obtain ⟨ao, cap, rfl, hc, _⟩ := h.row.shape
 have hl := h.len
 have HC := qH hc; clear h hc
 go_enter Tryz.func125, Tryz.ntmps125
 go_wp2_with fail
 refine (zC (zs.map fun x => (Value.slice (x).1 (x).2.1 (x).2.2)) ao cap w zs.length (by simp) HC.out (by intro u hu; obtain ⟨x, _, rfl⟩ := List.mem_map.1 hu; rfl) (by omega)).mono ?_
 rintro e w1 ⟨v, rfl, hk, hr⟩
 have HR := qH (And.intro hk hr); clear hk hr
 go_wp2
 go_ret
 exact RetN.mk HR.out.1 HR.out.2
theorem rM (w : World) : Calls Tryz.prog 125 #[.pointer none] w (Ret (.slice none 0 0) w) := by
 go_enter Tryz.func125, Tryz.ntmps125
 go_wp2
 go_ret
 exact Ret.mk rfl
set_option maxHeartbeats 1000000 in
theorem iL {S : Nat -> Prop} {w : World} {b : Nat} {ov iv : Value} {tail : List Value} {te : TypeId} {D : Option Addr × Nat × Nat -> Prop} {c : Option Addr × Nat × Nat -> Option Addr × Nat × Nat -> Int} {zs : List (Option Addr × Nat × Nat)} (O : OrdLaw c) (x : Option Addr × Nat × Nat) (hx : D x) (hs : Strict c zs) (h : SetAtRow Tryz.prog S w b ov iv tail te D c zs) :
 Calls Tryz.prog 122 #[.pointer (some ⟨b, 0, none⟩), (Value.slice (x).1 (x).2.1 (x).2.2)] w
  (RetF (fun _ => False) w fun w' v => v = .tuple #[.int .i64 (below c zs x : Nat), .bool (bA c zs x)]) := by
 obtain ⟨c1, c2⟩ := h.cells
 obtain ⟨ao, cap, eiv, hc, _⟩ := h.row.shape
 subst eiv
 have hl := h.len
 obtain ⟨n, en⟩ : ∃ n, n = zs.length := ⟨_, rfl⟩
 have get : ∀ i (hi : i < n), zs.getD i x = zs[i]'(by omega) := fun i hi => by simp [List.getD, show i < zs.length by omega]
 have evals : (List.range n).map (fun i => (Value.slice (zs.getD i x).1 (zs.getD i x).2.1 (zs.getD i x).2.2)) = zs.map fun x => (Value.slice (x).1 (x).2.1 (x).2.2) := by
  refine List.ext_getElem (by simp [en]) fun i h1 h2 => ?_
  simp only [List.getElem_map, List.getElem_range]
  rw [get i (by simpa using h1)]
 have hent : ∀ args w, (callFunc 176 args).run Tryz.prog w = .ok (.enter 176 args) w := enters_of Tryz.func176 (by kernel_rfl) rfl
 have hcmp : aCn Tryz.prog 176 #[.pointer (some ⟨b, 0, none⟩)] #[] w ((List.range n).map fun i => (Value.slice (zs.getD i x).1 (zs.getD i x).2.1 (zs.getD i x).2.2)) ((Value.slice (x).1 (x).2.1 (x).2.2)) (fun i => c (zs.getD i x) x) := by
  refine ⟨hent, fun w' hw i v hv => ?_⟩
  have hi : i < n := by simpa using (List.getElem?_eq_some_iff.1 hv).1
  have ev : v = (Value.slice (zs.getD i x).1 (zs.getD i x).2.1 (zs.getD i x).2.2) := by simp [hi] at hv; rw [<- hv, List.getD_eq_getElem?_getD]
  subst ev
  have h' := h.ext hw
  exact vC S w' b ov _ te D c (zs.getD i x) x (by rw [get i hi]; exact h.all _ (List.getElem_mem _)) hx h'.blk h'.inS h'.ord
 have hbin := qJ zs (fun i => zs.getD i x) ao cap ((Value.slice (x).1 (x).2.1 (x).2.2)) 176 #[.pointer (some ⟨b, 0, none⟩)] #[] (fun i => c (zs.getD i x) x) w n (by rw [evals]; exact hc) hcmp (by omega)
 rw [en] at hbin
 have HB := qH hbin
 have HH := qH (And.intro en get)
 clear hbin hcmp hc evals hent h get
 go_enter Tryz.func122, Tryz.ntmps122
 go_wp2_with fail
 refine HB.out.mono ?_
 rintro e w1 ⟨v, rfl, hk, i, hi, h1, h2, rfl⟩
 have ei : i = below c zs x := by
  refine hs.place O hi (fun y hp hy => ?_) (fun y hy => ?_)
  ·have e := (List.getElem?_eq_some_iff.1 hy).2
   rcases h1 with h1 | h1
   ·omega
   ·rw [HH.out.2 _ (by rw [HH.out.1]; omega), e] at h1; exact h1
  ·obtain ⟨hl', e⟩ := List.getElem?_eq_some_iff.1 hy
   rcases h2 with h2 | h2
   ·omega
   ·rw [HH.out.2 _ (by rw [HH.out.1]; omega), e] at h2; exact h2
 have eb : decide (i < zs.length /\ c (zs.getD i x) x = 0) = bA c zs x := by
  rw [Bool.eq_iff_iff, decide_eq_true_iff, hs.there O x, <- ei]
  constructor
  ·rintro ⟨a1, a2⟩
   exact ⟨zs[i], qG a1, by rw [HH.out.2 _ (by rw [HH.out.1]; omega)] at a2; exact a2⟩
  ·rintro ⟨y, hy, hz⟩
   obtain ⟨hl', e⟩ := List.getElem?_eq_some_iff.1 hy
   exact ⟨hl', by rw [HH.out.2 _ (by rw [HH.out.1]; omega), e]; exact hz⟩
 rw [eb, ei]
 have HK := qH hk
 clear hk h1 h2 eb ei hi
 go_wp2
 go_ret2
 exact RetF.mk HK.out (aCw rfl)
theorem lR {P : Program} {S : Nat -> Prop} {w : World} {b : Nat} {ov iv0 iv : Value} {tail : List Value} {te : TypeId} {D : Option Addr × Nat × Nat -> Prop} {c : Option Addr × Nat × Nat -> Option Addr × Nat × Nat -> Int} {zs : List (Option Addr × Nat × Nat)} {M : Nat -> Prop}
 (hB : Blk w b (ov :: iv0 :: tail) te) (hr : Row w 66 1 iv zs.length (zs.map fun x => (Value.slice (x).1 (x).2.1 (x).2.2)) M) (hap : iv.ownBlock ≠ some b) (hS : ∀ k, S k -> k < w.heap.size) (hn : ∀ k, cS b iv k -> ¬ S k)
 (ho : OrdVRow P S w ov D c) (hD : ∀ x ∈ zs, D x) (hl : zs.length ≤ 1048576 * 1048576) : SetAtRow P S (w.setCell ⟨b, 1, none⟩ iv) b ov iv tail te D c zs := by
 have hk : Kp (fun k => k = b) w (w.setCell ⟨b, 1, none⟩ iv) := Kp.setCell (F := fun k => k = b) (Kp.refl w) (fun _ => rfl) iv
 exact ⟨hB.set 1 iv, hr.own.kp hk fun g hg e => hap (by rw [hg, e]), hap, fun k h => Nat.lt_of_lt_of_le (hS k h) hk.size, hn, ho.same (hk.same hS fun k h e => hn k (.inl e) h), hD, hl⟩
set_option maxHeartbeats 4000000 in
theorem vI (xs : List Value) (iv : Value) (M : Nat -> Prop) (n i : Nat) (x : Value) (vb : Nat) (ve : TypeId) (w : World) (hn : n = xs.length) (hr : Row w 66 1 iv n xs M) (hi : i ≤ n) (hx : x.oneCell' = true) (hxs : ∀ u ∈ xs, u.oneCell' = true)
 (hv : Blk w vb [x] ve) (hne : iv.ownBlock ≠ some vb) (hb : (n + 1) * 24 ≤ 140737488355328) :
 Calls Tryz.prog 129 #[iv, .int .i64 i, .slice (some ⟨vb, 0, none⟩) 1 1] w
  (RetF (fun g => iv.ownBlock = some g) w fun w' v => Row w' 66 1 v (n + 1) (xs.take i ++ x :: xs.drop i) (fun g => iv.ownBlock = some g \/ w.heap.size ≤ g)) := by
 have hsrc : CellsAt w (some ⟨vb, 0, none⟩) [x] := CellsAt.pre (rest := []) hv
 have hl : n + 1 ≤ 9223372036854775807 := by omega
 obtain ⟨ao, cap, rfl, hcells, hcap⟩ := hr.shape
 by_cases hin : i = n
 ·subst hin
  have HNN := qH hn; clear hn
  have hrM : Row w 66 1 (.slice ao i cap) i xs (fun g => (Value.slice ao i cap).ownBlock = some g \/ w.heap.size ≤ g) := hr.own.mono fun g h => .inl h
  clear hr
  by_cases hci : cap = i
  all_goals
   first | (subst hci) | skip
   go_enter Tryz.func129, Tryz.ntmps129
   go_wp2_with (first | (at_builtin; refine Halted.out ?_))
   refine Halted.mk (aCr eT rfl _ _ rfl (Kp.refl (F := fun g => (Value.slice ao _ _).ownBlock = some g) w) (M := fun g => (Value.slice ao _ _).ownBlock = some g \/ w.heap.size ≤ g) (fun g h h' => by rcases h with h | h; exact h; omega) (fun g h => .inr h) rfl hrM rfl rfl hsrc (by simpa using hx) hb (by unfold maxLen; omega) ?_)
   intro v1 w1 hr1 hk1 _ _
   have HR := qH hr1; clear hr1 hcells hrM
   go_wp2
   go_ret
   refine RetF.mk hk1 ?_
   have := HNN.out
   rw [List.take_of_length_le (by omega), List.drop_of_length_le (by omega)]
   exact HR.out
 ·have hlt : i < n := by omega
  obtain ⟨h1, ⟨h2, h3⟩ | ⟨g, cap', rest, h2, hM, hB, hlen, hnc, hcm⟩⟩ := hr
  ·omega
  cases h2
  have hgv : g ≠ vb := fun e => hne (by simp [Value.ownBlock, e])
  have hfree := hv.free
  have hov : ∀ (W : World), Blk W vb [x] ve -> (∀ cs, Blk w g cs 66 -> True) -> ∀ off lb cb (kB : Nat) (eB : TypeId), W.shape? g = some (eB, kB) -> kB ≠ 0 ->
   (callFunc 179 #[.slice (some ⟨vb, 0, none⟩) 1 1, .slice (some ⟨g, off, none⟩) lb cb]).run Tryz.prog W = .ok (.value (.bool false)) W := fun W hW _ off lb cb kB eB hs hk => by
   rw [run_callFunc_extern Tryz.func179 (by kernel_rfl) (by kernel_rfl) (by kernel_rfl) (e := Extern.SlicesOverlaps.overlaps #[51, 51] #[4]) (by kernel_rfl),
    Lib.run_overlaps_apart W 51 4 66 Tryz.underlying51 1 (fun w => by kernel_rfl) ⟨vb, 0, none⟩ ⟨g, off, none⟩ 1 1 lb cb (fun e => hgv e.symm) ve eB 1 kB hW.shape hs hk (hW.free 0) (hW.free 1)]
   rfl
  by_cases hroom : n + 1 ≤ cap
  ·have hrest : ∃ y rest', rest = y :: rest' := by
    cases rest with
    | nil => simp at hlen h1; omega
    | cons y r => exact ⟨y, r, rfl⟩
   obtain ⟨y, rest', rfl⟩ := hrest
   have hov1 := fun off lb cb => hov w hv (fun _ _ => trivial) off lb cb _ _ hB.shape (by simp)
   have ncap : ¬ cap = i + 1 := by omega
   have ncap2 : ¬ cap = i := by omega
   have hi1 : ((i : Int) + 1).toNat = i + 1 := by omega
   have hw1 : IntKind.i64.wrap ((i : Int) + 1) = (i : Int) + 1 := IntWalk.i64_in _ (by omega)
   have hp1 : (0 : Int) ≤ (i : Int) + 1 := by omega
   have hp2 : (i : Int) ≤ (n : Int) + 1 := by omega
   have HNN := qH hn; clear hn
   have HB := qH hB; clear hB
   have HS := qH hsrc; clear hsrc
   have HV := qH hv; clear hv hov hfree
   have HXS := qH hxs; clear hxs
   have HC := qH hcells; clear hcells
   have HLN := qH (And.intro h1 hlen); clear h1 hlen
   have hcm' := hcm
   clear hM hcm hne
   unfold maxLen at hcm'
   go_enter Tryz.func129, Tryz.ntmps129
   go_wp2_with (simp only [hov1])
   go_still_tail 8, (by kernel_rfl)
   refine sG eT rfl _ _ rfl (w := w.drew) (HB.out.drew) (g := g) (off := i + 1) rfl rfl (cs := xs.drop i) (by have := HNN.out; simp [Nat.min_def]; first | omega | (split <;> omega)) (fun _ => rfl) (fun j u hu => ⟨g, i, rfl, by
    have hb := HB.out
    rw [hb.drew.cell']
    rw [List.getElem?_drop] at hu
    rw [List.getElem?_append_left (List.getElem?_eq_some_iff.1 hu).1]; exact hu⟩) (by have := HNN.out; simp; omega) (fun u hu => HXS.out u (List.mem_of_mem_drop hu)) ?_
   intro w2 hk2 hB2
   have hsv := (HS.out.drewN 1).kp hk2 (fun a ha e => by cases ha; exact hgv e.symm)
   obtain ⟨w3, hrun3, hk3, hB3⟩ := jR eT (w := w2) hB2 (g := g) (off := i) (dp := some ⟨g, i, none⟩) (dLen := n + 1 - i) (dCap := cap - i) (sp := some ⟨vb, 0, none⟩) (sLen := 1) (sCap := 1) (cs := [x]) (by simp [Nat.min_def]; omega) (fun _ => rfl) hsv (by have := HNN.out; simp [splice]; omega) (by simpa using hx)
   have HK2 := qH hk2; have HK3 := qH hk3; have HB3 := qH hB3
   clear hk2 hk3 hB3 hB2 hsv hw1 hi1 hp1
   go_wp2
   go_ret
   have hk23 : Kp (fun k => k = g) w w3 := (((Kp.refl w).drew).trans (HK2.out)).trans HK3.out
   refine RetF.mk (hk23.mono fun k _ e => by rw [e]; rfl) ⟨?_, .inr ⟨g, cap, rest', rfl, .inl rfl, ?_, ?_, hroom, by unfold maxLen; omega⟩⟩
   ·have := HNN.out; simp; omega
   ·have := aCz xs rest' x y i (by have := HNN.out; omega)
    rw [<- this]; exact HB3.out
   ·have := HLN.out.2; have := HNN.out; simp at *; omega
  ·have hcap' : n = cap := by omega
   subst hcap'
   have hk0 : 0 < n + 1 - i := by omega
   obtain ⟨w1, G, hrun1, hG, hGm, hext1, hsz1, hB1⟩ := nK (w := w) eT rfl Tryz.underlying3 (ao := some ⟨g, 0, none⟩) (n := i) (cap := n) (olds := xs.take i) (fun j u hu => by
    rw [List.getElem?_take] at hu
    split at hu
    ·exact hcells j u hu
    ·cases hu) (by simp; omega) (k := n + 1 - i) hk0 (by omega) (by rw [show i + (n + 1 - i) = n + 1 by omega]; exact hb) (by unfold maxLen; omega)
   rw [show i + (n + 1 - i) = n + 1 by omega] at hrun1 hG
   have rk : (n : Int) + 1 - i = ((n + 1 - i : Nat) : Int) := by omega
   rw [<- rk] at hrun1
   clear rk
   have hv1 := hsrc.ext hext1
   have hgh : g < w.heap.size := hB.lt
   obtain ⟨w2, hrun2, hk2, hB2⟩ := jR eT (w := w1) hB1 (off := i) (dp := some ⟨w.heap.size, i, none⟩) (dLen := n + 1 - i) (dCap := G - i) (sp := some ⟨vb, 0, none⟩) (sLen := 1) (sCap := 1) (cs := [x]) (by simp [Nat.min_def]; omega) (fun _ => rfl) hv1 (by simp; omega) (by simpa using hx)
   have hB' : Blk w2 g (xs ++ rest) 66 := (hB.ext hext1).kp hk2 (by omega)
   have HB' := qH hB'; have HB2 := qH hB2; have HK2 := qH hk2; have HE1 := qH hext1
   have HNN := qH hn
   have HXS := qH hxs
   have HLN := qH (And.intro h1 hlen)
   have ncG : ¬ G = i := by omega
   have ncG1 : ¬ G = i + 1 := by omega
   have nci : ¬ n = i := by omega
   have hi1 : ((i : Int) + 1).toNat = i + 1 := by omega
   have hw1 : IntKind.i64.wrap ((i : Int) + 1) = (i : Int) + 1 := IntWalk.i64_in _ (by omega)
   have hp1 : (0 : Int) ≤ (i : Int) + 1 := by omega
   have hp2 : (i : Int) ≤ (n : Int) + 1 := by omega
   have hp3 : (i : Int) ≤ (n : Int) := by omega
   clear hB hB' hB2 hk2 hext1 hn hxs h1 hlen hv1 hB1 hM hcm hne hv hov hfree hsrc hcells
   unfold maxLen at hGm
   go_enter Tryz.func129, Tryz.ntmps129
   go_wp2_with (first | (at_builtin; refine Halted.out ?_))
   refine Halted.mk (mT rfl _ _ rfl rfl rfl hrun1 ?_)
   clear hrun1
   go_wp2
   go_still_tail 8, (by kernel_rfl)
   refine sG eT rfl _ _ rfl (w := w2.drew) (HB2.out.drew) (g := w.heap.size) (off := i + 1) rfl rfl (cs := xs.drop i) (by have := HNN.out; first | (simp; omega) | (simp [Nat.min_def]; first | omega | (split <;> omega))) (fun _ => rfl) (fun j u hu => ⟨g, i, rfl, by
    have hb := HB'.out
    rw [hb.drew.cell']
    rw [List.getElem?_drop] at hu
    rw [List.getElem?_append_left (List.getElem?_eq_some_iff.1 hu).1]; exact hu⟩) (by have := HNN.out; simp [splice]; omega) (fun u hu => HXS.out u (List.mem_of_mem_drop hu)) ?_
   intro w3 hk3 hB3
   have HK3 := qH hk3; have HB3 := qH hB3
   clear hk3 hB3 hw1 hi1 hp1 hp2 hp3
   go_wp2
   go_ret
   have hext2 : Ext w w2 := HE1.out.trans' HK2.out (fun k hk e => by omega)
   have hext3 : Ext w w3 := (hext2.drew).trans' HK3.out (fun k hk e => by omega)
   refine RetF.mk hext3.kp ⟨?_, .inr ⟨w.heap.size, G, List.replicate (G - (n + 1)) (.slice none 0 0), rfl, .inr (Nat.le_refl _), ?_, ?_, hG, by unfold maxLen; omega⟩⟩
   ·have := HNN.out; simp; omega
   ·have h := qQ xs x (.slice none 0 0) i G (by have := HNN.out; omega) (by have := HNN.out; omega)
    have := HB3.out
    rw [h] at this
    exact this.congrL (by rw [HNN.out])
   ·have := HNN.out; simp; omega
end
end Go.Proofs.YtikgpedgmnbcaaaGreatDoor
