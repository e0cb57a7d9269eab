/- Texts joined for a claim (JoinV, JoinC, DrawIn, Make, Shelf, Ref14, Ref14b, Ref14c, Flat, LawMem, JLawA, Takes, RuleFit, SwapRow, InsRow, SymLRow, SymRow, SymGRow, SortRow, BinRow, CompactRow, GenRow, SetRow, NewRow). -/
import Derived.Test.YtinnmeiphbdogaaGreatRu1
import Derived.Laws.MakeOwn
import Derived.Ground.NamesProg
import Derived.Shelf.Bits.Mul64
import Derived.Shelf.SlGeneric
import Derived.Ground.SlsfProg
import Derived.Shelf.SlSortCmp.NoneTotal
import Derived.Test.YtinnmeiphbdogaaGreatProg
import Derived.Deep.RegionHeld3
import Derived.BigRegion
import Derived.StillTailTactics
import Derived.Deep.QuietTactic
import Derived.BigQuiet
import Derived.Deep.DeepCutAuto
import Derived.Deep.RegionWith
/- join: the variables of a rule's positive atoms. -/
namespace Go.Proofs.YtinnmeiphbdogaaGreat
open Go.RowKit
set_option linter.unusedVariables false
theorem elem_strV : ElemT Tryz.prog 34 9 1 16 (.string ⟨#[]⟩) := ⟨by kernel_rfl, by kernel_rfl, rfl, by decide⟩
theorem addName_len (a : List ByteArray) (t : TermZ) : (addName a t).length ≤ a.length + 1 /\ a.length ≤ (addName a t).length := by
 unfold addName; split <;> simp
theorem namesT_len : ∀ (ts : List TermZ) (a : List ByteArray), (namesT a ts).length ≤ a.length + ts.length
 | [], a => by simp [namesT]
 | t :: ts, a => by
  have := namesT_len ts (addName a t)
  have := (addName_len a t).1
  unfold namesT at *
  rw [List.foldl_cons]; simp only [List.length_cons]; omega
theorem namesL_len (a : List ByteArray) (l : LitZ) : (namesL a l).length ≤ a.length + (termsOf l).length := by
 unfold namesL; split
 ·exact namesT_len _ _
 ·omega
theorem namesF_len (M : Nat) : ∀ (ls : List LitZ) (a : List ByteArray), (∀ l ∈ ls, (termsOf l).length ≤ M) -> (ls.foldl namesL a).length ≤ a.length + ls.length * M
 | [], a, _ => by simp
 | l :: ls, a, h => by
  have h1 := namesF_len M ls (namesL a l) fun x hx => h x (List.mem_cons_of_mem _ hx)
  have h2 := namesL_len a l
  have h3 := h l List.mem_cons_self
  rw [List.foldl_cons, List.length_cons, Nat.succ_mul]; omega
theorem namesB_len {M : Nat} {ls : List LitZ} (h : ∀ l ∈ ls, (termsOf l).length ≤ M) : (namesB ls).length ≤ ls.length * M := by
 have := namesF_len M ls [] h; unfold namesB; simpa using this
def namesIn (a : List ByteArray) (l : LitZ) (c : Nat) : List ByteArray := if l.1 = 1 then namesT a ((termsOf l).take c) else a
theorem namesIn_zero (a : List ByteArray) (l : LitZ) : namesIn a l 0 = a := by unfold namesIn; split <;> rfl
theorem namesIn_all (a : List ByteArray) (l : LitZ) {c : Nat} (h : (termsOf l).length ≤ c) : namesIn a l c = namesL a l := by
 unfold namesIn namesL; rw [List.take_of_length_le h]
theorem namesIn_succ (a : List ByteArray) {l : LitZ} {c : Nat} {t : TermZ} (h : (termsOf l)[c]? = some t) : namesIn a l (c + 1) = if l.1 = 1 /\ t.1 = 1 /\ hasT (namesIn a l c) t.2.1 = false then namesIn a l c ++ [t.2.1] else namesIn a l c := by
 unfold namesIn
 by_cases h1 : l.1 = 1
 ·simp only [h1, true_and]
  unfold namesT
  rw [fold_take _ _ h]
  rfl
 ·simp only [h1, false_and, if_false]
theorem namesIn_len (a : List ByteArray) (l : LitZ) (c : Nat) : (namesIn a l c).length ≤ a.length + c := by
 unfold namesIn; split
 ·have := namesT_len ((termsOf l).take c) a
  rw [List.length_take] at this; omega
 ·omega
theorem Row.old {w : World} {e : TypeId} {k : Nat} {v : Value} {n : Nat} {xs : List Value} {M : Nat -> Prop} (h : Row w e k v n xs M) : Row w e k v n xs (fun g => M g /\ g < w.heap.size) := by
 obtain ⟨h1, h2 | ⟨g, cap, rest, a, b, c, d⟩⟩ := h
 ·exact ⟨h1, .inl h2⟩
 ·exact ⟨h1, .inr ⟨g, cap, rest, a, ⟨b, c.lt⟩, c, d⟩⟩
theorem Row.beside {w w' : World} {e : TypeId} {k : Nat} {v : Value} {n : Nat} {xs : List Value} {M : Nat -> Prop} (h : Row w e k v n xs M) (hx : Ext w w') : Row w' e k v n xs (fun g => M g /\ g ≠ w.heap.size) :=
 (h.old.ext hx).mono fun g hg => ⟨hg.1, by omega⟩
theorem strs_snoc (ss : List ByteArray) (s : ByteArray) : strs ss ++ [.string s] = strs (ss ++ [s]) := by simp [strs]
structure Fit (ls : List LitZ) : Prop where
 len : ls.length ≤ 1048576
 terms : ∀ l ∈ ls, (termsOf l).length ≤ 1048576
def VarsOut (w0 : World) (ls : List LitZ) (n : Nat) (iv ov : Value) (w : World) : Prop := ∃ i : Nat, i ≤ n /\ iv = .int .i64 i /\ Hid (Row w 9 1 ov (namesB (ls.take i)).length (strs (namesB (ls.take i))) (New w0)) /\ Hid (Ext w0 w)
def VarsIn (w0 : World) (a : List ByteArray) (l : LitZ) (g : Nat) (cs : List Value) (m : Nat) (iv ov : Value) (w : World) : Prop := ∃ i : Nat, i ≤ m /\ iv = .int .i64 i /\ Hid (Row w 9 1 ov (namesIn a l i).length (strs (namesIn a l i)) (fun k => New w0 k /\ k ≠ g)) /\ Hid (Ext w0 w) /\ Hid (Blk w g cs 40)
set_option maxRecDepth 100000 in
set_option maxHeartbeats 4000000 in
theorem vars_any (p : ByteArray) (ha : Option Addr) (hn hcap : Nat) (ls : List LitZ) (ba : Option Addr) (n bcap : Nat) (w : World) (G : Nat -> Prop) (hbn : n = ls.length) (h : LitsAt w G ba ls) (hf : Fit ls) :
 Calls Tryz.prog 62 #[ruleV p ha hn hcap ba n bcap] w (RetN w fun w' v => ∃ ao cap, v = .slice ao (namesB ls).length cap /\ (namesB ls).length ≤ cap /\ CellsAt w' ao (strs (namesB ls))) := by
 have HN := Lib.hid hbn; have HE := Lib.hid h; have HF := Lib.hid hf; have hl : n ≤ 1048576 := by have := hf.len; omega
 clear hbn h hf
 go_enter Tryz.func62, Tryz.ntmps62
 go_wp2
 go_loopw [11, 3] (fun iv ov wr => VarsOut w ls n iv ov wr) (fun iv _ _ => n - (intOf iv).toNat)
 case atStart => exact ⟨0, Nat.zero_le _, rfl, Row.nil _ _ _ _, (Kp.refl w).alloc _⟩
 case round =>
  obtain ⟨i, hi, rfl, hrow, hex⟩ := hrel
  by_cases hlt : i < n
  ·have hlt' : i < ls.length := by rw [<- HN.out]; exact hlt
   obtain ⟨l, hli⟩ : ∃ l, ls[i]? = some l := ⟨_, List.getElem?_eq_getElem hlt'⟩
   obtain ⟨b, off, a, cap, eao, hG, hb, hL, c0, c1, c2, c3, c4, c5, c6, c7⟩ := lit_at HE.out hli
   subst eao
   replace c0 := hex.out.cell c0 id
   replace c1 := hex.out.cell c1 id
   replace c2 := hex.out.cell c2 id
   replace c3 := hex.out.cell c3 id
   replace c4 := hex.out.cell c4 id
   replace c5 := hex.out.cell c5 id
   replace c6 := hex.out.cell c6 id
   replace c7 := hex.out.cell c7 id
   obtain ⟨m, em⟩ : ∃ m, m = (termsOf l).length := ⟨_, rfl⟩
   rw [<- em] at c2
   have hm : m ≤ 1048576 := by rw [em]; exact HF.out.terms l (List.mem_of_getElem? hli)
   have HL := Lib.hid (And.intro hli (And.intro hL em))
   clear hli hlt' hL em hG hb
   obtain ⟨k, ek⟩ : ∃ k, l.1 = k := ⟨_, rfl⟩
   rw [ek] at c0
   generalize predOf l = s1 at c1
   generalize opOf l = s3 at c3
   generalize (leftOf l).1 = s4 at c4
   generalize (leftOf l).2.1 = s5 at c5
   generalize (rightOf l).1 = s6 at c6
   generalize (rightOf l).2.1 = s7 at c7
   have HK := Lib.hid ek; clear ek
   go_wp2
   obtain ⟨wb, eb⟩ : ∃ wb, wr.alloc (.cells #[.int .i64 k, .string s1, .slice a m cap, .int .i64 s3, .int .i64 s4, .string s5, .int .i64 s6, .string s7] 40) = wb := ⟨_, rfl⟩
   rw [eb]
   have hB : Blk wb wr.heap.size [.int .i64 k, .string s1, .slice a m cap, .int .i64 s3, .int .i64 s4, .string s5, .int .i64 s6, .string s7] 40 := by rw [<- eb]; exact Blk.new wr [_, _, _, _, _, _, _, _] _
   have hx : Ext wr wb := by rw [<- eb]; exact (Kp.refl wr).alloc _
   have hrow2 : Row wb 9 1 u3 (namesIn (namesB (ls.take i)) l 0).length (strs (namesIn (namesB (ls.take i)) l 0)) (fun k => New w k /\ k ≠ wr.heap.size) := by
    rw [namesIn_zero]
    exact hrow.out.beside hx
   have HX := Lib.hid (hex.out.trans hx)
   have HB := Lib.hid hB
   have HR := Lib.hid hrow2
   have hnew : New w wr.heap.size := hex.out.size
   have HW := Lib.hid (And.intro hnew (Nat.lt_of_lt_of_le (Nat.lt_succ_self _) (by rw [<- eb, alloc_size]; exact Nat.le_refl _) : wr.heap.size < wb.heap.size))
   have d0 : wb.cell? ⟨wr.heap.size, 2, none⟩ = some (.slice a m cap) := by rw [hB.cell']; rfl
   obtain ⟨g, eg⟩ : ∃ g, g = wr.heap.size := ⟨_, rfl⟩
   rw [<- eg] at HB HR HW d0
   have hlt2 : (i : Int) < (n : Int) := by omega
   clear hB hrow2 hx eb hnew c0 c1 c2 c3 c4 c5 c6 c7
   rw [<- eg]
   clear eg
   go_wp2
   clear d0
   go_loopw [19, 3] (fun iv ov wr => VarsIn w (namesB (ls.take i)) l g [.int .i64 k, .string s1, .slice a m cap, .int .i64 s3, .int .i64 s4, .string s5, .int .i64 s6, .string s7] m iv ov wr) (fun iv _ _ => m - (intOf iv).toNat)
   case atStart => exact ⟨0, Nat.zero_le _, rfl, HR.out, HX.out, HB.out⟩
   case round =>
    obtain ⟨j, hj, rfl, hrow3, hex3, hblk3⟩ := hrel
    by_cases hlt3 : j < m
    ·have hlt4 : j < (termsOf l).length := by rw [<- HL.out.2.2]; exact hlt3
     obtain ⟨t, ht⟩ : ∃ t, (termsOf l)[j]? = some t := ⟨_, List.getElem?_eq_getElem hlt4⟩
     obtain ⟨b2, off2, eao2, f0, f1, _⟩ := term_at (HL.out.2.1.terms.ext hex3.out) ht
     subst eao2
     obtain ⟨kt, st, ⟨⟩⟩ := t
     simp only at f0 f1
     have hs := namesIn_succ (namesB (ls.take i)) ht
     have HT := Lib.hid hs
     clear ht hlt4 hs
     have e0 : (wr.alloc (.cells #[.int .i64 kt, .string st] 38)).cell? ⟨g, 0, none⟩ = some (.int .i64 k) := by rw [(hblk3.out.alloc _).cell']; rfl
     have hlen : (namesIn (namesB (ls.take i)) l j).length ≤ 1099513724928 := by
      have h1 := namesIn_len (namesB (ls.take i)) l j
      have h2 : (namesB (ls.take i)).length ≤ (ls.take i).length * 1048576 := namesB_len fun x hx => HF.out.terms x (List.mem_of_mem_take hx)
      rw [List.length_take] at h2
      omega
     generalize eN : namesIn (namesB (ls.take i)) l j = N at *
     by_cases h1 : k = 1
     ·subst h1
      by_cases h2 : kt = 1
      ·subst h2
       have hrow4 := hrow3.out
       obtain ⟨ao, cap4, eov, hcells, hle⟩ := hrow4.shape
       subst eov
       have HS := Lib.hid (fun (W : World) (hW : Ext wr W) => containsS_any N st ao N.length cap4 W rfl (hcells.ext hW) (by omega))
       have HR4 := Lib.hid hrow4
       clear hcells hrow4 hrow3
       go_wp2_with fail
       refine (HS.out _ ((Kp.refl _).alloc _)).mono ?_
       rintro e w1 ⟨v, rfl, hk1, rfl⟩
       have bb := Blk.new wr [.int .i64 1, .string st] 38
       have f2 : w1.cell? ⟨wr.heap.size, 1, none⟩ = some (.string st) := by rw [(bb.ext hk1).cell']; rfl
       have HE1 := Lib.hid (((Kp.refl _).alloc _).trans hk1)
       clear hk1 bb
       cases hh : hasT N st
       ·have HT2 := Lib.hid (HT.out.trans (if_pos ⟨HK.out, by first | rfl | trivial, hh⟩))
        go_wp2_with (first | (at_builtin; refine Halted.out ?_))
        refine Halted.mk (wp_app elem_strV rfl _ _ rfl ((hex3.out.trans HE1.out).alloc _) (fun q h1 h2 => absurd h2 (Nat.not_lt.2 h1.1)) (fun q h1 => ?_) rfl ((HR4.out.ext HE1.out).alloc _) rfl (by rfl) (CellsAt.one _ _ _) (by simp [Value.oneCell']) (by omega) (by unfold maxLen; omega) ?_)
        ·have a1 := hex3.out.size
         have a2 := HE1.out.size
         have a3 := hblk3.out.lt
         rw [alloc_size] at h1
         exact ⟨by unfold New; omega, by omega⟩
        ·intro v1 w2 hr1 hk1 hk2 _
         have hk3 := hk2
         have hb2 : Blk w2 g _ _ := ((hblk3.out.ext HE1.out).alloc _).kp hk2 (fun e => absurd rfl (HR4.out.block g e).2)
         have HR5 := Lib.hid (And.intro hr1 (And.intro hk1 hb2))
         clear hr1 hk1 hk2 hk3 hb2
         go_wp2
         go_roundw
         case rel =>
          refine ⟨j + 1, by omega, by first | rfl | (congr 1; done) | (congr 1; omega), ?_, HR5.out.2.1, HR5.out.2.2⟩
          have h := HR5.out.1
          rw [HT2.out, <- strs_snoc, List.length_append]
          exact h
         case measure => simp [intOf]; omega
       ·have HT2 := Lib.hid (HT.out.trans (if_neg fun x => by rw [hh] at x; cases x.2.2))
        go_wp2
        go_roundw
        case rel =>
         exact ⟨j + 1, by omega, by first | rfl | (congr 1; done) | (congr 1; omega), by rw [HT2.out]; exact HR4.out.ext HE1.out, hex3.out.trans HE1.out, hblk3.out.ext HE1.out⟩
        case measure => simp [intOf]; omega
      ·have HT2 := Lib.hid (HT.out.trans (if_neg fun x => h2 x.2.1))
       have b2 : (kt == 1) = false := by simp [h2]
       go_wp2
       go_roundw
       case rel =>
        exact ⟨j + 1, by omega, by first | rfl | (congr 1; done) | (congr 1; omega), by rw [HT2.out]; exact hrow3.out.alloc _, hex3.out.alloc _, hblk3.out.alloc _⟩
       case measure => simp [intOf]; omega
     ·have HT2 := Lib.hid (HT.out.trans (if_neg fun x => h1 (HK.out.symm.trans x.1)))
      have b2 : (k == 1) = false := by simp [h1]
      go_wp2
      go_roundw
      case rel =>
       exact ⟨j + 1, by omega, by first | rfl | (congr 1; done) | (congr 1; omega), by rw [HT2.out]; exact hrow3.out.alloc _, hex3.out.alloc _, hblk3.out.alloc _⟩
      case measure => simp [intOf]; omega
    ·have HA := Lib.hid (namesIn_all (namesB (ls.take i)) l (c := j) (by have := HL.out.2.2; omega))
     go_wp2
     go_roundw
     case rel =>
      refine ⟨i + 1, by omega, by first | rfl | (congr 1; done) | (congr 1; omega), ?_, hex3⟩
      have h := hrow3.out
      have e : namesB (ls.take (i + 1)) = namesL (namesB (ls.take i)) l := fold_take _ _ HL.out.1
      rw [HA.out, <- e] at h
      exact h.mono fun _ x => x.1
     case measure => simp [intOf]; omega
  ·have e : ls.take i = ls := List.take_of_length_le (by have := HN.out; omega)
   have hrow4 := hrow.out
   rw [e] at hrow4
   obtain ⟨ao, cap4, eov, hcells, hle⟩ := hrow4.shape
   subst eov
   have HS := Lib.hid (fun (W : World) => clipS_any ao (namesB ls).length cap4 W hle)
   have HC := Lib.hid hcells
   clear hcells hrow4 hrow hle e
   go_wp2_with fail
   refine (HS.out _).mono ?_
   rintro e w1 ⟨v, rfl, hk1, rfl⟩
   go_wp2
   go_ret
   exact RetN.mk (hex.out.trans hk1) ⟨ao, _, rfl, Nat.le_refl _, HC.out.ext hk1⟩
end Go.Proofs.YtinnmeiphbdogaaGreat

/- join: Check, Vars. -/
namespace Go.Proofs.YtinnmeiphbdogaaGreat
open Go.RowKit
set_option linter.unusedVariables false
set_option maxRecDepth 100000 in
theorem safe_any (N : List ByteArray) (ao : Option Addr) (m cap gb : Nat) (k : Int) (s : ByteArray) (blank : Bool) (w : World) (hm : m = N.length) (hc : w.cell? ⟨gb, 0, none⟩ = some (.slice ao m cap)) (h : CellsAt w ao (strs N)) (hl : m ≤ 4611686018427387904) :
 Calls Tryz.prog 65 #[termV k s, .bool blank, .pointer (some ⟨gb, 0, none⟩)] w (RetN w fun w' v => v = .bool (safeT N blank (k, s, ()))) := by
 by_cases h2 : k = 2
 ·subst h2
  go_enter Tryz.func65, Tryz.ntmps65
  go_wp2
  go_ret
  exact RetN.mk ((Kp.refl w).alloc _) (by unfold safeT; simp)
 ·have b2 : (k == 2) = false := by simp [h2]
  by_cases h34 : k = 3 \/ k = 4
  ·rcases h34 with rfl | rfl
   all_goals
    clear h2 b2
    go_enter Tryz.func65, Tryz.ntmps65
    go_wp2
    go_ret
    exact RetN.mk ((Kp.refl w).alloc _) (by unfold safeT; simp)
  ·have b3 : (k == 3) = false := by simp; exact fun e => h34 (.inl e)
   have b4 : (k == 4) = false := by simp; exact fun e => h34 (.inr e)
   have HS := Lib.hid (fun (W : World) (hW : Ext w W) => containsS_any N s ao m cap W hm (h.ext hW) hl)
   have e0 : (w.alloc (.cells #[.int .i64 k, .string s] 38)).cell? ⟨gb, 0, none⟩ = some (.slice ao m cap) := ((Kp.refl (F := fun _ => False) w).alloc _).cell hc id
   have HH := Lib.hid (And.intro h2 h34); clear h2 h34 h hm hc
   go_enter Tryz.func65, Tryz.ntmps65
   go_wp2_with fail
   refine (HS.out _ ((Kp.refl _).alloc _)).mono ?_
   rintro e w1 ⟨v, rfl, hk1, rfl⟩
   go_wp2
   go_ret
   refine RetN.mk (((Kp.refl w).alloc _).trans hk1) ?_
   obtain ⟨h2, h34⟩ := HH.out
   show Value.bool (hasT N s) = _
   refine congrArg Value.bool ?_
   unfold safeT
   rw [if_neg h2]
   cases hh : hasT N s
   ·symm; apply decide_eq_false; rintro (x | x | x)
    ·exact h34 (.inl x)
    ·exact h34 (.inr x)
    ·cases x
   ·symm; exact decide_eq_true (.inr (.inr rfl))
def AllTo (w0 : World) {α : Type} (xs : List α) (q : α -> Bool) (n : Nat) (iv : Value) (w : World) : Prop := ∃ i : Nat, i ≤ n /\ iv = .int .i64 i /\ Hid ((xs.take i).all q = true) /\ Hid (Ext w0 w)
theorem all_take {α : Type} {q : α -> Bool} {xs : List α} {i : Nat} {x : α} (h : xs[i]? = some x) : (xs.take (i + 1)).all q = ((xs.take i).all q && q x) := by
 rw [List.take_add_one, h, List.all_append]; simp
theorem all_no {α : Type} {q : α -> Bool} {xs : List α} {i : Nat} {x : α} (h : xs[i]? = some x) (hq : q x = false) : xs.all q = false := by
 rw [List.all_eq_false]; exact ⟨x, List.mem_of_getElem? h, by rw [hq]; decide⟩
set_option maxRecDepth 100000 in
set_option maxHeartbeats 8000000 in
theorem check_any (p : ByteArray) (hs : List TermZ) (ls : List LitZ) (ha : Option Addr) (hn hcap : Nat) (ba : Option Addr) (n bcap : Nat) (w : World) (G : Nat -> Prop) (hhn : hn = hs.length) (hh : TermsAt w G ha hs) (hhl : hn ≤ 1048576) (hbn : n = ls.length) (h : LitsAt w G ba ls) (hf : Fit ls) :
 Calls Tryz.prog 15 #[ruleV p ha hn hcap ba n bcap] w (RetN w fun w' v => v = .int .i64 (checkR ((p, hs, ()), ls, ()))) := by
 have HN := Lib.hid hbn; have HE := Lib.hid h; have HF := Lib.hid hf; have hl : n ≤ 1048576 := by have := hf.len; omega
 have HHN := Lib.hid hhn; have HHE := Lib.hid hh
 have HHead := Lib.hid (fun (W : World) (hW : Ext w W) => head_any hs ha hn hcap W G hhn (hh.ext hW) hhl)
 obtain ⟨m, em⟩ : ∃ m, m = (namesB ls).length := ⟨_, rfl⟩
 have HVars0 := fun (W : World) (hW : Ext w W) => vars_any p ha hn hcap ls ba n bcap W G hbn (h.ext hW) hf
 rw [<- em] at HVars0
 have HVars := Lib.hid HVars0
 have EM := Lib.hid em
 clear HVars0 em
 have HLit := Lib.hid (fun (W : World) (hW : Ext w W) (l : LitZ) (hl : l ∈ ls) (a : Option Addr) (cap : Nat) (hin : LitIn w G l a cap) => literal_any l.1 (predOf l) (termsOf l) a (termsOf l).length cap (opOf l) (leftOf l).1 (leftOf l).2.1 (rightOf l).1 (rightOf l).2.1 W G rfl (hin.terms.ext hW) (hf.terms l hl) hin.left.1 hin.left.2 hin.right.1 hin.right.2)
 clear hbn h hf hhn hh
 go_enter Tryz.func15, Tryz.ntmps15
 go_wp2_with fail
 refine (HHead.out _ ((Kp.refl _).alloc _)).mono ?_
 rintro e w1 ⟨v, rfl, hk1, rfl⟩
 have bb := Blk.new w [.string p, .slice ha hn hcap, .slice ba n bcap] 27
 have B1 := Lib.hid (bb.ext hk1)
 have b1 : w1.cell? ⟨w.heap.size, 2, none⟩ = some (.slice ba n bcap) := by rw [B1.out.cell']; rfl
 have X1 := Lib.hid (((Kp.refl _).alloc _).trans hk1)
 clear hk1 bb
 cases hhd : headOk hs
 ·go_wp2
  go_ret
  exact RetN.mk X1.out (by unfold checkR parted; rw [if_neg (by rw [hhd]; simp)]; rfl)
 ·go_wp2
  clear b1
  go_loopw [21] (fun iv wr => AllTo w1 ls litOk n iv wr) (fun iv _ => n - (intOf iv).toNat)
  case atStart => exact ⟨0, Nat.zero_le _, rfl, rfl, Kp.refl _⟩
  case round =>
   obtain ⟨i, hi, rfl, hall, hex⟩ := hrel
   have XR := Lib.hid (X1.out.trans hex.out)
   by_cases hlt : i < n
   ·have hlt' : i < ls.length := by rw [<- HN.out]; exact hlt
    obtain ⟨l, hli⟩ : ∃ l, ls[i]? = some l := ⟨_, List.getElem?_eq_getElem hlt'⟩
    obtain ⟨b, off, a, cap, eao, hG, hb, hL, c0, c1, c2, c3, c4, c5, c6, c7⟩ := lit_at HE.out hli
    subst eao
    replace c0 := XR.out.cell c0 id
    replace c1 := XR.out.cell c1 id
    replace c2 := XR.out.cell c2 id
    replace c3 := XR.out.cell c3 id
    replace c4 := XR.out.cell c4 id
    replace c5 := XR.out.cell c5 id
    replace c6 := XR.out.cell c6 id
    replace c7 := XR.out.cell c7 id
    have HL := Lib.hid hli
    have HC := Lib.hid (fun (W : World) (hW : Ext w W) => HLit.out W hW l (List.mem_of_getElem? hli) a cap hL)
    clear hli hlt' hL hG hb
    go_wp2_with fail
    refine (HC.out _ (XR.out.alloc _)).mono ?_
    rintro e w2 ⟨v, rfl, hk2, rfl⟩
    have X2 := Lib.hid ((hex.out.alloc _).trans hk2)
    clear hk2 c0 c1 c2 c3 c4 c5 c6 c7
    cases hq : litOk l
    ·go_wp2
     go_ret
     refine RetN.mk (X1.out.trans X2.out) ?_
     unfold checkR parted
     rw [if_neg (by rw [all_no HL.out hq]; simp)]; rfl
    ·go_wp2
     go_roundw
     case rel => exact ⟨i + 1, by omega, by first | rfl | (congr 1; done) | (congr 1; omega), by rw [all_take HL.out, hall.out, hq]; rfl, X2⟩
     case measure => simp [intOf]; omega
   ·have e : ls.take i = ls := List.take_of_length_le (by have := HN.out; omega)
    have HA := Lib.hid hall.out
    rw [e] at HA
    have c0 : wr.cell? ⟨w.heap.size, 0, none⟩ = some (.string p) := by rw [(B1.out.ext hex.out).cell']; rfl
    have c1 : wr.cell? ⟨w.heap.size, 1, none⟩ = some (.slice ha hn hcap) := by rw [(B1.out.ext hex.out).cell']; rfl
    have c2 : wr.cell? ⟨w.heap.size, 2, none⟩ = some (.slice ba n bcap) := by rw [(B1.out.ext hex.out).cell']; rfl
    clear e hall
    go_wp2_with fail
    refine (HVars.out _ XR.out).mono ?_
    rintro e w2 ⟨v, rfl, hk2, ao, cap, rfl, hle, hcells⟩
    have hm : m ≤ 4611686018427387904 := by
     have h1 := namesB_len HF.out.terms
     have h2 := HF.out.len
     have h3 := Nat.mul_le_mul_right 1048576 h2
     have h4 := EM.out
     omega
    clear c0 c1 c2
    have B2 := Lib.hid (B1.out.ext (hex.out.trans hk2))
    have hx2 : Ext w (w2.alloc (.cells #[.slice ao m cap] 34)) := (XR.out.trans hk2).alloc _
    obtain ⟨wb, eb⟩ : ∃ wb, w2.alloc (.cells #[.slice ao m cap] 34) = wb := ⟨_, rfl⟩
    have bn := Blk.new w2 [.slice ao m cap] 34
    have HSafe := Lib.hid (fun (W : World) (hW : Ext wb W) (k : Int) (s : ByteArray) (blank : Bool) => safe_any (namesB ls) ao m cap w2.heap.size k s blank W EM.out (by
     have := bn.cell 0 (by simp)
     rw [<- eb] at hW
     exact hW.cell this id) ((hcells.alloc _).ext (eb ▸ hW)) hm)
    have HX2 := Lib.hid hx2
    rw [eb] at HX2
    have C1 := Lib.hid (B2.out.alloc (.cells #[.slice ao m cap] 34))
    rw [eb] at C1
    have c1 : (w2.alloc (.cells #[.slice ao m cap] 34)).cell? ⟨w.heap.size, 1, none⟩ = some (.slice ha hn hcap) := by rw [eb, C1.out.cell']; rfl
    clear hk2 hle hcells hx2 bn
    have EB := Lib.hid eb; clear eb
    go_wp2
    rw [EB.out]
    clear c1
    go_loopw [36] (fun iv wr => AllTo wb hs (safeT (namesB ls) false) hn iv wr) (fun iv _ => hn - (intOf iv).toNat)
    case atStart => exact ⟨0, Nat.zero_le _, rfl, rfl, Kp.refl _⟩
    case round =>
     obtain ⟨j, hj, rfl, hall3, hex3⟩ := hrel
     have X3 := Lib.hid (HX2.out.trans hex3.out)
     by_cases hlt3 : j < hn
     ·have hlt4 : j < hs.length := by rw [<- HHN.out]; exact hlt3
      obtain ⟨t, ht⟩ : ∃ t, hs[j]? = some t := ⟨_, List.getElem?_eq_getElem hlt4⟩
      obtain ⟨b2, off2, eao2, f0, f1, _⟩ := term_at (HHE.out.ext X3.out) ht
      subst eao2
      obtain ⟨kt, st, ⟨⟩⟩ := t
      simp only at f0 f1
      have HT := Lib.hid ht
      clear ht hlt4
      go_wp2_with fail
      refine (HSafe.out _ (hex3.out.alloc _) kt st false).mono ?_
      rintro e w3 ⟨v, rfl, hk3, rfl⟩
      have X4 := Lib.hid ((hex3.out.alloc _).trans hk3)
      clear hk3 f0 f1
      cases hq : safeT (namesB ls) false (kt, st, ())
      ·go_wp2
       go_ret
       refine RetN.mk (HX2.out.trans X4.out) ?_
       unfold checkR safeR parted
       rw [if_pos (by simp only [Bool.and_eq_true]; exact ⟨hhd, HA.out⟩), if_neg (by rw [all_no HT.out hq]; simp)]; rfl
      ·go_wp2
       go_roundw
       case rel => exact ⟨j + 1, by omega, by first | rfl | (congr 1; done) | (congr 1; omega), by rw [all_take HT.out, hall3.out, hq]; rfl, X4⟩
       case measure => simp [intOf]; omega
     ·have e : hs.take j = hs := List.take_of_length_le (by have := HHN.out; omega)
      have HB := Lib.hid hall3.out
      rw [e] at HB
      have c2 : wr.cell? ⟨w.heap.size, 2, none⟩ = some (.slice ba n bcap) := by rw [(C1.out.ext hex3.out).cell']; rfl
      clear e hall3
      have hltn : ¬ (j : Int) < (hn : Int) := by omega
      go_wp2
      clear c2
      go_loopw [48] (fun iv wr => AllTo wb ls (safeL (namesB ls)) n iv wr) (fun iv _ => n - (intOf iv).toNat)
      case atStart => exact ⟨0, Nat.zero_le _, rfl, rfl, hex3⟩
      case round =>
       obtain ⟨q, hq, rfl, hall4, hex4⟩ := hrel
       have X5 := Lib.hid (HX2.out.trans hex4.out)
       by_cases hlt5 : q < n
       ·have hlt6 : q < ls.length := by rw [<- HN.out]; exact hlt5
        obtain ⟨l, hli⟩ : ∃ l, ls[q]? = some l := ⟨_, List.getElem?_eq_getElem hlt6⟩
        obtain ⟨b, off, a, cap2, eao, hG, hb, hL, c0, c1, c2, c3, c4, c5, c6, c7⟩ := lit_at HE.out hli
        subst eao
        replace c0 := X5.out.cell c0 id
        replace c1 := X5.out.cell c1 id
        replace c2 := X5.out.cell c2 id
        replace c3 := X5.out.cell c3 id
        replace c4 := X5.out.cell c4 id
        replace c5 := X5.out.cell c5 id
        replace c6 := X5.out.cell c6 id
        replace c7 := X5.out.cell c7 id
        have HL := Lib.hid (And.intro hli hL)
        have hq2 : (q : Int) < (n : Int) := by omega
        obtain ⟨mm, emm⟩ : ∃ mm, mm = (termsOf l).length := ⟨_, rfl⟩
        rw [<- emm] at c2
        have HM := Lib.hid emm
        have hmm : mm ≤ 1048576 := by rw [emm]; exact HF.out.terms l (List.mem_of_getElem? hli)
        clear hli hlt6 hL hG hb emm
        have HSafe2 := HSafe
        obtain ⟨k, ek⟩ : ∃ k, l.1 = k := ⟨_, rfl⟩
        obtain ⟨lk, elk⟩ : ∃ lk, (leftOf l).1 = lk := ⟨_, rfl⟩
        obtain ⟨lt, elt⟩ : ∃ lt, (leftOf l).2.1 = lt := ⟨_, rfl⟩
        obtain ⟨rk, erk⟩ : ∃ rk, (rightOf l).1 = rk := ⟨_, rfl⟩
        obtain ⟨rt, ert⟩ : ∃ rt, (rightOf l).2.1 = rt := ⟨_, rfl⟩
        rw [ek] at c0
        rw [elk] at c4
        rw [elt] at c5
        rw [erk] at c6
        rw [ert] at c7
        have eleft : leftOf l = (lk, lt, ()) := by rw [<- elk, <- elt]
        have eright : rightOf l = (rk, rt, ()) := by rw [<- erk, <- ert]
        generalize predOf l = s1 at c1
        generalize opOf l = s3 at c3
        have HK := Lib.hid (And.intro ek (And.intro eleft eright)); clear ek elk elt erk ert eleft eright
        obtain ⟨wx, ewx⟩ : ∃ wx, wr.alloc (.cells #[.int .i64 k, .string s1, .slice a mm cap2, .int .i64 s3, .int .i64 lk, .string lt, .int .i64 rk, .string rt] 40) = wx := ⟨_, rfl⟩
        have hB := Blk.new wr [.int .i64 k, .string s1, .slice a mm cap2, .int .i64 s3, .int .i64 lk, .string lt, .int .i64 rk, .string rt] 40
        have hWX : Ext wb wx := by rw [<- ewx]; exact hex4.out.alloc _
        have hXX : Ext w wx := HX2.out.trans hWX
        obtain ⟨g, eg⟩ : ∃ g, g = wr.heap.size := ⟨_, rfl⟩
        have HGB := Lib.hid hB
        rw [<- eg] at HGB
        have ewx2 : wr.alloc (.cells [Value.int .i64 k, .string s1, .slice a mm cap2, .int .i64 s3, .int .i64 lk, .string lt, .int .i64 rk, .string rt].toArray 40) = wx := ewx
        rw [ewx2] at HGB
        have HWX := Lib.hid hWX
        have HXX := Lib.hid hXX
        have EG := Lib.hid (And.intro eg ewx)
        clear hB hWX hXX eg ewx ewx2
        by_cases h3 : k = 3
        ·have b3 : (k == 3) = true := by simp [h3]
         have n2 : ¬ k = 2 := by omega
         have HH3 := Lib.hid (And.intro h3 n2); clear h3 n2
         go_wp2_with fail
         rw [EG.out.2, <- EG.out.1]
         refine (HSafe.out _ HWX.out lk lt false).mono ?_
         rintro e w5 ⟨v, rfl, hk5, rfl⟩
         have X6 := Lib.hid hk5
         have d6 : w5.cell? ⟨g, 6, none⟩ = some (.int .i64 rk) := by rw [(HGB.out.ext hk5).cell']; rfl
         have d7 : w5.cell? ⟨g, 7, none⟩ = some (.string rt) := by rw [(HGB.out.ext hk5).cell']; rfl
         clear hk5 c0 c1 c2 c3 c4 c5 c6 c7
         cases hsl : safeT (namesB ls) false (lk, lt, ())
         ·go_wp2
          go_ret
          refine RetN.mk (HXX.out.trans X6.out) ?_
          have hno : safeL (namesB ls) l = false := by unfold safeL; rw [if_pos (HK.out.1.trans HH3.out.1), HK.out.2.1, hsl]; rfl
          unfold checkR safeR parted
          rw [if_pos (by simp only [Bool.and_eq_true]; exact ⟨hhd, HA.out⟩), if_neg (by rw [all_no HL.out.1 hno]; simp)]; rfl
         ·go_wp2_with fail
          refine (HSafe.out _ (HWX.out.trans X6.out) rk rt false).mono ?_
          rintro e w7 ⟨v, rfl, hk7, rfl⟩
          have X7 := Lib.hid (X6.out.trans hk7)
          clear hk7 d6 d7
          cases hsr : safeT (namesB ls) false (rk, rt, ())
          ·go_wp2
           go_ret
           refine RetN.mk (HXX.out.trans X7.out) ?_
           have hno : safeL (namesB ls) l = false := by unfold safeL; rw [if_pos (HK.out.1.trans HH3.out.1), HK.out.2.1, HK.out.2.2, hsr, Bool.and_false]
           unfold checkR safeR parted
           rw [if_pos (by simp only [Bool.and_eq_true]; exact ⟨hhd, HA.out⟩), if_neg (by rw [all_no HL.out.1 hno]; simp)]; rfl
          ·have HSL := Lib.hid (show safeL (namesB ls) l = (termsOf l).all (fun t => if k = 2 then safeT (namesB ls) true t else true) by
            unfold safeL; rw [if_pos (HK.out.1.trans HH3.out.1), HK.out.2.1, HK.out.2.2, hsl, hsr]
            exact (List.all_eq_true.2 (fun t _ => if_neg HH3.out.2)).symm)
           have d0 : w7.cell? ⟨g, 2, none⟩ = some (.slice a mm cap2) := by rw [(HGB.out.ext X7.out).cell']; rfl
           have HX7 := X7
           clear X7
           go_wp2
           clear d0
           go_loopw [73] (fun iv wr => AllTo wx (termsOf l) (fun t => if k = 2 then safeT (namesB ls) true t else true) mm iv wr) (fun iv _ => mm - (intOf iv).toNat)
           case atStart => exact ⟨0, Nat.zero_le _, rfl, rfl, HX7.out⟩
           case round =>
            obtain ⟨z, hz, rfl, hall8, hex8⟩ := hrel
            have X8 := Lib.hid (HXX.out.trans hex8.out)
            by_cases hlt7 : z < mm
            ·have hlt8 : z < (termsOf l).length := by rw [<- HM.out]; exact hlt7
             obtain ⟨t, ht⟩ : ∃ t, (termsOf l)[z]? = some t := ⟨_, List.getElem?_eq_getElem hlt8⟩
             obtain ⟨b9, off9, eao9, f0, f1, _⟩ := term_at (HL.out.2.terms.ext X8.out) ht
             subst eao9
             obtain ⟨kt, st, ⟨⟩⟩ := t
             simp only at f0 f1
             have HT := Lib.hid ht
             have e0 : (wr.alloc (.cells #[.int .i64 kt, .string st] 38)).cell? ⟨g, 0, none⟩ = some (.int .i64 k) := by rw [((HGB.out.ext hex8.out).alloc _).cell']; rfl
             clear ht hlt8
             by_cases h2 : k = 2
             ·have b2 : (k == 2) = true := by simp [h2]
              have HH2 := Lib.hid h2; clear h2
              go_wp2_with fail
              refine (HSafe.out _ ((HWX.out.trans hex8.out).alloc _) kt st true).mono ?_
              rintro e w9 ⟨v, rfl, hk9, rfl⟩
              have X9 := Lib.hid ((hex8.out.alloc _).trans hk9)
              clear hk9 f0 f1 e0
              cases hqq : safeT (namesB ls) true (kt, st, ())
              ·go_wp2
               go_ret
               refine RetN.mk (HXX.out.trans X9.out) ?_
               have hno : safeL (namesB ls) l = false := by rw [HSL.out]; exact all_no HT.out (by show (if k = 2 then _ else _) = false; rw [if_pos HH2.out]; exact hqq)
               unfold checkR safeR parted
               rw [if_pos (by simp only [Bool.and_eq_true]; exact ⟨hhd, HA.out⟩), if_neg (by rw [all_no HL.out.1 hno]; simp)]; rfl
              ·go_wp2
               go_roundw
               case rel => exact ⟨z + 1, by omega, by first | rfl | (congr 1; done) | (congr 1; omega), by rw [all_take HT.out, hall8.out]; show (if k = 2 then _ else _) = true; rw [if_pos HH2.out]; exact hqq, X9⟩
               case measure => simp [intOf]; omega
             ·have b2 : (k == 2) = false := by simp [h2]
              have HH2 := Lib.hid h2; clear h2
              go_wp2
              go_roundw
              case rel => exact ⟨z + 1, by omega, by first | rfl | (congr 1; done) | (congr 1; omega), by rw [all_take HT.out, hall8.out]; show (if k = 2 then _ else _) = true; rw [if_neg HH2.out], hex8.out.alloc _⟩
              case measure => simp [intOf]; omega
            ·have e : (termsOf l).take z = termsOf l := List.take_of_length_le (by have := HM.out; omega)
             have H9 := Lib.hid hall8.out
             rw [e] at H9
             clear e hall8
             have hzm : ¬ (z : Int) < (mm : Int) := by omega
             go_wp2
             go_roundw
             case rel => exact ⟨q + 1, by omega, by first | rfl | (congr 1; done) | (congr 1; omega), by rw [all_take HL.out.1, hall4.out, HSL.out, H9.out]; rfl, HWX.out.trans hex8.out⟩
             case measure => simp [intOf]; omega
        ·have b3 : (k == 3) = false := by simp [h3]
         have HSL := Lib.hid (show safeL (namesB ls) l = (termsOf l).all (fun t => if k = 2 then safeT (namesB ls) true t else true) by
          unfold safeL; rw [if_neg (fun x => h3 (HK.out.1.symm.trans x)), HK.out.1]
          by_cases h2 : k = 2
          ·rw [if_pos h2]; congr 1; funext t; rw [if_pos h2]
          ·rw [if_neg h2]; symm; rw [List.all_eq_true]; intro t _; rw [if_neg h2])
         have HH3 := Lib.hid h3; clear h3
         have d0 : (wr.alloc (.cells #[.int .i64 k, .string s1, .slice a mm cap2, .int .i64 s3, .int .i64 lk, .string lt, .int .i64 rk, .string rt] 40)).cell? ⟨wr.heap.size, 2, none⟩ = some (.slice a mm cap2) := by rw [EG.out.2, <- EG.out.1, HGB.out.cell']; rfl
         go_wp2
         rw [EG.out.2, <- EG.out.1]
         have HX7 := Lib.hid (Kp.refl (F := fun _ => False) wx)
         clear c0 c1 c2 c3 c4 c5 c6 c7
         clear d0
         go_loopw [73] (fun iv wr => AllTo wx (termsOf l) (fun t => if k = 2 then safeT (namesB ls) true t else true) mm iv wr) (fun iv _ => mm - (intOf iv).toNat)
         case atStart => exact ⟨0, Nat.zero_le _, rfl, rfl, HX7.out⟩
         case round =>
          obtain ⟨z, hz, rfl, hall8, hex8⟩ := hrel
          have X8 := Lib.hid (HXX.out.trans hex8.out)
          by_cases hlt7 : z < mm
          ·have hlt8 : z < (termsOf l).length := by rw [<- HM.out]; exact hlt7
           obtain ⟨t, ht⟩ : ∃ t, (termsOf l)[z]? = some t := ⟨_, List.getElem?_eq_getElem hlt8⟩
           obtain ⟨b9, off9, eao9, f0, f1, _⟩ := term_at (HL.out.2.terms.ext X8.out) ht
           subst eao9
           obtain ⟨kt, st, ⟨⟩⟩ := t
           simp only at f0 f1
           have HT := Lib.hid ht
           have e0 : (wr.alloc (.cells #[.int .i64 kt, .string st] 38)).cell? ⟨g, 0, none⟩ = some (.int .i64 k) := by rw [((HGB.out.ext hex8.out).alloc _).cell']; rfl
           clear ht hlt8
           by_cases h2 : k = 2
           ·have b2 : (k == 2) = true := by simp [h2]
            have HH2 := Lib.hid h2; clear h2
            go_wp2_with fail
            refine (HSafe.out _ ((HWX.out.trans hex8.out).alloc _) kt st true).mono ?_
            rintro e w9 ⟨v, rfl, hk9, rfl⟩
            have X9 := Lib.hid ((hex8.out.alloc _).trans hk9)
            clear hk9 f0 f1 e0
            cases hqq : safeT (namesB ls) true (kt, st, ())
            ·go_wp2
             go_ret
             refine RetN.mk (HXX.out.trans X9.out) ?_
             have hno : safeL (namesB ls) l = false := by rw [HSL.out]; exact all_no HT.out (by show (if k = 2 then _ else _) = false; rw [if_pos HH2.out]; exact hqq)
             unfold checkR safeR parted
             rw [if_pos (by simp only [Bool.and_eq_true]; exact ⟨hhd, HA.out⟩), if_neg (by rw [all_no HL.out.1 hno]; simp)]; rfl
            ·go_wp2
             go_roundw
             case rel => exact ⟨z + 1, by omega, by first | rfl | (congr 1; done) | (congr 1; omega), by rw [all_take HT.out, hall8.out]; show (if k = 2 then _ else _) = true; rw [if_pos HH2.out]; exact hqq, X9⟩
             case measure => simp [intOf]; omega
           ·have b2 : (k == 2) = false := by simp [h2]
            have HH2 := Lib.hid h2; clear h2
            go_wp2
            go_roundw
            case rel => exact ⟨z + 1, by omega, by first | rfl | (congr 1; done) | (congr 1; omega), by rw [all_take HT.out, hall8.out]; show (if k = 2 then _ else _) = true; rw [if_neg HH2.out], hex8.out.alloc _⟩
            case measure => simp [intOf]; omega
          ·have e : (termsOf l).take z = termsOf l := List.take_of_length_le (by have := HM.out; omega)
           have H9 := Lib.hid hall8.out
           rw [e] at H9
           clear e hall8
           have hzm : ¬ (z : Int) < (mm : Int) := by omega
           go_wp2
           go_roundw
           case rel => exact ⟨q + 1, by omega, by first | rfl | (congr 1; done) | (congr 1; omega), by rw [all_take HL.out.1, hall4.out, HSL.out, H9.out]; rfl, HWX.out.trans hex8.out⟩
           case measure => simp [intOf]; omega
       ·have e : ls.take q = ls := List.take_of_length_le (by have := HN.out; omega)
        have HC := Lib.hid hall4.out
        rw [e] at HC
        clear e hall4
        have hqn : ¬ (q : Int) < (n : Int) := by omega
        go_wp2
        go_ret
        refine RetN.mk X5.out ?_
        unfold checkR safeR parted
        rw [if_pos (by simp only [Bool.and_eq_true]; exact ⟨hhd, HA.out⟩), if_pos (by simp only [Bool.and_eq_true]; exact ⟨HB.out, HC.out⟩)]; rfl
set_option maxRecDepth 100000 in
theorem joinVars_any (p : ByteArray) (hs : List TermZ) (ls : List LitZ) (ha : Option Addr) (hn hcap : Nat) (ba : Option Addr) (n bcap : Nat) (w : World) (G : Nat -> Prop) (hhn : hn = hs.length) (hh : TermsAt w G ha hs) (hhl : hn ≤ 1048576) (hbn : n = ls.length) (h : LitsAt w G ba ls) (hf : Fit ls) (hc : checkR ((p, hs, ()), ls, ()) = 0) :
 Calls Tryz.prog 13 #[ruleV p ha hn hcap ba n bcap] w (RetN w fun w' v => ∃ ao cap, v = .slice ao (namesB ls).length cap /\ (namesB ls).length ≤ cap /\ CellsAt w' ao (strs (namesB ls))) := by
 have h1 := fun (W : World) (hW : Ext w W) => check_any p hs ls ha hn hcap ba n bcap W G hhn (hh.ext hW) hhl hbn (h.ext hW) hf
 rw [hc] at h1
 have HC := Lib.hid h1
 have HV := Lib.hid (fun (W : World) (hW : Ext w W) => vars_any p ha hn hcap ls ba n bcap W G hbn (h.ext hW) hf)
 clear h1 hhn hh hbn h hf hc
 go_enter Tryz.func13, Tryz.ntmps13
 go_wp2_with fail
 refine (HC.out _ ((Kp.refl _).alloc _)).mono ?_
 rintro e w1 ⟨v, rfl, hk1, rfl⟩
 have bb := (Blk.new w [.string p, .slice ha hn hcap, .slice ba n bcap] 27).ext hk1
 have c0 : w1.cell? ⟨w.heap.size, 0, none⟩ = some (.string p) := by rw [bb.cell']; rfl
 have c1 : w1.cell? ⟨w.heap.size, 1, none⟩ = some (.slice ha hn hcap) := by rw [bb.cell']; rfl
 have c2 : w1.cell? ⟨w.heap.size, 2, none⟩ = some (.slice ba n bcap) := by rw [bb.cell']; rfl
 have X1 := Lib.hid (((Kp.refl _).alloc _).trans hk1)
 clear hk1 bb
 go_wp2_with fail
 refine (HV.out _ X1.out).mono ?_
 rintro e w2 ⟨v, rfl, hk2, ao, cap, rfl, h1, h2⟩
 have X2 := Lib.hid (And.intro (X1.out.trans hk2) (And.intro h1 h2))
 clear hk2 h1 h2 c0 c1 c2
 go_wp2
 go_ret
 exact RetN.mk X2.out.1 ⟨ao, cap, rfl, X2.out.2⟩
end Go.Proofs.YtinnmeiphbdogaaGreat

/- A region that draws its order, inside the round of a range over a function: out of the plain laws. No program in sight. -/
namespace Go.Proofs.YtinnmeiphbdogaaGreat
set_option linter.unusedVariables false
theorem rowsIn_wide {n : Nat} {P : Program} {row : String} {args : Array Value} {w : World} {R : Value -> World -> Prop} (h : Rows P row args w R) : RowsIn Fence.wide n P row args w R :=
 fun c cs _ => let ⟨v, w', r, s⟩ := h c cs; ⟨v, w', r, stepsIn_wide.2 s⟩
section
variable {P : Program} {l n : Nat}
theorem Oper.wpIn_of_wp {o : Oper} {a : Act} {w : World} {K : Act -> World -> Prop} {Q : Exit -> Act -> World -> Prop} (hd : ∀ c, o.op ≠ .defer c) (h : o.wp P a w K Q) : o.wpIn (Fence.wide.inRound l) n P a w K Q := by
 refine ⟨fun f _ => trivial, ?_⟩
 rw [Oper.semAt_plain _ _ _ hd]
 unfold Oper.wp at h
 generalize (execOp a.eval o).run P w = r at *
 cases r with
 | ok x w' =>
  cases x with
  | value v => exact h
  | skip => exact h
  | defer d => exact h
  | enter f args => exact ⟨fun e => (by cases e), CallsIn.inRound l (callsIn_wide.2 h)⟩
  | row row args => exact ⟨fun e => (by cases e), rowsIn_wide h⟩
  | _ => exact h.elim
 | halt x w' =>
  cases x with
  | panic v => exact h
  | _ => exact h.elim
def noDefer (ops : List Oper) : Bool := ops.all fun o => match o.op with | .defer _ => false | _ => true
theorem noDefer_at {ops : List Oper} (h : noDefer ops = true) {i : Nat} {o : Oper} (ho : ops.toArray[i]? = some o) : ∀ c, o.op ≠ .defer c := fun c e => by
 rw [List.getElem?_toArray] at ho
 have := List.all_eq_true.1 h o (List.mem_of_getElem? ho)
 rw [e] at this
 cases this
theorem wpAnyIn_of_any {md : Region.Mode} {ops : List Oper} {Q : Exit -> Act -> World -> Prop} (hd : noDefer ops = true) (hQ : ∀ a w, ¬ Q .outgrown a w) : ∀ (fuel : Nat) (listed : Array Bool) (a : Act) (w : World), wpAny P md ops.toArray Q fuel listed a w -> wpAnyIn (Fence.wide.inRound l) n P md ops.toArray Q fuel listed a w
 | 0, _, _, _, h => h
 | fuel + 1, listed, a, w, h => by
  refine ⟨h.1, fun i hi => ?_⟩
  have h1 := h.2 i hi
  unfold wpOp at h1
  unfold wpOpIn
  cases ho : ops.toArray[i]? with
  | none =>
   rw [ho] at h1
   exact wpAnyIn_of_any hd hQ fuel _ _ _ h1
  | some o =>
   rw [ho] at h1
   simp only at h1 ⊢
   split
   ·rename_i hw
    rw [if_pos hw] at h1
    replace h1 := h1.resolve_right fun h => by
     obtain ⟨_, a', w', h⟩ := h
     exact hQ a' w' h
    exact Oper.wpIn_mono (fun a w h => wpAnyIn_of_any hd hQ fuel _ a w h) (Oper.wpIn_of_wp (noDefer_at hd ho) h1)
   ·rename_i hw
    rw [if_neg hw] at h1
    exact ⟨fun f _ => trivial, wpAnyIn_of_any hd hQ fuel _ _ _ h1⟩
theorem draw_begin_in {id : Nat} {ops : List Oper} {Q : Exit -> Act -> World -> Prop} {a : Act} {w : World} (S : World -> Prop) (lates : List Nat) (hm : P.follows .mixedOrders = true) (hS : S w.drew)
 (h : S w.drew -> wpAnyD P .any ops.toArray Q S lates ops.toArray.size (Array.replicate ops.toArray.size false) a w.drew) (hd : noDefer ops = true := by kernel_rfl) (hQ : ∀ a w, ¬ Q .outgrown a w := by exact fun _ _ h => h) : (Code.region id ops.toArray true).wpIn (Fence.wide.inRound l) n P Q a w :=
 wpIn_region_any hm (wpAnyIn_of_any hd hQ _ _ _ _ (wpAny_of_D _ _ _ _ (h hS)))
end
end Go.Proofs.YtinnmeiphbdogaaGreat

/- make: a row of zero values. -/
namespace Go.Proofs.YtinnmeiphbdogaaGreat
open Go.RowKit
set_option linter.unusedVariables false
theorem made_list {cs : Array Value} {c : Value} {k : Nat} (hk : 0 < k) (h : cs = (List.replicate k c).toArray) (m : Nat) : madeCells cs m = (List.replicate m c).toArray := by
 subst h
 apply Array.ext_getElem?
 intro j
 unfold madeCells
 rw [Array.getElem?_map]
 by_cases hj : j < m
 ·have h1 : (Array.range m)[j]? = some j := by simp [hj]
  have h2 : j % (List.replicate k c).toArray.size < (List.replicate k c).toArray.size := Nat.mod_lt _ (by simp; exact hk)
  rw [h1, Option.map_some, getElem!_pos (List.replicate k c).toArray (j % (List.replicate k c).toArray.size) h2]
  simp [hj]
 ·simp [hj]
theorem make_run {P : Program} {t e : TypeId} {k bytes : Nat} {z c : Value} (E : ElemT P t e k bytes z) (hc : z.cells = (List.replicate k c).toArray) (n : Nat) (hb : bytes * n ≤ 281474976710656) (h63 : n ≤ maxLen) (w : World) :
 (Instr.makeSlice t (.int .i64 (n : Int)) (.int .i64 (n : Int))).run P w = .ok (.slice (some ⟨w.heap.size, 0, none⟩) n n) (w.alloc (.cells (List.replicate (n * k) c).toArray e)) := by
 obtain ⟨ht, hi, hz, hk⟩ := E
 obtain ⟨i, hi, h1, h2, h3⟩ := info_parts hi
 have hb' : (i.bytes : Int) * (n : Int) ≤ 281474976710656 := by
  have h : ((i.bytes * n : Nat) : Int) ≤ 281474976710656 := by rw [h3]; omega
  rwa [Int.natCast_mul] at h
 have hr := run_make (P := P) w t e i z ht hi h1 .i64 .i64 n n (by omega) (Int.le_refl _) hb' (by unfold maxLen at h63; omega)
 simp only [Int.toNat_natCast, h2] at hr
 rw [made_list hk hc] at hr
 exact hr
end Go.Proofs.YtinnmeiphbdogaaGreat

/-
  DERIVED: THE SHELF's CONTRACTS AT THIS DUMP, IN PLAIN WORDS (tools/lay-plain.mjs out of 'TryzShelf.lean', which tools/lay-shelf.mjs wrote): THE SAME DECLARATIONS UNDER THE SAME NAMES: 'import', 'namespace', 'open', 'def', 'theorem' AND NOTHING ELSE: no command of the shelf's: FOR A HAND-IN. Each laying: the table of numbers ('.._ren') and one theorem, a field a fact of the dump's own or the kernel's comparison; each contract: ONE APPLICATION.
-/
namespace Go.Proofs
open Go.Shelf
def Tryz.lays212_ren : Go.Shelf.Ren := ⟨fun | 212 => 131 | 263 => 166 | 264 => 167 | n => n, fun | 46 => 81 | 51 => 226 | 146 => 227 | 53 => 229 | 148 => 230 | n => n, fun | n => n⟩
theorem Tryz.lays212 : Go.Proofs.Lays.n212 Tryz.prog Tryz.lays212_ren := {
 mixed := by kernel_rfl
 f212 := Tryz.func131.trans (congrArg some (by kernel_rfl))
 f263 := Tryz.func166.trans (congrArg some (by kernel_rfl))
 f264 := Tryz.func167.trans (congrArg some (by kernel_rfl))
 t46 := Tryz.underlying81
 a46 := Tryz.isAgg81
 z46 := Tryz.sizeOf81
 v46 := Tryz.zeroValue81
 t51 := Tryz.underlying226
 a51 := Tryz.isAgg226
 z51 := Tryz.sizeOf226
 v51 := Tryz.zeroValue226
 t53 := Tryz.underlying229
 a53 := Tryz.isAgg229
 z53 := Tryz.sizeOf229
 v53 := Tryz.zeroValue229
 t146 := Tryz.underlying227
 a146 := Tryz.isAgg227
 z146 := Tryz.sizeOf227
 v146 := Tryz.zeroValue227
 t148 := Tryz.underlying230
 a148 := Tryz.isAgg230
 z148 := Tryz.sizeOf230
 v148 := Tryz.zeroValue230 }
open Go.RowKit Go.Lib in
theorem Tryz.bits_Mul (x y : Nat) (hx : x < 18446744073709551616) (hy : y < 18446744073709551616) (w : World) :
 Calls Tryz.prog 131 #[.int .u64 x, .int .u64 y] w fun e w' => e = .returned (.tuple #[.int .u64 ((x * y / 18446744073709551616 : Nat) : Int), .int .u64 ((x * y % 18446744073709551616 : Nat) : Int)]) /\ w' = w := Any.bits_Mul Tryz.lays212 x y hx hy w
def Tryz.laysSlF6_f199_ren : Go.Shelf.Ren := ⟨fun | 6 => 199 | 15 => 209 | 14 => 208 | 28 => 221 | 29 => 222 | 20 => 212 | 21 => 214 | 22 => 215 | 23 => 216 | 24 => 217 | 25 => 218 | 26 => 219 | 27 => 220 | 46 => 226 | 47 => 227 | 48 => 228 | 49 => 229 | 50 => 230 | 57 => 232 | n => n, fun | 22 => 69 | 24 => 34 | 25 => 131 | 3 => 3 | 39 => 81 | 0 => 0 | 53 => 226 | 55 => 229 | 4 => 4 | 46 => 271 | 45 => 270 | 50 => 221 | 5 => 5 | 9 => 9 | 66 => 279 | 70 => 283 | 76 => 285 | 77 => 286 | n => n, fun | n => n⟩
theorem Tryz.laysSlF6_f199 : Go.Proofs.SlLaysF.n6 Tryz.prog Tryz.laysSlF6_f199_ren := {
 mixed := by kernel_rfl
 f6 := ⟨Tryz.f199.name, by decide, Tryz.func199.trans (congrArg some (by kernel_rfl))⟩
 f14 := ⟨Tryz.f208.name, by decide, Tryz.func208.trans (congrArg some (by kernel_rfl))⟩
 f15 := Tryz.func209.trans (congrArg some (by kernel_rfl))
 f20 := ⟨Tryz.f212.name, by decide, Tryz.func212.trans (congrArg some (by kernel_rfl))⟩
 f21 := ⟨Tryz.f214.name, by decide, Tryz.func214.trans (congrArg some (by kernel_rfl))⟩
 f22 := ⟨Tryz.f215.name, by decide, Tryz.func215.trans (congrArg some (by kernel_rfl))⟩
 f23 := ⟨Tryz.f216.name, by decide, Tryz.func216.trans (congrArg some (by kernel_rfl))⟩
 f24 := ⟨Tryz.f217.name, by decide, Tryz.func217.trans (congrArg some (by kernel_rfl))⟩
 f25 := ⟨Tryz.f218.name, by decide, Tryz.func218.trans (congrArg some (by kernel_rfl))⟩
 f26 := ⟨Tryz.f219.name, by decide, Tryz.func219.trans (congrArg some (by kernel_rfl))⟩
 f27 := ⟨Tryz.f220.name, by decide, Tryz.func220.trans (congrArg some (by kernel_rfl))⟩
 f28 := Tryz.func221.trans (congrArg some (by kernel_rfl))
 f29 := Tryz.func222.trans (congrArg some (by kernel_rfl))
 f46 := ⟨Tryz.f226.name, by decide, Tryz.func226.trans (congrArg some (by kernel_rfl))⟩
 f47 := Tryz.func227.trans (congrArg some (by kernel_rfl))
 f48 := Tryz.func228.trans (congrArg some (by kernel_rfl))
 f49 := ⟨Tryz.f229.name, by decide, Tryz.func229.trans (congrArg some (by kernel_rfl))⟩
 f50 := ⟨Tryz.f230.name, by decide, Tryz.func230.trans (congrArg some (by kernel_rfl))⟩
 f57 := ⟨Tryz.f232.name, by decide, Tryz.func232.trans (congrArg some (by kernel_rfl))⟩
 t0 := Tryz.underlying0
 a0 := Tryz.isAgg0
 z0 := Tryz.sizeOf0
 v0 := Tryz.zeroValue0
 t3 := Tryz.underlying3
 a3 := Tryz.isAgg3
 z3 := Tryz.sizeOf3
 v3 := Tryz.zeroValue3
 t4 := Tryz.underlying4
 a4 := Tryz.isAgg4
 z4 := Tryz.sizeOf4
 v4 := Tryz.zeroValue4
 t5 := Tryz.underlying5
 a5 := Tryz.isAgg5
 z5 := Tryz.sizeOf5
 v5 := Tryz.zeroValue5
 t9 := Tryz.underlying9
 a9 := Tryz.isAgg9
 z9 := Tryz.sizeOf9
 v9 := Tryz.zeroValue9
 t22 := Tryz.underlying69
 a22 := Tryz.isAgg69
 z22 := Tryz.sizeOf69
 v22 := Tryz.zeroValue69
 a24 := Tryz.isAgg34
 z24 := Tryz.sizeOf34
 t25 := Tryz.underlying131
 a25 := Tryz.isAgg131
 z25 := Tryz.sizeOf131
 v25 := Tryz.zeroValue131
 t39 := Tryz.underlying81
 a39 := Tryz.isAgg81
 z39 := Tryz.sizeOf81
 v39 := Tryz.zeroValue81
 t45 := Tryz.underlying270
 a45 := Tryz.isAgg270
 z45 := Tryz.sizeOf270
 v45 := Tryz.zeroValue270
 t46 := Tryz.underlying271
 a46 := Tryz.isAgg271
 z46 := Tryz.sizeOf271
 v46 := Tryz.zeroValue271
 t50 := Tryz.underlying221
 a50 := Tryz.isAgg221
 z50 := Tryz.sizeOf221
 v50 := Tryz.zeroValue221
 t53 := Tryz.underlying226
 a53 := Tryz.isAgg226
 z53 := Tryz.sizeOf226
 v53 := Tryz.zeroValue226
 t55 := Tryz.underlying229
 a55 := Tryz.isAgg229
 z55 := Tryz.sizeOf229
 v55 := Tryz.zeroValue229
 t66 := Tryz.underlying279
 a66 := Tryz.isAgg279
 z66 := Tryz.sizeOf279
 v66 := Tryz.zeroValue279
 t70 := Tryz.underlying283
 a70 := Tryz.isAgg283
 z70 := Tryz.sizeOf283
 v70 := Tryz.zeroValue283
 t76 := Tryz.underlying285
 a76 := Tryz.isAgg285
 z76 := Tryz.sizeOf285
 v76 := Tryz.zeroValue285
 t77 := Tryz.underlying286
 a77 := Tryz.isAgg286
 z77 := Tryz.sizeOf286
 v77 := Tryz.zeroValue286 }
def Tryz.laysSlF06_f199_ren : Go.Shelf.Ren := ⟨fun | 6 => 199 | 15 => 209 | 14 => 208 | 28 => 221 | 29 => 222 | 20 => 212 | 21 => 214 | 22 => 215 | 23 => 216 | 24 => 217 | 25 => 218 | 26 => 219 | 27 => 220 | 46 => 226 | 47 => 227 | 48 => 228 | 49 => 229 | 50 => 230 | 57 => 232 | n => n, fun | 22 => 69 | 24 => 34 | 25 => 131 | 3 => 3 | 39 => 81 | 0 => 0 | 53 => 226 | 55 => 229 | 4 => 4 | 46 => 271 | 45 => 270 | 50 => 221 | 5 => 5 | 9 => 9 | 66 => 279 | 70 => 283 | 76 => 285 | 77 => 286 | n => n, fun | n => n⟩
theorem Tryz.laysSlF06_f199 : Go.Proofs.SlLaysF0.n6 Tryz.prog Tryz.laysSlF06_f199_ren := {
 mixed := by kernel_rfl
 f6 := ⟨Tryz.f199.name, by decide, Tryz.func199.trans (congrArg some (by kernel_rfl))⟩
 f14 := ⟨Tryz.f208.name, by decide, Tryz.func208.trans (congrArg some (by kernel_rfl))⟩
 f15 := Tryz.func209.trans (congrArg some (by kernel_rfl))
 f20 := ⟨Tryz.f212.name, by decide, Tryz.func212.trans (congrArg some (by kernel_rfl))⟩
 f21 := ⟨Tryz.f214.name, by decide, Tryz.func214.trans (congrArg some (by kernel_rfl))⟩
 f22 := ⟨Tryz.f215.name, by decide, Tryz.func215.trans (congrArg some (by kernel_rfl))⟩
 f23 := ⟨Tryz.f216.name, by decide, Tryz.func216.trans (congrArg some (by kernel_rfl))⟩
 f24 := ⟨Tryz.f217.name, by decide, Tryz.func217.trans (congrArg some (by kernel_rfl))⟩
 f25 := ⟨Tryz.f218.name, by decide, Tryz.func218.trans (congrArg some (by kernel_rfl))⟩
 f26 := ⟨Tryz.f219.name, by decide, Tryz.func219.trans (congrArg some (by kernel_rfl))⟩
 f27 := ⟨Tryz.f220.name, by decide, Tryz.func220.trans (congrArg some (by kernel_rfl))⟩
 f28 := Tryz.func221.trans (congrArg some (by kernel_rfl))
 f29 := Tryz.func222.trans (congrArg some (by kernel_rfl))
 f46 := ⟨Tryz.f226.name, by decide, Tryz.func226.trans (congrArg some (by kernel_rfl))⟩
 f47 := Tryz.func227.trans (congrArg some (by kernel_rfl))
 f48 := Tryz.func228.trans (congrArg some (by kernel_rfl))
 f49 := ⟨Tryz.f229.name, by decide, Tryz.func229.trans (congrArg some (by kernel_rfl))⟩
 f50 := ⟨Tryz.f230.name, by decide, Tryz.func230.trans (congrArg some (by kernel_rfl))⟩
 f57 := ⟨Tryz.f232.name, by decide, Tryz.func232.trans (congrArg some (by kernel_rfl))⟩
 t0 := Tryz.underlying0
 a0 := Tryz.isAgg0
 z0 := Tryz.sizeOf0
 v0 := Tryz.zeroValue0
 t3 := Tryz.underlying3
 a3 := Tryz.isAgg3
 z3 := Tryz.sizeOf3
 v3 := Tryz.zeroValue3
 t4 := Tryz.underlying4
 a4 := Tryz.isAgg4
 z4 := Tryz.sizeOf4
 v4 := Tryz.zeroValue4
 t5 := Tryz.underlying5
 a5 := Tryz.isAgg5
 z5 := Tryz.sizeOf5
 v5 := Tryz.zeroValue5
 t9 := Tryz.underlying9
 a9 := Tryz.isAgg9
 z9 := Tryz.sizeOf9
 v9 := Tryz.zeroValue9
 t22 := Tryz.underlying69
 a22 := Tryz.isAgg69
 z22 := Tryz.sizeOf69
 v22 := Tryz.zeroValue69
 t25 := Tryz.underlying131
 a25 := Tryz.isAgg131
 z25 := Tryz.sizeOf131
 v25 := Tryz.zeroValue131
 t39 := Tryz.underlying81
 a39 := Tryz.isAgg81
 z39 := Tryz.sizeOf81
 v39 := Tryz.zeroValue81
 t45 := Tryz.underlying270
 a45 := Tryz.isAgg270
 z45 := Tryz.sizeOf270
 v45 := Tryz.zeroValue270
 t46 := Tryz.underlying271
 a46 := Tryz.isAgg271
 z46 := Tryz.sizeOf271
 v46 := Tryz.zeroValue271
 t50 := Tryz.underlying221
 a50 := Tryz.isAgg221
 z50 := Tryz.sizeOf221
 v50 := Tryz.zeroValue221
 t53 := Tryz.underlying226
 a53 := Tryz.isAgg226
 z53 := Tryz.sizeOf226
 v53 := Tryz.zeroValue226
 t55 := Tryz.underlying229
 a55 := Tryz.isAgg229
 z55 := Tryz.sizeOf229
 v55 := Tryz.zeroValue229
 t66 := Tryz.underlying279
 a66 := Tryz.isAgg279
 z66 := Tryz.sizeOf279
 v66 := Tryz.zeroValue279
 t70 := Tryz.underlying283
 a70 := Tryz.isAgg283
 z70 := Tryz.sizeOf283
 v70 := Tryz.zeroValue283
 t76 := Tryz.underlying285
 a76 := Tryz.isAgg285
 z76 := Tryz.sizeOf285
 v76 := Tryz.zeroValue285
 t77 := Tryz.underlying286
 a77 := Tryz.isAgg286
 z77 := Tryz.sizeOf286
 v77 := Tryz.zeroValue286 }
end Go.Proofs

/- The document's answer for join: has, kinds, names. -/
namespace Go.Proofs.YtinnmeiphbdogaaGreat
open Go.RowKit
set_option linter.unusedVariables false
set_option maxRecDepth 100000 in
set_option maxHeartbeats 1000000 in
theorem has_any (ss : List ByteArray) (s : ByteArray) (ao : Option Addr) (n cap : Nat) (w : World) (hn : n = ss.length) (h : CellsAt w ao (strs ss)) (hl : n ≤ 4611686018427387904) :
 Calls Tryz.prog 72 #[.slice ao n cap, .string s] w (RetN w fun w' v => v = .bool (hasT ss s)) := by
 have HN := Lib.hid hn; have HE := Lib.hid h; clear hn h
 go_enter Tryz.func72, Tryz.ntmps72
 go_wp2
 go_loopw [5] (fun iv wr => NoneS w ss s n iv wr) (fun iv _ => n - (intOf iv).toNat)
 case atStart => exact ⟨0, Nat.zero_le _, rfl, fun j u h => by omega, Kp.refl w⟩
 case round =>
  obtain ⟨i, hi, rfl, hno, hex⟩ := hrel
  by_cases hlt : i < n
  ·have hlt' : i < ss.length := by rw [<- HN.out]; exact hlt
   obtain ⟨b, off, eao, hc0⟩ := (HE.out.ext hex.out).str hlt'
   subst eao
   have ht : ss[i]? = some ss[i] := List.getElem?_eq_getElem hlt'
   generalize ss[i] = u at *
   by_cases hu : u = s
   ·have HT := Lib.hid (And.intro ht hu)
    clear ht hlt'
    subst hu
    have hb := str_eq u
    go_wp2
    go_ret
    exact RetN.mk hex.out (congrArg Value.bool (by unfold hasT; rw [any_true HT.out.1 (by simp)]))
   ·have HT := Lib.hid (And.intro ht hu)
    have hb := str_ne hu
    clear ht hlt' hu
    go_wp2
    go_roundw
    case rel =>
     refine ⟨i + 1, by omega, by first | rfl | (congr 1; done) | (congr 1; omega), fun j u hj hu => ?_, hex⟩
     by_cases e : j = i
     ·subst e; rw [HT.out.1] at hu; cases hu; exact decide_eq_false HT.out.2
     ·exact hno.out j u (by omega) hu
    case measure => simp [intOf]; omega
  ·go_wp2
   go_ret
   exact RetN.mk hex.out (congrArg Value.bool (by unfold hasT; rw [any_false HN.out fun j u hj => hno.out j u (by omega)]))
set_option maxRecDepth 100000 in
set_option maxHeartbeats 1000000 in
theorem refKinds_any (ts : List TermZ) (up : Int) (ao : Option Addr) (n cap : Nat) (w : World) (G : Nat -> Prop) (hn : n = ts.length) (h : TermsAt w G ao ts) (hl : n ≤ 4611686018427387904) :
 Calls Tryz.prog 110 #[.slice ao n cap, .int .i64 up] w (RetN w fun w' v => v = .bool (kinds ts up)) := by
 have HN := Lib.hid hn; have HE := Lib.hid h; clear hn h
 go_enter Tryz.func110, Tryz.ntmps110
 go_wp2
 go_loopw [5] (fun iv wr => AllTo w ts (fun t => decide (1 ≤ t.1 /\ t.1 ≤ up)) n iv wr) (fun iv _ => n - (intOf iv).toNat)
 case atStart => exact ⟨0, Nat.zero_le _, rfl, rfl, Kp.refl w⟩
 case round =>
  obtain ⟨i, hi, rfl, hall, hex⟩ := hrel
  by_cases hlt : i < n
  ·have hlt' : i < ts.length := by rw [<- HN.out]; exact hlt
   obtain ⟨t, ht⟩ : ∃ t, ts[i]? = some t := ⟨_, List.getElem?_eq_getElem hlt'⟩
   obtain ⟨b, off, eao, hc0, hc1, _⟩ := term_at (HE.out.ext hex.out) ht
   subst eao
   obtain ⟨k, s, ⟨⟩⟩ := t
   simp only at hc0 hc1
   have HT := Lib.hid ht
   clear ht hlt'
   by_cases h1 : k < 1
   ·go_wp2
    go_ret
    exact RetN.mk hex.out (congrArg Value.bool (by unfold kinds; rw [all_no HT.out (decide_eq_false (by simp only; omega))]))
   ·by_cases h2 : up < k
    ·go_wp2
     go_ret
     exact RetN.mk hex.out (congrArg Value.bool (by unfold kinds; rw [all_no HT.out (decide_eq_false (by simp only; omega))]))
    ·go_wp2
     go_roundw
     case rel => exact ⟨i + 1, by omega, by first | rfl | (congr 1; done) | (congr 1; omega), by rw [all_take HT.out, hall.out, decide_eq_true (by simp only; omega)]; rfl, hex⟩
     case measure => simp [intOf]; omega
  ·have e : ts.take i = ts := List.take_of_length_le (by have := HN.out; omega)
   have HA := Lib.hid hall.out
   rw [e] at HA
   go_wp2
   go_ret
   exact RetN.mk hex.out (congrArg Value.bool (by unfold kinds; rw [HA.out]))
def NamesIn (w0 : World) (a : List ByteArray) (l : LitZ) (m : Nat) (iv ov : Value) (w : World) : Prop := ∃ i : Nat, i ≤ m /\ iv = .int .i64 i /\ Hid (Row w 9 1 ov (namesIn a l i).length (strs (namesIn a l i)) (New w0)) /\ Hid (Ext w0 w)
set_option maxRecDepth 100000 in
set_option maxHeartbeats 4000000 in
theorem names14_any (p : ByteArray) (ha : Option Addr) (hn hcap : Nat) (ls : List LitZ) (ba : Option Addr) (n bcap : Nat) (w : World) (G : Nat -> Prop) (hbn : n = ls.length) (h : LitsAt w G ba ls) (hf : Fit ls) :
 Calls Tryz.prog 70 #[ruleV p ha hn hcap ba n bcap] w (RetN w fun w' v => ∃ ao cap, v = .slice ao (namesB ls).length cap /\ (namesB ls).length ≤ cap /\ CellsAt w' ao (strs (namesB ls))) := by
 have HN := Lib.hid hbn; have HE := Lib.hid h; have HF := Lib.hid hf; have hl : n ≤ 1048576 := by have := hf.len; omega
 clear hbn h hf
 go_enter Tryz.func70, Tryz.ntmps70
 go_wp2
 obtain ⟨wb, eb⟩ : ∃ wb, w.alloc (.cells #[.string p, .slice ha hn hcap, .slice ba n bcap] 27) = wb := ⟨_, rfl⟩
 rw [eb]
 have HB := Lib.hid (Blk.new w [.string p, .slice ha hn hcap, .slice ba n bcap] 27)
 have HX := Lib.hid ((Kp.refl (F := fun _ => False) w).alloc (.cells #[.string p, .slice ha hn hcap, .slice ba n bcap] 27))
 have eb2 : w.alloc (.cells [Value.string p, .slice ha hn hcap, .slice ba n bcap].toArray 27) = wb := eb
 rw [eb2] at HB
 rw [eb] at HX
 clear eb eb2
 go_loopw [4, 3] (fun iv ov wr => VarsOut wb ls n iv ov wr) (fun iv _ _ => n - (intOf iv).toNat)
 case atStart => exact ⟨0, Nat.zero_le _, rfl, Row.nil _ _ _ _, Kp.refl _⟩
 case round =>
  obtain ⟨i, hi, rfl, hrow, hex⟩ := hrel
  have b2 : wr.cell? ⟨w.heap.size, 2, none⟩ = some (.slice ba n bcap) := by rw [(HB.out.ext hex.out).cell']; rfl
  have XR := Lib.hid (HX.out.trans hex.out)
  by_cases hlt : i < n
  ·have hlt' : i < ls.length := by rw [<- HN.out]; exact hlt
   obtain ⟨l, hli⟩ : ∃ l, ls[i]? = some l := ⟨_, List.getElem?_eq_getElem hlt'⟩
   obtain ⟨b, off, a, cap, eao, hG, hb, hL, c0, c1, c2, c3, c4, c5, c6, c7⟩ := lit_at HE.out hli
   subst eao
   clear c1 c3 c4 c5 c6 c7
   have C2 := Lib.hid c2
   replace c0 := XR.out.cell c0 id
   obtain ⟨m, em⟩ : ∃ m, m = (termsOf l).length := ⟨_, rfl⟩
   rw [<- em] at c2 C2
   have hm : m ≤ 1048576 := by rw [em]; exact HF.out.terms l (List.mem_of_getElem? hli)
   have HL := Lib.hid (And.intro hli (And.intro hL em))
   obtain ⟨k, ek⟩ : ∃ k, l.1 = k := ⟨_, rfl⟩
   rw [ek] at c0
   have HK := Lib.hid ek
   clear hli hlt' hL em hG hb ek c2
   by_cases h1 : k = 1
   ·subst h1
    go_wp2
    clear c0 b2
    go_loopw [5, 3] (fun iv ov wr => NamesIn wb (namesB (ls.take i)) l m iv ov wr) (fun iv _ _ => m - (intOf iv).toNat)
    case atStart => exact ⟨0, Nat.zero_le _, rfl, by rw [namesIn_zero]; exact hrow.out, hex⟩
    case round =>
     obtain ⟨j, hj, rfl, hrow3, hex3⟩ := hrel
     have X3 := Lib.hid (HX.out.trans hex3.out)
     have b2 : wr.cell? ⟨w.heap.size, 2, none⟩ = some (.slice (some ⟨b, off, none⟩) n bcap) := by rw [(HB.out.ext hex3.out).cell']; rfl
     have c2 := X3.out.cell C2.out id
     by_cases hlt3 : j < m
     ·have hlt4 : j < (termsOf l).length := by rw [<- HL.out.2.2]; exact hlt3
      obtain ⟨t, ht⟩ : ∃ t, (termsOf l)[j]? = some t := ⟨_, List.getElem?_eq_getElem hlt4⟩
      obtain ⟨b5, off5, eao5, f0, f1, _⟩ := term_at (HL.out.2.1.terms.ext X3.out) ht
      subst eao5
      obtain ⟨kt, st, ⟨⟩⟩ := t
      simp only at f0 f1
      have HT := Lib.hid (namesIn_succ (namesB (ls.take i)) ht)
      clear ht hlt4
      have hlen : (namesIn (namesB (ls.take i)) l j).length ≤ 1099513724928 := by
       have h1 := namesIn_len (namesB (ls.take i)) l j
       have h2 : (namesB (ls.take i)).length ≤ (ls.take i).length * 1048576 := namesB_len fun x hx => HF.out.terms x (List.mem_of_mem_take hx)
       rw [List.length_take] at h2
       omega
      generalize eN : namesIn (namesB (ls.take i)) l j = N at *
      by_cases h2 : kt = 1
      ·subst h2
       have hrow4 := hrow3.out
       obtain ⟨ao, cap4, eov, hcells, hle⟩ := hrow4.shape
       subst eov
       have HS := Lib.hid (fun (W : World) (hW : Ext wr W) => has_any N st ao N.length cap4 W rfl (hcells.ext hW) (by omega))
       have HR4 := Lib.hid hrow4
       clear hcells hrow4 hrow3
       go_wp2_with fail
       refine (HS.out _ ((Kp.refl _).alloc _)).mono ?_
       rintro e w1 ⟨v, rfl, hk1, rfl⟩
       have bb := Blk.new wr [.int .i64 1, .string st] 38
       have f2 : w1.cell? ⟨wr.heap.size, 1, none⟩ = some (.string st) := by rw [(bb.ext hk1).cell']; rfl
       have HE1 := Lib.hid (((Kp.refl _).alloc _).trans hk1)
       clear hk1 bb f0 f1
       cases hh : hasT N st
       ·have HT2 := Lib.hid (HT.out.trans (if_pos ⟨HK.out, by first | rfl | trivial, hh⟩))
        go_wp2_with (first | (at_builtin; refine Halted.out ?_))
        refine Halted.mk (wp_appN elem_strV rfl _ _ rfl ((hex3.out.trans HE1.out).alloc _) rfl ((HR4.out.ext HE1.out).alloc _) rfl (CellsAt.one _ _ _) (by rfl) (by simp [Value.oneCell']) (by omega) (by unfold maxLen; omega) ?_)
        intro v1 w2 hr1 hk1 hk2 _
        have HR5 := Lib.hid (And.intro hr1 hk1)
        clear hr1 hk1 hk2
        go_wp2
        go_roundw
        case rel =>
         refine ⟨j + 1, by omega, by first | rfl | (congr 1; done) | (congr 1; omega), ?_, HR5.out.2⟩
         have h := HR5.out.1
         rw [HT2.out, <- strs_snoc, List.length_append]
         exact h
        case measure => simp [intOf]; omega
       ·have HT2 := Lib.hid (HT.out.trans (if_neg fun x => by rw [hh] at x; cases x.2.2))
        go_wp2
        go_roundw
        case rel => exact ⟨j + 1, by omega, by first | rfl | (congr 1; done) | (congr 1; omega), by rw [HT2.out]; exact HR4.out.ext HE1.out, hex3.out.trans HE1.out⟩
        case measure => simp [intOf]; omega
      ·have HT2 := Lib.hid (HT.out.trans (if_neg fun x => h2 x.2.1))
       have b3 : (kt == 1) = false := by simp [h2]
       go_wp2
       go_roundw
       case rel => exact ⟨j + 1, by omega, by first | rfl | (congr 1; done) | (congr 1; omega), by rw [HT2.out]; exact hrow3.out.alloc _, hex3.out.alloc _⟩
       case measure => simp [intOf]; omega
     ·have HA := Lib.hid (namesIn_all (namesB (ls.take i)) l (c := j) (by have := HL.out.2.2; omega))
      go_wp2
      go_roundw
      case rel =>
       refine ⟨i + 1, by omega, by first | rfl | (congr 1; done) | (congr 1; omega), ?_, hex3⟩
       have h := hrow3.out
       have e : namesB (ls.take (i + 1)) = namesL (namesB (ls.take i)) l := fold_take _ _ HL.out.1
       rw [HA.out, <- e] at h
       exact h
      case measure => simp [intOf]; omega
   ·have b3 : (k == 1) = false := by simp [h1]
    have b4 : (k != 1) = true := by simp [h1]
    have HH := Lib.hid h1; clear h1
    go_wp2
    go_roundw
    case rel =>
     refine ⟨i + 1, by omega, by first | rfl | (congr 1; done) | (congr 1; omega), ?_, hex⟩
     have e : namesB (ls.take (i + 1)) = namesL (namesB (ls.take i)) l := fold_take _ _ HL.out.1
     rw [e]; unfold namesL; rw [if_neg (fun x => HH.out (HK.out.symm.trans x))]
     exact hrow.out
    case measure => simp [intOf]; omega
  ·have e : ls.take i = ls := List.take_of_length_le (by have := HN.out; omega)
   have hrow4 := hrow.out
   rw [e] at hrow4
   obtain ⟨ao, cap4, eov, hcells, hle⟩ := hrow4.shape
   subst eov
   have HC := Lib.hid (And.intro hle hcells)
   clear hcells hrow4 hrow hle e
   go_wp2
   go_ret
   exact RetN.mk XR.out ⟨ao, _, rfl, HC.out⟩
end Go.Proofs.YtinnmeiphbdogaaGreat

/- The document's answer for join: parted, bound, Check, Vars. -/
namespace Go.Proofs.YtinnmeiphbdogaaGreat
open Go.RowKit
set_option linter.unusedVariables false
set_option maxRecDepth 100000 in
theorem bound_any (N : List ByteArray) (ao : Option Addr) (m cap : Nat) (k : Int) (s : ByteArray) (w : World) (hm : m = N.length) (h : CellsAt w ao (strs N)) (hl : m ≤ 4611686018427387904) :
 Calls Tryz.prog 71 #[termV k s, .slice ao m cap] w (RetN w fun w' v => v = .bool (safeT N false (k, s, ()))) := by
 by_cases h2 : k = 2
 ·subst h2
  go_enter Tryz.func71, Tryz.ntmps71
  go_wp2
  go_ret
  exact RetN.mk ((Kp.refl w).alloc _) (by unfold safeT; simp)
 ·have b2 : (k == 2) = false := by simp [h2]
  by_cases h34 : k = 3 \/ k = 4
  ·rcases h34 with rfl | rfl
   all_goals
    clear h2 b2
    go_enter Tryz.func71, Tryz.ntmps71
    go_wp2
    go_ret
    exact RetN.mk ((Kp.refl w).alloc _) (by unfold safeT; simp)
  ·have b3 : (k == 3) = false := by simp; exact fun e => h34 (.inl e)
   have b4 : (k == 4) = false := by simp; exact fun e => h34 (.inr e)
   have HS := Lib.hid (fun (W : World) (hW : Ext w W) => has_any N s ao m cap W hm (h.ext hW) hl)
   have HH := Lib.hid (And.intro h2 h34); clear h2 h34 h hm
   go_enter Tryz.func71, Tryz.ntmps71
   go_wp2_with fail
   refine (HS.out _ ((Kp.refl _).alloc _)).mono ?_
   rintro e w1 ⟨v, rfl, hk1, rfl⟩
   go_wp2
   go_ret
   refine RetN.mk (((Kp.refl w).alloc _).trans hk1) ?_
   obtain ⟨h2, h34⟩ := HH.out
   show Value.bool (hasT N s) = _
   refine congrArg Value.bool ?_
   unfold safeT
   rw [if_neg h2]
   cases hh : hasT N s
   ·symm; apply decide_eq_false; rintro (x | x | x)
    ·exact h34 (.inl x)
    ·exact h34 (.inr x)
    ·cases x
   ·symm; exact decide_eq_true (.inr (.inr rfl))
def AggsTo (w0 : World) (ts : List TermZ) (n : Nat) (iv av : Value) (w : World) : Prop := ∃ i a : Nat, i ≤ n /\ a ≤ i /\ iv = .int .i64 i /\ av = .int .i64 a /\ Hid (a = aggs (ts.take i)) /\ Hid (Ext w0 w)
set_option maxRecDepth 100000 in
set_option maxHeartbeats 4000000 in
theorem parted_any (p : ByteArray) (hs : List TermZ) (ls : List LitZ) (ha : Option Addr) (hn hcap : Nat) (ba : Option Addr) (n bcap : Nat) (w : World) (G : Nat -> Prop) (hhn : hn = hs.length) (hh : TermsAt w G ha hs) (hhl : hn ≤ 1048576) (hbn : n = ls.length) (h : LitsAt w G ba ls) (hf : Fit ls) :
 Calls Tryz.prog 69 #[ruleV p ha hn hcap ba n bcap] w (RetN w fun w' v => v = .bool (parted ((p, hs, ()), ls, ()))) := by
 have HN := Lib.hid hbn; have HE := Lib.hid h; have HF := Lib.hid hf; have hl : n ≤ 1048576 := by have := hf.len; omega
 have HHN := Lib.hid hhn; have HHE := Lib.hid hh
 have HKinds := Lib.hid (fun (W : World) (hW : Ext w W) => refKinds_any hs 7 ha hn hcap W G hhn (hh.ext hW) (by omega))
 have HKL := Lib.hid (fun (W : World) (hW : Ext w W) (l : LitZ) (hl : l ∈ ls) (a : Option Addr) (cap : Nat) (hin : LitIn w G l a cap) => refKinds_any (termsOf l) 3 a (termsOf l).length cap W G rfl (hin.terms.ext hW) (by have := hf.terms l hl; omega))
 clear hbn h hf hhn hh
 go_enter Tryz.func69, Tryz.ntmps69
 go_wp2
 obtain ⟨wb, eb⟩ : ∃ wb, w.alloc (.cells #[.string p, .slice ha hn hcap, .slice ba n bcap] 27) = wb := ⟨_, rfl⟩
 rw [eb]
 have HB := Lib.hid (Blk.new w [.string p, .slice ha hn hcap, .slice ba n bcap] 27)
 have HX := Lib.hid ((Kp.refl (F := fun _ => False) w).alloc (.cells #[.string p, .slice ha hn hcap, .slice ba n bcap] 27))
 have eb2 : w.alloc (.cells [Value.string p, .slice ha hn hcap, .slice ba n bcap].toArray 27) = wb := eb
 rw [eb2] at HB
 rw [eb] at HX
 clear eb eb2
 go_loopw [4, 3] (fun iv av wr => AggsTo wb hs hn iv av wr) (fun iv _ _ => hn - (intOf iv).toNat)
 case atStart => exact ⟨0, 0, Nat.zero_le _, Nat.le_refl _, rfl, rfl, rfl, Kp.refl _⟩
 case round =>
  obtain ⟨i, a, hi, hai, rfl, rfl, hagg, hex⟩ := hrel
  have b1 : wr.cell? ⟨w.heap.size, 1, none⟩ = some (.slice ha hn hcap) := by rw [(HB.out.ext hex.out).cell']; rfl
  have XR := Lib.hid (HX.out.trans hex.out)
  by_cases hlt : i < hn
  ·have hlt' : i < hs.length := by rw [<- HHN.out]; exact hlt
   obtain ⟨t, ht⟩ : ∃ t, hs[i]? = some t := ⟨_, List.getElem?_eq_getElem hlt'⟩
   obtain ⟨b, off, eao, hc0, hc1, _⟩ := term_at (HHE.out.ext XR.out) ht
   subst eao
   obtain ⟨k, s, ⟨⟩⟩ := t
   simp only at hc0 hc1
   have HT := Lib.hid (aggs_take ht)
   clear ht hlt'
   by_cases h4 : 4 ≤ k
   ·go_wp2
    go_roundw
    case rel => exact ⟨i + 1, a + 1, by omega, by omega, by first | rfl | (congr 1; done) | (congr 1; omega), by first | rfl | (congr 1; done) | (congr 1; omega), Lib.hid (by rw [HT.out, <- hagg.out]; simp [h4]), hex⟩
    case measure => simp [intOf]; omega
   ·go_wp2
    go_roundw
    case rel => exact ⟨i + 1, a, by omega, by omega, by first | rfl | (congr 1; done) | (congr 1; omega), by first | rfl | trivial, Lib.hid (by rw [HT.out, <- hagg.out]; simp [h4]), hex⟩
    case measure => simp [intOf]; omega
  ·have e : hs.take i = hs := List.take_of_length_le (by have := HHN.out; omega)
   have HA := Lib.hid hagg.out
   rw [e] at HA
   clear e hagg
   go_wp2_with fail
   refine (HKinds.out _ XR.out).mono ?_
   rintro e w1 ⟨v, rfl, hk1, rfl⟩
   have X1 := Lib.hid (hex.out.trans hk1)
   have d1 : w1.cell? ⟨w.heap.size, 1, none⟩ = some (.slice ha hn hcap) := by rw [(HB.out.ext X1.out).cell']; rfl
   clear hk1 b1
   have hno : ∀ {q : Prop}, headOk hs = false -> q = (parted ((p, hs, ()), ls, ()) = false) -> q := fun x y => by rw [y]; unfold parted; rw [x]; rfl
   have HNo := Lib.hid (fun (x : headOk hs = false) => (show parted ((p, hs, ()), ls, ()) = false by unfold parted; rw [x]; rfl))
   clear hno
   cases hkd : kinds hs 7
   ·go_wp2
    go_ret
    refine RetN.mk (HX.out.trans X1.out) (congrArg Value.bool ?_)
    rw [HNo.out (by unfold headOk; rw [hkd]; rfl)]
   ·by_cases ha1 : 1 < a
    ·have ha1' : (1 : Int) < (a : Int) := by omega
     go_wp2
     go_ret
     refine RetN.mk (HX.out.trans X1.out) (congrArg Value.bool ?_)
     rw [HNo.out (by have := HA.out; unfold headOk; rw [decide_eq_false (show ¬ aggs hs < 2 by omega)]; simp)]
    ·have ha1' : ¬ (1 : Int) < (a : Int) := by omega
     by_cases h64 : 64 < hn
     ·have h64' : (64 : Int) < (hn : Int) := by omega
      go_wp2
      go_ret
      refine RetN.mk (HX.out.trans X1.out) (congrArg Value.bool ?_)
      rw [HNo.out (by have := HHN.out; unfold headOk; rw [decide_eq_false (show ¬ hs.length ≤ 64 by omega)]; simp)]
     ·have h64' : ¬ (64 : Int) < (hn : Int) := by omega
      have HOk := Lib.hid (show headOk hs = true by have g1 := HA.out; have g2 := HHN.out; unfold headOk; rw [hkd, decide_eq_true (show aggs hs < 2 by omega), decide_eq_true (show hs.length ≤ 64 by omega)]; rfl)
      go_wp2
      clear d1
      go_loopw [5] (fun iv wr => AllTo wb ls litOk n iv wr) (fun iv _ => n - (intOf iv).toNat)
      case atStart => exact ⟨0, Nat.zero_le _, rfl, rfl, X1⟩
      case round =>
       obtain ⟨q, hq, rfl, hall, hex3⟩ := hrel
       have X3 := Lib.hid (HX.out.trans hex3.out)
       have b2 : wr.cell? ⟨w.heap.size, 2, none⟩ = some (.slice ba n bcap) := by rw [(HB.out.ext hex3.out).cell']; rfl
       by_cases hlt3 : q < n
       ·have hlt4 : q < ls.length := by rw [<- HN.out]; exact hlt3
        obtain ⟨l, hli⟩ : ∃ l, ls[q]? = some l := ⟨_, List.getElem?_eq_getElem hlt4⟩
        obtain ⟨b, off, a2, cap2, eao, hG, hb, hL, c0, c1, c2, c3, c4, c5, c6, c7⟩ := lit_at HE.out hli
        subst eao
        replace c0 := X3.out.cell c0 id
        replace c1 := X3.out.cell c1 id
        replace c2 := X3.out.cell c2 id
        replace c3 := X3.out.cell c3 id
        replace c4 := X3.out.cell c4 id
        replace c5 := X3.out.cell c5 id
        replace c6 := X3.out.cell c6 id
        replace c7 := X3.out.cell c7 id
        obtain ⟨mm, emm⟩ : ∃ mm, mm = (termsOf l).length := ⟨_, rfl⟩
        have HKL2 := HKL.out
        have hk0 := fun (W : World) (hW : Ext w W) => HKL.out W hW l (List.mem_of_getElem? hli) a2 cap2 hL
        rw [<- emm] at c2 hk0
        have HKl := Lib.hid hk0
        have HF2 := Lib.hid (And.intro hL.left hL.right)
        have HL := Lib.hid (And.intro hli emm)
        clear hli hlt4 hL hG hb emm hk0 HKL2
        obtain ⟨k, ek⟩ : ∃ k, l.1 = k := ⟨_, rfl⟩
        obtain ⟨op, eop⟩ : ∃ op, opOf l = op := ⟨_, rfl⟩
        obtain ⟨lk, elk⟩ : ∃ lk, (leftOf l).1 = lk := ⟨_, rfl⟩
        obtain ⟨lt, elt⟩ : ∃ lt, (leftOf l).2.1 = lt := ⟨_, rfl⟩
        obtain ⟨rk, erk⟩ : ∃ rk, (rightOf l).1 = rk := ⟨_, rfl⟩
        obtain ⟨rt, ert⟩ : ∃ rt, (rightOf l).2.1 = rt := ⟨_, rfl⟩
        rw [ek] at c0
        rw [eop] at c3
        rw [elk] at c4
        rw [elt] at c5
        rw [erk] at c6
        rw [ert] at c7
        have eleft : leftOf l = (lk, lt, ()) := by rw [<- elk, <- elt]
        have eright : rightOf l = (rk, rt, ()) := by rw [<- erk, <- ert]
        generalize predOf l = s1 at c1
        rw [eleft, eright] at HF2
        have HK := Lib.hid (And.intro ek (And.intro eop (And.intro eleft eright))); clear ek eop elk elt erk ert eleft eright
        have HQN := Lib.hid (fun (x : litOk l = false) => (show parted ((p, hs, ()), ls, ()) = false by unfold parted; rw [all_no HL.out.1 x]; simp))
        have HQY := Lib.hid (fun (x : litOk l = true) => (show (ls.take (q + 1)).all litOk = true by rw [all_take HL.out.1, hall.out, x]; rfl))
        by_cases h12 : k = 1 \/ k = 2
        ·have HL12 := Lib.hid (show litOk l = (decide ((termsOf l).length ≤ 64) && kinds (termsOf l) 3) by unfold litOk; rw [HK.out.1, if_pos h12])
         rcases h12 with rfl | rfl
         ·go_wp2_with fail
          refine (HKl.out _ (X3.out.alloc _)).mono ?_
          rintro e w5 ⟨v, rfl, hk5, rfl⟩
          have X5 := Lib.hid ((hex3.out.alloc _).trans hk5)
          have d2 := (Blk.new wr [.int .i64 1, .string s1, .slice a2 mm cap2, .int .i64 op, .int .i64 lk, .string lt, .int .i64 rk, .string rt] 40).ext hk5
          have d3 : w5.cell? ⟨wr.heap.size, 2, none⟩ = some (.slice a2 mm cap2) := by rw [d2.cell']; rfl
          clear hk5 d2 c0 c1 c2 c3 c4 c5 c6 c7 b2
          cases hkd2 : kinds (termsOf l) 3
          ·go_wp2
           go_ret
           exact RetN.mk (HX.out.trans X5.out) (congrArg Value.bool (by rw [HQN.out (by rw [HL12.out, hkd2, Bool.and_false])]))
          ·by_cases g64 : 64 < mm
           ·have g64' : (64 : Int) < (mm : Int) := by omega
            go_wp2
            go_ret
            exact RetN.mk (HX.out.trans X5.out) (congrArg Value.bool (by rw [HQN.out (by rw [HL12.out, decide_eq_false (by have := HL.out.2; omega)]; rfl)]))
           ·have g64' : ¬ (64 : Int) < (mm : Int) := by omega
            go_wp2
            go_roundw
            case rel => exact ⟨q + 1, by omega, by first | rfl | (congr 1; done) | (congr 1; omega), HQY.out (by rw [HL12.out, hkd2, decide_eq_true (by have := HL.out.2; omega)]; rfl), X5⟩
            case measure => simp [intOf]; omega
         ·go_wp2_with fail
          refine (HKl.out _ (X3.out.alloc _)).mono ?_
          rintro e w5 ⟨v, rfl, hk5, rfl⟩
          have X5 := Lib.hid ((hex3.out.alloc _).trans hk5)
          have d2 := (Blk.new wr [.int .i64 2, .string s1, .slice a2 mm cap2, .int .i64 op, .int .i64 lk, .string lt, .int .i64 rk, .string rt] 40).ext hk5
          have d3 : w5.cell? ⟨wr.heap.size, 2, none⟩ = some (.slice a2 mm cap2) := by rw [d2.cell']; rfl
          clear hk5 d2 c0 c1 c2 c3 c4 c5 c6 c7 b2
          cases hkd2 : kinds (termsOf l) 3
          ·go_wp2
           go_ret
           exact RetN.mk (HX.out.trans X5.out) (congrArg Value.bool (by rw [HQN.out (by rw [HL12.out, hkd2, Bool.and_false])]))
          ·by_cases g64 : 64 < mm
           ·have g64' : (64 : Int) < (mm : Int) := by omega
            go_wp2
            go_ret
            exact RetN.mk (HX.out.trans X5.out) (congrArg Value.bool (by rw [HQN.out (by rw [HL12.out, decide_eq_false (by have := HL.out.2; omega)]; rfl)]))
           ·have g64' : ¬ (64 : Int) < (mm : Int) := by omega
            go_wp2
            go_roundw
            case rel => exact ⟨q + 1, by omega, by first | rfl | (congr 1; done) | (congr 1; omega), HQY.out (by rw [HL12.out, hkd2, decide_eq_true (by have := HL.out.2; omega)]; rfl), X5⟩
            case measure => simp [intOf]; omega
        ·have n1 : (k == 1) = false := by simp; exact fun e => h12 (.inl e)
         have n2 : (k == 2) = false := by simp; exact fun e => h12 (.inr e)
         by_cases h3 : k = 3
         ·have n3 : (k == 3) = true := by simp [h3]
          have HL3 := Lib.hid (show litOk l = (decide (1 ≤ op /\ op ≤ 4) && kinds [(lk, lt, ()), (rk, rt, ())] 3) by unfold litOk; rw [HK.out.1, if_neg h12, if_pos h3, HK.out.2.1, HK.out.2.2.1, HK.out.2.2.2])
          have HH := Lib.hid (And.intro h12 h3); clear h12 h3
          by_cases o1 : op < 1
          ·go_wp2
           go_ret
           exact RetN.mk (X3.out.alloc _) (congrArg Value.bool (by rw [HQN.out (by rw [HL3.out, decide_eq_false (by omega)]; rfl)]))
          ·by_cases o4 : 4 < op
           ·go_wp2
            go_ret
            exact RetN.mk (X3.out.alloc _) (congrArg Value.bool (by rw [HQN.out (by rw [HL3.out, decide_eq_false (by omega)]; rfl)]))
           ·have HT := Lib.hid (fun (W : World) (g : Nat) (hg : g = W.heap.size) => refKinds_any [(lk, lt, ()), (rk, rt, ())] 3 (some ⟨g, 0, none⟩) 2 2 _ _ rfl (hg ▸ terms_two W lk lt rk rt HF2.out.1.1 HF2.out.2.1 HF2.out.1.2 HF2.out.2.2 38) (by decide))
            go_wp2_with fail
            refine (HT.out _ _ (alloc_size _ _).symm).mono ?_
            rintro e w5 ⟨v, rfl, hk5, rfl⟩
            have X5 := Lib.hid (((hex3.out.alloc _).alloc _).trans hk5)
            clear hk5 c0 c1 c2 c3 c4 c5 c6 c7 b2
            cases hkd2 : kinds [(lk, lt, ()), (rk, rt, ())] 3
            ·go_wp2
             go_ret
             exact RetN.mk (HX.out.trans X5.out) (congrArg Value.bool (by rw [HQN.out (by rw [HL3.out, hkd2, Bool.and_false])]))
            ·go_wp2
             go_roundw
             case rel => exact ⟨q + 1, by omega, by first | rfl | (congr 1; done) | (congr 1; omega), HQY.out (by rw [HL3.out, hkd2, decide_eq_true (by omega)]; rfl), X5⟩
             case measure => simp [intOf]; omega
         ·have n3 : (k == 3) = false := by simp [h3]
          have HH := Lib.hid (And.intro h12 h3); clear h12 h3
          go_wp2
          go_ret
          exact RetN.mk (X3.out.alloc _) (congrArg Value.bool (by rw [HQN.out (by unfold litOk; rw [HK.out.1, if_neg HH.out.1, if_neg HH.out.2])]))
       ·have e : ls.take q = ls := List.take_of_length_le (by have := HN.out; omega)
        have HC := Lib.hid hall.out
        rw [e] at HC
        clear e hall
        have hqn : ¬ (q : Int) < (n : Int) := by omega
        go_wp2
        go_ret
        exact RetN.mk X3.out (congrArg Value.bool (by unfold parted; rw [HOk.out, HC.out]; rfl))
end Go.Proofs.YtinnmeiphbdogaaGreat

/- The document's answer for join: Check, Vars. -/
namespace Go.Proofs.YtinnmeiphbdogaaGreat
open Go.RowKit
set_option linter.unusedVariables false
set_option maxRecDepth 100000 in
set_option maxHeartbeats 8000000 in
theorem refCheck_any (p : ByteArray) (hs : List TermZ) (ls : List LitZ) (ha : Option Addr) (hn hcap : Nat) (ba : Option Addr) (n bcap : Nat) (w : World) (G : Nat -> Prop) (hhn : hn = hs.length) (hh : TermsAt w G ha hs) (hhl : hn ≤ 1048576) (hbn : n = ls.length) (h : LitsAt w G ba ls) (hf : Fit ls) :
 Calls Tryz.prog 21 #[ruleV p ha hn hcap ba n bcap] w (RetN w fun w' v => v = .int .i64 (checkR ((p, hs, ()), ls, ()))) := by
 have HN := Lib.hid hbn; have HE := Lib.hid h; have HF := Lib.hid hf; have hl : n ≤ 1048576 := by have := hf.len; omega
 have HHN := Lib.hid hhn; have HHE := Lib.hid hh
 have HParted := Lib.hid (fun (W : World) (hW : Ext w W) => parted_any p hs ls ha hn hcap ba n bcap W G hhn (hh.ext hW) hhl hbn (h.ext hW) hf)
 obtain ⟨m, em⟩ : ∃ m, m = (namesB ls).length := ⟨_, rfl⟩
 have HVars0 := fun (W : World) (hW : Ext w W) => names14_any p ha hn hcap ls ba n bcap W G hbn (h.ext hW) hf
 rw [<- em] at HVars0
 have HVars := Lib.hid HVars0
 have EM := Lib.hid em
 clear HVars0 em hbn h hf hhn hh
 go_enter Tryz.func21, Tryz.ntmps21
 have bb := Blk.new w [.string p, .slice ha hn hcap, .slice ba n bcap] 27
 go_wp2_with fail
 refine (HParted.out _ ((Kp.refl _).alloc _)).mono ?_
 rintro e w1 ⟨v, rfl, hk1, rfl⟩
 have B1 := Lib.hid (bb.ext hk1)
 have c0 : w1.cell? ⟨w.heap.size, 0, none⟩ = some (.string p) := by rw [B1.out.cell']; rfl
 have c1 : w1.cell? ⟨w.heap.size, 1, none⟩ = some (.slice ha hn hcap) := by rw [B1.out.cell']; rfl
 have c2 : w1.cell? ⟨w.heap.size, 2, none⟩ = some (.slice ba n bcap) := by rw [B1.out.cell']; rfl
 have X1 := Lib.hid (((Kp.refl _).alloc _).trans hk1)
 clear hk1 bb
 cases hpt : parted ((p, hs, ()), ls, ())
 ·go_wp2
  go_ret
  exact RetN.mk X1.out (by unfold checkR; rw [if_neg (by rw [hpt]; simp)]; rfl)
 ·have HP := Lib.hid hpt
  clear hpt
  go_wp2_with fail
  refine (HVars.out _ X1.out).mono ?_
  rintro e w2 ⟨v, rfl, hk2, ao, cap, rfl, hle, hcells⟩
  have hm : m ≤ 4611686018427387904 := by
   have h1 := namesB_len HF.out.terms
   have h2 := HF.out.len
   have h3 := Nat.mul_le_mul_right 1048576 h2
   have h4 := EM.out
   omega
  have B2 := Lib.hid (B1.out.ext hk2)
  have HX2 := Lib.hid (X1.out.trans hk2)
  have HSafe := Lib.hid (fun (W : World) (hW : Ext w2 W) (k : Int) (s : ByteArray) => bound_any (namesB ls) ao m cap k s W EM.out (hcells.ext hW) hm)
  have HHas := Lib.hid (fun (W : World) (hW : Ext w2 W) (s : ByteArray) => has_any (namesB ls) s ao m cap W EM.out (hcells.ext hW) hm)
  clear hk2 hle hcells c0 c1 c2
  go_wp2
  go_loopw [4] (fun iv wr => AllTo w2 hs (safeT (namesB ls) false) hn iv wr) (fun iv _ => hn - (intOf iv).toNat)
  case atStart => exact ⟨0, Nat.zero_le _, rfl, rfl, Kp.refl _⟩
  case round =>
   obtain ⟨j, hj, rfl, hall3, hex3⟩ := hrel
   have X3 := Lib.hid (HX2.out.trans hex3.out)
   have b1 : wr.cell? ⟨w.heap.size, 1, none⟩ = some (.slice ha hn hcap) := by rw [(B2.out.ext hex3.out).cell']; rfl
   by_cases hlt3 : j < hn
   ·have hlt4 : j < hs.length := by rw [<- HHN.out]; exact hlt3
    obtain ⟨t, ht⟩ : ∃ t, hs[j]? = some t := ⟨_, List.getElem?_eq_getElem hlt4⟩
    obtain ⟨b2, off2, eao2, f0, f1, _⟩ := term_at (HHE.out.ext X3.out) ht
    subst eao2
    obtain ⟨kt, st, ⟨⟩⟩ := t
    simp only at f0 f1
    have HT := Lib.hid ht
    clear ht hlt4
    go_wp2_with fail
    refine (HSafe.out _ hex3.out kt st).mono ?_
    rintro e w3 ⟨v, rfl, hk3, rfl⟩
    have X4 := Lib.hid (hex3.out.trans hk3)
    clear hk3 f0 f1
    cases hq : safeT (namesB ls) false (kt, st, ())
    ·go_wp2
     go_ret
     refine RetN.mk (HX2.out.trans X4.out) ?_
     unfold checkR safeR
     rw [if_pos HP.out, if_neg (by rw [all_no HT.out hq]; simp)]; rfl
    ·go_wp2
     go_roundw
     case rel => exact ⟨j + 1, by omega, by first | rfl | (congr 1; done) | (congr 1; omega), by rw [all_take HT.out, hall3.out, hq]; rfl, X4⟩
     case measure => simp [intOf]; omega
   ·have e : hs.take j = hs := List.take_of_length_le (by have := HHN.out; omega)
    have HB := Lib.hid hall3.out
    rw [e] at HB
    clear e hall3
    have hltn : ¬ (j : Int) < (hn : Int) := by omega
    go_wp2
    clear b1
    go_loopw [5] (fun iv wr => AllTo w2 ls (safeL (namesB ls)) n iv wr) (fun iv _ => n - (intOf iv).toNat)
    case atStart => exact ⟨0, Nat.zero_le _, rfl, rfl, hex3⟩
    case round =>
     obtain ⟨q, hq, rfl, hall4, hex4⟩ := hrel
     have X5 := Lib.hid (HX2.out.trans hex4.out)
     have b2 : wr.cell? ⟨w.heap.size, 2, none⟩ = some (.slice ba n bcap) := by rw [(B2.out.ext hex4.out).cell']; rfl
     by_cases hlt5 : q < n
     ·have hlt6 : q < ls.length := by rw [<- HN.out]; exact hlt5
      obtain ⟨l, hli⟩ : ∃ l, ls[q]? = some l := ⟨_, List.getElem?_eq_getElem hlt6⟩
      obtain ⟨b, off, a, cap2, eao, hG, hb, hL, c0, c1, c2, c3, c4, c5, c6, c7⟩ := lit_at HE.out hli
      subst eao
      replace c0 := X5.out.cell c0 id
      replace c1 := X5.out.cell c1 id
      replace c2 := X5.out.cell c2 id
      replace c3 := X5.out.cell c3 id
      replace c4 := X5.out.cell c4 id
      replace c5 := X5.out.cell c5 id
      replace c6 := X5.out.cell c6 id
      replace c7 := X5.out.cell c7 id
      have HL := Lib.hid (And.intro hli hL)
      have hq2 : (q : Int) < (n : Int) := by omega
      obtain ⟨mm, emm⟩ : ∃ mm, mm = (termsOf l).length := ⟨_, rfl⟩
      rw [<- emm] at c2
      have HM := Lib.hid emm
      have hmm : mm ≤ 1048576 := by rw [emm]; exact HF.out.terms l (List.mem_of_getElem? hli)
      have HLok := Lib.hid (show l.1 = 2 -> kinds (termsOf l) 3 = true by
       intro h2
       have h3 := HP.out
       unfold parted at h3
       rw [Bool.and_eq_true, List.all_eq_true] at h3
       have h4 := h3.2 l (List.mem_of_getElem? hli)
       unfold litOk at h4
       rw [if_pos (.inr h2), Bool.and_eq_true] at h4
       exact h4.2)
      clear hli hlt6 hL hG hb emm
      obtain ⟨k, ek⟩ : ∃ k, l.1 = k := ⟨_, rfl⟩
      obtain ⟨lk, elk⟩ : ∃ lk, (leftOf l).1 = lk := ⟨_, rfl⟩
      obtain ⟨lt, elt⟩ : ∃ lt, (leftOf l).2.1 = lt := ⟨_, rfl⟩
      obtain ⟨rk, erk⟩ : ∃ rk, (rightOf l).1 = rk := ⟨_, rfl⟩
      obtain ⟨rt, ert⟩ : ∃ rt, (rightOf l).2.1 = rt := ⟨_, rfl⟩
      rw [ek] at c0 HLok
      rw [elk] at c4
      rw [elt] at c5
      rw [erk] at c6
      rw [ert] at c7
      have eleft : leftOf l = (lk, lt, ()) := by rw [<- elk, <- elt]
      have eright : rightOf l = (rk, rt, ()) := by rw [<- erk, <- ert]
      generalize predOf l = s1 at c1
      generalize opOf l = s3 at c3
      have HK := Lib.hid (And.intro ek (And.intro eleft eright)); clear ek elk elt erk ert eleft eright
      obtain ⟨wx, ewx⟩ : ∃ wx, wr.alloc (.cells #[.int .i64 k, .string s1, .slice a mm cap2, .int .i64 s3, .int .i64 lk, .string lt, .int .i64 rk, .string rt] 40) = wx := ⟨_, rfl⟩
      have hB := Blk.new wr [.int .i64 k, .string s1, .slice a mm cap2, .int .i64 s3, .int .i64 lk, .string lt, .int .i64 rk, .string rt] 40
      have hWX : Ext w2 wx := by rw [<- ewx]; exact hex4.out.alloc _
      have hXX : Ext w wx := HX2.out.trans hWX
      obtain ⟨g, eg⟩ : ∃ g, g = wr.heap.size := ⟨_, rfl⟩
      have HGB := Lib.hid hB
      rw [<- eg] at HGB
      have ewx2 : wr.alloc (.cells [Value.int .i64 k, .string s1, .slice a mm cap2, .int .i64 s3, .int .i64 lk, .string lt, .int .i64 rk, .string rt].toArray 40) = wx := ewx
      rw [ewx2] at HGB
      have HWX := Lib.hid hWX
      have HXX := Lib.hid hXX
      have EG := Lib.hid (And.intro eg ewx)
      clear hB hWX hXX eg ewx ewx2
      by_cases h3 : k = 3
      ·have b3 : (k == 3) = true := by simp [h3]
       have n2 : ¬ k = 2 := by omega
       have HH3 := Lib.hid (And.intro h3 n2); clear h3 n2
       go_wp2_with fail
       rw [EG.out.2, <- EG.out.1]
       refine (HSafe.out _ HWX.out lk lt).mono ?_
       rintro e w5 ⟨v, rfl, hk5, rfl⟩
       have X6 := Lib.hid hk5
       have d6 : w5.cell? ⟨g, 6, none⟩ = some (.int .i64 rk) := by rw [(HGB.out.ext hk5).cell']; rfl
       have d7 : w5.cell? ⟨g, 7, none⟩ = some (.string rt) := by rw [(HGB.out.ext hk5).cell']; rfl
       clear hk5 c0 c1 c2 c3 c4 c5 c6 c7
       cases hsl : safeT (namesB ls) false (lk, lt, ())
       ·go_wp2
        go_ret
        refine RetN.mk (HXX.out.trans X6.out) ?_
        have hno : safeL (namesB ls) l = false := by unfold safeL; rw [if_pos (HK.out.1.trans HH3.out.1), HK.out.2.1, hsl]; rfl
        unfold checkR safeR
        rw [if_pos HP.out, if_neg (by rw [all_no HL.out.1 hno]; simp)]; rfl
       ·go_wp2_with fail
        refine (HSafe.out _ (HWX.out.trans X6.out) rk rt).mono ?_
        rintro e w7 ⟨v, rfl, hk7, rfl⟩
        have X7 := Lib.hid (X6.out.trans hk7)
        clear hk7 d6 d7
        cases hsr : safeT (namesB ls) false (rk, rt, ())
        ·go_wp2
         go_ret
         refine RetN.mk (HXX.out.trans X7.out) ?_
         have hno : safeL (namesB ls) l = false := by unfold safeL; rw [if_pos (HK.out.1.trans HH3.out.1), HK.out.2.1, HK.out.2.2, hsr, Bool.and_false]
         unfold checkR safeR
         rw [if_pos HP.out, if_neg (by rw [all_no HL.out.1 hno]; simp)]; rfl
        ·have HSL := Lib.hid (show safeL (namesB ls) l = (termsOf l).all (fun t => if k = 2 then safeT (namesB ls) true t else true) by
          unfold safeL; rw [if_pos (HK.out.1.trans HH3.out.1), HK.out.2.1, HK.out.2.2, hsl, hsr]
          exact (List.all_eq_true.2 (fun t _ => if_neg HH3.out.2)).symm)
         have HX7 := X7
         clear X7
         go_wp2
         go_loopw [7] (fun iv wr => AllTo wx (termsOf l) (fun t => if k = 2 then safeT (namesB ls) true t else true) mm iv wr) (fun iv _ => mm - (intOf iv).toNat)
         case atStart => exact ⟨0, Nat.zero_le _, rfl, rfl, HX7.out⟩
         case round =>
          obtain ⟨z, hz, rfl, hall8, hex8⟩ := hrel
          have X8 := Lib.hid (HXX.out.trans hex8.out)
          have d0 : wr.cell? ⟨g, 0, none⟩ = some (.int .i64 k) := by rw [(HGB.out.ext hex8.out).cell']; rfl
          have d2 : wr.cell? ⟨g, 2, none⟩ = some (.slice a mm cap2) := by rw [(HGB.out.ext hex8.out).cell']; rfl
          by_cases h2 : k = 2
          ·have b2 : (k == 2) = true := by simp [h2]
           have HH2 := Lib.hid h2; clear h2
           by_cases hlt7 : z < mm
           ·have hlt8 : z < (termsOf l).length := by rw [<- HM.out]; exact hlt7
            obtain ⟨t, ht⟩ : ∃ t, (termsOf l)[z]? = some t := ⟨_, List.getElem?_eq_getElem hlt8⟩
            obtain ⟨b9, off9, eao9, f0, f1, _⟩ := term_at (HL.out.2.terms.ext X8.out) ht
            subst eao9
            obtain ⟨kt, st, ⟨⟩⟩ := t
            simp only at f0 f1
            have HT := Lib.hid ht
            have hkt : 1 ≤ kt /\ kt ≤ 3 := by
             have h5 := HLok.out HH2.out
             unfold kinds at h5
             exact of_decide_eq_true (List.all_eq_true.1 h5 _ (List.mem_of_getElem? ht))
            have HKT := Lib.hid hkt
            clear ht hlt8 hkt
            by_cases h1 : kt = 1
            ·have n1 : (kt == 1) = true := by simp [h1]
             have hst : safeT (namesB ls) true (kt, st, ()) = hasT (namesB ls) st := by
              unfold safeT; rw [if_neg (by simp only; omega)]
              cases hasT (namesB ls) st
              ·exact decide_eq_false (by simp only; rintro (x | x | x) <;> first | omega | cases x)
              ·exact decide_eq_true (.inr (.inr rfl))
             have HST := Lib.hid hst; clear h1 hst
             go_wp2_with fail
             refine (HHas.out _ ((HWX.out.trans hex8.out).alloc _) st).mono ?_
             rintro e w9 ⟨v, rfl, hk9, rfl⟩
             have X9 := Lib.hid ((hex8.out.alloc _).trans hk9)
             clear hk9 f0 f1 d0 d2
             cases hqq : hasT (namesB ls) st
             ·go_wp2
              go_ret
              refine RetN.mk (HXX.out.trans X9.out) ?_
              have hno : safeL (namesB ls) l = false := by rw [HSL.out]; exact all_no HT.out (by show (if k = 2 then _ else _) = false; rw [if_pos HH2.out, HST.out]; exact hqq)
              unfold checkR safeR
              rw [if_pos HP.out, if_neg (by rw [all_no HL.out.1 hno]; simp)]; rfl
             ·go_wp2
              go_roundw
              case rel => exact ⟨z + 1, by omega, by first | rfl | (congr 1; done) | (congr 1; omega), by rw [all_take HT.out, hall8.out]; show (if k = 2 then _ else _) = true; rw [if_pos HH2.out, HST.out]; exact hqq, X9⟩
              case measure => simp [intOf]; omega
            ·have n1 : (kt == 1) = false := by simp [h1]
             have hst : safeT (namesB ls) true (kt, st, ()) = true := by
              have h3 := HKT.out
              unfold safeT
              by_cases h2 : kt = 2
              ·rw [if_pos h2]
              ·rw [if_neg h2]; exact decide_eq_true (.inl (by simp only; omega))
             have HST := Lib.hid hst; clear h1 hst
             go_wp2
             go_roundw
             case rel => exact ⟨z + 1, by omega, by first | rfl | (congr 1; done) | (congr 1; omega), by rw [all_take HT.out, hall8.out]; show (if k = 2 then _ else _) = true; rw [if_pos HH2.out]; exact HST.out, hex8.out.alloc _⟩
             case measure => simp [intOf]; omega
           ·have e : (termsOf l).take z = termsOf l := List.take_of_length_le (by have := HM.out; omega)
            have H9 := Lib.hid hall8.out
            rw [e] at H9
            clear e hall8
            have hzm : ¬ (z : Int) < (mm : Int) := by omega
            go_wp2
            go_roundw
            case rel => exact ⟨q + 1, by omega, by first | rfl | (congr 1; done) | (congr 1; omega), by rw [all_take HL.out.1, hall4.out, HSL.out, H9.out]; rfl, HWX.out.trans hex8.out⟩
            case measure => simp [intOf]; omega
          ·have b2 : (k == 2) = false := by simp [h2]
           have HH2 := Lib.hid h2; clear h2
           go_wp2
           go_roundw
           case rel => exact ⟨q + 1, by omega, by first | rfl | (congr 1; done) | (congr 1; omega), by rw [all_take HL.out.1, hall4.out, HSL.out, List.all_eq_true.2 (fun t _ => if_neg HH2.out)]; rfl, HWX.out.trans hex8.out⟩
           case measure => simp [intOf]; omega
      ·have b3 : (k == 3) = false := by simp [h3]
       have HSL := Lib.hid (show safeL (namesB ls) l = (termsOf l).all (fun t => if k = 2 then safeT (namesB ls) true t else true) by
        unfold safeL; rw [if_neg (fun x => h3 (HK.out.1.symm.trans x)), HK.out.1]
        by_cases h2 : k = 2
        ·rw [if_pos h2]; congr 1; funext t; rw [if_pos h2]
        ·rw [if_neg h2]; symm; rw [List.all_eq_true]; intro t _; rw [if_neg h2])
       have HH3 := Lib.hid h3; clear h3
       go_wp2
       rw [EG.out.2, <- EG.out.1]
       have HX7 := Lib.hid (Kp.refl (F := fun _ => False) wx)
       clear c0 c1 c2 c3 c4 c5 c6 c7
       go_loopw [7] (fun iv wr => AllTo wx (termsOf l) (fun t => if k = 2 then safeT (namesB ls) true t else true) mm iv wr) (fun iv _ => mm - (intOf iv).toNat)
       case atStart => exact ⟨0, Nat.zero_le _, rfl, rfl, HX7.out⟩
       case round =>
        obtain ⟨z, hz, rfl, hall8, hex8⟩ := hrel
        have X8 := Lib.hid (HXX.out.trans hex8.out)
        have d0 : wr.cell? ⟨g, 0, none⟩ = some (.int .i64 k) := by rw [(HGB.out.ext hex8.out).cell']; rfl
        have d2 : wr.cell? ⟨g, 2, none⟩ = some (.slice a mm cap2) := by rw [(HGB.out.ext hex8.out).cell']; rfl
        by_cases h2 : k = 2
        ·have b2 : (k == 2) = true := by simp [h2]
         have HH2 := Lib.hid h2; clear h2
         by_cases hlt7 : z < mm
         ·have hlt8 : z < (termsOf l).length := by rw [<- HM.out]; exact hlt7
          obtain ⟨t, ht⟩ : ∃ t, (termsOf l)[z]? = some t := ⟨_, List.getElem?_eq_getElem hlt8⟩
          obtain ⟨b9, off9, eao9, f0, f1, _⟩ := term_at (HL.out.2.terms.ext X8.out) ht
          subst eao9
          obtain ⟨kt, st, ⟨⟩⟩ := t
          simp only at f0 f1
          have HT := Lib.hid ht
          have hkt : 1 ≤ kt /\ kt ≤ 3 := by
           have h5 := HLok.out HH2.out
           unfold kinds at h5
           exact of_decide_eq_true (List.all_eq_true.1 h5 _ (List.mem_of_getElem? ht))
          have HKT := Lib.hid hkt
          clear ht hlt8 hkt
          by_cases h1 : kt = 1
          ·have n1 : (kt == 1) = true := by simp [h1]
           have hst : safeT (namesB ls) true (kt, st, ()) = hasT (namesB ls) st := by
            unfold safeT; rw [if_neg (by simp only; omega)]
            cases hasT (namesB ls) st
            ·exact decide_eq_false (by simp only; rintro (x | x | x) <;> first | omega | cases x)
            ·exact decide_eq_true (.inr (.inr rfl))
           have HST := Lib.hid hst; clear h1 hst
           go_wp2_with fail
           refine (HHas.out _ ((HWX.out.trans hex8.out).alloc _) st).mono ?_
           rintro e w9 ⟨v, rfl, hk9, rfl⟩
           have X9 := Lib.hid ((hex8.out.alloc _).trans hk9)
           clear hk9 f0 f1 d0 d2
           cases hqq : hasT (namesB ls) st
           ·go_wp2
            go_ret
            refine RetN.mk (HXX.out.trans X9.out) ?_
            have hno : safeL (namesB ls) l = false := by rw [HSL.out]; exact all_no HT.out (by show (if k = 2 then _ else _) = false; rw [if_pos HH2.out, HST.out]; exact hqq)
            unfold checkR safeR
            rw [if_pos HP.out, if_neg (by rw [all_no HL.out.1 hno]; simp)]; rfl
           ·go_wp2
            go_roundw
            case rel => exact ⟨z + 1, by omega, by first | rfl | (congr 1; done) | (congr 1; omega), by rw [all_take HT.out, hall8.out]; show (if k = 2 then _ else _) = true; rw [if_pos HH2.out, HST.out]; exact hqq, X9⟩
            case measure => simp [intOf]; omega
          ·have n1 : (kt == 1) = false := by simp [h1]
           have hst : safeT (namesB ls) true (kt, st, ()) = true := by
            have h3 := HKT.out
            unfold safeT
            by_cases h2 : kt = 2
            ·rw [if_pos h2]
            ·rw [if_neg h2]; exact decide_eq_true (.inl (by simp only; omega))
           have HST := Lib.hid hst; clear h1 hst
           go_wp2
           go_roundw
           case rel => exact ⟨z + 1, by omega, by first | rfl | (congr 1; done) | (congr 1; omega), by rw [all_take HT.out, hall8.out]; show (if k = 2 then _ else _) = true; rw [if_pos HH2.out]; exact HST.out, hex8.out.alloc _⟩
           case measure => simp [intOf]; omega
         ·have e : (termsOf l).take z = termsOf l := List.take_of_length_le (by have := HM.out; omega)
          have H9 := Lib.hid hall8.out
          rw [e] at H9
          clear e hall8
          have hzm : ¬ (z : Int) < (mm : Int) := by omega
          go_wp2
          go_roundw
          case rel => exact ⟨q + 1, by omega, by first | rfl | (congr 1; done) | (congr 1; omega), by rw [all_take HL.out.1, hall4.out, HSL.out, H9.out]; rfl, HWX.out.trans hex8.out⟩
          case measure => simp [intOf]; omega
        ·have b2 : (k == 2) = false := by simp [h2]
         have HH2 := Lib.hid h2; clear h2
         go_wp2
         go_roundw
         case rel => exact ⟨q + 1, by omega, by first | rfl | (congr 1; done) | (congr 1; omega), by rw [all_take HL.out.1, hall4.out, HSL.out, List.all_eq_true.2 (fun t _ => if_neg HH2.out)]; rfl, HWX.out.trans hex8.out⟩
         case measure => simp [intOf]; omega
     ·have e : ls.take q = ls := List.take_of_length_le (by have := HN.out; omega)
      have HC := Lib.hid hall4.out
      rw [e] at HC
      clear e hall4
      have hqn : ¬ (q : Int) < (n : Int) := by omega
      go_wp2
      go_ret
      refine RetN.mk X5.out ?_
      unfold checkR safeR
      rw [if_pos HP.out, if_pos (by simp only [Bool.and_eq_true]; exact ⟨HB.out, HC.out⟩)]; rfl
set_option maxRecDepth 100000 in
theorem refVars_any (p : ByteArray) (hs : List TermZ) (ls : List LitZ) (ha : Option Addr) (hn hcap : Nat) (ba : Option Addr) (n bcap : Nat) (w : World) (G : Nat -> Prop) (hhn : hn = hs.length) (hh : TermsAt w G ha hs) (hhl : hn ≤ 1048576) (hbn : n = ls.length) (h : LitsAt w G ba ls) (hf : Fit ls) (hc : checkR ((p, hs, ()), ls, ()) = 0) :
 Calls Tryz.prog 22 #[ruleV p ha hn hcap ba n bcap] w (RetN w fun w' v => ∃ ao cap, v = .slice ao (namesB ls).length cap /\ (namesB ls).length ≤ cap /\ CellsAt w' ao (strs (namesB ls))) := by
 have h1 := fun (W : World) (hW : Ext w W) => refCheck_any p hs ls ha hn hcap ba n bcap W G hhn (hh.ext hW) hhl hbn (h.ext hW) hf
 rw [hc] at h1
 have HC := Lib.hid h1
 have HV := Lib.hid (fun (W : World) (hW : Ext w W) => names14_any p ha hn hcap ls ba n bcap W G hbn (h.ext hW) hf)
 clear h1 hhn hh hbn h hf hc
 go_enter Tryz.func22, Tryz.ntmps22
 go_wp2_with fail
 refine (HC.out _ ((Kp.refl _).alloc _)).mono ?_
 rintro e w1 ⟨v, rfl, hk1, rfl⟩
 have bb := (Blk.new w [.string p, .slice ha hn hcap, .slice ba n bcap] 27).ext hk1
 have c0 : w1.cell? ⟨w.heap.size, 0, none⟩ = some (.string p) := by rw [bb.cell']; rfl
 have c1 : w1.cell? ⟨w.heap.size, 1, none⟩ = some (.slice ha hn hcap) := by rw [bb.cell']; rfl
 have c2 : w1.cell? ⟨w.heap.size, 2, none⟩ = some (.slice ba n bcap) := by rw [bb.cell']; rfl
 have X1 := Lib.hid (((Kp.refl _).alloc _).trans hk1)
 clear hk1 bb
 go_wp2_with fail
 refine (HV.out _ X1.out).mono ?_
 rintro e w2 ⟨v, rfl, hk2, ao, cap, rfl, h1, h2⟩
 have X2 := Lib.hid (And.intro (X1.out.trans hk2) (And.intro h1 h2))
 clear hk2 h1 h2 c0 c1 c2
 go_wp2
 go_ret
 exact RetN.mk X2.out.1 ⟨ao, cap, rfl, X2.out.2⟩
end Go.Proofs.YtinnmeiphbdogaaGreat

/- Lists of elements of several cells; rows of one's own and their blocks; appends in a region that draws its order. No program in sight. -/
namespace Go.Proofs.YtinnmeiphbdogaaGreat
open Go.RowKit
set_option linter.unusedVariables false
theorem flat_get {α : Type} (f : α -> List Value) (k : Nat) (hk : ∀ x, (f x).length = k) : ∀ (L : List α) (i : Nat) (x : α) (c : Nat), L[i]? = some x -> c < k -> (L.flatMap f)[i * k + c]? = (f x)[c]?
 | [], i, x, c, h, _ => by simp at h
 | a :: L, 0, x, c, h, hc => by
  simp at h; subst h
  rw [List.flatMap_cons, Nat.zero_mul, Nat.zero_add, List.getElem?_append_left (by rw [hk]; exact hc)]
 | a :: L, i + 1, x, c, h, hc => by
  rw [List.flatMap_cons, List.getElem?_append_right (by rw [hk, Nat.succ_mul]; omega), hk]
  have := flat_get f k hk L i x c (by simpa using h) hc
  rw [<- this]; congr 1; rw [Nat.succ_mul]; omega
theorem flat_len {α : Type} (f : α -> List Value) (k : Nat) (hk : ∀ x, (f x).length = k) (L : List α) : (L.flatMap f).length = L.length * k := by
 induction L with
 | nil => simp
 | cons a L ih => rw [List.flatMap_cons, List.length_append, hk, ih, List.length_cons, Nat.succ_mul]; omega
theorem Row.blkOf {w : World} {e : TypeId} {k : Nat} {v : Value} {n : Nat} {xs : List Value} {M : Nat -> Prop} (h : Row w e k v n xs M) {g : Nat} (hg : v.ownBlock = some g) : ∃ cs, Blk w g cs e := by
 obtain ⟨h1, ⟨rfl, rfl⟩ | ⟨g', cap, rest, rfl, b, c, d⟩⟩ := h
 ·cases hg
 ·cases hg; exact ⟨_, c⟩
theorem blk_ne {w : World} {g : Nat} {cs cs' : List Value} {e e' : TypeId} (h : Blk w g cs e) (h' : Blk w g cs' e') : e = e' := by
 unfold Blk at h h'; rw [h] at h'; injection h' with h'; injection h'
theorem CellsAt.new (w : World) (xs : List Value) (e : TypeId) : CellsAt (w.alloc (.cells xs.toArray e)) (some ⟨w.heap.size, 0, none⟩) xs := CellsAt.pre (rest := []) (by rw [List.append_nil]; exact Blk.new w xs e)
end Go.Proofs.YtinnmeiphbdogaaGreat

/- Rules as cells: terms, literals cell by cell. -/
namespace Go.Proofs.YtinnmeiphbdogaaGreat
open Go.RowKit
set_option linter.unusedVariables false
def SameTo (w0 : World) (n : Nat) (iv : Value) (w : World) : Prop := ∃ i : Nat, i ≤ n /\ iv = .int .i64 i /\ Hid (Ext w0 w)
def termC (t : TermZ) : List Value := [.int .i64 t.1, .string t.2.1]
theorem termC_len (t : TermZ) : (termC t).length = 2 := rfl
def tcells (ts : List TermZ) : List Value := ts.flatMap termC
theorem tcells_len (ts : List TermZ) : (tcells ts).length = ts.length * 2 := flat_len termC 2 termC_len ts
theorem elem_term : ElemT Tryz.prog 22 38 2 24 (.agg #[.int .i64 0, .string ⟨#[]⟩]) := ⟨by kernel_rfl, by kernel_rfl, rfl, by decide⟩
theorem elem_lit : ElemT Tryz.prog 25 40 8 104 (.agg #[.int .i64 0, .string ⟨#[]⟩, .slice none 0 0, .int .i64 0, .int .i64 0, .string ⟨#[]⟩, .int .i64 0, .string ⟨#[]⟩]) := ⟨by kernel_rfl, by kernel_rfl, rfl, by decide⟩
theorem elems_cells {α : Type} {s : Shp Tryz.prog α} {f : α -> List Value} {w : World} {G : Nat -> Prop} {ao : Option Addr} {xs : List α} (hn : 0 < s.n) (hf : ∀ x, (f x).length = s.n) (hat : ∀ es x, s.At w G es x -> es = f x) (h : ElemsAt s w G ao xs) : CellsAt w ao (xs.flatMap f) := fun i u hu => by
 have hq := Nat.div_add_mod i s.n
 have hm := Nat.mod_lt i hn
 have hl := (List.getElem?_eq_some_iff.1 hu).1
 rw [flat_len f s.n hf] at hl
 have hi : i / s.n < xs.length := Nat.div_lt_of_lt_mul (by rw [Nat.mul_comm]; exact hl)
 obtain ⟨b, off, es, e, _, _, ha, hc⟩ := h (i / s.n) _ (List.getElem?_eq_getElem hi)
 have hg := flat_get f s.n hf xs (i / s.n) _ (i % s.n) (List.getElem?_eq_getElem hi) hm
 have e1 : i / s.n * s.n + i % s.n = i := by rw [Nat.mul_comm]; exact hq
 rw [e1, hu] at hg
 have := hc (i % s.n) u (by rw [hat es _ ha]; exact hg.symm)
 rw [e1] at this
 exact ⟨b, off, e, this⟩
theorem terms_cells {w : World} {G : Nat -> Prop} {ao : Option Addr} {ts : List TermZ} (h : TermsAt w G ao ts) : CellsAt w ao (tcells ts) :=
 elems_cells (s := shTerm) (f := termC) (by decide) (fun x => rfl) (fun es x ha => term_cells ha) h
theorem elems_of {α : Type} {s : Shp Tryz.prog α} {f : α -> List Value} {w : World} {G : Nat -> Prop} {g : Nat} {xs : List α} {rest : List Value} {e : TypeId} (hf : ∀ x, (f x).length = s.n) (hat : ∀ (i : Nat) x, xs[i]? = some x -> s.At w G (f x) x) (hG : G g) (hB : Blk w g (xs.flatMap f ++ rest) e) : ElemsAt s w G (some ⟨g, 0, none⟩) xs := fun i x hi => by
 refine ⟨g, 0, f x, rfl, hG, hB.lt, hat i x hi, fun c u hu => ?_⟩
 have hc : c < s.n := by rw [<- hf x]; exact (List.getElem?_eq_some_iff.1 hu).1
 have hg := flat_get f s.n hf xs i x c hi hc
 rw [hB.cell', Nat.zero_add, List.getElem?_append_left (by
  have := (List.getElem?_eq_some_iff.1 (hg.trans hu)).1
  exact this), hg, hu]
theorem term_mk {w : World} {G : Nat -> Prop} {t : TermZ} (h : TermFit t) : shTerm.At w G (termC t) t := ⟨[.int .i64 t.1], [.string t.2.1], rfl, ⟨rfl, h.1⟩, [.string t.2.1], [], rfl, ⟨rfl, h.2⟩, rfl⟩
theorem terms_fit {w : World} {G : Nat -> Prop} {ao : Option Addr} {ts : List TermZ} (h : TermsAt w G ao ts) : ∀ t ∈ ts, TermFit t := fun t ht => by
 obtain ⟨i, hi⟩ := List.mem_iff_getElem?.1 ht
 obtain ⟨b, off, es, e, _, _, ha, _⟩ := h i t hi
 exact term_fit ha
theorem tcells_snoc (ts : List TermZ) (t : TermZ) : tcells (ts ++ [t]) = tcells ts ++ termC t := by unfold tcells; rw [List.flatMap_append]; simp
theorem tcells_one (ts : List TermZ) : ∀ u ∈ tcells ts, u.oneCell' = true := fun u hu => by
 obtain ⟨t, _, h⟩ := List.mem_flatMap.1 hu
 simp [termC] at h
 rcases h with rfl | rfl <;> rfl
def litC (x : LitZ × (Option Addr × Nat)) : List Value := [.int .i64 x.1.1, .string (predOf x.1), .slice x.2.1 (termsOf x.1).length x.2.2, .int .i64 (opOf x.1), .int .i64 (leftOf x.1).1, .string (leftOf x.1).2.1, .int .i64 (rightOf x.1).1, .string (rightOf x.1).2.1]
theorem litC_len (x : LitZ × (Option Addr × Nat)) : (litC x).length = 8 := rfl
structure LitAll (l : LitZ) : Prop where
 kind : (Lit.int .i64 l.1).wf = true
 pred : (predOf l).size ≤ maxLen
 terms : ∀ t ∈ termsOf l, TermFit t
 op : (Lit.int .i64 (opOf l)).wf = true
 left : TermFit (leftOf l)
 right : TermFit (rightOf l)
theorem lits_all {w : World} {G : Nat -> Prop} {ao : Option Addr} {ls : List LitZ} (h : LitsAt w G ao ls) : ∀ l ∈ ls, LitAll l := fun l hl => by
 obtain ⟨i, hi⟩ := List.mem_iff_getElem?.1 hl
 obtain ⟨b, off, es, e, _, _, ha, _⟩ := h i l hi
 obtain ⟨a1, b1, e1, ⟨e2, k2⟩, ⟨a3, b3, e3, h3, ⟨a4, b4, e4, ⟨e5, k5⟩, ⟨a6, b6, e6, h6, ⟨a7, b7, e7, h7, e8⟩⟩⟩⟩⟩ := ha
 obtain ⟨c1, d1, f1, ⟨f2, g2⟩, ⟨c3, d3, f3, ⟨ao', cap, f4, g1, g3, g4⟩, f5⟩⟩ := h3
 exact ⟨k2, g2, terms_fit g4, k5, term_fit h6, term_fit h7⟩
theorem lit_mk {w : World} {G : Nat -> Prop} {l : LitZ} (h : LitAll l) {a : Option Addr} {cap : Nat} (ht : TermsAt w G a (termsOf l)) (h1 : (termsOf l).length ≤ cap) (h2 : cap ≤ maxLen) : shLit.At w G (litC (l, (a, cap))) l :=
 ⟨[.int .i64 l.1], _, rfl, ⟨rfl, h.kind⟩, ⟨[.string (predOf l), .slice a (termsOf l).length cap], _, rfl, ⟨[.string (predOf l)], _, rfl, ⟨rfl, h.pred⟩, [.slice a (termsOf l).length cap], [], rfl, ⟨a, cap, rfl, h1, h2, ht⟩, rfl⟩,
   ⟨[.int .i64 (opOf l)], _, rfl, ⟨rfl, h.op⟩, ⟨termC (leftOf l), _, rfl, term_mk h.left, ⟨termC (rightOf l), [], rfl, term_mk h.right, rfl⟩⟩⟩⟩⟩
theorem lits_cells {w : World} {G : Nat -> Prop} {g : Nat} {ls : List LitZ} {vs : List (Option Addr × Nat)} {rest : List Value} {e : TypeId} (hl : vs.length = ls.length) (hall : ∀ l ∈ ls, LitAll l) (ht : ∀ x ∈ ls.zip vs, TermsAt w G x.2.1 (termsOf x.1) /\ (termsOf x.1).length ≤ x.2.2 /\ x.2.2 ≤ maxLen) (hG : G g) (hB : Blk w g ((ls.zip vs).flatMap litC ++ rest) e) : LitsAt w G (some ⟨g, 0, none⟩) ls := fun i l hi => by
 have hv : i < vs.length := by rw [hl]; exact (List.getElem?_eq_some_iff.1 hi).1
 have hz : (ls.zip vs)[i]? = some (l, vs[i]) := by rw [List.getElem?_zip_eq_some]; exact ⟨hi, List.getElem?_eq_getElem hv⟩
 obtain ⟨t1, t2, t3⟩ := ht _ (List.mem_of_getElem? hz)
 refine ⟨g, 0, litC (l, vs[i]), rfl, hG, hB.lt, lit_mk (hall l (List.mem_of_getElem? hi)) t1 t2 t3, fun c u hu => ?_⟩
 have hc : c < 8 := (List.getElem?_eq_some_iff.1 hu).1
 have hg := flat_get litC 8 litC_len (ls.zip vs) i _ c hz hc
 rw [show shLit.n = 8 from rfl, hB.cell', Nat.zero_add, List.getElem?_append_left (List.getElem?_eq_some_iff.1 (hg.trans hu)).1, hg, hu]
theorem typ_tl : 38 ≠ 40 := by decide
theorem typ_tr : 38 ≠ 27 := by decide
theorem typ_lrC : 40 ≠ 27 := by decide
theorem litC_one (x : LitZ × (Option Addr × Nat)) : ∀ u ∈ litC x, u.oneCell' = true := fun u hu => by
 simp [litC] at hu
 rcases hu with rfl | rfl | rfl | rfl | rfl | rfl | rfl | rfl <;> rfl
end Go.Proofs.YtinnmeiphbdogaaGreat

/- The law of joins: num, v, c, blank, pos, neg, cmp, rule. -/
namespace Go.Proofs.YtinnmeiphbdogaaGreat
open Go.RowKit
set_option linter.unusedVariables false
set_option maxRecDepth 100000 in
theorem num14_any (k : Int) (w : World) : Calls Tryz.prog 20 #[.int .i64 k] w (RetN w fun w' u => u = .int .i64 k) := by
 go_enter Tryz.func20, Tryz.ntmps20
 go_wp2
 go_ret
 exact RetN.mk (Kp.refl _) rfl
set_option maxRecDepth 100000 in
theorem v14_any (s : ByteArray) (w : World) : Calls Tryz.prog 29 #[.string s] w (RetN w fun w' u => u = .agg #[.int .i64 1, .string s]) := by
 obtain ⟨g0, eg0⟩ : ∃ g, w.heap.size = g := ⟨_, rfl⟩
 obtain ⟨wb, eb⟩ : ∃ wb, (w.alloc (.cells #[.int .i64 0, .string ⟨#[]⟩] 38)) = wb := ⟨_, rfl⟩
 have hB : Blk wb (g0) [.int .i64 0, .string ⟨#[]⟩] 38 := by rw [<- eb, <- eg0]; exact Blk.new w _ _
 have HX := Lib.hid (show Ext w wb by rw [<- eb]; exact ((Kp.refl w).alloc _))
 have HB := Lib.hid (And.intro hB eg0)
 have f0 := hB.free 0
 have u0 : wb.cell? ⟨g0, 0, none⟩ = some (.int .i64 0) := by rw [hB.cell']; rfl
 have f1 := hB.free 1
 have u1 : wb.cell? ⟨g0, 1, none⟩ = some (.string ⟨#[]⟩) := by rw [hB.cell']; rfl
 clear hB
 go_enter Tryz.func29, Tryz.ntmps29
 go_wp2
 obtain ⟨W, eW⟩ : ∃ x, ((wb.setCell ⟨g0, 0, none⟩ (.int .i64 1)).setCell ⟨g0, 1, none⟩ (.string s)) = x := ⟨_, rfl⟩
 have hBW : Blk W (g0) [.int .i64 1, .string s] 38 := by rw [<- eW]; exact ((HB.out.1.set 0 _).set 1 _)
 have kW : Kp (fun k => k = g0) wb W := by rw [<- eW]; exact (Kp.setCell (F := fun k => k = g0) (p := ⟨g0, 1, none⟩) (Kp.setCell (F := fun k => k = g0) (p := ⟨g0, 0, none⟩) (Kp.refl wb) (fun _ => rfl) _) (fun _ => rfl) _)
 have d0 : W.cell? ⟨g0, 0, none⟩ = some (.int .i64 1) := by rw [hBW.cell']; rfl
 have d1 : W.cell? ⟨g0, 1, none⟩ = some (.string s) := by rw [hBW.cell']; rfl
 rw [eW]
 refine bodyPost_ret (v := .agg #[.int .i64 1, .string s]) (by simp [results, Tryz.results29, go_sem, d0, d1]) rfl ?_
 exact RetN.mk (HX.out.trans' kW fun i hi e => by have := HB.out.2; omega) rfl
set_option maxRecDepth 100000 in
theorem pos14_any (p : ByteArray) (a : Option Addr) (n c : Nat) (w : World) : Calls Tryz.prog 31 #[.string p, .slice a n c] w (RetN w fun w' u => u = .agg #[.int .i64 1, .string p, .slice a n c, .int .i64 0, .int .i64 0, .string ⟨#[]⟩, .int .i64 0, .string ⟨#[]⟩]) := by
 obtain ⟨g0, eg0⟩ : ∃ g, w.heap.size = g := ⟨_, rfl⟩
 obtain ⟨wb, eb⟩ : ∃ wb, (w.alloc (.cells #[.int .i64 0, .string ⟨#[]⟩, .slice none 0 0, .int .i64 0, .int .i64 0, .string ⟨#[]⟩, .int .i64 0, .string ⟨#[]⟩] 40)) = wb := ⟨_, rfl⟩
 have hB : Blk wb (g0) [.int .i64 0, .string ⟨#[]⟩, .slice none 0 0, .int .i64 0, .int .i64 0, .string ⟨#[]⟩, .int .i64 0, .string ⟨#[]⟩] 40 := by rw [<- eb, <- eg0]; exact Blk.new w _ _
 have HX := Lib.hid (show Ext w wb by rw [<- eb]; exact ((Kp.refl w).alloc _))
 have HB := Lib.hid (And.intro hB eg0)
 have f0 := hB.free 0
 have u0 : wb.cell? ⟨g0, 0, none⟩ = some (.int .i64 0) := by rw [hB.cell']; rfl
 have f1 := hB.free 1
 have u1 : wb.cell? ⟨g0, 1, none⟩ = some (.string ⟨#[]⟩) := by rw [hB.cell']; rfl
 have f2 := hB.free 2
 have u2 : wb.cell? ⟨g0, 2, none⟩ = some (.slice none 0 0) := by rw [hB.cell']; rfl
 have f3 := hB.free 3
 have u3 : wb.cell? ⟨g0, 3, none⟩ = some (.int .i64 0) := by rw [hB.cell']; rfl
 have f4 := hB.free 4
 have u4 : wb.cell? ⟨g0, 4, none⟩ = some (.int .i64 0) := by rw [hB.cell']; rfl
 have f5 := hB.free 5
 have u5 : wb.cell? ⟨g0, 5, none⟩ = some (.string ⟨#[]⟩) := by rw [hB.cell']; rfl
 have f6 := hB.free 6
 have u6 : wb.cell? ⟨g0, 6, none⟩ = some (.int .i64 0) := by rw [hB.cell']; rfl
 have f7 := hB.free 7
 have u7 : wb.cell? ⟨g0, 7, none⟩ = some (.string ⟨#[]⟩) := by rw [hB.cell']; rfl
 clear hB
 go_enter Tryz.func31, Tryz.ntmps31
 go_wp2
 obtain ⟨W, eW⟩ : ∃ x, ((((((((wb.setCell ⟨g0, 0, none⟩ (.int .i64 1)).setCell ⟨g0, 1, none⟩ (.string p)).setCell ⟨g0, 2, none⟩ (.slice a n c)).setCell ⟨g0, 3, none⟩ (.int .i64 0)).setCell ⟨g0, 4, none⟩ (.int .i64 0)).setCell ⟨g0, 5, none⟩ (.string ⟨#[]⟩)).setCell ⟨g0, 6, none⟩ (.int .i64 0)).setCell ⟨g0, 7, none⟩ (.string ⟨#[]⟩)) = x := ⟨_, rfl⟩
 have hBW : Blk W (g0) [.int .i64 1, .string p, .slice a n c, .int .i64 0, .int .i64 0, .string ⟨#[]⟩, .int .i64 0, .string ⟨#[]⟩] 40 := by rw [<- eW]; exact ((((((((HB.out.1.set 0 _).set 1 _).set 2 _).set 3 _).set 4 _).set 5 _).set 6 _).set 7 _)
 have kW : Kp (fun k => k = g0) wb W := by rw [<- eW]; exact (Kp.setCell (F := fun k => k = g0) (p := ⟨g0, 7, none⟩) (Kp.setCell (F := fun k => k = g0) (p := ⟨g0, 6, none⟩) (Kp.setCell (F := fun k => k = g0) (p := ⟨g0, 5, none⟩) (Kp.setCell (F := fun k => k = g0) (p := ⟨g0, 4, none⟩) (Kp.setCell (F := fun k => k = g0) (p := ⟨g0, 3, none⟩) (Kp.setCell (F := fun k => k = g0) (p := ⟨g0, 2, none⟩) (Kp.setCell (F := fun k => k = g0) (p := ⟨g0, 1, none⟩) (Kp.setCell (F := fun k => k = g0) (p := ⟨g0, 0, none⟩) (Kp.refl wb) (fun _ => rfl) _) (fun _ => rfl) _) (fun _ => rfl) _) (fun _ => rfl) _) (fun _ => rfl) _) (fun _ => rfl) _) (fun _ => rfl) _) (fun _ => rfl) _)
 have d0 : W.cell? ⟨g0, 0, none⟩ = some (.int .i64 1) := by rw [hBW.cell']; rfl
 have d1 : W.cell? ⟨g0, 1, none⟩ = some (.string p) := by rw [hBW.cell']; rfl
 have d2 : W.cell? ⟨g0, 2, none⟩ = some (.slice a n c) := by rw [hBW.cell']; rfl
 have d3 : W.cell? ⟨g0, 3, none⟩ = some (.int .i64 0) := by rw [hBW.cell']; rfl
 have d4 : W.cell? ⟨g0, 4, none⟩ = some (.int .i64 0) := by rw [hBW.cell']; rfl
 have d5 : W.cell? ⟨g0, 5, none⟩ = some (.string ⟨#[]⟩) := by rw [hBW.cell']; rfl
 have d6 : W.cell? ⟨g0, 6, none⟩ = some (.int .i64 0) := by rw [hBW.cell']; rfl
 have d7 : W.cell? ⟨g0, 7, none⟩ = some (.string ⟨#[]⟩) := by rw [hBW.cell']; rfl
 rw [eW]
 refine bodyPost_ret (v := .agg #[.int .i64 1, .string p, .slice a n c, .int .i64 0, .int .i64 0, .string ⟨#[]⟩, .int .i64 0, .string ⟨#[]⟩]) (by simp [results, Tryz.results31, go_sem, d0, d1, d2, d3, d4, d5, d6, d7]) rfl ?_
 exact RetN.mk (HX.out.trans' kW fun i hi e => by have := HB.out.2; omega) rfl
set_option maxRecDepth 100000 in
theorem neg14_any (p : ByteArray) (a : Option Addr) (n c : Nat) (w : World) : Calls Tryz.prog 32 #[.string p, .slice a n c] w (RetN w fun w' u => u = .agg #[.int .i64 2, .string p, .slice a n c, .int .i64 0, .int .i64 0, .string ⟨#[]⟩, .int .i64 0, .string ⟨#[]⟩]) := by
 obtain ⟨g0, eg0⟩ : ∃ g, w.heap.size = g := ⟨_, rfl⟩
 obtain ⟨wb, eb⟩ : ∃ wb, (w.alloc (.cells #[.int .i64 0, .string ⟨#[]⟩, .slice none 0 0, .int .i64 0, .int .i64 0, .string ⟨#[]⟩, .int .i64 0, .string ⟨#[]⟩] 40)) = wb := ⟨_, rfl⟩
 have hB : Blk wb (g0) [.int .i64 0, .string ⟨#[]⟩, .slice none 0 0, .int .i64 0, .int .i64 0, .string ⟨#[]⟩, .int .i64 0, .string ⟨#[]⟩] 40 := by rw [<- eb, <- eg0]; exact Blk.new w _ _
 have HX := Lib.hid (show Ext w wb by rw [<- eb]; exact ((Kp.refl w).alloc _))
 have HB := Lib.hid (And.intro hB eg0)
 have f0 := hB.free 0
 have u0 : wb.cell? ⟨g0, 0, none⟩ = some (.int .i64 0) := by rw [hB.cell']; rfl
 have f1 := hB.free 1
 have u1 : wb.cell? ⟨g0, 1, none⟩ = some (.string ⟨#[]⟩) := by rw [hB.cell']; rfl
 have f2 := hB.free 2
 have u2 : wb.cell? ⟨g0, 2, none⟩ = some (.slice none 0 0) := by rw [hB.cell']; rfl
 have f3 := hB.free 3
 have u3 : wb.cell? ⟨g0, 3, none⟩ = some (.int .i64 0) := by rw [hB.cell']; rfl
 have f4 := hB.free 4
 have u4 : wb.cell? ⟨g0, 4, none⟩ = some (.int .i64 0) := by rw [hB.cell']; rfl
 have f5 := hB.free 5
 have u5 : wb.cell? ⟨g0, 5, none⟩ = some (.string ⟨#[]⟩) := by rw [hB.cell']; rfl
 have f6 := hB.free 6
 have u6 : wb.cell? ⟨g0, 6, none⟩ = some (.int .i64 0) := by rw [hB.cell']; rfl
 have f7 := hB.free 7
 have u7 : wb.cell? ⟨g0, 7, none⟩ = some (.string ⟨#[]⟩) := by rw [hB.cell']; rfl
 clear hB
 go_enter Tryz.func32, Tryz.ntmps32
 go_wp2
 obtain ⟨W, eW⟩ : ∃ x, ((((((((wb.setCell ⟨g0, 0, none⟩ (.int .i64 2)).setCell ⟨g0, 1, none⟩ (.string p)).setCell ⟨g0, 2, none⟩ (.slice a n c)).setCell ⟨g0, 3, none⟩ (.int .i64 0)).setCell ⟨g0, 4, none⟩ (.int .i64 0)).setCell ⟨g0, 5, none⟩ (.string ⟨#[]⟩)).setCell ⟨g0, 6, none⟩ (.int .i64 0)).setCell ⟨g0, 7, none⟩ (.string ⟨#[]⟩)) = x := ⟨_, rfl⟩
 have hBW : Blk W (g0) [.int .i64 2, .string p, .slice a n c, .int .i64 0, .int .i64 0, .string ⟨#[]⟩, .int .i64 0, .string ⟨#[]⟩] 40 := by rw [<- eW]; exact ((((((((HB.out.1.set 0 _).set 1 _).set 2 _).set 3 _).set 4 _).set 5 _).set 6 _).set 7 _)
 have kW : Kp (fun k => k = g0) wb W := by rw [<- eW]; exact (Kp.setCell (F := fun k => k = g0) (p := ⟨g0, 7, none⟩) (Kp.setCell (F := fun k => k = g0) (p := ⟨g0, 6, none⟩) (Kp.setCell (F := fun k => k = g0) (p := ⟨g0, 5, none⟩) (Kp.setCell (F := fun k => k = g0) (p := ⟨g0, 4, none⟩) (Kp.setCell (F := fun k => k = g0) (p := ⟨g0, 3, none⟩) (Kp.setCell (F := fun k => k = g0) (p := ⟨g0, 2, none⟩) (Kp.setCell (F := fun k => k = g0) (p := ⟨g0, 1, none⟩) (Kp.setCell (F := fun k => k = g0) (p := ⟨g0, 0, none⟩) (Kp.refl wb) (fun _ => rfl) _) (fun _ => rfl) _) (fun _ => rfl) _) (fun _ => rfl) _) (fun _ => rfl) _) (fun _ => rfl) _) (fun _ => rfl) _) (fun _ => rfl) _)
 have d0 : W.cell? ⟨g0, 0, none⟩ = some (.int .i64 2) := by rw [hBW.cell']; rfl
 have d1 : W.cell? ⟨g0, 1, none⟩ = some (.string p) := by rw [hBW.cell']; rfl
 have d2 : W.cell? ⟨g0, 2, none⟩ = some (.slice a n c) := by rw [hBW.cell']; rfl
 have d3 : W.cell? ⟨g0, 3, none⟩ = some (.int .i64 0) := by rw [hBW.cell']; rfl
 have d4 : W.cell? ⟨g0, 4, none⟩ = some (.int .i64 0) := by rw [hBW.cell']; rfl
 have d5 : W.cell? ⟨g0, 5, none⟩ = some (.string ⟨#[]⟩) := by rw [hBW.cell']; rfl
 have d6 : W.cell? ⟨g0, 6, none⟩ = some (.int .i64 0) := by rw [hBW.cell']; rfl
 have d7 : W.cell? ⟨g0, 7, none⟩ = some (.string ⟨#[]⟩) := by rw [hBW.cell']; rfl
 rw [eW]
 refine bodyPost_ret (v := .agg #[.int .i64 2, .string p, .slice a n c, .int .i64 0, .int .i64 0, .string ⟨#[]⟩, .int .i64 0, .string ⟨#[]⟩]) (by simp [results, Tryz.results32, go_sem, d0, d1, d2, d3, d4, d5, d6, d7]) rfl ?_
 exact RetN.mk (HX.out.trans' kW fun i hi e => by have := HB.out.2; omega) rfl
set_option maxRecDepth 100000 in
theorem rule14_any (ha ba : Option Addr) (hn hc n c : Nat) (w : World) : Calls Tryz.prog 30 #[.slice ha hn hc, .slice ba n c] w (RetN w fun w' u => u = ruleV ⟨#[116]⟩ ha hn hc ba n c) := by
 obtain ⟨g0, eg0⟩ : ∃ g, w.heap.size = g := ⟨_, rfl⟩
 obtain ⟨wb, eb⟩ : ∃ wb, (w.alloc (.cells #[.string ⟨#[]⟩, .slice none 0 0, .slice none 0 0] 27)) = wb := ⟨_, rfl⟩
 have hB : Blk wb (g0) [.string ⟨#[]⟩, .slice none 0 0, .slice none 0 0] 27 := by rw [<- eb, <- eg0]; exact Blk.new w _ _
 have HX := Lib.hid (show Ext w wb by rw [<- eb]; exact ((Kp.refl w).alloc _))
 have HB := Lib.hid (And.intro hB eg0)
 have f0 := hB.free 0
 have u0 : wb.cell? ⟨g0, 0, none⟩ = some (.string ⟨#[]⟩) := by rw [hB.cell']; rfl
 have f1 := hB.free 1
 have u1 : wb.cell? ⟨g0, 1, none⟩ = some (.slice none 0 0) := by rw [hB.cell']; rfl
 have f2 := hB.free 2
 have u2 : wb.cell? ⟨g0, 2, none⟩ = some (.slice none 0 0) := by rw [hB.cell']; rfl
 clear hB
 go_enter Tryz.func30, Tryz.ntmps30
 go_wp2
 obtain ⟨W, eW⟩ : ∃ x, (((wb.setCell ⟨g0, 0, none⟩ (.string ⟨#[116]⟩)).setCell ⟨g0, 1, none⟩ (.slice ha hn hc)).setCell ⟨g0, 2, none⟩ (.slice ba n c)) = x := ⟨_, rfl⟩
 have hBW : Blk W (g0) [.string ⟨#[116]⟩, .slice ha hn hc, .slice ba n c] 27 := by rw [<- eW]; exact (((HB.out.1.set 0 _).set 1 _).set 2 _)
 have kW : Kp (fun k => k = g0) wb W := by rw [<- eW]; exact (Kp.setCell (F := fun k => k = g0) (p := ⟨g0, 2, none⟩) (Kp.setCell (F := fun k => k = g0) (p := ⟨g0, 1, none⟩) (Kp.setCell (F := fun k => k = g0) (p := ⟨g0, 0, none⟩) (Kp.refl wb) (fun _ => rfl) _) (fun _ => rfl) _) (fun _ => rfl) _)
 have d0 : W.cell? ⟨g0, 0, none⟩ = some (.string ⟨#[116]⟩) := by rw [hBW.cell']; rfl
 have d1 : W.cell? ⟨g0, 1, none⟩ = some (.slice ha hn hc) := by rw [hBW.cell']; rfl
 have d2 : W.cell? ⟨g0, 2, none⟩ = some (.slice ba n c) := by rw [hBW.cell']; rfl
 rw [eW]
 refine bodyPost_ret (v := ruleV ⟨#[116]⟩ ha hn hc ba n c) (by simp [results, Tryz.results30, go_sem, d0, d1, d2]) rfl ?_
 exact RetN.mk (HX.out.trans' kW fun i hi e => by have := HB.out.2; omega) rfl
end Go.Proofs.YtinnmeiphbdogaaGreat

/- A region that draws its order, walked in the text's order, guards and all: the laws beneath the lines that takes.py prints. No program in sight. -/
namespace Go.Proofs.YtinnmeiphbdogaaGreat
set_option linter.unusedVariables false
section
variable {P : Program} {l : List Oper} {Q : Exit -> Act -> World -> Prop} {md : Region.Mode} {S : World -> Prop} {fuel : Nat} {listed : Array Bool} {a : Act} {w : World}
end
end Go.Proofs.YtinnmeiphbdogaaGreat

/- A rule, a binding that come in: not too big. -/
namespace Go.Proofs.YtinnmeiphbdogaaGreat
open Go.RowKit
set_option linter.unusedVariables false
theorem rule_fit {r : RuleZ} (hb : shRule.bulk r ≤ 1048576) : r.1.2.1.length ≤ 1048576 /\ Fit r.2.1 := by
 have e : shRule.bulk r = (shAtom.bulk r.1 + ((bulkL shLit.bulk r.2.1 + 1) + 0)) + 1 := rfl
 have ea : ∀ a : AtomZ, shAtom.bulk a = ((a.1.size + 1) + ((bulkL shTerm.bulk a.2.1 + 1) + 0)) + 1 := fun _ => rfl
 have el : ∀ l : LitZ, shLit.bulk l = (1 + (shAtom.bulk l.2.1 + (1 + (shTerm.bulk l.2.2.2.1 + (shTerm.bulk l.2.2.2.2.1 + 0))))) + 1 := fun _ => rfl
 have et : ∀ ts : List TermZ, ts.length ≤ bulkL shTerm.bulk ts := fun ts => bulkL_len shTerm.bulk (fun t => by show 1 ≤ _ + 1; omega) ts
 have h1 := ea r.1
 have h2 := et r.1.2.1
 have h3 := bulkL_len shLit.bulk (fun l => by show 1 ≤ _ + 1; omega) r.2.1
 refine ⟨by omega, by omega, fun l hl => ?_⟩
 have h4 := bulkL_mem shLit.bulk hl
 have h5 := el l
 have h6 := ea l.2.1
 have h7 := et (termsOf l)
 have h8 : bulkL shTerm.bulk (termsOf l) = bulkL shTerm.bulk l.2.1.2.1 := rfl
 omega
theorem addName_lenq (a : List ByteArray) (t : TermZ) : (addName a t).length ≤ a.length + 1 := by
 unfold addName
 split
 ·rw [List.length_append]; exact Nat.le_refl _
 ·exact Nat.le_succ _
theorem namesT_lenq : ∀ (ts : List TermZ) (a : List ByteArray), (namesT a ts).length ≤ a.length + ts.length
 | [], a => Nat.le_refl _
 | t :: ts, a => by
  have h1 := namesT_lenq ts (addName a t)
  have h2 := addName_lenq a t
  show (namesT (addName a t) ts).length ≤ _
  rw [List.length_cons]; omega
theorem namesF_lenq : ∀ (ls : List LitZ) (a : List ByteArray), (ls.foldl namesL a).length ≤ a.length + bulkL shLit.bulk ls
 | [], a => Nat.le_refl _
 | l :: ls, a => by
  have h1 := namesF_lenq ls (namesL a l)
  have h2 : (namesL a l).length ≤ a.length + (termsOf l).length := by
   unfold namesL
   split
   ·exact namesT_lenq _ _
   ·exact Nat.le_add_right _ _
  have h3 : (termsOf l).length ≤ shLit.bulk l := by
   have el : shLit.bulk l = (1 + (shAtom.bulk l.2.1 + (1 + (shTerm.bulk l.2.2.2.1 + (shTerm.bulk l.2.2.2.2.1 + 0))))) + 1 := rfl
   have ea : shAtom.bulk l.2.1 = ((l.2.1.1.size + 1) + ((bulkL shTerm.bulk l.2.1.2.1 + 1) + 0)) + 1 := rfl
   have et : (termsOf l).length ≤ bulkL shTerm.bulk l.2.1.2.1 := bulkL_len shTerm.bulk (fun t => by show 1 ≤ _ + 1; omega) _
   omega
  rw [bulkL_cons]
  show (ls.foldl namesL (namesL a l)).length ≤ _
  omega
theorem names_fit {r : RuleZ} (hb : shRule.bulk r ≤ 1048576) : (namesB r.2.1).length ≤ 1048576 := by
 have e : shRule.bulk r = (shAtom.bulk r.1 + ((bulkL shLit.bulk r.2.1 + 1) + 0)) + 1 := rfl
 have h1 := namesF_lenq r.2.1 []
 have h2 : (namesB r.2.1).length ≤ 0 + bulkL shLit.bulk r.2.1 := h1
 omega
noncomputable def shB : Shp Tryz.prog ByteArray := shStr 9 Tryz.underlying9 (by kernel_rfl)
theorem texts_in {W : World} {G : Nat -> Prop} {ao : Option Addr} {V : List ByteArray} (h : ElemsAt shB W G ao V) : CellsAt W ao (strs V) := fun i u hu => by
 unfold strs at hu
 rw [List.getElem?_map] at hu
 cases hv : V[i]? with
 | none => rw [hv] at hu; cases hu
 | some s =>
  rw [hv] at hu; cases hu
  obtain ⟨b, off, es, e, _, _, ⟨ha, _⟩, hc⟩ := h i s hv
  refine ⟨b, off, e, ?_⟩
  have h0 := hc 0 (.string s) (by rw [ha]; rfl)
  rw [show shB.n = 1 from rfl, Nat.mul_one, Nat.add_zero] at h0
  exact h0
theorem texts_small {V : List ByteArray} {N : Nat} (hb : bulkL shB.bulk V + 1 ≤ N) : V.length ≤ N /\ ∀ s ∈ V, s.size ≤ N := by
 have h1 := bulkL_len shB.bulk (fun s => by show 1 ≤ s.size + 1; omega) V
 refine ⟨by omega, fun s hs => ?_⟩
 have h2 := bulkL_mem shB.bulk hs
 have h3 : shB.bulk s = s.size + 1 := rfl
 omega
end Go.Proofs.YtinnmeiphbdogaaGreat

/- slices at []string: swapRangeCmpFunc and rotateCmpFunc: what they do to a row of cells. -/
namespace Go.Proofs.YtinnmeiphbdogaaGreat
open Go.RowKit
set_option linter.unusedVariables false
def valRow (z : Nat -> Option Addr × Nat × Nat) (i : Nat) : Value := (Value.slice (z (i)).1 (z (i)).2.1 (z (i)).2.2)
end Go.Proofs.YtinnmeiphbdogaaGreat

/- slices.insertionSortCmpFunc at []string. -/
namespace Go.Proofs.YtinnmeiphbdogaaGreat
open Go.RowKit
set_option linter.unusedVariables false
end Go.Proofs.YtinnmeiphbdogaaGreat

/- slices.symMergeCmpFunc at []string, the right part of one element. -/
namespace Go.Proofs.YtinnmeiphbdogaaGreat
open Go.RowKit
set_option linter.unusedVariables false
end Go.Proofs.YtinnmeiphbdogaaGreat

/- slices.symMergeCmpFunc at []string. -/
namespace Go.Proofs.YtinnmeiphbdogaaGreat
open Go.RowKit
set_option linter.unusedVariables false
end Go.Proofs.YtinnmeiphbdogaaGreat

/- slices.symMergeCmpFunc at []string, the great case. -/
namespace Go.Proofs.YtinnmeiphbdogaaGreat
open Go.RowKit
set_option linter.unusedVariables false
end Go.Proofs.YtinnmeiphbdogaaGreat

/- slices.stableCmpFunc and slices.SortStableFunc at []string. -/
namespace Go.Proofs.YtinnmeiphbdogaaGreat
open Go.RowKit
set_option linter.unusedVariables false
end Go.Proofs.YtinnmeiphbdogaaGreat

/- slices.BinarySearchFunc at []string, slices.Clone, slices.EqualFunc. -/
namespace Go.Proofs.YtinnmeiphbdogaaGreat
open Go.RowKit
set_option linter.unusedVariables false
theorem elemRow : ElemT Tryz.prog 69 34 1 24 (.slice none 0 0) := ⟨by kernel_rfl, by kernel_rfl, rfl, by decide⟩
def CmpToRow (P : Program) (f : FuncId) (first captured : Array Value) (w0 : World) (vs : List Value) (t : Value) (c : Nat -> Int) : Prop :=
 (∀ args w, (callFunc f args).run P w = .ok (Next.enter f args) w) /\ ∀ w, Ext w0 w -> ∀ i v, vs[i]? = some v -> Calls P f (first ++ (#[v, t] ++ captured)) w fun e w' => e = .returned (.int .i64 (c i)) /\ Ext w w'
def BinAtRow (n : Nat) (c : Nat -> Int) (w0 : World) (iv jv : Value) (w : World) : Prop :=
 ∃ i j : Nat, i ≤ j /\ j ≤ n /\ iv = .int .i64 i /\ jv = .int .i64 j /\ (i = 0 \/ c (i - 1) < 0) /\ (j = n \/ 0 ≤ c j) /\ Ext w0 w
set_option maxRecDepth 100000 in
set_option maxHeartbeats 2000000 in
theorem binSearchRow_any (zs : List (Option Addr × Nat × Nat)) (z : Nat -> Option Addr × Nat × Nat) (ao : Option Addr) (cap : Nat) (t : Value) (f : FuncId) (first captured : Array Value) (c : Nat -> Int) (w : World) (n : Nat)
 (hc : CellsAt w ao ((List.range n).map fun i => (Value.slice (z (i)).1 (z (i)).2.1 (z (i)).2.2))) (hcmp : CmpToRow Tryz.prog f first captured w ((List.range n).map fun i => (Value.slice (z (i)).1 (z (i)).2.1 (z (i)).2.2)) t c) (hm : n ≤ 4611686018427387904) :
 Calls Tryz.prog 191 #[.slice ao n cap, t, .func (Fn.func f) first captured] w
  (RetF (fun _ => False) w fun w' v => ∃ i : Nat, i ≤ n /\ (i = 0 \/ c (i - 1) < 0) /\ (i = n \/ 0 ≤ c i) /\ v = .tuple #[.int .i64 i, .bool (decide (i < n /\ c i = 0))]) := by
 have hent := hcmp.1
 have HC := Lib.hid hcmp.2; clear hcmp
 have cell : ∀ W : World, Ext w W -> ∀ i, i < n -> ∃ b off, ao = some ⟨b, off, none⟩ /\ W.cell? ⟨b, off + i, none⟩ = some ((Value.slice (z (i)).1 (z (i)).2.1 (z (i)).2.2)) := fun W hW i hi => by
  have := hc.ext hW
  exact this i _ (by simp [hi])
 have HCELL := Lib.hid cell; clear cell
 go_enter Tryz.func191, Tryz.ntmps191
 go_wp2
 go_loopw [9, 10] (BinAtRow n c w) (fun i j _ => (intOf j).toNat - (intOf i).toNat)
 case atStart => exact ⟨0, n, Nat.zero_le _, Nat.le_refl _, rfl, rfl, .inl rfl, .inl rfl, Kp.refl _⟩
 case round =>
  obtain ⟨i, j, hij, hj, rfl, rfl, hlo, hhi, hkp⟩ := hrel
  have HL := Lib.hid (And.intro hlo hhi); clear hlo hhi
  by_cases hlt : i < j
  ·obtain ⟨h, eh⟩ : ∃ h, h = (i + j) / 2 := ⟨_, rfl⟩
   have rh : ((i : Int) + j) / 2 = (h : Int) := by omega
   have hhn : h < n := by omega
   have h1 : i ≤ h := by omega
   have h2 : h < j := by omega
   clear eh
   obtain ⟨b, off, rfl, c1⟩ := HCELL.out _ hkp h hhn
   have hcall := fun W hW => HC.out W hW h ((Value.slice (z (h)).1 (z (h)).2.1 (z (h)).2.2)) (by simp [hhn])
   have HCall := Lib.hid hcall; clear hcall
   generalize hcc : c h = cc at HCall
   have HCC := Lib.hid hcc; clear hcc
   by_cases hneg : cc < 0
   ·go_wp2_with fail
    refine (HCall.out _ hkp).mono ?_
    rintro e w1 ⟨rfl, hk2⟩
    have hkp2 := hkp.ext hk2
    clear hk2 c1
    go_wp2
    go_roundw
    case rel => exact ⟨h + 1, j, by omega, hj, by first | rfl | (congr 1; done) | (congr 1; omega), rfl, .inr (by rw [Nat.add_sub_cancel, HCC.out]; omega), HL.out.2, hkp2⟩
    case measure => simp [intOf]; omega
   ·go_wp2_with fail
    refine (HCall.out _ hkp).mono ?_
    rintro e w1 ⟨rfl, hk2⟩
    have hkp2 := hkp.ext hk2
    clear hk2 c1
    go_wp2
    go_roundw
    case rel => exact ⟨i, h, by omega, by omega, rfl, by first | rfl | (congr 1; done) | (congr 1; omega), HL.out.1, .inr (by rw [HCC.out]; omega), hkp2⟩
    case measure => simp [intOf]; omega
  ·obtain rfl : i = j := by omega
   by_cases hin : i < n
   ·obtain ⟨b, off, rfl, c1⟩ := HCELL.out _ hkp i hin
    have hcall := fun W hW => HC.out W hW i ((Value.slice (z (i)).1 (z (i)).2.1 (z (i)).2.2)) (by simp [hin])
    have HCall := Lib.hid hcall; clear hcall
    generalize hcc : c i = cc at HCall
    have HCC := Lib.hid hcc; clear hcc
    have key : decide (i < n /\ c i = 0) = (cc == 0) := by rw [HCC.out]; simp [hin]; rfl
    have HK := Lib.hid key; clear key
    generalize hbb : (cc == 0) = bb at HK
    go_wp2_with fail
    refine (HCall.out _ hkp).mono ?_
    rintro e w1 ⟨rfl, hk2⟩
    have hkp2 := hkp.ext hk2
    clear hk2 c1
    go_wp2
    go_ret2
    exact RetF.mk hkp2 ⟨i, by omega, HL.out.1, HL.out.2, tup_ib HK.out⟩
   ·have key : decide (i < n /\ c i = 0) = false := by simp; omega
    have HK := Lib.hid key; clear key
    go_wp2
    go_ret2
    exact RetF.mk hkp ⟨i, by omega, HL.out.1, HL.out.2, tup_ib HK.out⟩
end Go.Proofs.YtinnmeiphbdogaaGreat

/- slices.CompactFunc at []string. -/
namespace Go.Proofs.YtinnmeiphbdogaaGreat
open Go.RowKit
set_option linter.unusedVariables false
set_option maxRecDepth 100000 in
set_option maxHeartbeats 4000000 in
theorem compactRow_any (z : Nat -> Option Addr × Nat × Nat) (C : List Nat) (g n cap N : Nat) (rest : List Value) (f : FuncId) (first captured : Array Value) (q : Nat -> Nat -> Bool) (w : World)
 (hcmp : LikeOn Tryz.prog f first captured g N w (valRow z) q) (hn : n = C.length) (hC : ∀ i ∈ C, i < N) (hm : n ≤ 4611686018427387904) (hB : Blk w g (C.map (valRow z) ++ rest) 34) (hlen : (C.map (valRow z) ++ rest).length = cap) (hcm : cap ≤ maxLen) :
 Calls Tryz.prog 196 #[.slice (some ⟨g, 0, none⟩) n cap, .func (Fn.func f) first captured] w
  (RetF (fun k => k = g) w fun w' v => ∃ rest', v = .slice (some ⟨g, 0, none⟩) (keepTo q C n).length cap /\ Blk w' g ((keepTo q C n).map (valRow z) ++ rest') 34 /\ ((keepTo q C n).map (valRow z) ++ rest').length = cap) := by
 have hent := hcmp.1
 have HC := Lib.hid hcmp.2; clear hcmp
 have HN := Lib.hid (And.intro hn (And.intro hC hlen)); clear hn hC
 have hcap : n ≤ cap := by have := HN.out.1; simp at hlen; omega
 clear hlen
 have cell : ∀ W : World, Blk W g (C.map (valRow z) ++ rest) 34 -> ∀ i, i < n -> W.cell? ⟨g, i, none⟩ = some (valRow z (C.getD i 0)) := fun W h i hi => h.at i (by have := HN.out.1; omega)
 have HB := Lib.hid hB; clear hB
 by_cases hlt2 : n < 2
 ·go_enter Tryz.func196, Tryz.ntmps196
  go_wp2
  go_ret
  have e : keepTo q C n = C := by
   rw [keepTo_all (by have := HN.out.1; omega) (fun j h1 h2 => by omega), List.take_of_length_le (by have := HN.out.1; omega)]
  refine RetF.mk (Kp.refl _) ⟨rest, ?_, by rw [e]; exact HB.out, by rw [e]; exact HN.out.2.2⟩
  rw [e, <- HN.out.1]; rfl
 ·go_enter Tryz.func196, Tryz.ntmps196
  go_wp2
  go_loopw [5] (Compact1 n q C (fun k => False) w) (fun k _ => n - (intOf k).toNat)
  case atStart => exact ⟨1, Nat.le_refl _, by omega, rfl, fun j h1 h2 => by omega, Kp.refl _⟩
  case round =>
   obtain ⟨k, hk1, hkn, rfl, hq, hkp⟩ := hrel
   have HQ := Lib.hid hq; clear hq
   have hext : Kp (fun i => i = g) w wr := Ext.kp hkp
   by_cases hkl : k < n
   ·have HBw : Blk wr g (C.map (valRow z) ++ rest) 34 := HB.out.ext hkp
    obtain ⟨p, rfl⟩ : ∃ p, k = p + 1 := ⟨k - 1, by omega⟩
    have c1 := cell wr HBw (p + 1) hkl
    have c2 := cell wr HBw p (by omega)
    have HBW := Lib.hid HBw; clear HBw
    have hx : C.getD (p + 1) 0 < N := HN.out.2.1 _ (getD_mem (by have := HN.out.1; omega))
    have hy : C.getD p 0 < N := HN.out.2.1 _ (getD_mem (by have := HN.out.1; omega))
    have hcall := fun W hW => HC.out W hW _ _ hx hy
    have HCall := Lib.hid hcall; clear hcall
    obtain ⟨x, ex⟩ : ∃ x, x = C.getD (p + 1) 0 := ⟨_, rfl⟩
    obtain ⟨y, ey⟩ : ∃ y, y = C.getD p 0 := ⟨_, rfl⟩
    rw [<- ex, <- ey] at HCall
    rw [<- ex] at c1
    rw [<- ey] at c2
    have HE := Lib.hid (And.intro ex ey); clear ex ey hx hy
    unfold valRow at c1 c2
    obtain ⟨i1, i2, i3, i4, i5, i6, i7⟩ := idx_pred (k := p) (n := n) (by omega) hm
    cases hqk : q x y
    ·rw [hqk] at HCall
     have HK := Lib.hid hqk; clear hqk
     go_wp2
     go_still_tail 10, (by kernel_rfl)
     go_wp2_with fail
     refine (HCall.out _ hext.drew).mono ?_
     rintro e w1 ⟨rfl, hk2⟩
     have hkp2 : Ext w w1 := hkp.drew.ext hk2
     clear hk2 c1 c2
     go_wp2
     go_roundw
     case rel =>
      refine ⟨p + 2, by omega, by omega, by first | rfl | (congr 1; done) | (congr 1; omega), fun j h1 h2 => ?_, hkp2⟩
      by_cases e : j = p + 1
      ·subst e
       rw [<- HE.out.1, Nat.add_sub_cancel, <- HE.out.2]; exact HK.out
      ·exact HQ.out j h1 (by omega)
     case measure => simp [intOf]; omega
    ·rw [hqk] at HCall
     have HK := Lib.hid hqk; clear hqk
     have start : Blk wr g ((keepTo q C (p + 1 + 1)).map (valRow z) ++ (C.map (valRow z) ++ rest).drop (p + 1)) 34 /\ (keepTo q C (p + 1 + 1)).length = p + 1 := by
      have hn := HN.out.1
      have e : keepTo q C (p + 1 + 1) = C.take (p + 1) := by
       rw [keepTo_yes (by omega) (by rw [<- HE.out.1, Nat.add_sub_cancel, <- HE.out.2]; exact HK.out), keepTo_all (by omega) HQ.out]
      rw [e]
      refine ⟨HBW.out.congrL ?_, by simp; omega⟩
      rw [List.drop_append_of_le_length (by simp; omega), <- List.append_assoc, <- List.map_drop, <- List.map_append, List.take_append_drop]
     have HS := Lib.hid start; clear start
     have hpc : (p : Int) + 1 ≤ (cap : Int) := by omega
     have hpn : (p : Int) + 1 ≤ (n : Int) := by omega
     go_wp2
     go_still_tail 10, (by kernel_rfl)
     go_wp2_with fail
     refine (HCall.out _ hext.drew).mono ?_
     rintro e w1 ⟨rfl, hk2⟩
     have hkp2 : Ext w w1 := hkp.drew.ext hk2
     have HS1 : Blk w1 g ((keepTo q C (p + 1 + 1)).map (valRow z) ++ (C.map (valRow z) ++ rest).drop (p + 1)) 34 := HS.out.1.drew.ext hk2
     have HS2 := Lib.hid (And.intro HS1 HS.out.2); clear HS1
     clear hk2 c1 c2
     obtain ⟨m, em⟩ : ∃ m, n - (p + 1) = m := ⟨_, rfl⟩
     have hcapk : ¬ cap = p + 1 := by omega
     go_wp2
     go_loopw [5, 7] (Compact2 n (p + 1) q C w g (valRow z) rest 34) (fun k j _ => n - (intOf j).toNat)
     case atStart => exact ⟨p + 1, 1, Nat.le_refl _, hkl, by go_num, rfl, Nat.le_refl _, by omega, HS2.out.2, Ext.kp hkp2, HS2.out.1⟩
     case round =>
      obtain ⟨k, j, hj1, hjn, rfl, rfl, hk0, hkj, hkl2, hkp3, hb3⟩ := hrel
      have f1 := hb3.free k
      have HB3 := Lib.hid (And.intro hkl2 hb3); clear hkl2
      by_cases hjm : j < m
      ·obtain ⟨t, rfl⟩ : ∃ t, j = t + 1 := ⟨j - 1, by omega⟩
       have hCl := HN.out.1
       have c1 : wr.cell? ⟨g, p + 1 + (t + 1), none⟩ = some (valRow z (C.getD (p + 1 + (t + 1)) 0)) := by
        rw [hb3.cell']; exact compact_cell HB3.out.1 (by omega) (by omega)
       have c2 : wr.cell? ⟨g, p + 1 + t, none⟩ = some (valRow z (C.getD (p + 1 + t) 0)) := by
        rw [hb3.cell']; exact compact_cell HB3.out.1 (by omega) (by omega)
       have hx : C.getD (p + 1 + (t + 1)) 0 < N := HN.out.2.1 _ (getD_mem (by omega))
       have hy : C.getD (p + 1 + t) 0 < N := HN.out.2.1 _ (getD_mem (by omega))
       clear hCl hb3
       have hcall := fun W hW => HC.out W hW _ _ hx hy
       have HCall := Lib.hid hcall; clear hcall
       obtain ⟨x, ex⟩ : ∃ x, x = C.getD (p + 1 + (t + 1)) 0 := ⟨_, rfl⟩
       obtain ⟨y, ey⟩ : ∃ y, y = C.getD (p + 1 + t) 0 := ⟨_, rfl⟩
       rw [<- ex, <- ey] at HCall
       rw [<- ex] at c1
       rw [<- ey] at c2
       have HE := Lib.hid (And.intro ex ey); clear ex ey hx hy
       unfold valRow at c1 c2
       obtain ⟨i1, i2, i3, i4, i5, i6, i7⟩ := idx_pred (k := t) (n := m) (by omega) (by omega)
       have hkn2 : k < n := by omega
       cases hqk : q x y
       ·rw [hqk] at HCall
        have HK := Lib.hid hqk; clear hqk
        go_wp2
        go_still_tail 10, (by kernel_rfl)
        go_wp2_with fail
        refine (HCall.out _ hkp3.drew).mono ?_
        rintro e w2 ⟨rfl, hk2⟩
        have hkp4 : Kp (fun i => i = g) w w2 := hkp3.drew.ext hk2
        have d1 := hk2.cell c1 id
        have HB4 : Blk w2 g ((keepTo q C (p + 1 + (t + 1))).map (valRow z) ++ (C.map (valRow z) ++ rest).drop k) 34 := HB3.out.2.drew.ext hk2
        have f2 := HB4.free k
        have d2 : ∃ u, w2.cell? ⟨g, k, none⟩ = some u := ⟨_, HB4.cell k (by have h2 := HN.out.2.2; have h1 := HN.out.1; have h3 := HB3.out.1; simp at h2 ⊢; omega)⟩
        obtain ⟨u, d2⟩ := d2
        have HB5 := Lib.hid HB4; clear HB4
        clear hk2 c1 c2 f1
        go_wp2
        go_roundw
        case rel =>
         have e : keepTo q C (p + 1 + (t + 2)) = keepTo q C (p + 1 + (t + 1)) ++ [x] := by
          have := keepTo_no (q := q) (C := C) (k := p + 1 + (t + 1)) (by rw [<- HE.out.1, show p + 1 + (t + 1) - 1 = p + 1 + t by omega, <- HE.out.2]; exact HK.out)
          rw [HE.out.1, <- this]; rfl
         refine ⟨k + 1, t + 2, by omega, by omega, by first | rfl | (congr 1; done) | (congr 1; omega), by first | rfl | (congr 1; done) | (congr 1; omega), by omega, by omega, by rw [e, List.length_append, HB3.out.1]; rfl, ?_, ?_⟩
         ·exact hkp4.setCell (fun _ => rfl) _
         ·rw [e]; exact (HB5.out.set k _).congrL (compact_set HB3.out.1 (by have := HN.out.1; omega))
        case measure => simp [intOf]; omega
       ·rw [hqk] at HCall
        have HK := Lib.hid hqk; clear hqk
        go_wp2
        go_still_tail 10, (by kernel_rfl)
        go_wp2_with fail
        refine (HCall.out _ hkp3.drew).mono ?_
        rintro e w2 ⟨rfl, hk2⟩
        have hkp4 : Kp (fun i => i = g) w w2 := hkp3.drew.ext hk2
        have HB4 : Blk w2 g ((keepTo q C (p + 1 + (t + 1))).map (valRow z) ++ (C.map (valRow z) ++ rest).drop k) 34 := HB3.out.2.drew.ext hk2
        have HB5 := Lib.hid HB4; clear HB4
        clear hk2 c1 c2 f1
        go_wp2
        go_roundw
        case rel =>
         have e : keepTo q C (p + 1 + (t + 2)) = keepTo q C (p + 1 + (t + 1)) := by
          have := keepTo_yes (q := q) (C := C) (k := p + 1 + (t + 1)) (by omega) (by rw [<- HE.out.1, show p + 1 + (t + 1) - 1 = p + 1 + t by omega, <- HE.out.2]; exact HK.out)
          rw [<- this]; rfl
         exact ⟨k, t + 2, by omega, by omega, rfl, by first | rfl | (congr 1; done) | (congr 1; omega), hk0, by omega, by rw [e]; exact HB3.out.1, hkp4, by rw [e]; exact HB5.out⟩
        case measure => simp [intOf]; omega
      ·have hjn' : p + 1 + j = n := by omega
       rw [hjn'] at HB3
       obtain ⟨w3, hrun, hk3, hb4⟩ := run_clearB elemRow rfl (fun w => by kernel_rfl) HB3.out.2 (off := k) (n := n - k) (c := cap - k) (sp := some ⟨g, k, none⟩) (fun _ => rfl) (by have := HB3.out.1; have h2 := HN.out.2.2; have h1 := HN.out.1; simp at h2 ⊢; omega)
       have HB4 := Lib.hid hb4; clear hb4 hb3
       have HK3 := Lib.hid hk3; clear hk3
       have hkc : ¬ cap = k := by omega
       have hkc2 : (k : Int) ≤ (cap : Int) := by omega
       have hkn2 : (k : Int) ≤ (n : Int) := by omega
       have hjj : j = m := by omega
       clear hjn'
       go_wp2
       go_ret
       have h2 := HN.out.2.2; have h1 := HN.out.1
       have hk := HB3.out.1
       refine RetF.mk (hkp3.trans HK3.out) ⟨List.replicate (n - k) (.slice none 0 0) ++ ((C.map (valRow z) ++ rest).drop k).drop (n - k), ?_, ?_, ?_⟩
       ·rw [hk]; rfl
       ·refine HB4.out.congrL ?_
        unfold splice
        rw [List.take_append_of_le_length (by simp; omega), List.take_of_length_le (by simp; omega), List.drop_append, List.drop_of_length_le (by simp; omega), List.length_map, hk, List.length_replicate, List.nil_append, Nat.add_sub_cancel_left]
       ·simp at h2 ⊢; omega
   ·go_wp2
    go_ret
    have e : keepTo q C n = C := by
     rw [keepTo_all (by have := HN.out.1; omega) (fun j h1 h2 => HQ.out j h1 (by omega)), List.take_of_length_le (by have := HN.out.1; omega)]
    refine RetF.mk hext ⟨rest, ?_, by rw [e]; exact HB.out.ext hkp, by rw [e]; exact HN.out.2.2⟩
    rw [e, <- HN.out.1]; rfl
end Go.Proofs.YtinnmeiphbdogaaGreat

/- slices.Clone, EqualFunc, Grow, Concat at []string. -/
namespace Go.Proofs.YtinnmeiphbdogaaGreat
open Go.RowKit
set_option linter.unusedVariables false
theorem cloneRow_any (vs : List Value) (ao : Option Addr) (cap : Nat) (w : World) (n : Nat) (hn : n = vs.length) (hc : CellsAt w ao vs) (h1 : ∀ u ∈ vs, u.oneCell' = true) (hm : n * 24 ≤ 140737488355328) :
 Calls Tryz.prog 165 #[.slice ao n cap] w (RetN w fun w' v => Row w' 34 1 v n vs (New w)) := by
 have hq : ∀ w : World, (binOp .eql 69 (.slice ao n cap) (.slice none 0 0)).run Tryz.prog w = .ok (.bool ao.isNone) w := fun w => Lib.run_eql_slice_nil w _ _ _ _ _ _ _ Tryz.underlying69
 have HNN := Lib.hid hn; clear hn
 have hl : n ≤ maxLen := by unfold maxLen; omega
 cases ao with
 | none =>
  have hv : vs = [] := by
   cases vs with
   | nil => rfl
   | cons x vs => obtain ⟨b, o, h, _⟩ := hc.off (by simp); cases h
  subst hv
  have h0 : n = 0 := HNN.out
  subst h0
  go_enter Tryz.func165, Tryz.ntmps165
  go_wp2
  go_ret
  exact RetN.mk (Kp.refl _) (Row.nil _ _ _ _)
 | some a =>
  go_enter Tryz.func165, Tryz.ntmps165
  go_wp2_with (first | (at_builtin; refine Halted.out ?_))
  refine Halted.mk (wp_appN elemRow rfl _ _ rfl ((Kp.refl (F := fun _ => False) w).alloc _) rfl (Row.empty w 34 1 (New w) (Nat.le_refl _)) rfl (hc.alloc _) (by rw [HNN.out, Nat.mul_one]) h1 (by omega) (by omega) ?_)
  intro v1 w1 hr1 hk1 _ _
  have HR := Lib.hid hr1; clear hr1
  go_wp2
  go_ret
  exact RetN.mk hk1 (by simpa using HR.out)
end Go.Proofs.YtinnmeiphbdogaaGreat

/- tuple.Set at []string: what a set is in memory; cmp, alike, Len, Items, find. -/
namespace Go.Proofs.YtinnmeiphbdogaaGreat
open Go.RowKit
set_option linter.unusedVariables false
def OrdVRow (P : Program) (S : Nat -> Prop) (w0 : World) (ov : Value) (D : Option Addr × Nat × Nat -> Prop) (c : Option Addr × Nat × Nat -> Option Addr × Nat × Nat -> Int) : Prop :=
 (ov = .nilFunc /\ ∀ x y, D x -> D y -> c x y = 0) \/ ∃ f first cap, ov = .func (Fn.func f) first cap /\ (∀ args w, (callFunc f args).run P w = .ok (Next.enter f args) w) /\
  ∀ w, Same S w0 w -> ∀ x y, D x -> D y -> Calls P f (first ++ (#[(Value.slice (x).1 (x).2.1 (x).2.2), (Value.slice (y).1 (y).2.1 (y).2.2)] ++ cap)) w fun e w' => e = .returned (.int .i64 (c x y)) /\ Ext w w'
theorem OrdVRow.same {P : Program} {S : Nat -> Prop} {w0 w1 : World} {ov : Value} {D : Option Addr × Nat × Nat -> Prop} {c : Option Addr × Nat × Nat -> Option Addr × Nat × Nat -> Int} (h : OrdVRow P S w0 ov D c) (hs : Same S w0 w1) : OrdVRow P S w1 ov D c := by
 rcases h with h | ⟨f, first, cap, e, he, h⟩
 ·exact .inl h
 ·exact .inr ⟨f, first, cap, e, he, fun w hw => h w (hs.trans hw)⟩
structure SetAtRow (P : Program) (S : Nat -> Prop) (w : World) (b : Nat) (ov iv : Value) (tail : List Value) (te : TypeId) (D : Option Addr × Nat × Nat -> Prop) (c : Option Addr × Nat × Nat -> Option Addr × Nat × Nat -> Int) (zs : List (Option Addr × Nat × Nat)) : Prop where
 blk : Blk w b (ov :: iv :: tail) te
 row : Row w 34 1 iv zs.length (zs.map fun x => (Value.slice (x).1 (x).2.1 (x).2.2)) (fun k => iv.ownBlock = some k)
 apart : iv.ownBlock ≠ some b
 inS : ∀ k, S k -> k < w.heap.size
 notS : ∀ k, Owns b iv k -> ¬ S k
 ord : OrdVRow P S w ov D c
 all : ∀ x ∈ zs, D x
 len : zs.length ≤ 1048576 * 1048576
section
variable {P : Program} {S : Nat -> Prop} {w w' : World} {b : Nat} {ov iv : Value} {tail : List Value} {te : TypeId} {D : Option Addr × Nat × Nat -> Prop} {c : Option Addr × Nat × Nat -> Option Addr × Nat × Nat -> Int} {zs : List (Option Addr × Nat × Nat)}
theorem SetAtRow.kp {F : Nat -> Prop} (h : SetAtRow P S w b ov iv tail te D c zs) (hk : Kp F w w') (hF : ∀ k, F k -> ¬ Owns b iv k) (hS : ∀ k, F k -> ¬ S k) : SetAtRow P S w' b ov iv tail te D c zs :=
 ⟨h.blk.kp hk fun hf => hF _ hf (.inl rfl), h.row.kp hk fun g hg hf => hF _ hf (.inr hg), h.apart, fun k hk' => Nat.lt_of_lt_of_le (h.inS k hk') hk.size, h.notS, h.ord.same (hk.same h.inS fun k hk' hf => hS k hf hk'), h.all, h.len⟩
theorem SetAtRow.ext (h : SetAtRow P S w b ov iv tail te D c zs) (hk : Ext w w') : SetAtRow P S w' b ov iv tail te D c zs := h.kp hk (fun _ x => x.elim) (fun _ x => x.elim)
theorem SetAtRow.cells (h : SetAtRow P S w b ov iv tail te D c zs) : w.cell? ⟨b, 0, none⟩ = some ov /\ w.cell? ⟨b, 1, none⟩ = some iv := ⟨by rw [h.blk.cell']; rfl, by rw [h.blk.cell']; rfl⟩
end
set_option maxRecDepth 100000 in
theorem setCmpRow_any (S : Nat -> Prop) (w : World) (b : Nat) (ov : Value) (cs : List Value) (te : TypeId) (D : Option Addr × Nat × Nat -> Prop) (c : Option Addr × Nat × Nat -> Option Addr × Nat × Nat -> Int) (x y : Option Addr × Nat × Nat) (hx : D x) (hy : D y) (hB : Blk w b (ov :: cs) te)
 (hS : ∀ k, S k -> k < w.heap.size) (ho : OrdVRow Tryz.prog S w ov D c) :
 Calls Tryz.prog 192 #[.pointer (some ⟨b, 0, none⟩), (Value.slice (x).1 (x).2.1 (x).2.2), (Value.slice (y).1 (y).2.1 (y).2.2)] w (fun e w' => e = .returned (.int .i64 (c x y)) /\ Ext w w') := by
 have c1 : w.cell? ⟨b, 0, none⟩ = some ov := by rw [hB.cell']; rfl
 clear hB
 rcases ho with ⟨rfl, h0⟩ | ⟨f, first, cap, rfl, hent, hc⟩
 ·have h00 := Lib.hid (h0 x y hx hy); clear h0
  have hq : ∀ w : World, (binOp .eql 131 .nilFunc .nilFunc).run Tryz.prog w = .ok (.bool true) w := fun _ => by kernel_rfl
  go_enter Tryz.func192, Tryz.ntmps192
  go_wp2
  go_ret
  exact ⟨by rw [h00.out]; rfl, Kp.refl _⟩
 ·have HC := Lib.hid hc; clear hc
  have hq : ∀ w : World, (binOp .eql 131 (.func (Fn.func f) first cap) .nilFunc).run Tryz.prog w = .ok (.bool false) w := fun _ => by kernel_rfl
  go_enter Tryz.func192, Tryz.ntmps192
  go_wp2_with fail
  refine (HC.out w (Same.refl hS) x y hx hy).mono ?_
  rintro e w1 ⟨rfl, hk⟩
  have HK := Lib.hid hk; clear hk
  go_wp2
  go_ret
  exact ⟨rfl, HK.out⟩
set_option maxRecDepth 100000 in
theorem setLenRow_any {S : Nat -> Prop} {w : World} {b : Nat} {ov iv : Value} {tail : List Value} {te : TypeId} {D : Option Addr × Nat × Nat -> Prop} {c : Option Addr × Nat × Nat -> Option Addr × Nat × Nat -> Int} {zs : List (Option Addr × Nat × Nat)} (h : SetAtRow Tryz.prog S w b ov iv tail te D c zs) :
 Calls Tryz.prog 141 #[.pointer (some ⟨b, 0, none⟩)] w (Ret (.int .i64 (zs.length : Nat)) w) := by
 obtain ⟨c1, c2⟩ := h.cells
 obtain ⟨ao, cap, rfl, _, _⟩ := h.row.shape
 clear h
 go_enter Tryz.func141, Tryz.ntmps141
 go_wp2
 go_ret
 exact Ret.mk rfl
set_option maxRecDepth 100000 in
theorem setItemsRow_any {S : Nat -> Prop} {w : World} {b : Nat} {ov iv : Value} {tail : List Value} {te : TypeId} {D : Option Addr × Nat × Nat -> Prop} {c : Option Addr × Nat × Nat -> Option Addr × Nat × Nat -> Int} {zs : List (Option Addr × Nat × Nat)} (h : SetAtRow Tryz.prog S w b ov iv tail te D c zs) :
 Calls Tryz.prog 138 #[.pointer (some ⟨b, 0, none⟩)] w (RetN w fun w' v => Row w' 34 1 v zs.length (zs.map fun x => (Value.slice (x).1 (x).2.1 (x).2.2)) (New w)) := by
 obtain ⟨c1, c2⟩ := h.cells
 obtain ⟨ao, cap, rfl, hc, _⟩ := h.row.shape
 have hl := h.len
 have HC := Lib.hid hc; clear h hc
 go_enter Tryz.func138, Tryz.ntmps138
 go_wp2_with fail
 refine (cloneRow_any (zs.map fun x => (Value.slice (x).1 (x).2.1 (x).2.2)) ao cap w zs.length (by simp) HC.out (by intro u hu; obtain ⟨x, _, rfl⟩ := List.mem_map.1 hu; rfl) (by omega)).mono ?_
 rintro e w1 ⟨v, rfl, hk, hr⟩
 have HR := Lib.hid (And.intro hk hr); clear hk hr
 go_wp2
 go_ret
 exact RetN.mk HR.out.1 HR.out.2
theorem setItemsRow_nil (w : World) : Calls Tryz.prog 138 #[.pointer none] w (Ret (.slice none 0 0) w) := by
 go_enter Tryz.func138, Tryz.ntmps138
 go_wp2
 go_ret
 exact Ret.mk rfl
set_option maxRecDepth 100000 in
set_option maxHeartbeats 1000000 in
theorem setFindRow_any {S : Nat -> Prop} {w : World} {b : Nat} {ov iv : Value} {tail : List Value} {te : TypeId} {D : Option Addr × Nat × Nat -> Prop} {c : Option Addr × Nat × Nat -> Option Addr × Nat × Nat -> Int} {zs : List (Option Addr × Nat × Nat)} (O : OrdLaw c) (x : Option Addr × Nat × Nat) (hx : D x) (hs : Strict c zs) (h : SetAtRow Tryz.prog S w b ov iv tail te D c zs) :
 Calls Tryz.prog 162 #[.pointer (some ⟨b, 0, none⟩), (Value.slice (x).1 (x).2.1 (x).2.2)] w
  (RetF (fun _ => False) w fun w' v => v = .tuple #[.int .i64 (below c zs x : Nat), .bool (isIn c zs x)]) := by
 obtain ⟨c1, c2⟩ := h.cells
 obtain ⟨ao, cap, eiv, hc, _⟩ := h.row.shape
 subst eiv
 have hl := h.len
 obtain ⟨n, en⟩ : ∃ n, n = zs.length := ⟨_, rfl⟩
 have get : ∀ i (hi : i < n), zs.getD i x = zs[i]'(by omega) := fun i hi => by simp [List.getD, show i < zs.length by omega]
 have evals : (List.range n).map (fun i => (Value.slice (zs.getD i x).1 (zs.getD i x).2.1 (zs.getD i x).2.2)) = zs.map fun x => (Value.slice (x).1 (x).2.1 (x).2.2) := by
  refine List.ext_getElem (by simp [en]) fun i h1 h2 => ?_
  simp only [List.getElem_map, List.getElem_range]
  rw [get i (by simpa using h1)]
 have hent : ∀ args w, (callFunc 192 args).run Tryz.prog w = .ok (.enter 192 args) w := enters_of Tryz.func192 (by kernel_rfl) rfl
 have hcmp : CmpToRow Tryz.prog 192 #[.pointer (some ⟨b, 0, none⟩)] #[] w ((List.range n).map fun i => (Value.slice (zs.getD i x).1 (zs.getD i x).2.1 (zs.getD i x).2.2)) ((Value.slice (x).1 (x).2.1 (x).2.2)) (fun i => c (zs.getD i x) x) := by
  refine ⟨hent, fun w' hw i v hv => ?_⟩
  have hi : i < n := by simpa using (List.getElem?_eq_some_iff.1 hv).1
  have ev : v = (Value.slice (zs.getD i x).1 (zs.getD i x).2.1 (zs.getD i x).2.2) := by simp [hi] at hv; rw [<- hv, List.getD_eq_getElem?_getD]
  subst ev
  have h' := h.ext hw
  exact setCmpRow_any S w' b ov _ te D c (zs.getD i x) x (by rw [get i hi]; exact h.all _ (List.getElem_mem _)) hx h'.blk h'.inS h'.ord
 have hbin := binSearchRow_any zs (fun i => zs.getD i x) ao cap ((Value.slice (x).1 (x).2.1 (x).2.2)) 192 #[.pointer (some ⟨b, 0, none⟩)] #[] (fun i => c (zs.getD i x) x) w n (by rw [evals]; exact hc) hcmp (by omega)
 rw [en] at hbin
 have HB := Lib.hid hbin
 have HH := Lib.hid (And.intro en get)
 clear hbin hcmp hc evals hent h get
 go_enter Tryz.func162, Tryz.ntmps162
 go_wp2_with fail
 refine HB.out.mono ?_
 rintro e w1 ⟨v, rfl, hk, i, hi, h1, h2, rfl⟩
 have ei : i = below c zs x := by
  refine hs.place O hi (fun y hp hy => ?_) (fun y hy => ?_)
  ·have e := (List.getElem?_eq_some_iff.1 hy).2
   rcases h1 with h1 | h1
   ·omega
   ·rw [HH.out.2 _ (by rw [HH.out.1]; omega), e] at h1; exact h1
  ·obtain ⟨hl', e⟩ := List.getElem?_eq_some_iff.1 hy
   rcases h2 with h2 | h2
   ·omega
   ·rw [HH.out.2 _ (by rw [HH.out.1]; omega), e] at h2; exact h2
 have eb : decide (i < zs.length /\ c (zs.getD i x) x = 0) = isIn c zs x := by
  rw [Bool.eq_iff_iff, decide_eq_true_iff, hs.there O x, <- ei]
  constructor
  ·rintro ⟨a1, a2⟩
   exact ⟨zs[i], List.getElem?_eq_getElem a1, by rw [HH.out.2 _ (by rw [HH.out.1]; omega)] at a2; exact a2⟩
  ·rintro ⟨y, hy, hz⟩
   obtain ⟨hl', e⟩ := List.getElem?_eq_some_iff.1 hy
   exact ⟨hl', by rw [HH.out.2 _ (by rw [HH.out.1]; omega), e]; exact hz⟩
 rw [eb, ei]
 have HK := Lib.hid hk
 clear hk h1 h2 eb ei hi
 go_wp2
 go_ret2
 exact RetF.mk HK.out (tup_ib rfl)
end Go.Proofs.YtinnmeiphbdogaaGreat

/- tuple.NewSet at []string. -/
namespace Go.Proofs.YtinnmeiphbdogaaGreat
open Go.RowKit
set_option linter.unusedVariables false
theorem setAtRow_store {P : Program} {S : Nat -> Prop} {w : World} {b : Nat} {ov iv0 iv : Value} {tail : List Value} {te : TypeId} {D : Option Addr × Nat × Nat -> Prop} {c : Option Addr × Nat × Nat -> Option Addr × Nat × Nat -> Int} {zs : List (Option Addr × Nat × Nat)} {M : Nat -> Prop}
 (hB : Blk w b (ov :: iv0 :: tail) te) (hr : Row w 34 1 iv zs.length (zs.map fun x => (Value.slice (x).1 (x).2.1 (x).2.2)) M) (hap : iv.ownBlock ≠ some b) (hS : ∀ k, S k -> k < w.heap.size) (hn : ∀ k, Owns b iv k -> ¬ S k)
 (ho : OrdVRow P S w ov D c) (hD : ∀ x ∈ zs, D x) (hl : zs.length ≤ 1048576 * 1048576) : SetAtRow P S (w.setCell ⟨b, 1, none⟩ iv) b ov iv tail te D c zs := by
 have hk : Kp (fun k => k = b) w (w.setCell ⟨b, 1, none⟩ iv) := Kp.setCell (F := fun k => k = b) (Kp.refl w) (fun _ => rfl) iv
 exact ⟨hB.set 1 iv, hr.own.kp hk fun g hg e => hap (by rw [hg, e]), hap, fun k h => Nat.lt_of_lt_of_le (hS k h) hk.size, hn, ho.same (hk.same hS fun k h e => hn k (.inl e) h), hD, hl⟩
end Go.Proofs.YtinnmeiphbdogaaGreat
