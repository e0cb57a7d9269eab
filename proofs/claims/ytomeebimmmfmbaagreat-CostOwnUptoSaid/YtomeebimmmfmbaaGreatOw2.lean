/- Texts joined for a claim (JoinV, JoinC, Ref14, Ref14b, Ref14c, Stat, Right, RefRight, CostPlain3, RefStat, RefStands, RefShared, CostPlain4, RefGuess, RefSetN, RefCost, Law1, Draw, Flat, Body, Law2). -/
import Derived.Test.YtomeebimmmfmbaaGreatOw1
import Derived.Laws.FloatArith
import Derived.StillTailTactics
import Derived.Deep.OwnRows
import Derived.Laws.OwnMore
import Derived.Deep.RegionWith
import Derived.Deep.RegionHeld3
import Derived.Laws.Externs
import Derived.Laws.StructEq
/- join: the variables of a rule's positive atoms. -/
namespace Go.Proofs.YtomeebimmmfmbaaGreat
open Go.RowKit
set_option linter.unusedVariables false
theorem elem_strV : ElemT Tryz.prog 76 9 1 16 (.string ⟨#[]⟩) := ⟨by kernel_rfl, by kernel_rfl, rfl, by decide⟩
theorem addName_len (a : List ByteArray) (t : TermZ) : (addName a t).length ≤ a.length + 1 ∧ a.length ≤ (addName a t).length := by
  unfold addName; split <;> simp
theorem namesT_len : ∀ (ts : List TermZ) (a : List ByteArray), (namesT a ts).length ≤ a.length + ts.length
  | [], a => by simp [namesT]
  | t :: ts, a => by
    have := namesT_len ts (addName a t)
    have := (addName_len a t).1
    unfold namesT at *
    rw [List.foldl_cons]; simp only [List.length_cons]; omega
theorem namesL_len (a : List ByteArray) (l : LitZ) : (namesL a l).length ≤ a.length + (termsOf l).length := by
  unfold namesL; split
  · exact namesT_len _ _
  · omega
theorem namesF_len (M : Nat) : ∀ (ls : List LitZ) (a : List ByteArray), (∀ l ∈ ls, (termsOf l).length ≤ M) → (ls.foldl namesL a).length ≤ a.length + ls.length * M
  | [], a, _ => by simp
  | l :: ls, a, h => by
    have h1 := namesF_len M ls (namesL a l) fun x hx => h x (List.mem_cons_of_mem _ hx)
    have h2 := namesL_len a l
    have h3 := h l List.mem_cons_self
    rw [List.foldl_cons, List.length_cons, Nat.succ_mul]; omega
theorem namesB_len {M : Nat} {ls : List LitZ} (h : ∀ l ∈ ls, (termsOf l).length ≤ M) : (namesB ls).length ≤ ls.length * M := by
  have := namesF_len M ls [] h; unfold namesB; simpa using this
def namesIn (a : List ByteArray) (l : LitZ) (c : Nat) : List ByteArray := if l.1 = 1 then namesT a ((termsOf l).take c) else a
theorem namesIn_zero (a : List ByteArray) (l : LitZ) : namesIn a l 0 = a := by unfold namesIn; split <;> rfl
theorem namesIn_all (a : List ByteArray) (l : LitZ) {c : Nat} (h : (termsOf l).length ≤ c) : namesIn a l c = namesL a l := by
  unfold namesIn namesL; rw [List.take_of_length_le h]
theorem namesIn_succ (a : List ByteArray) {l : LitZ} {c : Nat} {t : TermZ} (h : (termsOf l)[c]? = some t) : namesIn a l (c + 1) = if l.1 = 1 ∧ t.1 = 1 ∧ hasT (namesIn a l c) t.2.1 = false then namesIn a l c ++ [t.2.1] else namesIn a l c := by
  unfold namesIn
  by_cases h1 : l.1 = 1
  · simp only [h1, true_and]
    unfold namesT
    rw [fold_take _ _ h]
    rfl
  · simp only [h1, false_and, if_false]
theorem namesIn_len (a : List ByteArray) (l : LitZ) (c : Nat) : (namesIn a l c).length ≤ a.length + c := by
  unfold namesIn; split
  · have := namesT_len ((termsOf l).take c) a
    rw [List.length_take] at this; omega
  · omega
theorem Row.old {w : World} {e : TypeId} {k : Nat} {v : Value} {n : Nat} {xs : List Value} {M : Nat → Prop} (h : Row w e k v n xs M) : Row w e k v n xs (fun g => M g ∧ g < w.heap.size) := by
  obtain ⟨h1, h2 | ⟨g, cap, rest, a, b, c, d⟩⟩ := h
  · exact ⟨h1, .inl h2⟩
  · exact ⟨h1, .inr ⟨g, cap, rest, a, ⟨b, c.lt⟩, c, d⟩⟩
theorem Row.beside {w w' : World} {e : TypeId} {k : Nat} {v : Value} {n : Nat} {xs : List Value} {M : Nat → Prop} (h : Row w e k v n xs M) (hx : Ext w w') : Row w' e k v n xs (fun g => M g ∧ g ≠ w.heap.size) :=
  (h.old.ext hx).mono fun g hg => ⟨hg.1, by omega⟩
theorem strs_snoc (ss : List ByteArray) (s : ByteArray) : strs ss ++ [.string s] = strs (ss ++ [s]) := by simp [strs]
structure Fit (ls : List LitZ) : Prop where
  len : ls.length ≤ 1048576
  terms : ∀ l ∈ ls, (termsOf l).length ≤ 1048576
def VarsOut (w0 : World) (ls : List LitZ) (n : Nat) (iv ov : Value) (w : World) : Prop := ∃ i : Nat, i ≤ n ∧ iv = .int .i64 i ∧ Hid (Row w 9 1 ov (namesB (ls.take i)).length (strs (namesB (ls.take i))) (New w0)) ∧ Hid (Ext w0 w)
def VarsIn (w0 : World) (a : List ByteArray) (l : LitZ) (g : Nat) (cs : List Value) (m : Nat) (iv ov : Value) (w : World) : Prop := ∃ i : Nat, i ≤ m ∧ iv = .int .i64 i ∧ Hid (Row w 9 1 ov (namesIn a l i).length (strs (namesIn a l i)) (fun k => New w0 k ∧ k ≠ g)) ∧ Hid (Ext w0 w) ∧ Hid (Blk w g cs 97)
set_option maxRecDepth 100000 in
set_option maxHeartbeats 4000000 in
theorem vars_any (p : ByteArray) (ha : Option Addr) (hn hcap : Nat) (ls : List LitZ) (ba : Option Addr) (n bcap : Nat) (w : World) (G : Nat → Prop) (hbn : n = ls.length) (h : LitsAt w G ba ls) (hf : Fit ls) :
    Calls Tryz.prog 116 #[ruleV p ha hn hcap ba n bcap] w (RetN w fun w' v => ∃ ao cap, v = .slice ao (namesB ls).length cap ∧ (namesB ls).length ≤ cap ∧ CellsAt w' ao (strs (namesB ls))) := by
  have HN := Lib.hid hbn; have HE := Lib.hid h; have HF := Lib.hid hf; have hl : n ≤ 1048576 := by have := hf.len; omega
  clear hbn h hf
  go_enter Tryz.func116, Tryz.ntmps116
  go_wp2
  go_loopw [11, 3] (fun iv ov wr => VarsOut w ls n iv ov wr) (fun iv _ _ => n - (intOf iv).toNat)
  case atStart => exact ⟨0, Nat.zero_le _, rfl, Row.nil _ _ _ _, (Kp.refl w).alloc _⟩
  case round =>
    obtain ⟨i, hi, rfl, hrow, hex⟩ := hrel
    by_cases hlt : i < n
    · have hlt' : i < ls.length := by rw [← HN.out]; exact hlt
      obtain ⟨l, hli⟩ : ∃ l, ls[i]? = some l := ⟨_, List.getElem?_eq_getElem hlt'⟩
      obtain ⟨b, off, a, cap, eao, hG, hb, hL, c0, c1, c2, c3, c4, c5, c6, c7⟩ := lit_at HE.out hli
      subst eao
      replace c0 := hex.out.cell c0 id
      replace c1 := hex.out.cell c1 id
      replace c2 := hex.out.cell c2 id
      replace c3 := hex.out.cell c3 id
      replace c4 := hex.out.cell c4 id
      replace c5 := hex.out.cell c5 id
      replace c6 := hex.out.cell c6 id
      replace c7 := hex.out.cell c7 id
      obtain ⟨m, em⟩ : ∃ m, m = (termsOf l).length := ⟨_, rfl⟩
      rw [← em] at c2
      have hm : m ≤ 1048576 := by rw [em]; exact HF.out.terms l (List.mem_of_getElem? hli)
      have HL := Lib.hid (And.intro hli (And.intro hL em))
      clear hli hlt' hL em hG hb
      obtain ⟨k, ek⟩ : ∃ k, l.1 = k := ⟨_, rfl⟩
      rw [ek] at c0
      generalize predOf l = s1 at c1
      generalize opOf l = s3 at c3
      generalize (leftOf l).1 = s4 at c4
      generalize (leftOf l).2.1 = s5 at c5
      generalize (rightOf l).1 = s6 at c6
      generalize (rightOf l).2.1 = s7 at c7
      have HK := Lib.hid ek; clear ek
      go_wp2
      obtain ⟨wb, eb⟩ : ∃ wb, wr.alloc (.cells #[.int .i64 k, .string s1, .slice a m cap, .int .i64 s3, .int .i64 s4, .string s5, .int .i64 s6, .string s7] 97) = wb := ⟨_, rfl⟩
      rw [eb]
      have hB : Blk wb wr.heap.size [.int .i64 k, .string s1, .slice a m cap, .int .i64 s3, .int .i64 s4, .string s5, .int .i64 s6, .string s7] 97 := by rw [← eb]; exact Blk.new wr [_, _, _, _, _, _, _, _] _
      have hx : Ext wr wb := by rw [← eb]; exact (Kp.refl wr).alloc _
      have hrow2 : Row wb 9 1 u3 (namesIn (namesB (ls.take i)) l 0).length (strs (namesIn (namesB (ls.take i)) l 0)) (fun k => New w k ∧ k ≠ wr.heap.size) := by
        rw [namesIn_zero]
        exact hrow.out.beside hx
      have HX := Lib.hid (hex.out.trans hx)
      have HB := Lib.hid hB
      have HR := Lib.hid hrow2
      have hnew : New w wr.heap.size := hex.out.size
      have HW := Lib.hid (And.intro hnew (Nat.lt_of_lt_of_le (Nat.lt_succ_self _) (by rw [← eb, alloc_size]; exact Nat.le_refl _) : wr.heap.size < wb.heap.size))
      have d0 : wb.cell? ⟨wr.heap.size, 2, none⟩ = some (.slice a m cap) := by rw [hB.cell']; rfl
      obtain ⟨g, eg⟩ : ∃ g, g = wr.heap.size := ⟨_, rfl⟩
      rw [← eg] at HB HR HW d0
      have hlt2 : (i : Int) < (n : Int) := by omega
      clear hB hrow2 hx eb hnew c0 c1 c2 c3 c4 c5 c6 c7
      rw [← eg]
      clear eg
      go_wp2
      clear d0
      go_loopw [19, 3] (fun iv ov wr => VarsIn w (namesB (ls.take i)) l g [.int .i64 k, .string s1, .slice a m cap, .int .i64 s3, .int .i64 s4, .string s5, .int .i64 s6, .string s7] m iv ov wr) (fun iv _ _ => m - (intOf iv).toNat)
      case atStart => exact ⟨0, Nat.zero_le _, rfl, HR.out, HX.out, HB.out⟩
      case round =>
        obtain ⟨j, hj, rfl, hrow3, hex3, hblk3⟩ := hrel
        by_cases hlt3 : j < m
        · have hlt4 : j < (termsOf l).length := by rw [← HL.out.2.2]; exact hlt3
          obtain ⟨t, ht⟩ : ∃ t, (termsOf l)[j]? = some t := ⟨_, List.getElem?_eq_getElem hlt4⟩
          obtain ⟨b2, off2, eao2, f0, f1, _⟩ := term_at (HL.out.2.1.terms.ext hex3.out) ht
          subst eao2
          obtain ⟨kt, st, ⟨⟩⟩ := t
          simp only at f0 f1
          have hs := namesIn_succ (namesB (ls.take i)) ht
          have HT := Lib.hid hs
          clear ht hlt4 hs
          have e0 : (wr.alloc (.cells #[.int .i64 kt, .string st] 94)).cell? ⟨g, 0, none⟩ = some (.int .i64 k) := by rw [(hblk3.out.alloc _).cell']; rfl
          have hlen : (namesIn (namesB (ls.take i)) l j).length ≤ 1099513724928 := by
            have h1 := namesIn_len (namesB (ls.take i)) l j
            have h2 : (namesB (ls.take i)).length ≤ (ls.take i).length * 1048576 := namesB_len fun x hx => HF.out.terms x (List.mem_of_mem_take hx)
            rw [List.length_take] at h2
            omega
          generalize eN : namesIn (namesB (ls.take i)) l j = N at *
          by_cases h1 : k = 1
          · subst h1
            by_cases h2 : kt = 1
            · subst h2
              have hrow4 := hrow3.out
              obtain ⟨ao, cap4, eov, hcells, hle⟩ := hrow4.shape
              subst eov
              have HS := Lib.hid (fun (W : World) (hW : Ext wr W) => containsS_any N st ao N.length cap4 W rfl (hcells.ext hW) (by omega))
              have HR4 := Lib.hid hrow4
              clear hcells hrow4 hrow3
              go_wp2_with fail
              refine (HS.out _ ((Kp.refl _).alloc _)).mono ?_
              rintro e w1 ⟨v, rfl, hk1, rfl⟩
              have bb := Blk.new wr [.int .i64 1, .string st] 94
              have f2 : w1.cell? ⟨wr.heap.size, 1, none⟩ = some (.string st) := by rw [(bb.ext hk1).cell']; rfl
              have HE1 := Lib.hid (((Kp.refl _).alloc _).trans hk1)
              clear hk1 bb
              cases hh : hasT N st
              · have HT2 := Lib.hid (HT.out.trans (if_pos ⟨HK.out, by first | rfl | trivial, hh⟩))
                go_wp2_with (first | (at_builtin; refine Halted.out ?_))
                refine Halted.mk (wp_app elem_strV rfl _ _ rfl ((hex3.out.trans HE1.out).alloc _) (fun q h1 h2 => absurd h2 (Nat.not_lt.2 h1.1)) (fun q h1 => ?_) rfl ((HR4.out.ext HE1.out).alloc _) rfl (by rfl) (CellsAt.one _ _ _) (by simp [Value.oneCell']) (by omega) (by unfold maxLen; omega) ?_)
                · have a1 := hex3.out.size
                  have a2 := HE1.out.size
                  have a3 := hblk3.out.lt
                  rw [alloc_size] at h1
                  exact ⟨by unfold New; omega, by omega⟩
                · intro v1 w2 hr1 hk1 hk2 _
                  have hk3 := hk2
                  have hb2 : Blk w2 g _ _ := ((hblk3.out.ext HE1.out).alloc _).kp hk2 (fun e => absurd rfl (HR4.out.block g e).2)
                  have HR5 := Lib.hid (And.intro hr1 (And.intro hk1 hb2))
                  clear hr1 hk1 hk2 hk3 hb2
                  go_wp2
                  go_roundw
                  case rel =>
                    refine ⟨j + 1, by omega, by first | rfl | (congr 1; done) | (congr 1; omega), ?_, HR5.out.2.1, HR5.out.2.2⟩
                    have h := HR5.out.1
                    rw [HT2.out, ← strs_snoc, List.length_append]
                    exact h
                  case measure => simp [intOf]; omega
              · have HT2 := Lib.hid (HT.out.trans (if_neg fun x => by rw [hh] at x; cases x.2.2))
                go_wp2
                go_roundw
                case rel =>
                  exact ⟨j + 1, by omega, by first | rfl | (congr 1; done) | (congr 1; omega), by rw [HT2.out]; exact HR4.out.ext HE1.out, hex3.out.trans HE1.out, hblk3.out.ext HE1.out⟩
                case measure => simp [intOf]; omega
            · have HT2 := Lib.hid (HT.out.trans (if_neg fun x => h2 x.2.1))
              have b2 : (kt == 1) = false := by simp [h2]
              go_wp2
              go_roundw
              case rel =>
                exact ⟨j + 1, by omega, by first | rfl | (congr 1; done) | (congr 1; omega), by rw [HT2.out]; exact hrow3.out.alloc _, hex3.out.alloc _, hblk3.out.alloc _⟩
              case measure => simp [intOf]; omega
          · have HT2 := Lib.hid (HT.out.trans (if_neg fun x => h1 (HK.out.symm.trans x.1)))
            have b2 : (k == 1) = false := by simp [h1]
            go_wp2
            go_roundw
            case rel =>
              exact ⟨j + 1, by omega, by first | rfl | (congr 1; done) | (congr 1; omega), by rw [HT2.out]; exact hrow3.out.alloc _, hex3.out.alloc _, hblk3.out.alloc _⟩
            case measure => simp [intOf]; omega
        · have HA := Lib.hid (namesIn_all (namesB (ls.take i)) l (c := j) (by have := HL.out.2.2; omega))
          go_wp2
          go_roundw
          case rel =>
            refine ⟨i + 1, by omega, by first | rfl | (congr 1; done) | (congr 1; omega), ?_, hex3⟩
            have h := hrow3.out
            have e : namesB (ls.take (i + 1)) = namesL (namesB (ls.take i)) l := fold_take _ _ HL.out.1
            rw [HA.out, ← e] at h
            exact h.mono fun _ x => x.1
          case measure => simp [intOf]; omega
    · have e : ls.take i = ls := List.take_of_length_le (by have := HN.out; omega)
      have hrow4 := hrow.out
      rw [e] at hrow4
      obtain ⟨ao, cap4, eov, hcells, hle⟩ := hrow4.shape
      subst eov
      have HS := Lib.hid (fun (W : World) => clipS_any ao (namesB ls).length cap4 W hle)
      have HC := Lib.hid hcells
      clear hcells hrow4 hrow hle e
      go_wp2_with fail
      refine (HS.out _).mono ?_
      rintro e w1 ⟨v, rfl, hk1, rfl⟩
      go_wp2
      go_ret
      exact RetN.mk (hex.out.trans hk1) ⟨ao, _, rfl, Nat.le_refl _, HC.out.ext hk1⟩
end Go.Proofs.YtomeebimmmfmbaaGreat

/- join: Check, Vars. -/
namespace Go.Proofs.YtomeebimmmfmbaaGreat
open Go.RowKit
set_option linter.unusedVariables false
set_option maxRecDepth 100000 in
theorem safe_any (N : List ByteArray) (ao : Option Addr) (m cap gb : Nat) (k : Int) (s : ByteArray) (blank : Bool) (w : World) (hm : m = N.length) (hc : w.cell? ⟨gb, 0, none⟩ = some (.slice ao m cap)) (h : CellsAt w ao (strs N)) (hl : m ≤ 4611686018427387904) :
    Calls Tryz.prog 117 #[termV k s, .bool blank, .pointer (some ⟨gb, 0, none⟩)] w (RetN w fun w' v => v = .bool (safeT N blank (k, s, ()))) := by
  by_cases h2 : k = 2
  · subst h2
    go_enter Tryz.func117, Tryz.ntmps117
    go_wp2
    go_ret
    exact RetN.mk ((Kp.refl w).alloc _) (by unfold safeT; simp)
  · have b2 : (k == 2) = false := by simp [h2]
    by_cases h34 : k = 3 ∨ k = 4
    · rcases h34 with rfl | rfl
      all_goals
        clear h2 b2
        go_enter Tryz.func117, Tryz.ntmps117
        go_wp2
        go_ret
        exact RetN.mk ((Kp.refl w).alloc _) (by unfold safeT; simp)
    · have b3 : (k == 3) = false := by simp; exact fun e => h34 (.inl e)
      have b4 : (k == 4) = false := by simp; exact fun e => h34 (.inr e)
      have HS := Lib.hid (fun (W : World) (hW : Ext w W) => containsS_any N s ao m cap W hm (h.ext hW) hl)
      have e0 : (w.alloc (.cells #[.int .i64 k, .string s] 94)).cell? ⟨gb, 0, none⟩ = some (.slice ao m cap) := ((Kp.refl (F := fun _ => False) w).alloc _).cell hc id
      have HH := Lib.hid (And.intro h2 h34); clear h2 h34 h hm hc
      go_enter Tryz.func117, Tryz.ntmps117
      go_wp2_with fail
      refine (HS.out _ ((Kp.refl _).alloc _)).mono ?_
      rintro e w1 ⟨v, rfl, hk1, rfl⟩
      go_wp2
      go_ret
      refine RetN.mk (((Kp.refl w).alloc _).trans hk1) ?_
      obtain ⟨h2, h34⟩ := HH.out
      show Value.bool (hasT N s) = _
      refine congrArg Value.bool ?_
      unfold safeT
      rw [if_neg h2]
      cases hh : hasT N s
      · symm; apply decide_eq_false; rintro (x | x | x)
        · exact h34 (.inl x)
        · exact h34 (.inr x)
        · cases x
      · symm; exact decide_eq_true (.inr (.inr rfl))
def AllTo (w0 : World) {α : Type} (xs : List α) (q : α → Bool) (n : Nat) (iv : Value) (w : World) : Prop := ∃ i : Nat, i ≤ n ∧ iv = .int .i64 i ∧ Hid ((xs.take i).all q = true) ∧ Hid (Ext w0 w)
theorem all_take {α : Type} {q : α → Bool} {xs : List α} {i : Nat} {x : α} (h : xs[i]? = some x) : (xs.take (i + 1)).all q = ((xs.take i).all q && q x) := by
  rw [List.take_add_one, h, List.all_append]; simp
theorem all_no {α : Type} {q : α → Bool} {xs : List α} {i : Nat} {x : α} (h : xs[i]? = some x) (hq : q x = false) : xs.all q = false := by
  rw [List.all_eq_false]; exact ⟨x, List.mem_of_getElem? h, by rw [hq]; decide⟩
set_option maxRecDepth 100000 in
set_option maxHeartbeats 8000000 in
theorem check_any (p : ByteArray) (hs : List TermZ) (ls : List LitZ) (ha : Option Addr) (hn hcap : Nat) (ba : Option Addr) (n bcap : Nat) (w : World) (G : Nat → Prop) (hhn : hn = hs.length) (hh : TermsAt w G ha hs) (hhl : hn ≤ 1048576) (hbn : n = ls.length) (h : LitsAt w G ba ls) (hf : Fit ls) :
    Calls Tryz.prog 76 #[ruleV p ha hn hcap ba n bcap] w (RetN w fun w' v => v = .int .i64 (checkR ((p, hs, ()), ls, ()))) := by
  have HN := Lib.hid hbn; have HE := Lib.hid h; have HF := Lib.hid hf; have hl : n ≤ 1048576 := by have := hf.len; omega
  have HHN := Lib.hid hhn; have HHE := Lib.hid hh
  have HHead := Lib.hid (fun (W : World) (hW : Ext w W) => head_any hs ha hn hcap W G hhn (hh.ext hW) hhl)
  obtain ⟨m, em⟩ : ∃ m, m = (namesB ls).length := ⟨_, rfl⟩
  have HVars0 := fun (W : World) (hW : Ext w W) => vars_any p ha hn hcap ls ba n bcap W G hbn (h.ext hW) hf
  rw [← em] at HVars0
  have HVars := Lib.hid HVars0
  have EM := Lib.hid em
  clear HVars0 em
  have HLit := Lib.hid (fun (W : World) (hW : Ext w W) (l : LitZ) (hl : l ∈ ls) (a : Option Addr) (cap : Nat) (hin : LitIn w G l a cap) => literal_any l.1 (predOf l) (termsOf l) a (termsOf l).length cap (opOf l) (leftOf l).1 (leftOf l).2.1 (rightOf l).1 (rightOf l).2.1 W G rfl (hin.terms.ext hW) (hf.terms l hl) hin.left.1 hin.left.2 hin.right.1 hin.right.2)
  clear hbn h hf hhn hh
  go_enter Tryz.func76, Tryz.ntmps76
  go_wp2_with fail
  refine (HHead.out _ ((Kp.refl _).alloc _)).mono ?_
  rintro e w1 ⟨v, rfl, hk1, rfl⟩
  have bb := Blk.new w [.string p, .slice ha hn hcap, .slice ba n bcap] 28
  have B1 := Lib.hid (bb.ext hk1)
  have b1 : w1.cell? ⟨w.heap.size, 2, none⟩ = some (.slice ba n bcap) := by rw [B1.out.cell']; rfl
  have X1 := Lib.hid (((Kp.refl _).alloc _).trans hk1)
  clear hk1 bb
  cases hhd : headOk hs
  · go_wp2
    go_ret
    exact RetN.mk X1.out (by unfold checkR parted; rw [if_neg (by rw [hhd]; simp)]; rfl)
  · go_wp2
    clear b1
    go_loopw [21] (fun iv wr => AllTo w1 ls litOk n iv wr) (fun iv _ => n - (intOf iv).toNat)
    case atStart => exact ⟨0, Nat.zero_le _, rfl, rfl, Kp.refl _⟩
    case round =>
      obtain ⟨i, hi, rfl, hall, hex⟩ := hrel
      have XR := Lib.hid (X1.out.trans hex.out)
      by_cases hlt : i < n
      · have hlt' : i < ls.length := by rw [← HN.out]; exact hlt
        obtain ⟨l, hli⟩ : ∃ l, ls[i]? = some l := ⟨_, List.getElem?_eq_getElem hlt'⟩
        obtain ⟨b, off, a, cap, eao, hG, hb, hL, c0, c1, c2, c3, c4, c5, c6, c7⟩ := lit_at HE.out hli
        subst eao
        replace c0 := XR.out.cell c0 id
        replace c1 := XR.out.cell c1 id
        replace c2 := XR.out.cell c2 id
        replace c3 := XR.out.cell c3 id
        replace c4 := XR.out.cell c4 id
        replace c5 := XR.out.cell c5 id
        replace c6 := XR.out.cell c6 id
        replace c7 := XR.out.cell c7 id
        have HL := Lib.hid hli
        have HC := Lib.hid (fun (W : World) (hW : Ext w W) => HLit.out W hW l (List.mem_of_getElem? hli) a cap hL)
        clear hli hlt' hL hG hb
        go_wp2_with fail
        refine (HC.out _ (XR.out.alloc _)).mono ?_
        rintro e w2 ⟨v, rfl, hk2, rfl⟩
        have X2 := Lib.hid ((hex.out.alloc _).trans hk2)
        clear hk2 c0 c1 c2 c3 c4 c5 c6 c7
        cases hq : litOk l
        · go_wp2
          go_ret
          refine RetN.mk (X1.out.trans X2.out) ?_
          unfold checkR parted
          rw [if_neg (by rw [all_no HL.out hq]; simp)]; rfl
        · go_wp2
          go_roundw
          case rel => exact ⟨i + 1, by omega, by first | rfl | (congr 1; done) | (congr 1; omega), by rw [all_take HL.out, hall.out, hq]; rfl, X2⟩
          case measure => simp [intOf]; omega
      · have e : ls.take i = ls := List.take_of_length_le (by have := HN.out; omega)
        have HA := Lib.hid hall.out
        rw [e] at HA
        have c0 : wr.cell? ⟨w.heap.size, 0, none⟩ = some (.string p) := by rw [(B1.out.ext hex.out).cell']; rfl
        have c1 : wr.cell? ⟨w.heap.size, 1, none⟩ = some (.slice ha hn hcap) := by rw [(B1.out.ext hex.out).cell']; rfl
        have c2 : wr.cell? ⟨w.heap.size, 2, none⟩ = some (.slice ba n bcap) := by rw [(B1.out.ext hex.out).cell']; rfl
        clear e hall
        go_wp2_with fail
        refine (HVars.out _ XR.out).mono ?_
        rintro e w2 ⟨v, rfl, hk2, ao, cap, rfl, hle, hcells⟩
        have hm : m ≤ 4611686018427387904 := by
          have h1 := namesB_len HF.out.terms
          have h2 := HF.out.len
          have h3 := Nat.mul_le_mul_right 1048576 h2
          have h4 := EM.out
          omega
        clear c0 c1 c2
        have B2 := Lib.hid (B1.out.ext (hex.out.trans hk2))
        have hx2 : Ext w (w2.alloc (.cells #[.slice ao m cap] 76)) := (XR.out.trans hk2).alloc _
        obtain ⟨wb, eb⟩ : ∃ wb, w2.alloc (.cells #[.slice ao m cap] 76) = wb := ⟨_, rfl⟩
        have bn := Blk.new w2 [.slice ao m cap] 76
        have HSafe := Lib.hid (fun (W : World) (hW : Ext wb W) (k : Int) (s : ByteArray) (blank : Bool) => safe_any (namesB ls) ao m cap w2.heap.size k s blank W EM.out (by
          have := bn.cell 0 (by simp)
          rw [← eb] at hW
          exact hW.cell this id) ((hcells.alloc _).ext (eb ▸ hW)) hm)
        have HX2 := Lib.hid hx2
        rw [eb] at HX2
        have C1 := Lib.hid (B2.out.alloc (.cells #[.slice ao m cap] 76))
        rw [eb] at C1
        have c1 : (w2.alloc (.cells #[.slice ao m cap] 76)).cell? ⟨w.heap.size, 1, none⟩ = some (.slice ha hn hcap) := by rw [eb, C1.out.cell']; rfl
        clear hk2 hle hcells hx2 bn
        have EB := Lib.hid eb; clear eb
        go_wp2
        rw [EB.out]
        clear c1
        go_loopw [36] (fun iv wr => AllTo wb hs (safeT (namesB ls) false) hn iv wr) (fun iv _ => hn - (intOf iv).toNat)
        case atStart => exact ⟨0, Nat.zero_le _, rfl, rfl, Kp.refl _⟩
        case round =>
          obtain ⟨j, hj, rfl, hall3, hex3⟩ := hrel
          have X3 := Lib.hid (HX2.out.trans hex3.out)
          by_cases hlt3 : j < hn
          · have hlt4 : j < hs.length := by rw [← HHN.out]; exact hlt3
            obtain ⟨t, ht⟩ : ∃ t, hs[j]? = some t := ⟨_, List.getElem?_eq_getElem hlt4⟩
            obtain ⟨b2, off2, eao2, f0, f1, _⟩ := term_at (HHE.out.ext X3.out) ht
            subst eao2
            obtain ⟨kt, st, ⟨⟩⟩ := t
            simp only at f0 f1
            have HT := Lib.hid ht
            clear ht hlt4
            go_wp2_with fail
            refine (HSafe.out _ (hex3.out.alloc _) kt st false).mono ?_
            rintro e w3 ⟨v, rfl, hk3, rfl⟩
            have X4 := Lib.hid ((hex3.out.alloc _).trans hk3)
            clear hk3 f0 f1
            cases hq : safeT (namesB ls) false (kt, st, ())
            · go_wp2
              go_ret
              refine RetN.mk (HX2.out.trans X4.out) ?_
              unfold checkR safeR parted
              rw [if_pos (by simp only [Bool.and_eq_true]; exact ⟨hhd, HA.out⟩), if_neg (by rw [all_no HT.out hq]; simp)]; rfl
            · go_wp2
              go_roundw
              case rel => exact ⟨j + 1, by omega, by first | rfl | (congr 1; done) | (congr 1; omega), by rw [all_take HT.out, hall3.out, hq]; rfl, X4⟩
              case measure => simp [intOf]; omega
          · have e : hs.take j = hs := List.take_of_length_le (by have := HHN.out; omega)
            have HB := Lib.hid hall3.out
            rw [e] at HB
            have c2 : wr.cell? ⟨w.heap.size, 2, none⟩ = some (.slice ba n bcap) := by rw [(C1.out.ext hex3.out).cell']; rfl
            clear e hall3
            have hltn : ¬ (j : Int) < (hn : Int) := by omega
            go_wp2
            clear c2
            go_loopw [48] (fun iv wr => AllTo wb ls (safeL (namesB ls)) n iv wr) (fun iv _ => n - (intOf iv).toNat)
            case atStart => exact ⟨0, Nat.zero_le _, rfl, rfl, hex3⟩
            case round =>
              obtain ⟨q, hq, rfl, hall4, hex4⟩ := hrel
              have X5 := Lib.hid (HX2.out.trans hex4.out)
              by_cases hlt5 : q < n
              · have hlt6 : q < ls.length := by rw [← HN.out]; exact hlt5
                obtain ⟨l, hli⟩ : ∃ l, ls[q]? = some l := ⟨_, List.getElem?_eq_getElem hlt6⟩
                obtain ⟨b, off, a, cap2, eao, hG, hb, hL, c0, c1, c2, c3, c4, c5, c6, c7⟩ := lit_at HE.out hli
                subst eao
                replace c0 := X5.out.cell c0 id
                replace c1 := X5.out.cell c1 id
                replace c2 := X5.out.cell c2 id
                replace c3 := X5.out.cell c3 id
                replace c4 := X5.out.cell c4 id
                replace c5 := X5.out.cell c5 id
                replace c6 := X5.out.cell c6 id
                replace c7 := X5.out.cell c7 id
                have HL := Lib.hid (And.intro hli hL)
                have hq2 : (q : Int) < (n : Int) := by omega
                obtain ⟨mm, emm⟩ : ∃ mm, mm = (termsOf l).length := ⟨_, rfl⟩
                rw [← emm] at c2
                have HM := Lib.hid emm
                have hmm : mm ≤ 1048576 := by rw [emm]; exact HF.out.terms l (List.mem_of_getElem? hli)
                clear hli hlt6 hL hG hb emm
                have HSafe2 := HSafe
                obtain ⟨k, ek⟩ : ∃ k, l.1 = k := ⟨_, rfl⟩
                obtain ⟨lk, elk⟩ : ∃ lk, (leftOf l).1 = lk := ⟨_, rfl⟩
                obtain ⟨lt, elt⟩ : ∃ lt, (leftOf l).2.1 = lt := ⟨_, rfl⟩
                obtain ⟨rk, erk⟩ : ∃ rk, (rightOf l).1 = rk := ⟨_, rfl⟩
                obtain ⟨rt, ert⟩ : ∃ rt, (rightOf l).2.1 = rt := ⟨_, rfl⟩
                rw [ek] at c0
                rw [elk] at c4
                rw [elt] at c5
                rw [erk] at c6
                rw [ert] at c7
                have eleft : leftOf l = (lk, lt, ()) := by rw [← elk, ← elt]
                have eright : rightOf l = (rk, rt, ()) := by rw [← erk, ← ert]
                generalize predOf l = s1 at c1
                generalize opOf l = s3 at c3
                have HK := Lib.hid (And.intro ek (And.intro eleft eright)); clear ek elk elt erk ert eleft eright
                obtain ⟨wx, ewx⟩ : ∃ wx, wr.alloc (.cells #[.int .i64 k, .string s1, .slice a mm cap2, .int .i64 s3, .int .i64 lk, .string lt, .int .i64 rk, .string rt] 97) = wx := ⟨_, rfl⟩
                have hB := Blk.new wr [.int .i64 k, .string s1, .slice a mm cap2, .int .i64 s3, .int .i64 lk, .string lt, .int .i64 rk, .string rt] 97
                have hWX : Ext wb wx := by rw [← ewx]; exact hex4.out.alloc _
                have hXX : Ext w wx := HX2.out.trans hWX
                obtain ⟨g, eg⟩ : ∃ g, g = wr.heap.size := ⟨_, rfl⟩
                have HGB := Lib.hid hB
                rw [← eg] at HGB
                have ewx2 : wr.alloc (.cells [Value.int .i64 k, .string s1, .slice a mm cap2, .int .i64 s3, .int .i64 lk, .string lt, .int .i64 rk, .string rt].toArray 97) = wx := ewx
                rw [ewx2] at HGB
                have HWX := Lib.hid hWX
                have HXX := Lib.hid hXX
                have EG := Lib.hid (And.intro eg ewx)
                clear hB hWX hXX eg ewx ewx2
                by_cases h3 : k = 3
                · have b3 : (k == 3) = true := by simp [h3]
                  have n2 : ¬ k = 2 := by omega
                  have HH3 := Lib.hid (And.intro h3 n2); clear h3 n2
                  go_wp2_with fail
                  rw [EG.out.2, ← EG.out.1]
                  refine (HSafe.out _ HWX.out lk lt false).mono ?_
                  rintro e w5 ⟨v, rfl, hk5, rfl⟩
                  have X6 := Lib.hid hk5
                  have d6 : w5.cell? ⟨g, 6, none⟩ = some (.int .i64 rk) := by rw [(HGB.out.ext hk5).cell']; rfl
                  have d7 : w5.cell? ⟨g, 7, none⟩ = some (.string rt) := by rw [(HGB.out.ext hk5).cell']; rfl
                  clear hk5 c0 c1 c2 c3 c4 c5 c6 c7
                  cases hsl : safeT (namesB ls) false (lk, lt, ())
                  · go_wp2
                    go_ret
                    refine RetN.mk (HXX.out.trans X6.out) ?_
                    have hno : safeL (namesB ls) l = false := by unfold safeL; rw [if_pos (HK.out.1.trans HH3.out.1), HK.out.2.1, hsl]; rfl
                    unfold checkR safeR parted
                    rw [if_pos (by simp only [Bool.and_eq_true]; exact ⟨hhd, HA.out⟩), if_neg (by rw [all_no HL.out.1 hno]; simp)]; rfl
                  · go_wp2_with fail
                    refine (HSafe.out _ (HWX.out.trans X6.out) rk rt false).mono ?_
                    rintro e w7 ⟨v, rfl, hk7, rfl⟩
                    have X7 := Lib.hid (X6.out.trans hk7)
                    clear hk7 d6 d7
                    cases hsr : safeT (namesB ls) false (rk, rt, ())
                    · go_wp2
                      go_ret
                      refine RetN.mk (HXX.out.trans X7.out) ?_
                      have hno : safeL (namesB ls) l = false := by unfold safeL; rw [if_pos (HK.out.1.trans HH3.out.1), HK.out.2.1, HK.out.2.2, hsr, Bool.and_false]
                      unfold checkR safeR parted
                      rw [if_pos (by simp only [Bool.and_eq_true]; exact ⟨hhd, HA.out⟩), if_neg (by rw [all_no HL.out.1 hno]; simp)]; rfl
                    · have HSL := Lib.hid (show safeL (namesB ls) l = (termsOf l).all (fun t => if k = 2 then safeT (namesB ls) true t else true) by
                        unfold safeL; rw [if_pos (HK.out.1.trans HH3.out.1), HK.out.2.1, HK.out.2.2, hsl, hsr]
                        exact (List.all_eq_true.2 (fun t _ => if_neg HH3.out.2)).symm)
                      have d0 : w7.cell? ⟨g, 2, none⟩ = some (.slice a mm cap2) := by rw [(HGB.out.ext X7.out).cell']; rfl
                      have HX7 := X7
                      clear X7
                      go_wp2
                      clear d0
                      go_loopw [73] (fun iv wr => AllTo wx (termsOf l) (fun t => if k = 2 then safeT (namesB ls) true t else true) mm iv wr) (fun iv _ => mm - (intOf iv).toNat)
                      case atStart => exact ⟨0, Nat.zero_le _, rfl, rfl, HX7.out⟩
                      case round =>
                        obtain ⟨z, hz, rfl, hall8, hex8⟩ := hrel
                        have X8 := Lib.hid (HXX.out.trans hex8.out)
                        by_cases hlt7 : z < mm
                        · have hlt8 : z < (termsOf l).length := by rw [← HM.out]; exact hlt7
                          obtain ⟨t, ht⟩ : ∃ t, (termsOf l)[z]? = some t := ⟨_, List.getElem?_eq_getElem hlt8⟩
                          obtain ⟨b9, off9, eao9, f0, f1, _⟩ := term_at (HL.out.2.terms.ext X8.out) ht
                          subst eao9
                          obtain ⟨kt, st, ⟨⟩⟩ := t
                          simp only at f0 f1
                          have HT := Lib.hid ht
                          have e0 : (wr.alloc (.cells #[.int .i64 kt, .string st] 94)).cell? ⟨g, 0, none⟩ = some (.int .i64 k) := by rw [((HGB.out.ext hex8.out).alloc _).cell']; rfl
                          clear ht hlt8
                          by_cases h2 : k = 2
                          · have b2 : (k == 2) = true := by simp [h2]
                            have HH2 := Lib.hid h2; clear h2
                            go_wp2_with fail
                            refine (HSafe.out _ ((HWX.out.trans hex8.out).alloc _) kt st true).mono ?_
                            rintro e w9 ⟨v, rfl, hk9, rfl⟩
                            have X9 := Lib.hid ((hex8.out.alloc _).trans hk9)
                            clear hk9 f0 f1 e0
                            cases hqq : safeT (namesB ls) true (kt, st, ())
                            · go_wp2
                              go_ret
                              refine RetN.mk (HXX.out.trans X9.out) ?_
                              have hno : safeL (namesB ls) l = false := by rw [HSL.out]; exact all_no HT.out (by show (if k = 2 then _ else _) = false; rw [if_pos HH2.out]; exact hqq)
                              unfold checkR safeR parted
                              rw [if_pos (by simp only [Bool.and_eq_true]; exact ⟨hhd, HA.out⟩), if_neg (by rw [all_no HL.out.1 hno]; simp)]; rfl
                            · go_wp2
                              go_roundw
                              case rel => exact ⟨z + 1, by omega, by first | rfl | (congr 1; done) | (congr 1; omega), by rw [all_take HT.out, hall8.out]; show (if k = 2 then _ else _) = true; rw [if_pos HH2.out]; exact hqq, X9⟩
                              case measure => simp [intOf]; omega
                          · have b2 : (k == 2) = false := by simp [h2]
                            have HH2 := Lib.hid h2; clear h2
                            go_wp2
                            go_roundw
                            case rel => exact ⟨z + 1, by omega, by first | rfl | (congr 1; done) | (congr 1; omega), by rw [all_take HT.out, hall8.out]; show (if k = 2 then _ else _) = true; rw [if_neg HH2.out], hex8.out.alloc _⟩
                            case measure => simp [intOf]; omega
                        · have e : (termsOf l).take z = termsOf l := List.take_of_length_le (by have := HM.out; omega)
                          have H9 := Lib.hid hall8.out
                          rw [e] at H9
                          clear e hall8
                          have hzm : ¬ (z : Int) < (mm : Int) := by omega
                          go_wp2
                          go_roundw
                          case rel => exact ⟨q + 1, by omega, by first | rfl | (congr 1; done) | (congr 1; omega), by rw [all_take HL.out.1, hall4.out, HSL.out, H9.out]; rfl, HWX.out.trans hex8.out⟩
                          case measure => simp [intOf]; omega
                · have b3 : (k == 3) = false := by simp [h3]
                  have HSL := Lib.hid (show safeL (namesB ls) l = (termsOf l).all (fun t => if k = 2 then safeT (namesB ls) true t else true) by
                    unfold safeL; rw [if_neg (fun x => h3 (HK.out.1.symm.trans x)), HK.out.1]
                    by_cases h2 : k = 2
                    · rw [if_pos h2]; congr 1; funext t; rw [if_pos h2]
                    · rw [if_neg h2]; symm; rw [List.all_eq_true]; intro t _; rw [if_neg h2])
                  have HH3 := Lib.hid h3; clear h3
                  have d0 : (wr.alloc (.cells #[.int .i64 k, .string s1, .slice a mm cap2, .int .i64 s3, .int .i64 lk, .string lt, .int .i64 rk, .string rt] 97)).cell? ⟨wr.heap.size, 2, none⟩ = some (.slice a mm cap2) := by rw [EG.out.2, ← EG.out.1, HGB.out.cell']; rfl
                  go_wp2
                  rw [EG.out.2, ← EG.out.1]
                  have HX7 := Lib.hid (Kp.refl (F := fun _ => False) wx)
                  clear c0 c1 c2 c3 c4 c5 c6 c7
                  clear d0
                  go_loopw [73] (fun iv wr => AllTo wx (termsOf l) (fun t => if k = 2 then safeT (namesB ls) true t else true) mm iv wr) (fun iv _ => mm - (intOf iv).toNat)
                  case atStart => exact ⟨0, Nat.zero_le _, rfl, rfl, HX7.out⟩
                  case round =>
                    obtain ⟨z, hz, rfl, hall8, hex8⟩ := hrel
                    have X8 := Lib.hid (HXX.out.trans hex8.out)
                    by_cases hlt7 : z < mm
                    · have hlt8 : z < (termsOf l).length := by rw [← HM.out]; exact hlt7
                      obtain ⟨t, ht⟩ : ∃ t, (termsOf l)[z]? = some t := ⟨_, List.getElem?_eq_getElem hlt8⟩
                      obtain ⟨b9, off9, eao9, f0, f1, _⟩ := term_at (HL.out.2.terms.ext X8.out) ht
                      subst eao9
                      obtain ⟨kt, st, ⟨⟩⟩ := t
                      simp only at f0 f1
                      have HT := Lib.hid ht
                      have e0 : (wr.alloc (.cells #[.int .i64 kt, .string st] 94)).cell? ⟨g, 0, none⟩ = some (.int .i64 k) := by rw [((HGB.out.ext hex8.out).alloc _).cell']; rfl
                      clear ht hlt8
                      by_cases h2 : k = 2
                      · have b2 : (k == 2) = true := by simp [h2]
                        have HH2 := Lib.hid h2; clear h2
                        go_wp2_with fail
                        refine (HSafe.out _ ((HWX.out.trans hex8.out).alloc _) kt st true).mono ?_
                        rintro e w9 ⟨v, rfl, hk9, rfl⟩
                        have X9 := Lib.hid ((hex8.out.alloc _).trans hk9)
                        clear hk9 f0 f1 e0
                        cases hqq : safeT (namesB ls) true (kt, st, ())
                        · go_wp2
                          go_ret
                          refine RetN.mk (HXX.out.trans X9.out) ?_
                          have hno : safeL (namesB ls) l = false := by rw [HSL.out]; exact all_no HT.out (by show (if k = 2 then _ else _) = false; rw [if_pos HH2.out]; exact hqq)
                          unfold checkR safeR parted
                          rw [if_pos (by simp only [Bool.and_eq_true]; exact ⟨hhd, HA.out⟩), if_neg (by rw [all_no HL.out.1 hno]; simp)]; rfl
                        · go_wp2
                          go_roundw
                          case rel => exact ⟨z + 1, by omega, by first | rfl | (congr 1; done) | (congr 1; omega), by rw [all_take HT.out, hall8.out]; show (if k = 2 then _ else _) = true; rw [if_pos HH2.out]; exact hqq, X9⟩
                          case measure => simp [intOf]; omega
                      · have b2 : (k == 2) = false := by simp [h2]
                        have HH2 := Lib.hid h2; clear h2
                        go_wp2
                        go_roundw
                        case rel => exact ⟨z + 1, by omega, by first | rfl | (congr 1; done) | (congr 1; omega), by rw [all_take HT.out, hall8.out]; show (if k = 2 then _ else _) = true; rw [if_neg HH2.out], hex8.out.alloc _⟩
                        case measure => simp [intOf]; omega
                    · have e : (termsOf l).take z = termsOf l := List.take_of_length_le (by have := HM.out; omega)
                      have H9 := Lib.hid hall8.out
                      rw [e] at H9
                      clear e hall8
                      have hzm : ¬ (z : Int) < (mm : Int) := by omega
                      go_wp2
                      go_roundw
                      case rel => exact ⟨q + 1, by omega, by first | rfl | (congr 1; done) | (congr 1; omega), by rw [all_take HL.out.1, hall4.out, HSL.out, H9.out]; rfl, HWX.out.trans hex8.out⟩
                      case measure => simp [intOf]; omega
              · have e : ls.take q = ls := List.take_of_length_le (by have := HN.out; omega)
                have HC := Lib.hid hall4.out
                rw [e] at HC
                clear e hall4
                have hqn : ¬ (q : Int) < (n : Int) := by omega
                go_wp2
                go_ret
                refine RetN.mk X5.out ?_
                unfold checkR safeR parted
                rw [if_pos (by simp only [Bool.and_eq_true]; exact ⟨hhd, HA.out⟩), if_pos (by simp only [Bool.and_eq_true]; exact ⟨HB.out, HC.out⟩)]; rfl
set_option maxRecDepth 100000 in
theorem joinVars_any (p : ByteArray) (hs : List TermZ) (ls : List LitZ) (ha : Option Addr) (hn hcap : Nat) (ba : Option Addr) (n bcap : Nat) (w : World) (G : Nat → Prop) (hhn : hn = hs.length) (hh : TermsAt w G ha hs) (hhl : hn ≤ 1048576) (hbn : n = ls.length) (h : LitsAt w G ba ls) (hf : Fit ls) (hc : checkR ((p, hs, ()), ls, ()) = 0) :
    Calls Tryz.prog 78 #[ruleV p ha hn hcap ba n bcap] w (RetN w fun w' v => ∃ ao cap, v = .slice ao (namesB ls).length cap ∧ (namesB ls).length ≤ cap ∧ CellsAt w' ao (strs (namesB ls))) := by
  have h1 := fun (W : World) (hW : Ext w W) => check_any p hs ls ha hn hcap ba n bcap W G hhn (hh.ext hW) hhl hbn (h.ext hW) hf
  rw [hc] at h1
  have HC := Lib.hid h1
  have HV := Lib.hid (fun (W : World) (hW : Ext w W) => vars_any p ha hn hcap ls ba n bcap W G hbn (h.ext hW) hf)
  clear h1 hhn hh hbn h hf hc
  go_enter Tryz.func78, Tryz.ntmps78
  go_wp2_with fail
  refine (HC.out _ ((Kp.refl _).alloc _)).mono ?_
  rintro e w1 ⟨v, rfl, hk1, rfl⟩
  have bb := (Blk.new w [.string p, .slice ha hn hcap, .slice ba n bcap] 28).ext hk1
  have c0 : w1.cell? ⟨w.heap.size, 0, none⟩ = some (.string p) := by rw [bb.cell']; rfl
  have c1 : w1.cell? ⟨w.heap.size, 1, none⟩ = some (.slice ha hn hcap) := by rw [bb.cell']; rfl
  have c2 : w1.cell? ⟨w.heap.size, 2, none⟩ = some (.slice ba n bcap) := by rw [bb.cell']; rfl
  have X1 := Lib.hid (((Kp.refl _).alloc _).trans hk1)
  clear hk1 bb
  go_wp2_with fail
  refine (HV.out _ X1.out).mono ?_
  rintro e w2 ⟨v, rfl, hk2, ao, cap, rfl, h1, h2⟩
  have X2 := Lib.hid (And.intro (X1.out.trans hk2) (And.intro h1 h2))
  clear hk2 h1 h2 c0 c1 c2
  go_wp2
  go_ret
  exact RetN.mk X2.out.1 ⟨ao, cap, rfl, X2.out.2⟩
end Go.Proofs.YtomeebimmmfmbaaGreat

/- The document's answer for join: has, kinds, names. -/
namespace Go.Proofs.YtomeebimmmfmbaaGreat
open Go.RowKit
set_option linter.unusedVariables false
end Go.Proofs.YtomeebimmmfmbaaGreat

/- The document's answer for join: parted, bound, Check, Vars. -/
namespace Go.Proofs.YtomeebimmmfmbaaGreat
open Go.RowKit
set_option linter.unusedVariables false
end Go.Proofs.YtomeebimmmfmbaaGreat

/- The document's answer for join: Check, Vars. -/
namespace Go.Proofs.YtomeebimmmfmbaaGreat
open Go.RowKit
set_option linter.unusedVariables false
end Go.Proofs.YtomeebimmmfmbaaGreat

/- cost: what is known, in memory; which counts are numbers; slices.IndexFunc, ContainsFunc at them. -/
namespace Go.Proofs.YtomeebimmmfmbaaGreat
open Go.RowKit
set_option linter.unusedVariables false
theorem run_store_float (P : Program) (w : World) (a : Addr) (m : Mode) (k : FloatKind) (b : Nat) : (store a (.float k b) m).run P w = stored P w a (.float k b) m := run_store P w a _ m rfl
def flts (xs : List Nat) : List Value := xs.map (Value.float .f64)
theorem CellsAt.flt {w : World} {ao : Option Addr} {xs : List Nat} (h : CellsAt w ao (flts xs)) {k : Nat} (hk : k < xs.length) : ∃ b off, ao = some ⟨b, off, none⟩ ∧ w.cell? ⟨b, off + k, none⟩ = some (.float .f64 xs[k]) :=
  h k _ (by simp [flts, hk])
def StatsAt (w : World) (ao : Option Addr) (S : List StatZ) : Prop := ∀ (i : Nat) (s : StatZ), S[i]? = some s → ∃ b off da dcap, ao = some ⟨b, off, none⟩ ∧ w.cell? ⟨b, off + i * 3, none⟩ = some (.string s.1) ∧ w.cell? ⟨b, off + i * 3 + 1, none⟩ = some (.float .f64 s.2.1) ∧ w.cell? ⟨b, off + i * 3 + 2, none⟩ = some (.slice da s.2.2.1.length dcap) ∧ s.2.2.1.length ≤ dcap ∧ dcap ≤ maxLen ∧ CellsAt w da (flts s.2.2.1)
theorem StatsAt.ext {w w' : World} {ao : Option Addr} {S : List StatZ} (h : StatsAt w ao S) (hk : Ext w w') : StatsAt w' ao S := fun i s hs => by
  obtain ⟨b, off, da, dcap, e, h1, h2, h3, h4, h5, h6⟩ := h i s hs
  exact ⟨b, off, da, dcap, e, hk.cell h1 id, hk.cell h2 id, hk.cell h3 id, h4, h5, h6.ext hk⟩
theorem StatsAt.take {w : World} {ao : Option Addr} {S : List StatZ} (h : StatsAt w ao S) (n : Nat) : StatsAt w ao (S.take n) := fun i s hs => h i s (by
  rw [List.getElem?_take] at hs
  split at hs
  · exact hs
  · cases hs)
structure StatsFit (S : List StatZ) : Prop where
  len : S.length ≤ 1048576
  dist : ∀ s ∈ S, s.2.2.1.length ≤ 1048576
  rows : ∀ s ∈ S, s.2.1 < 18446744073709551616
  words : ∀ s ∈ S, ∀ x ∈ s.2.2.1, x < 18446744073709551616
abbrev statV (p : ByteArray) (x : Nat) (da : Option Addr) (n cap : Nat) : Value := .agg #[.string p, .float .f64 x, .slice da n cap]
theorem isInf_any (x : Nat) (w : World) (hx : x ≤ infW ∨ x = negW) : Calls Tryz.prog 32 #[.float .f64 x, .int .i64 1] w (RetN w fun w' v => v = .bool (decide (x = infW))) := by
  have h : (Ieee.double.order x 9218868437227405311 == some .gt) = decide (x = infW) := by
    rcases hx with hx | rfl
    · exact gt_max hx
    · decide
  have hf : (FloatKind.format .f64) = Ieee.double := rfl
  go_enter Tryz.func32, Tryz.ntmps32
  go_wp2
  go_ret
  exact RetN.mk (Kp.refl _) (congrArg Value.bool (by first | exact h | rfl))
theorem bad_any (x : Nat) (w : World) (hx : x < 18446744073709551616) : Calls Tryz.prog 119 #[.float .f64 x] w (RetN w fun w' v => v = .bool (!finW x)) := by
  have h := ge_zero hx
  by_cases h1 : x ≤ infW ∨ x = negW
  · rw [decide_eq_true h1] at h
    have hf : ((FloatKind.format .f64).order x 0 == some .gt || (FloatKind.format .f64).order x 0 == some .eq) = true := h
    have HI := Lib.hid (fun W => isInf_any x W h1)
    have H1 := Lib.hid h1; clear h1 h
    go_enter Tryz.func119, Tryz.ntmps119
    go_wp2_with fail
    refine (HI.out _).mono ?_
    rintro e w1 ⟨v, rfl, hk1, rfl⟩
    go_wp2
    go_ret
    refine RetN.mk hk1 (congrArg Value.bool ?_)
    unfold finW
    rcases H1.out with h | h
    · by_cases he : x = infW
      · subst he; decide
      · rw [decide_eq_false he, decide_eq_true (.inl (by omega))]; rfl
    · rw [decide_eq_false (by rw [h]; decide), decide_eq_true (.inr h)]; rfl
  · rw [decide_eq_false h1] at h
    have hf : ((FloatKind.format .f64).order x 0 == some .gt || (FloatKind.format .f64).order x 0 == some .eq) = false := h
    have H1 := Lib.hid h1; clear h1 h
    go_enter Tryz.func119, Tryz.ntmps119
    go_wp2
    go_ret
    refine RetN.mk (Kp.refl _) (congrArg Value.bool ?_)
    unfold finW
    rw [decide_eq_false (by have := H1.out; unfold negW at this; omega)]; rfl
def TellF (f : FuncId) (first captured : Array Value) (w0 : World) (q : Nat → Bool) : Prop :=
  (∀ args w, (callFunc f args).run Tryz.prog w = .ok (Next.enter f args) w) ∧ ∀ w, Ext w0 w → ∀ (x : Nat), x < 18446744073709551616 → Calls Tryz.prog f (first.push (.float .f64 x) ++ captured) w (RetN w fun w' v => v = .bool (q x))
def NoneF (w0 : World) (ts : List Nat) (q : Nat → Bool) (n : Nat) (iv : Value) (w : World) : Prop := ∃ i : Nat, i ≤ n ∧ iv = .int .i64 i ∧ Hid (∀ (j : Nat) u, j < i → ts[j]? = some u → q u = false) ∧ Hid (Ext w0 w)
def FirstF (ts : List Nat) (q : Nat → Bool) (z : Int) : Prop := (∃ (i : Nat) (t : Nat), z = i ∧ ts[i]? = some t ∧ q t = true ∧ ∀ (j : Nat) u, j < i → ts[j]? = some u → q u = false) ∨ (z = -1 ∧ ∀ u ∈ ts, q u = false)
set_option maxRecDepth 100000 in
set_option maxHeartbeats 1000000 in
theorem indexF_any (ts : List Nat) (ao : Option Addr) (n cap : Nat) (f : FuncId) (first captured : Array Value) (q : Nat → Bool) (w : World) (hn : n = ts.length) (h : CellsAt w ao (flts ts)) (hfit : ∀ x ∈ ts, x < 18446744073709551616) (hq : TellF f first captured w q) (hl : n ≤ 4611686018427387904) :
    Calls Tryz.prog 145 #[.slice ao n cap, .func (Fn.func f) first captured] w (RetN w fun w' v => ∃ z : Int, v = .int .i64 z ∧ FirstF ts q z) := by
  have HN := Lib.hid hn; have HE := Lib.hid h; clear hn h
  have HFit := Lib.hid hfit; clear hfit
  have hent := hq.1
  have HQ := Lib.hid hq.2; clear hq
  go_enter Tryz.func145, Tryz.ntmps145
  go_wp2
  go_loopw [8] (fun iv wr => NoneF w ts q n iv wr) (fun iv _ => n - (intOf iv).toNat)
  case atStart => exact ⟨0, Nat.zero_le _, rfl, fun j u h => by omega, Kp.refl w⟩
  case round =>
    obtain ⟨i, hi, rfl, hno, hex⟩ := hrel
    by_cases hlt : i < n
    · have hlt' : i < ts.length := by rw [← HN.out]; exact hlt
      obtain ⟨b, off, eao, hc0⟩ := (HE.out.ext hex.out).flt hlt'
      subst eao
      have ht : ts[i]? = some ts[i] := List.getElem?_eq_getElem hlt'
      have hmem := List.getElem_mem hlt'
      generalize ts[i] = t at *
      obtain ⟨r, er⟩ : ∃ r : Bool, q t = r := ⟨_, rfl⟩
      have HC0 := HQ.out wr hex.out t (HFit.out t hmem)
      rw [er] at HC0
      have HC := Lib.hid HC0
      have HT := Lib.hid (And.intro ht er)
      clear ht hlt' er HC0
      clear hmem
      cases r
      · go_wp2_with fail
        refine HC.out.mono ?_
        rintro e w1 ⟨v, rfl, hk1, rfl⟩
        have HX := Lib.hid (hex.out.trans hk1); clear hk1
        go_wp2
        go_roundw
        case rel =>
          refine ⟨i + 1, by omega, by first | rfl | (congr 1; done) | (congr 1; omega), fun j u hj hu => ?_, HX⟩
          by_cases e : j = i
          · subst e; rw [HT.out.1] at hu; cases hu; exact HT.out.2
          · exact hno.out j u (by omega) hu
        case measure => simp [intOf]; omega
      · go_wp2_with fail
        refine HC.out.mono ?_
        rintro e w1 ⟨v, rfl, hk1, rfl⟩
        have HX := Lib.hid (hex.out.trans hk1); clear hk1
        go_wp2
        go_ret
        exact RetN.mk HX.out ⟨i, rfl, .inl ⟨i, t, rfl, HT.out.1, HT.out.2, hno.out⟩⟩
    · go_wp2
      go_ret
      refine RetN.mk hex.out ⟨-1, rfl, .inr ⟨rfl, fun u hu => ?_⟩⟩
      obtain ⟨j, hj, rfl⟩ := List.mem_iff_getElem.1 hu
      exact hno.out j _ (by have := HN.out; omega) (List.getElem?_eq_getElem hj)
theorem FirstF.any {ts : List Nat} {q : Nat → Bool} {z : Int} (h : FirstF ts q z) : decide (0 ≤ z) = ts.any (fun t => q t) := by
  rcases h with ⟨i, t, rfl, h1, h2, _⟩ | ⟨rfl, h⟩
  · rw [any_true h1 h2]; simp
  · symm; rw [show decide ((0 : Int) ≤ -1) = false by decide, List.any_eq_false]; intro t ht; rw [h t ht]; decide
set_option maxRecDepth 100000 in
theorem containsF_any (ts : List Nat) (ao : Option Addr) (n cap : Nat) (f : FuncId) (first captured : Array Value) (q : Nat → Bool) (w : World) (hn : n = ts.length) (h : CellsAt w ao (flts ts)) (hfit : ∀ x ∈ ts, x < 18446744073709551616) (hq : TellF f first captured w q) (hl : n ≤ 4611686018427387904) :
    Calls Tryz.prog 121 #[.slice ao n cap, .func (Fn.func f) first captured] w (RetN w fun w' v => v = .bool (ts.any (fun t => q t))) := by
  have HI := Lib.hid (indexF_any ts ao n cap f first captured q w hn h hfit hq hl)
  clear hn h hq hl hfit
  go_enter Tryz.func121, Tryz.ntmps121
  go_wp2_with fail
  refine HI.out.mono ?_
  rintro e w1 ⟨v, rfl, hk, z, rfl, hz⟩
  have h := hz.any
  go_wp2
  go_ret
  exact RetN.mk hk (congrArg Value.bool (by first | exact h | simp [← h]))
def TellC (f : FuncId) (first captured : Array Value) (w0 : World) (q : ByteArray → Bool) : Prop :=
  (∀ args w, (callFunc f args).run Tryz.prog w = .ok (Next.enter f args) w) ∧ ∀ w, Ext w0 w → ∀ (p : ByteArray) (x : Nat) (da : Option Addr) (m dcap : Nat), Calls Tryz.prog f (first.push (statV p x da m dcap) ++ captured) w (RetN w fun w' v => v = .bool (q p))
def NoneC (w0 : World) (ts : List StatZ) (q : ByteArray → Bool) (n : Nat) (iv : Value) (w : World) : Prop := ∃ i : Nat, i ≤ n ∧ iv = .int .i64 i ∧ Hid (∀ (j : Nat) u, j < i → ts[j]? = some u → q u.1 = false) ∧ Hid (Ext w0 w)
def FirstC (ts : List StatZ) (q : ByteArray → Bool) (z : Int) : Prop := (∃ (i : Nat) (t : StatZ), z = i ∧ ts[i]? = some t ∧ q t.1 = true ∧ ∀ (j : Nat) u, j < i → ts[j]? = some u → q u.1 = false) ∨ (z = -1 ∧ ∀ u ∈ ts, q u.1 = false)
set_option maxRecDepth 100000 in
set_option maxHeartbeats 1000000 in
theorem indexC_any (ts : List StatZ) (ao : Option Addr) (n cap : Nat) (f : FuncId) (first captured : Array Value) (q : ByteArray → Bool) (w : World) (hn : n = ts.length) (h : StatsAt w ao ts) (hq : TellC f first captured w q) (hl : n ≤ 4611686018427387904) :
    Calls Tryz.prog 81 #[.slice ao n cap, .func (Fn.func f) first captured] w (RetN w fun w' v => ∃ z : Int, v = .int .i64 z ∧ FirstC ts q z) := by
  have HN := Lib.hid hn; have HE := Lib.hid h; clear hn h
  skip
  have hent := hq.1
  have HQ := Lib.hid hq.2; clear hq
  go_enter Tryz.func81, Tryz.ntmps81
  go_wp2
  go_loopw [8] (fun iv wr => NoneC w ts q n iv wr) (fun iv _ => n - (intOf iv).toNat)
  case atStart => exact ⟨0, Nat.zero_le _, rfl, fun j u h => by omega, Kp.refl w⟩
  case round =>
    obtain ⟨i, hi, rfl, hno, hex⟩ := hrel
    by_cases hlt : i < n
    · have hlt' : i < ts.length := by rw [← HN.out]; exact hlt
      obtain ⟨t, ht⟩ : ∃ t, ts[i]? = some t := ⟨_, List.getElem?_eq_getElem hlt'⟩
      obtain ⟨b, off, da, dcap, eao, hc0, hc1, hc2, _⟩ := (HE.out.ext hex.out) i t ht
      subst eao
      obtain ⟨r, er⟩ : ∃ r : Bool, q t.1 = r := ⟨_, rfl⟩
      have HC0 := HQ.out wr hex.out t.1 t.2.1 da t.2.2.1.length dcap
      rw [er] at HC0
      have HC := Lib.hid HC0
      have HT := Lib.hid (And.intro ht er)
      clear ht hlt' er HC0
      generalize t.2.2.1.length = m at *
      generalize t.2.1 = x at *
      cases r
      · go_wp2_with fail
        refine HC.out.mono ?_
        rintro e w1 ⟨v, rfl, hk1, rfl⟩
        have HX := Lib.hid (hex.out.trans hk1); clear hk1
        go_wp2
        go_roundw
        case rel =>
          refine ⟨i + 1, by omega, by first | rfl | (congr 1; done) | (congr 1; omega), fun j u hj hu => ?_, HX⟩
          by_cases e : j = i
          · subst e; rw [HT.out.1] at hu; cases hu; exact HT.out.2
          · exact hno.out j u (by omega) hu
        case measure => simp [intOf]; omega
      · go_wp2_with fail
        refine HC.out.mono ?_
        rintro e w1 ⟨v, rfl, hk1, rfl⟩
        have HX := Lib.hid (hex.out.trans hk1); clear hk1
        go_wp2
        go_ret
        exact RetN.mk HX.out ⟨i, rfl, .inl ⟨i, t, rfl, HT.out.1, HT.out.2, hno.out⟩⟩
    · go_wp2
      go_ret
      refine RetN.mk hex.out ⟨-1, rfl, .inr ⟨rfl, fun u hu => ?_⟩⟩
      obtain ⟨j, hj, rfl⟩ := List.mem_iff_getElem.1 hu
      exact hno.out j _ (by have := HN.out; omega) (List.getElem?_eq_getElem hj)
theorem FirstC.any {ts : List StatZ} {q : ByteArray → Bool} {z : Int} (h : FirstC ts q z) : decide (0 ≤ z) = ts.any (fun t => q t.1) := by
  rcases h with ⟨i, t, rfl, h1, h2, _⟩ | ⟨rfl, h⟩
  · rw [any_true h1 h2]; simp
  · symm; rw [show decide ((0 : Int) ≤ -1) = false by decide, List.any_eq_false]; intro t ht; rw [h t ht]; decide
set_option maxRecDepth 100000 in
theorem containsC_any (ts : List StatZ) (ao : Option Addr) (n cap : Nat) (f : FuncId) (first captured : Array Value) (q : ByteArray → Bool) (w : World) (hn : n = ts.length) (h : StatsAt w ao ts) (hq : TellC f first captured w q) (hl : n ≤ 4611686018427387904) :
    Calls Tryz.prog 122 #[.slice ao n cap, .func (Fn.func f) first captured] w (RetN w fun w' v => v = .bool (ts.any (fun t => q t.1))) := by
  have HI := Lib.hid (indexC_any ts ao n cap f first captured q w hn h  hq hl)
  clear hn h hq hl
  go_enter Tryz.func122, Tryz.ntmps122
  go_wp2_with fail
  refine HI.out.mono ?_
  rintro e w1 ⟨v, rfl, hk, z, rfl, hz⟩
  have h := hz.any
  go_wp2
  go_ret
  exact RetN.mk hk (congrArg Value.bool (by first | exact h | simp [← h]))
end Go.Proofs.YtomeebimmmfmbaaGreat

/- cost: right: may the counts be, as they are handed in? -/
namespace Go.Proofs.YtomeebimmmfmbaaGreat
open Go.RowKit
set_option linter.unusedVariables false
attribute [local go_sem] run_store_float
theorem same_any (p : ByteArray) (x : Nat) (da : Option Addr) (m dcap : Nat) (g : Nat) (s : ByteArray) (w : World) (hc : w.cell? ⟨g, 0, none⟩ = some (.string s)) :
    Calls Tryz.prog 120 #[statV p x da m dcap, .pointer (some ⟨g, 0, none⟩)] w (RetN w fun w' v => v = .bool (decide (p = s))) := by
  have e0 : (w.alloc (.cells #[.string p, .float .f64 x, .slice da m dcap] 48)).cell? ⟨g, 0, none⟩ = some (.string s) := ((Kp.refl (F := fun _ => False) w).alloc _).cell hc id
  clear hc
  by_cases h : p = s
  · have hb := str_eq s
    subst h
    go_enter Tryz.func120, Tryz.ntmps120
    go_wp2
    go_ret
    exact RetN.mk ((Kp.refl w).alloc _) (congrArg Value.bool (by simp))
  · have hb := str_ne h
    have H := Lib.hid h; clear h
    go_enter Tryz.func120, Tryz.ntmps120
    go_wp2
    go_ret
    exact RetN.mk ((Kp.refl w).alloc _) (congrArg Value.bool (decide_eq_false H.out).symm)
def StatsTo (w0 : World) (r : RuleZ) (S : List StatZ) (n : Nat) (iv : Value) (w : World) : Prop := ∃ i : Nat, i ≤ n ∧ iv = .int .i64 i ∧ Hid (∀ (j : Nat) (s : StatZ), j < i → S[j]? = some s → statOk r S j s = true) ∧ Hid (Ext w0 w)
theorem statOk_no {r : RuleZ} {S : List StatZ} {i : Nat} {s : StatZ} (hi : S[i]? = some s) (h : statOk r S i s = false) : ¬ statsOk r S := fun k => by
  have := k i s hi; rw [h] at this; cases this
theorem fitL_iff (s : StatZ) (l : LitZ) : fitL s l = true ↔ (l.1 = 1 → predOf l = s.1 → (termsOf l).length = s.2.2.1.length) := by
  unfold fitL; exact decide_eq_true_iff
open Classical in
set_option maxRecDepth 100000 in
set_option maxHeartbeats 8000000 in
theorem right_any (p : ByteArray) (hs : List TermZ) (ls : List LitZ) (ha : Option Addr) (hn hcap : Nat) (ba : Option Addr) (n bcap : Nat) (S : List StatZ) (sa : Option Addr) (sn scap : Nat) (w : World) (G : Nat → Prop) (hbn : n = ls.length) (h : LitsAt w G ba ls) (hf : Fit ls)
    (hsn : sn = S.length) (hsc : sn ≤ scap) (hS : StatsAt w sa S) (hSf : StatsFit S) :
    Calls Tryz.prog 77 #[ruleV p ha hn hcap ba n bcap, .slice sa sn scap] w (RetN w fun w' v => v = .bool (decide (statsOk ((p, hs, ()), ls, ()) S))) := by
  have HN := Lib.hid hbn; have HE := Lib.hid h; have HF := Lib.hid hf; have hl : n ≤ 1048576 := by have := hf.len; omega
  have HSN := Lib.hid hsn; have HSE := Lib.hid hS; have HSF := Lib.hid hSf; have hsl : sn ≤ 1048576 := by have := hSf.len; omega
  have hent : ∀ args w, (callFunc 119 args).run Tryz.prog w = .ok (.enter 119 args) w := enters_of Tryz.func119 (by kernel_rfl) rfl
  clear hbn h hf hsn hS hSf
  go_enter Tryz.func77, Tryz.ntmps77
  go_wp2
  obtain ⟨wb, eb⟩ : ∃ wb, w.alloc (.cells #[.string p, .slice ha hn hcap, .slice ba n bcap] 28) = wb := ⟨_, rfl⟩
  rw [eb]
  have HB := Lib.hid (Blk.new w [.string p, .slice ha hn hcap, .slice ba n bcap] 28)
  have HX := Lib.hid ((Kp.refl (F := fun _ => False) w).alloc (.cells #[.string p, .slice ha hn hcap, .slice ba n bcap] 28))
  have eb2 : w.alloc (.cells [Value.string p, .slice ha hn hcap, .slice ba n bcap].toArray 28) = wb := eb
  rw [eb2] at HB
  rw [eb] at HX
  clear eb eb2
  go_loopw [13] (fun iv wr => StatsTo wb ((p, hs, ()), ls, ()) S sn iv wr) (fun iv _ => sn - (intOf iv).toNat)
  case atStart => exact ⟨0, Nat.zero_le _, rfl, fun j s hj _ => by omega, Kp.refl _⟩
  case round =>
    obtain ⟨i, hi, rfl, hall, hex⟩ := hrel
    have XR := Lib.hid (HX.out.trans hex.out)
    by_cases hlt : i < sn
    · have hlt' : i < S.length := by rw [← HSN.out]; exact hlt
      obtain ⟨s, hsi⟩ : ∃ s, S[i]? = some s := ⟨_, List.getElem?_eq_getElem hlt'⟩
      obtain ⟨b, off, da, dcap, eao, c0, c1, c2, hdl, hdm, hd⟩ := HSE.out i s hsi
      subst eao
      replace c0 := XR.out.cell c0 id
      replace c1 := XR.out.cell c1 id
      replace c2 := XR.out.cell c2 id
      obtain ⟨dn, edn⟩ : ∃ dn, dn = s.2.2.1.length := ⟨_, rfl⟩
      rw [← edn] at c2 hdl
      obtain ⟨ps, eps⟩ : ∃ ps, ps = s.1 := ⟨_, rfl⟩
      rw [← eps] at c0
      obtain ⟨x, ex⟩ : ∃ x, x = s.2.1 := ⟨_, rfl⟩
      rw [← ex] at c1
      have hmem := List.mem_of_getElem? hsi
      have hx64 : x < 18446744073709551616 := ex ▸ HSF.out.rows s hmem
      have hdn : dn ≤ 1048576 := edn ▸ HSF.out.dist s hmem
      have hw64 := HSF.out.words s hmem
      obtain ⟨wx, ewx⟩ : ∃ wx, wr.alloc (.cells #[.string ps, .float .f64 x, .slice da dn dcap] 48) = wx := ⟨_, rfl⟩
      have hB := Blk.new wr [.string ps, .float .f64 x, .slice da dn dcap] 48
      have hWX : Ext wb wx := by rw [← ewx]; exact hex.out.alloc _
      obtain ⟨g, eg⟩ : ∃ g, g = wr.heap.size := ⟨_, rfl⟩
      have HGB := Lib.hid hB
      rw [← eg] at HGB
      have ewx2 : wr.alloc (.cells [Value.string ps, .float .f64 x, .slice da dn dcap].toArray 48) = wx := ewx
      rw [ewx2] at HGB
      have HWX := Lib.hid hWX
      have HXX := Lib.hid (HX.out.trans hWX)
      have EG := Lib.hid (And.intro eg ewx)
      have HD := Lib.hid (fun (W : World) (hW : Ext wx W) => containsF_any s.2.2.1 da dn dcap 119 #[] #[] (fun y => !finW y) W edn (hd.ext (HXX.out.trans hW)) hw64 ⟨hent, fun w' _ y hy => bad_any y w' hy⟩ (by omega))
      have hent2 : ∀ args w, (callFunc 120 args).run Tryz.prog w = .ok (.enter 120 args) w := enters_of Tryz.func120 (by kernel_rfl) rfl
      have HSame := Lib.hid (fun (W : World) (hW : Ext wx W) => containsC_any (S.take i) (some ⟨b, off, none⟩) i scap 120 #[] #[.pointer (some ⟨g, 0, none⟩)] (fun y => decide (y = ps)) W (by rw [List.length_take]; omega) ((HSE.out.ext (HXX.out.trans hW)).take i) ⟨hent2, fun w' hw' y a b c d => same_any y a b c d g ps w' (by rw [((HGB.out.ext hW).ext hw').cell']; rfl)⟩ (by omega))
      have HBad := Lib.hid (fun W => bad_any x W hx64)
      have HT := Lib.hid (And.intro hsi (And.intro edn (And.intro eps ex)))
      have hok : statOk ((p, hs, ()), ls, ()) S i s = ((!(!finW x)) && (!(s.2.2.1.any fun y => !finW y)) && (!((S.take i).any fun u => decide (u.1 = ps))) && ls.all (fitL s)) := by
        unfold statOk
        rw [← ex, eps]
        congr 1
        · congr 1
          · congr 1
            · rw [Bool.not_not]
            · rw [List.not_any_eq_all_not]; congr 1; funext y; rw [Bool.not_not]
          · rw [List.not_any_eq_all_not]; congr 1; funext y; rw [← decide_not]
      have HOk := Lib.hid hok
      clear hsi hlt' hmem hw64 hB hWX eg ewx ewx2 hd edn eps ex hok hent2 hx64 hdm
      go_wp2_with fail
      rw [EG.out.2]
      refine (HBad.out _).mono ?_
      rintro e w1 ⟨v, rfl, hk1, rfl⟩
      have X1 := Lib.hid hk1
      have c3 : w1.cell? ⟨g, 2, none⟩ = some (.slice da dn dcap) := by rw [(HGB.out.ext hk1).cell']; rfl
      clear hk1 c0 c1 c2
      rw [EG.out.1.symm]
      have hno : ∀ (W : World), Ext w W → statOk ((p, hs, ()), ls, ()) S i s = false → RetN w (fun w' v => v = .bool (decide (statsOk ((p, hs, ()), ls, ()) S))) (.returned (.bool false)) W := fun W hx h => RetN.mk hx (congrArg Value.bool (decide_eq_false (statOk_no HT.out.1 h)).symm)
      have HNo := Lib.hid hno
      clear hno
      cases hbr : (!finW x)
      · go_wp2_with fail
        refine (HD.out _ X1.out).mono ?_
        rintro e w2 ⟨v, rfl, hk2, rfl⟩
        have X2 := Lib.hid (X1.out.trans hk2)
        clear hk2 c3
        cases hdr : (s.2.2.1.any fun y => !finW y)
        · go_wp2_with fail
          refine (HSame.out _ X2.out).mono ?_
          rintro e w3 ⟨v, rfl, hk3, rfl⟩
          have X3 := Lib.hid (X2.out.trans hk3)
          clear hk3
          cases hsr : ((S.take i).any fun u => decide (u.1 = ps))
          · have HOk2 := Lib.hid (show statOk ((p, hs, ()), ls, ()) S i s = ls.all (fitL s) by rw [HOk.out, hbr, hdr, hsr]; simp)
            have b2 : w3.cell? ⟨w.heap.size, 2, none⟩ = some (.slice ba n bcap) := by rw [(HB.out.ext (HWX.out.trans X3.out)).cell']; rfl
            go_wp2
            clear b2
            go_loopw [39] (fun iv wr => AllTo wx ls (fitL s) n iv wr) (fun iv _ => n - (intOf iv).toNat)
            case atStart => exact ⟨0, Nat.zero_le _, rfl, rfl, X3⟩
            case round =>
              obtain ⟨q, hq, rfl, hall4, hex4⟩ := hrel
              have X5 := Lib.hid (HXX.out.trans hex4.out)
              by_cases hlt5 : q < n
              · have hlt6 : q < ls.length := by rw [← HN.out]; exact hlt5
                obtain ⟨l, hli⟩ : ∃ l, ls[q]? = some l := ⟨_, List.getElem?_eq_getElem hlt6⟩
                obtain ⟨b5, off5, a, cap2, eao, hG, hb, hL, c0, c1, c2, c3, c4, c5, c6, c7⟩ := lit_at HE.out hli
                subst eao
                replace c0 := X5.out.cell c0 id
                replace c1 := X5.out.cell c1 id
                replace c2 := X5.out.cell c2 id
                replace c3 := X5.out.cell c3 id
                replace c4 := X5.out.cell c4 id
                replace c5 := X5.out.cell c5 id
                replace c6 := X5.out.cell c6 id
                replace c7 := X5.out.cell c7 id
                have hq2 : (q : Int) < (n : Int) := by omega
                obtain ⟨mm, emm⟩ : ∃ mm, mm = (termsOf l).length := ⟨_, rfl⟩
                rw [← emm] at c2
                obtain ⟨k, ek⟩ : ∃ k, k = l.1 := ⟨_, rfl⟩
                rw [← ek] at c0
                obtain ⟨pl, epl⟩ : ∃ pl, pl = predOf l := ⟨_, rfl⟩
                rw [← epl] at c1
                have HL := Lib.hid (And.intro hli (And.intro emm (And.intro ek epl)))
                have hmm : mm ≤ 1048576 := by rw [emm]; exact HF.out.terms l (List.mem_of_getElem? hli)
                clear hli hlt6 hL hG hb emm ek epl
                generalize opOf l = s3 at c3
                generalize (leftOf l).1 = s4 at c4
                generalize (leftOf l).2.1 = s5 at c5
                generalize (rightOf l).1 = s6 at c6
                generalize (rightOf l).2.1 = s7 at c7
                have e0 : (wr.alloc (.cells #[.int .i64 k, .string pl, .slice a mm cap2, .int .i64 s3, .int .i64 s4, .string s5, .int .i64 s6, .string s7] 97)).cell? ⟨g, 0, none⟩ = some (.string ps) := by rw [((HGB.out.ext hex4.out).alloc _).cell']; rfl
                have e2 : (wr.alloc (.cells #[.int .i64 k, .string pl, .slice a mm cap2, .int .i64 s3, .int .i64 s4, .string s5, .int .i64 s6, .string s7] 97)).cell? ⟨g, 2, none⟩ = some (.slice da dn dcap) := by rw [((HGB.out.ext hex4.out).alloc _).cell']; rfl
                have hy : (k = 1 → pl = ps → mm = dn) → fitL s l = true := fun h => by
                  rw [fitL_iff, ← HL.out.2.2.1, ← HL.out.2.2.2, ← HL.out.2.1, ← HT.out.2.1, ← HT.out.2.2.1]; exact h
                by_cases h1 : k = 1
                · have n1 : (k == 1) = true := by simp [h1]
                  by_cases h2 : pl = ps
                  · by_cases h3 : mm = dn
                    · have HY := Lib.hid (hy fun _ _ => h3)
                      have hb := str_eq ps
                      have n3 : ((mm : Int) != (dn : Int)) = false := by simp [h3]
                      have n4 : ((mm : Int) == (dn : Int)) = true := by simp [h3]
                      clear h1 hy
                      subst h2
                      have HH := Lib.hid h3; clear h3
                      go_wp2
                      go_roundw
                      case rel => exact ⟨q + 1, by omega, by first | rfl | (congr 1; done) | (congr 1; omega), by rw [all_take HL.out.1, hall4.out, HY.out]; rfl, hex4.out.alloc _⟩
                      case measure => simp [intOf]; omega
                    · have HY := Lib.hid (show fitL s l = false by
                        rw [Bool.eq_false_iff, Ne, fitL_iff, ← HL.out.2.2.1, ← HL.out.2.2.2, ← HL.out.2.1, ← HT.out.2.1, ← HT.out.2.2.1]
                        exact fun k => h3 (k h1 h2))
                      have hb := str_eq ps
                      have n3 : ((mm : Int) != (dn : Int)) = true := by simp; omega
                      have n4 : ((mm : Int) == (dn : Int)) = false := by simp; omega
                      clear h1 hy
                      subst h2
                      have HH := Lib.hid h3; clear h3
                      go_wp2
                      go_ret
                      exact HNo.out _ (X5.out.alloc _) (by rw [HOk2.out]; exact all_no HL.out.1 HY.out)
                  · have HY := Lib.hid (hy fun _ x => absurd x h2)
                    have hb := str_ne h2
                    clear h1 hy h2
                    go_wp2
                    go_roundw
                    case rel => exact ⟨q + 1, by omega, by first | rfl | (congr 1; done) | (congr 1; omega), by rw [all_take HL.out.1, hall4.out, HY.out]; rfl, hex4.out.alloc _⟩
                    case measure => simp [intOf]; omega
                · have HY := Lib.hid (hy fun x => absurd x h1)
                  have n1 : (k == 1) = false := by simp [h1]
                  clear h1 hy
                  go_wp2
                  go_roundw
                  case rel => exact ⟨q + 1, by omega, by first | rfl | (congr 1; done) | (congr 1; omega), by rw [all_take HL.out.1, hall4.out, HY.out]; rfl, hex4.out.alloc _⟩
                  case measure => simp [intOf]; omega
              · have e : ls.take q = ls := List.take_of_length_le (by have := HN.out; omega)
                have HC := Lib.hid hall4.out
                rw [e] at HC
                clear e hall4
                have hqn : ¬ (q : Int) < (n : Int) := by omega
                go_wp2
                go_roundw
                case rel =>
                  refine ⟨i + 1, by omega, by first | rfl | (congr 1; done) | (congr 1; omega), fun j u hj hu => ?_, HWX.out.trans hex4.out⟩
                  by_cases e : j = i
                  · subst e; rw [HT.out.1] at hu; cases hu; rw [HOk2.out]; exact HC.out
                  · exact hall.out j u (by omega) hu
                case measure => simp [intOf]; omega
          · go_wp2
            go_ret
            exact HNo.out _ (HXX.out.trans X3.out) (by rw [HOk.out, hsr]; simp)
        · go_wp2
          go_ret
          exact HNo.out _ (HXX.out.trans X2.out) (by rw [HOk.out, hdr]; simp)
      · go_wp2
        go_ret
        exact HNo.out _ (HXX.out.trans X1.out) (by rw [HOk.out, hbr]; simp)
    · go_wp2
      go_ret
      refine RetN.mk XR.out (congrArg Value.bool (decide_eq_true ?_).symm)
      intro j s hj
      exact hall.out j s (by have := HSN.out; have := (List.getElem?_eq_some_iff.1 hj).1; omega) hj
end Go.Proofs.YtomeebimmmfmbaaGreat

/- The document's answer for costs: finite, Right. -/
namespace Go.Proofs.YtomeebimmmfmbaaGreat
open Go.RowKit
set_option linter.unusedVariables false
attribute [local go_sem] run_store_float
end Go.Proofs.YtomeebimmmfmbaaGreat

/- What is known of a literal's predicate; sets of literals, part by part. No program in sight. -/
namespace Go.Proofs.YtomeebimmmfmbaaGreat
set_option linter.unusedVariables false
structure Known (S : List StatZ) (ls : List LitZ) : Prop where
  rows : ∀ s ∈ S, finW s.2.1 = true
  dist : ∀ s ∈ S, ∀ x ∈ s.2.2.1, finW x = true
  uniq : ∀ (i j : Nat) (s u : StatZ), S[i]? = some s → S[j]? = some u → s.1 = u.1 → i = j
  fit : ∀ s ∈ S, ∀ l ∈ ls, l.1 = 1 → predOf l = s.1 → (termsOf l).length = s.2.2.1.length
theorem Known.of {r : RuleZ} {S : List StatZ} (h : statsOk r S) : Known S r.2.1 := by
  have hm : ∀ s ∈ S, ∃ i : Nat, S[i]? = some s := fun s hs => by
    obtain ⟨i, hi, rfl⟩ := List.mem_iff_getElem.1 hs
    exact ⟨i, List.getElem?_eq_getElem hi⟩
  have hp : ∀ (i : Nat) (s : StatZ), S[i]? = some s → finW s.2.1 = true ∧ s.2.2.1.all finW = true ∧ (S.take i).all (fun u => decide (u.1 ≠ s.1)) = true ∧ r.2.1.all (fitL s) = true := fun i s hs => by
    have := h i s hs
    unfold statOk at this
    simp only [Bool.and_eq_true] at this
    exact ⟨this.1.1.1, this.1.1.2, this.1.2, this.2⟩
  have hlt : ∀ (i j : Nat) (s u : StatZ), S[i]? = some s → S[j]? = some u → s.1 = u.1 → ¬ i < j := fun i j s u hi hj he hl => by
    have h1 := List.all_eq_true.1 (hp j u hj).2.2.1 s (List.mem_of_getElem? (i := i) (by rw [List.getElem?_take, if_pos hl]; exact hi))
    exact of_decide_eq_true h1 he
  refine ⟨fun s hs => ?_, fun s hs x hx => ?_, fun i j s u hi hj he => ?_, fun s hs l hl h1 h2 => ?_⟩
  · obtain ⟨i, hi⟩ := hm s hs; exact (hp i s hi).1
  · obtain ⟨i, hi⟩ := hm s hs; exact List.all_eq_true.1 (hp i s hi).2.1 x hx
  · have a := hlt i j s u hi hj he
    have b := hlt j i u s hj hi he.symm
    omega
  · obtain ⟨i, hi⟩ := hm s hs
    exact of_decide_eq_true (List.all_eq_true.1 (hp i s hi).2.2.2 l hl) h1 h2
theorem statOf_none {S : List StatZ} {l : LitZ} (h : ∀ u ∈ S, u.1 ≠ predOf l) : statOf S l = none := by
  unfold statOf
  rw [List.find?_eq_none]
  intro u hu; simpa using h u hu
theorem statOf_some {S : List StatZ} {l : LitZ} {s : StatZ} (h : statOf S l = some s) : s ∈ S ∧ s.1 = predOf l := by
  unfold statOf at h
  exact ⟨List.mem_of_find?_eq_some h, of_decide_eq_true (by simpa using List.find?_some h)⟩
theorem statOf_first {l : LitZ} {s : StatZ} : ∀ {S : List StatZ} {i : Nat}, S[i]? = some s → s.1 = predOf l → (∀ (j : Nat) u, j < i → S[j]? = some u → u.1 ≠ predOf l) → statOf S l = some s
  | [], i, h, _, _ => by simp at h
  | a :: S, 0, h, hp, _ => by
    simp at h; subst h
    unfold statOf; rw [List.find?_cons_of_pos]; simpa using hp
  | a :: S, i + 1, h, hp, hno => by
    have h0 := hno 0 a (by omega) rfl
    unfold statOf; rw [List.find?_cons_of_neg (by simpa using h0)]
    exact statOf_first (S := S) (i := i) (by simpa using h) hp fun j u hj hu => hno (j + 1) u (by omega) (by simpa using hu)
theorem Known.rowsFin {S : List StatZ} {ls : List LitZ} (k : Known S ls) (l : LitZ) : finW (rowsW S l) = true := by
  unfold rowsW
  split
  · rename_i s h; exact k.rows s (statOf_some h).1
  · decide
theorem fin_lt {x : Nat} (h : finW x = true) (h0 : zeroW x = false) : 0 < x ∧ x < infW := by
  unfold finW at h; unfold zeroW at h0
  have h1 := of_decide_eq_true h
  have h2 := of_decide_eq_false h0
  omega
theorem distW_at {S : List StatZ} {l : LitZ} {s : StatZ} (h : statOf S l = some s) (c : Nat) : distW S l c = atLeast (s.2.2.1.getD c 0) := by unfold distW; rw [h]
theorem distW_none {S : List StatZ} {l : LitZ} (h : statOf S l = none) (c : Nat) : distW S l c = oneW := by unfold distW; rw [h]
theorem mem_varsT {ts : List TermZ} {v : ByteArray} : v ∈ varsT ts ↔ ∃ (j : Nat) (t : TermZ), ts[j]? = some t ∧ t.1 = 1 ∧ t.2.1 = v := by
  unfold varsT
  rw [List.mem_filterMap]
  constructor
  · rintro ⟨t, ht, e⟩
    obtain ⟨j, hj, rfl⟩ := List.mem_iff_getElem.1 ht
    refine ⟨j, _, List.getElem?_eq_getElem hj, ?_⟩
    split at e
    · rename_i h; cases e; exact ⟨h, rfl⟩
    · cases e
  · rintro ⟨j, t, ht, h1, h2⟩
    exact ⟨t, List.mem_of_getElem? ht, by rw [if_pos h1, h2]⟩
theorem zip_at {ls : List LitZ} {inn : List Bool} {i : Nat} {l : LitZ} {b : Bool} (h1 : ls[i]? = some l) (h2 : inn[i]? = some b) : (ls.zip inn)[i]? = some (l, b) := by
  rw [List.getElem?_zip_eq_some]; exact ⟨h1, h2⟩
theorem zip_len {ls : List LitZ} {inn : List Bool} (h : inn.length = ls.length) : (ls.zip inn).length = ls.length := by
  rw [List.length_zip, h, Nat.min_self]
theorem spotsL_ok (S : List StatZ) (v : ByteArray) (p : LitZ × Bool) : ∀ x ∈ spotsL S v p, oneW ≤ x ∧ x < infW := fun x hx => by
  unfold spotsL at hx
  split at hx
  · obtain ⟨y, hy, e⟩ := List.mem_filterMap.1 hx
    unfold colsW at hy
    obtain ⟨c, hc, rfl⟩ := List.mem_mapIdx.1 hy
    unfold isVarT at e
    split at e
    · cases e; exact ⟨distW_ge S _ c, distW_lt S _ c⟩
    · cases e
  · cases hx
theorem spotsIn_ok (S : List StatZ) (v : ByteArray) (ps : Pairs) : ∀ x ∈ spotsIn S ps v, oneW ≤ x ∧ x < infW := fun x hx => by
  obtain ⟨p, _, h⟩ := List.mem_flatMap.1 hx
  exact spotsL_ok S v p x h
def constsPart (S : List StatZ) (p : LitZ × Bool) (c : Nat) : List Nat := if p.2 = true ∧ p.1.1 = 1 then ((colsW S p.1).take c).filterMap isConstT else []
theorem constsPart_all (S : List StatZ) {p : LitZ × Bool} {c : Nat} (h : (termsOf p.1).length ≤ c) : constsPart S p c = constsL S p := by
  unfold constsPart constsL
  rw [List.take_of_length_le (by rw [cols_len]; exact h)]
theorem foldl_div_le {s : Nat} (hs : s ≤ infW) : ∀ (xs : List Nat), (∀ x ∈ xs, oneW ≤ x ∧ x < infW) → xs.foldl fdiv s ≤ infW
  | [], _ => hs
  | x :: xs, h => foldl_div_le (fdiv_le hs (Nat.lt_of_lt_of_le (by decide) (h x List.mem_cons_self).1) (h x List.mem_cons_self).2) xs fun y hy => h y (List.mem_cons_of_mem _ hy)
end Go.Proofs.YtomeebimmmfmbaaGreat

/- The document's answer for costs: rows, distinct, is, bound. -/
namespace Go.Proofs.YtomeebimmmfmbaaGreat
open Go.RowKit
set_option linter.unusedVariables false
attribute [local go_sem] run_store_float
def bools (bs : List Bool) : List Value := bs.map Value.bool
theorem CellsAt.bool {w : World} {ao : Option Addr} {bs : List Bool} (h : CellsAt w ao (bools bs)) {k : Nat} {b : Bool} (hk : bs[k]? = some b) : ∃ g off, ao = some ⟨g, off, none⟩ ∧ w.cell? ⟨g, off + k, none⟩ = some (.bool b) :=
  h k _ (by simp [bools, hk])
theorem none_succ {q : Nat → Prop} {i : Nat} (h : ¬ q i) (hno : ∀ j, j < i → ¬ q j) : ∀ j, j < i + 1 → ¬ q j := fun j hj => by
  by_cases e : j = i
  · subst e; exact h
  · exact hno j (by omega)
end Go.Proofs.YtomeebimmmfmbaaGreat

/- The document's answer for costs: Stands. -/
namespace Go.Proofs.YtomeebimmmfmbaaGreat
open Go.RowKit
set_option linter.unusedVariables false
end Go.Proofs.YtomeebimmmfmbaaGreat

/- The document's answer for costs: shared. -/
namespace Go.Proofs.YtomeebimmmfmbaaGreat
open Go.RowKit
set_option linter.unusedVariables false
attribute [local go_sem] run_store_float
theorem elem_flt : ElemT Tryz.prog 46 45 1 8 (.float .f64 0) := ⟨by kernel_rfl, by kernel_rfl, rfl, by decide⟩
theorem flts_snoc (xs : List Nat) (d : Nat) : flts xs ++ [.float .f64 d] = flts (xs ++ [d]) := by simp [flts]
theorem div_run {s d : Nat} (hs : s ≤ infW) (hd : oneW ≤ d) (hd' : d < infW) (t : TypeId) (W : World) : (binOp .quo t (.float .f64 s) (.float .f64 d)).run Tryz.prog W = .ok (.float .f64 (fdiv s d)) W :=
  run_float_arith W .quo t .f64 s d _ (fdiv_eq hs (Nat.lt_of_lt_of_le (by decide) hd) hd')
theorem mul_run {s d : Nat} (hs : s ≤ infW) (hd : 0 < d) (hd' : d < infW) (t : TypeId) (W : World) : (binOp .mul t (.float .f64 s) (.float .f64 d)).run Tryz.prog W = .ok (.float .f64 (fmul s d)) W :=
  run_float_arith W .mul t .f64 s d _ (fmul_eq hs hd hd')
theorem add_run {s d : Nat} (hs : s ≤ infW) (hd : d ≤ infW) (t : TypeId) (W : World) : (binOp .add t (.float .f64 s) (.float .f64 d)).run Tryz.prog W = .ok (.float .f64 (fadd s d)) W :=
  run_float_arith W .add t .f64 s d _ (fadd_eq hs hd)
def DivTo (w0 : World) (k : Nat) (L : List Nat) (s : Nat) (n : Nat) (iv sv : Value) (w : World) : Prop := ∃ i x : Nat, i ≤ n ∧ iv = .int .i64 i ∧ sv = .float .f64 x ∧ Hid (x = divAll k L s i) ∧ Hid (Ext w0 w)
end Go.Proofs.YtomeebimmmfmbaaGreat

/- A guess, stage by stage. No program in sight. -/
namespace Go.Proofs.YtomeebimmmfmbaaGreat
set_option linter.unusedVariables false
def rowsOk (S : List StatZ) (ps : Pairs) : Prop := ∀ p ∈ ps, p.2 = true → p.1.1 = 1 → 0 < rowsW S p.1 ∧ rowsW S p.1 < infW
def mulTo (S : List StatZ) (ps : Pairs) (i : Nat) : Nat := (ps.take i).foldl (mulRows S) oneW
def sharTo (S : List StatZ) (ps : Pairs) (N : List ByteArray) (s i : Nat) : Nat := (N.take i).foldl (fun s v => sharedW (spotsIn S ps v) s) s
def constTo (S : List StatZ) (ps : Pairs) (s i : Nat) : Nat := (constsIn S (ps.take i)).foldl fdiv s
def shareTo (ps : Pairs) (s i : Nat) : Nat := (ps.take i).foldl mulShare s
theorem mulTo_succ (S : List StatZ) {ps : Pairs} {i : Nat} {p : LitZ × Bool} (h : ps[i]? = some p) : mulTo S ps (i + 1) = mulRows S (mulTo S ps i) p := fold_take _ _ h
theorem sharTo_succ (S : List StatZ) (ps : Pairs) {N : List ByteArray} {s i : Nat} {v : ByteArray} (h : N[i]? = some v) : sharTo S ps N s (i + 1) = sharedW (spotsIn S ps v) (sharTo S ps N s i) := fold_take _ _ h
theorem shareTo_succ {ps : Pairs} {s i : Nat} {p : LitZ × Bool} (h : ps[i]? = some p) : shareTo ps s (i + 1) = mulShare (shareTo ps s i) p := fold_take _ _ h
theorem mulRows_le {S : List StatZ} {s : Nat} {p : LitZ × Bool} (hs : s ≤ infW) (hp : p.2 = true → p.1.1 = 1 → 0 < rowsW S p.1 ∧ rowsW S p.1 < infW) : mulRows S s p ≤ infW := by
  unfold mulRows
  split
  · rename_i h; exact fmul_le hs (hp h.1 h.2).1 (hp h.1 h.2).2
  · exact hs
theorem foldMul_le {S : List StatZ} : ∀ (ps : Pairs) (s : Nat), s ≤ infW → rowsOk S ps → ps.foldl (mulRows S) s ≤ infW
  | [], s, hs, _ => hs
  | p :: ps, s, hs, h => foldMul_le ps _ (mulRows_le hs (h p List.mem_cons_self)) fun q hq => h q (List.mem_cons_of_mem _ hq)
theorem mulTo_le {S : List StatZ} {ps : Pairs} (h : rowsOk S ps) (i : Nat) : mulTo S ps i ≤ infW := foldMul_le _ _ (by decide) fun p hp => h p (List.mem_of_mem_take hp)
theorem sharedW_le {L : List Nat} (hL : ∀ x ∈ L, oneW ≤ x ∧ x < infW) {s : Nat} (hs : s ≤ infW) : sharedW L s ≤ infW := divAll_le hL _ hs _ (Nat.le_refl _)
theorem foldShar_le (S : List StatZ) (ps : Pairs) : ∀ (N : List ByteArray) (s : Nat), s ≤ infW → N.foldl (fun s v => sharedW (spotsIn S ps v) s) s ≤ infW
  | [], s, hs => hs
  | v :: N, s, hs => foldShar_le S ps N _ (sharedW_le (spotsIn_ok S v ps) hs)
theorem sharTo_le (S : List StatZ) (ps : Pairs) (N : List ByteArray) {s : Nat} (hs : s ≤ infW) (i : Nat) : sharTo S ps N s i ≤ infW := foldShar_le _ _ _ _ hs
theorem constsPart_ok (S : List StatZ) (p : LitZ × Bool) (c : Nat) : ∀ x ∈ constsPart S p c, oneW ≤ x ∧ x < infW := fun x hx => by
  unfold constsPart at hx
  split at hx
  · obtain ⟨y, hy, e⟩ := List.mem_filterMap.1 hx
    have hy := List.mem_of_mem_take hy
    unfold colsW at hy
    obtain ⟨c, hc, rfl⟩ := List.mem_mapIdx.1 hy
    unfold isConstT at e
    split at e
    · cases e; exact ⟨distW_ge S _ c, distW_lt S _ c⟩
    · cases e
  · cases hx
theorem constsIn_ok (S : List StatZ) (ps : Pairs) : ∀ x ∈ constsIn S ps, oneW ≤ x ∧ x < infW := fun x hx => by
  obtain ⟨p, _, h⟩ := List.mem_flatMap.1 hx
  rw [← constsPart_all S (Nat.le_refl _)] at h
  exact constsPart_ok S p _ x h
theorem constTo_le (S : List StatZ) (ps : Pairs) {s : Nat} (hs : s ≤ infW) (i : Nat) : constTo S ps s i ≤ infW := foldl_div_le hs _ (constsIn_ok S _)
theorem mulShare_le {s : Nat} {p : LitZ × Bool} (hs : s ≤ infW) : mulShare s p ≤ infW := by
  unfold mulShare
  split
  · exact fmul_le hs (shareW_pos _).1 (shareW_pos _).2
  · exact hs
theorem foldShare_le : ∀ (ps : Pairs) (s : Nat), s ≤ infW → ps.foldl mulShare s ≤ infW
  | [], s, hs => hs
  | p :: ps, s, hs => foldShare_le ps _ (mulShare_le hs)
theorem shareTo_le (ps : Pairs) {s : Nat} (hs : s ≤ infW) (i : Nat) : shareTo ps s i ≤ infW := foldShare_le _ _ hs
theorem guessW_eq {S : List StatZ} {ls : List LitZ} {inn : List Bool} (hz : zeroIn S (ls.zip inn) = false) {n m : Nat} (hn : (ls.zip inn).length ≤ n) (hm : (namesB ls).length ≤ m) :
    guessW S ls inn = shareTo (ls.zip inn) (constTo S (ls.zip inn) (sharTo S (ls.zip inn) (namesB ls) (mulTo S (ls.zip inn) n) m) n) n := by
  unfold guessW shareTo constTo sharTo mulTo
  rw [if_neg (by rw [hz]; decide), List.take_of_length_le hn, List.take_of_length_le hm]
theorem guessW_zero {S : List StatZ} {ls : List LitZ} {inn : List Bool} {i : Nat} {l : LitZ} (h : (ls.zip inn)[i]? = some (l, true)) (h1 : l.1 = 1) (hz : zeroW (rowsW S l) = true) : guessW S ls inn = 0 := by
  unfold guessW
  rw [if_pos]
  unfold zeroIn
  rw [List.any_eq_true]
  exact ⟨_, List.mem_of_getElem? h, by simp [h1, hz]⟩
theorem zeroIn_no {S : List StatZ} {ps : Pairs} {n : Nat} (hn : ps.length ≤ n) (h : ∀ j, j < n → ¬ ∃ l : LitZ, ps[j]? = some (l, true) ∧ l.1 = 1 ∧ zeroW (rowsW S l) = true) : zeroIn S ps = false := by
  unfold zeroIn
  rw [List.any_eq_false]
  rintro ⟨l, b⟩ hp hh
  obtain ⟨j, hj, e⟩ := List.mem_iff_getElem.1 hp
  simp only [Bool.and_eq_true, decide_eq_true_eq] at hh
  obtain ⟨⟨rfl, h1⟩, hz⟩ := hh
  exact h j (by omega) ⟨l, by rw [List.getElem?_eq_getElem hj, e], h1, hz⟩
theorem rowsOk_of {S : List StatZ} {ls : List LitZ} (K : Known S ls) {ps : Pairs} (hz : zeroIn S ps = false) : rowsOk S ps := fun p hp h2 h1 => by
  unfold zeroIn at hz
  have := List.any_eq_false.1 hz p hp
  refine fin_lt (K.rowsFin p.1) ?_
  cases h : zeroW (rowsW S p.1)
  · rfl
  · exact absurd (by simp [h1, h2, h]) this
theorem mulRows_off {S : List StatZ} {s : Nat} {p : LitZ × Bool} (h : ¬ (p.2 = true ∧ p.1.1 = 1)) : mulRows S s p = s := if_neg h
theorem mulRows_on {S : List StatZ} {s : Nat} {l : LitZ} (h : l.1 = 1) : mulRows S s (l, true) = fmul s (rowsW S l) := if_pos ⟨rfl, h⟩
theorem mulShare_off {s : Nat} {p : LitZ × Bool} (h : ¬ (p.2 = true ∧ p.1.1 ≠ 1)) : mulShare s p = s := if_neg h
theorem mulShare_on {s : Nat} {l : LitZ} (h : l.1 ≠ 1) : mulShare s (l, true) = fmul s (shareW l) := if_pos ⟨rfl, h⟩
theorem guessW_le {S : List StatZ} {ls : List LitZ} (K : Known S ls) (inn : List Bool) : guessW S ls inn ≤ infW := by
  cases hz : zeroIn S (ls.zip inn) with
  | true => unfold guessW; rw [if_pos hz]; exact Nat.zero_le _
  | false =>
    rw [guessW_eq hz (Nat.le_refl _) (Nat.le_refl _)]
    exact shareTo_le _ (constTo_le _ _ (sharTo_le _ _ _ (mulTo_le (rowsOk_of K hz) _) _) _) _
theorem spotsOne_len' (S : List StatZ) (v : ByteArray) (l : LitZ) (i : Nat) : (spotsOne S v l i).length ≤ (termsOf l).length := by
  unfold spotsOne; split
  · rw [List.length_map]; exact Nat.le_trans (List.length_filterMap_le _ _) (Nat.le_of_eq (cols_len S l))
  · simp
theorem constsOne_len' (S : List StatZ) (l : LitZ) (i : Nat) : (constsOne S l i).length ≤ (termsOf l).length := by
  unfold constsOne; split
  · rw [List.length_map]; exact Nat.le_trans (List.length_filterMap_le _ _) (Nat.le_of_eq (cols_len S l))
  · simp
theorem spotsP_len' (S : List StatZ) (v : ByteArray) (M : Nat) : ∀ (ls : List LitZ) (i : Nat), (∀ l ∈ ls, (termsOf l).length ≤ M) → (spotsP S v i ls).length ≤ ls.length * M
  | [], i, _ => by simp [spotsP]
  | l :: ls, i, h => by
    have h1 := spotsP_len' S v M ls (i + 1) fun x hx => h x (List.mem_cons_of_mem _ hx)
    have h2 := spotsOne_len' S v l i
    have h3 := h l List.mem_cons_self
    rw [spotsP, List.length_append, List.length_cons, Nat.succ_mul]; omega
theorem constsP_len' (S : List StatZ) (M : Nat) : ∀ (ls : List LitZ) (i : Nat), (∀ l ∈ ls, (termsOf l).length ≤ M) → (constsP S i ls).length ≤ ls.length * M
  | [], i, _ => by simp [constsP]
  | l :: ls, i, h => by
    have h1 := constsP_len' S M ls (i + 1) fun x hx => h x (List.mem_cons_of_mem _ hx)
    have h2 := constsOne_len' S l i
    have h3 := h l List.mem_cons_self
    rw [constsP, List.length_append, List.length_cons, Nat.succ_mul]; omega
end Go.Proofs.YtomeebimmmfmbaaGreat

/- The document's answer for costs: the guess of a set. -/
namespace Go.Proofs.YtomeebimmmfmbaaGreat
open Go.RowKit
set_option linter.unusedVariables false
attribute [local go_sem] run_store_float
def FoldTo (w0 : World) (f : Nat → Nat) (n : Nat) (iv sv : Value) (w : World) : Prop := ∃ i x : Nat, i ≤ n ∧ iv = .int .i64 i ∧ sv = .float .f64 x ∧ Hid (x = f i) ∧ Hid (Ext w0 w)
theorem eq_zero_run {x : Nat} (h : finW x = true) {b : Bool} (hb : zeroW x = b) : ((FloatKind.format .f64).order x 0 == some .eq) = b := (eq_zero h).trans hb
end Go.Proofs.YtomeebimmmfmbaaGreat

/- The document's answer for costs: numbers as a set, orders, Guess, Cost. -/
namespace Go.Proofs.YtomeebimmmfmbaaGreat
open Go.RowKit
set_option linter.unusedVariables false
attribute [local go_sem] run_store_float
theorem blk_made (w : World) (z : Value) (n : Nat) (e : TypeId) : Blk (w.alloc (.cells (madeCells #[z] n) e)) w.heap.size (List.replicate n z) e := by
  have h := Blk.new w (List.replicate n z) e
  have e1 : madeCells #[z] n = (List.replicate n z).toArray := by
    apply Array.toList_inj.1; rw [toList_madeCells_one]
  rw [e1]; exact h
theorem bools_rep (n : Nat) : bools (List.replicate n false) = List.replicate n (.bool false) := by simp [bools]
theorem bools_set (bs : List Bool) (i : Nat) (b : Bool) : (bools bs).set i (.bool b) = bools (bs.set i b) := by simp [bools, List.map_set]
theorem Blk.bools {w : World} {g : Nat} {bs : List Bool} {e : TypeId} (h : Blk w g (bools bs) e) : CellsAt w (some ⟨g, 0, none⟩) (Go.Proofs.YtomeebimmmfmbaaGreat.bools bs) := CellsAt.pre (rest := []) (by rw [List.append_nil]; exact h)
theorem putNum_none (xs : List Int) : xs.foldl putNum none = none := by
  induction xs with
  | nil => rfl
  | cons x xs ih => exact ih
theorem putNum_len {o : Option (List Bool)} {x : Int} {inn inn' : List Bool} (h : putNum (some inn) x = some inn') : inn'.length = inn.length := by
  unfold putNum at h
  dsimp only at h
  split at h
  · cases h; simp
  · cases h
theorem setTo_no {n : Nat} {xs : List Int} {i : Nat} {x : Int} (h : xs[i]? = some x) (hb : (xs.take (i + 1)).foldl putNum (some (List.replicate n false)) = none) : setW n xs = none := by
  unfold setW
  rw [← List.take_append_drop (i + 1) xs, List.foldl_append, hb, putNum_none]
theorem putNum_neg {inn : List Bool} {x : Int} (h : ¬ 0 ≤ x) : putNum (some inn) x = none := if_neg fun e => h e.1
theorem putNum_off {inn : List Bool} {q : Nat} (h : inn[q]? ≠ some false) : putNum (some inn) (q : Int) = none := if_neg fun e => h (by simpa using e.2)
theorem putNum_on {inn : List Bool} {q : Nat} (h : inn[q]? = some false) : putNum (some inn) (q : Int) = some (inn.set q true) := by
  show (if 0 ≤ (q : Int) ∧ inn[(q : Int).toNat]? = some false then some (inn.set (q : Int).toNat true) else none) = _
  rw [if_pos ⟨by omega, by simpa using h⟩]; simp
def SetV (o : Option (List Bool)) (n : Nat) (w' : World) (v : Value) : Prop := ∃ ao m c, v = .tuple #[.slice ao m c, .bool o.isSome] ∧ ∀ inn, o = some inn → m = n ∧ CellsAt w' ao (bools inn) ∧ inn.length = n
def NumsTo (w0 : World) (g n : Nat) (xs : List Int) (m : Nat) (iv : Value) (w : World) : Prop := ∃ (i : Nat) (inn : List Bool), i ≤ m ∧ iv = .int .i64 i ∧ Hid ((xs.take i).foldl putNum (some (List.replicate n false)) = some inn) ∧ Hid (Blk w g (bools inn) 4) ∧ Hid (inn.length = n) ∧ Hid (Ext w0 w)
open Classical in
theorem setOk_none {ls : List LitZ} {xs : List Int} (h : setW ls.length xs = none) : setOk ls xs = none := by unfold setOk; rw [h]
open Classical in
theorem setOk_some {ls : List LitZ} {xs : List Int} {inn : List Bool} (h : setW ls.length xs = some inn) : setOk ls xs = if stands ls inn then some inn else none := by unfold setOk; rw [h]
theorem CellsAt.intsTake {w : World} {ao : Option Addr} {xs : List Int} (h : CellsAt w ao (ints xs)) (i : Nat) : CellsAt w ao (ints (xs.take i)) := fun k u hu => h k u (by
  unfold ints at hu ⊢
  rw [List.map_take, List.getElem?_take] at hu
  split at hu
  · exact hu
  · cases hu)
end Go.Proofs.YtomeebimmmfmbaaGreat

/- The document's answer for costs: Guess, Cost. -/
namespace Go.Proofs.YtomeebimmmfmbaaGreat
open Go.RowKit
set_option linter.unusedVariables false
attribute [local go_sem] run_store_float
theorem guessE_bad {r : RuleZ} {S : List StatZ} {xs : List Int} (h : errR r S ≠ 0) : guessE r S xs = (0, errR r S) := by unfold guessE; rw [if_neg h]
theorem guessE_none {r : RuleZ} {S : List StatZ} {xs : List Int} (h : errR r S = 0) (hs : setOk r.2.1 xs = none) : guessE r S xs = (0, 2) := by unfold guessE; rw [if_pos h, hs]
theorem guessE_some {r : RuleZ} {S : List StatZ} {xs : List Int} {inn : List Bool} (h : errR r S = 0) (hs : setOk r.2.1 xs = some inn) : guessE r S xs = (guessW S r.2.1 inn, 0) := by unfold guessE; rw [if_pos h, hs]
theorem errR_zero {r : RuleZ} {S : List StatZ} (h : errR r S = 0) : checkR r = 0 ∧ statsOk r S := by
  unfold errR at h
  split at h
  · rename_i h1
    refine ⟨h1, ?_⟩
    split at h
    · assumption
    · cases h
  · exact absurd h (by assumption)
open Classical in
theorem guessOf_some {S : List StatZ} {ls : List LitZ} {xs : List Int} {inn : List Bool} (h : setOk ls xs = some inn) : guessOf S ls xs = guessW S ls inn := by unfold guessOf; rw [h]
theorem guessOf_le {S : List StatZ} {ls : List LitZ} (K : Known S ls) (xs : List Int) : guessOf S ls xs ≤ infW := by
  unfold guessOf
  split
  · exact guessW_le K _
  · exact Nat.zero_le _
theorem costTo_le {S : List StatZ} {ls : List LitZ} (K : Known S ls) (xs : List Int) : ∀ i, costTo S ls xs i ≤ infW
  | 0 => Nat.zero_le _
  | i + 1 => fadd_le (costTo_le K xs i) (guessOf_le K _)
end Go.Proofs.YtomeebimmmfmbaaGreat

/- The law of costs: alike, great, ints, terms. -/
namespace Go.Proofs.YtomeebimmmfmbaaGreat
open Go.RowKit
set_option linter.unusedVariables false
attribute [local go_sem] run_store_float
theorem frombits_run (b : Nat) (w : World) : (callFunc 11 #[.int .u64 b]).run Tryz.prog w = .ok (.value (.float .f64 b)) w := by
  rw [run_callFunc_extern (e := Extern.MathFloatBits.float64frombits) Tryz.func11 (by kernel_rfl) (by kernel_rfl) (by kernel_rfl) (by kernel_rfl)]
  rfl
def SameTo (w0 : World) (n : Nat) (iv : Value) (w : World) : Prop := ∃ i : Nat, i ≤ n ∧ iv = .int .i64 i ∧ Hid (Ext w0 w)
set_option maxRecDepth 100000 in
set_option maxHeartbeats 1000000 in
theorem ints_any (xs : List Int) (ao bo : Option Addr) (n acap bcap : Nat) (w : World) (hn : n = xs.length) (ha : CellsAt w ao (ints xs)) (hb : CellsAt w bo (ints xs)) (hl : n ≤ 4611686018427387904) :
    Calls Tryz.prog 21 #[.slice ao n acap, .slice bo n bcap] w (RetN w fun w' v => v = .bool true) := by
  have HN := Lib.hid hn; have HA := Lib.hid ha; have HB := Lib.hid hb
  have q1 : ((n : Int) != (n : Int)) = false := by simp
  clear hn ha hb
  go_enter Tryz.func21, Tryz.ntmps21
  go_wp2
  go_loopw [5] (fun iv wr => SameTo w n iv wr) (fun iv _ => n - (intOf iv).toNat)
  case atStart => exact ⟨0, Nat.zero_le _, rfl, Kp.refl w⟩
  case round =>
    obtain ⟨i, hi, rfl, hex⟩ := hrel
    by_cases hlt : i < n
    · have hli : i < xs.length := by rw [← HN.out]; exact hlt
      obtain ⟨g1, o1, e1, d1⟩ := (HA.out.ext hex.out).int hli
      obtain ⟨g2, o2, e2, d2⟩ := (HB.out.ext hex.out).int hli
      subst e1 e2
      generalize xs[i] = x at *
      have q2 : (x != x) = false := by simp
      have q3 : (x == x) = true := by simp
      clear hli
      go_wp2
      go_quiet (fail)
      go_wp2
      go_roundw
      case rel => exact ⟨i + 1, by omega, by first | rfl | (congr 1; done) | (congr 1; omega), hex.out.drewN _⟩
      case measure => simp [intOf]; omega
    · go_wp2
      go_ret
      exact RetN.mk hex.out rfl
set_option maxRecDepth 100000 in
set_option maxHeartbeats 1000000 in
theorem terms_any (ts : List TermZ) (ao bo : Option Addr) (n acap bcap : Nat) (w : World) (G H : Nat → Prop) (hn : n = ts.length) (ha : TermsAt w G ao ts) (hb : TermsAt w H bo ts) (hl : n ≤ 4611686018427387904) :
    Calls Tryz.prog 73 #[.slice ao n acap, .slice bo n bcap] w (RetN w fun w' v => v = .bool true) := by
  have HN := Lib.hid hn; have HA := Lib.hid ha; have HB := Lib.hid hb
  have q1 : ((n : Int) != (n : Int)) = false := by simp
  clear hn ha hb
  go_enter Tryz.func73, Tryz.ntmps73
  go_wp2
  go_loopw [5] (fun iv wr => SameTo w n iv wr) (fun iv _ => n - (intOf iv).toNat)
  case atStart => exact ⟨0, Nat.zero_le _, rfl, Kp.refl w⟩
  case round =>
    obtain ⟨i, hi, rfl, hex⟩ := hrel
    by_cases hlt : i < n
    · obtain ⟨t, ht⟩ : ∃ t, ts[i]? = some t := ⟨_, List.getElem?_eq_getElem (by rw [← HN.out]; exact hlt)⟩
      obtain ⟨g1, o1, e1, c0, c1, _⟩ := term_at (HA.out.ext hex.out) ht
      obtain ⟨g2, o2, e2, d0, d1, _⟩ := term_at (HB.out.ext hex.out) ht
      subst e1 e2
      obtain ⟨k, s, ⟨⟩⟩ := t
      simp only at c0 c1 d0 d1
      have q2 : (k != k) = false := by simp
      have q3 : (k == k) = true := by simp
      have q4 := str_eq s
      clear ht
      go_wp2
      go_quiet (fail)
      go_wp2
      go_roundw
      case rel => exact ⟨i + 1, by omega, by first | rfl | (congr 1; done) | (congr 1; omega), hex.out.drewN _⟩
      case measure => simp [intOf]; omega
    · go_wp2
      go_ret
      exact RetN.mk hex.out rfl
set_option maxRecDepth 100000 in
set_option maxHeartbeats 1000000 in
theorem literal25_any (ts : List TermZ) (k : Int) (p : ByteArray) (ao bo : Option Addr) (n acap bcap : Nat) (op lk : Int) (lt : ByteArray) (rk : Int) (rt : ByteArray) (w : World) (G H : Nat → Prop) (hn : n = ts.length) (ha : TermsAt w G ao ts) (hb : TermsAt w H bo ts) (hl : n ≤ 4611686018427387904) :
    Calls Tryz.prog 74 #[litV k p ao n acap op lk lt rk rt, litV k p bo n bcap op lk lt rk rt] w (RetN w fun w' v => v = .bool true) := by
  have HT := Lib.hid (fun (W : World) (hW : Ext w W) => terms_any ts ao bo n acap bcap W G H hn (ha.ext hW) (hb.ext hW) hl)
  have q1 : (k == k) = true := by simp
  have q2 : (op == op) = true := by simp
  have q3 : (lk == lk) = true := by simp
  have q4 : (rk == rk) = true := by simp
  have q5 := str_eq p
  have q6 := str_eq lt
  have q7 := str_eq rt
  clear hn ha hb
  go_enter Tryz.func74, Tryz.ntmps74
  have HB := Lib.hid (Blk.new w [.int .i64 k, .string p, .slice ao n acap, .int .i64 op, .int .i64 lk, .string lt, .int .i64 rk, .string rt] 97)
  go_wp2_with fail
  refine (HT.out _ (((Kp.refl w).alloc _).alloc _)).mono ?_
  rintro e w1 ⟨v, rfl, hk1, rfl⟩
  have X1 := Lib.hid ((((Kp.refl w).alloc _).alloc _).trans hk1)
  clear hk1
  go_wp2
  go_ret
  exact RetN.mk X1.out rfl
set_option maxRecDepth 100000 in
set_option maxHeartbeats 1000000 in
theorem same25_any (p : ByteArray) (hs : List TermZ) (ls : List LitZ) (ha hb : Option Addr) (hn hac hbc : Nat) (ba bb : Option Addr) (n bac bbc : Nat) (w : World) (G H : Nat → Prop) (hhn : hn = hs.length) (h1 : TermsAt w G ha hs) (h2 : TermsAt w H hb hs) (hhl : hn ≤ 1048576) (hbn : n = ls.length) (l1 : LitsAt w G ba ls) (l2 : LitsAt w H bb ls) (hf : Fit ls) :
    Calls Tryz.prog 38 #[ruleV p ha hn hac ba n bac, ruleV p hb hn hbc bb n bbc] w (RetN w fun w' v => v = .bool true) := by
  have HN := Lib.hid hbn; have HE := Lib.hid l1; have HE2 := Lib.hid l2; have HF := Lib.hid hf; have hl : n ≤ 1048576 := by have := hf.len; omega
  have HT := Lib.hid (fun (W : World) (hW : Ext w W) => terms_any hs ha hb hn hac hbc W G H hhn (h1.ext hW) (h2.ext hW) (by omega))
  have q1 := str_eq p
  have q2 : ((n : Int) != (n : Int)) = false := by simp
  have q3 : ((n : Int) == (n : Int)) = true := by simp
  clear hhn h1 h2 hbn l1 l2 hf
  go_enter Tryz.func38, Tryz.ntmps38
  obtain ⟨wb, eb⟩ : ∃ wb, (w.alloc (.cells #[.string p, .slice ha hn hac, .slice ba n bac] 28)).alloc (.cells #[.string p, .slice hb hn hbc, .slice bb n bbc] 28) = wb := ⟨_, rfl⟩
  have hB1 := (Blk.new w [.string p, .slice ha hn hac, .slice ba n bac] 28).alloc (.cells #[.string p, .slice hb hn hbc, .slice bb n bbc] 28)
  have hB2 := Blk.new (w.alloc (.cells #[.string p, .slice ha hn hac, .slice ba n bac] 28)) [.string p, .slice hb hn hbc, .slice bb n bbc] 28
  rw [alloc_size] at hB2
  have hB1' : Blk wb w.heap.size [.string p, .slice ha hn hac, .slice ba n bac] 28 := by rw [← eb]; exact hB1
  have hB2' : Blk wb (w.heap.size + 1) [.string p, .slice hb hn hbc, .slice bb n bbc] 28 := by rw [← eb]; exact hB2
  have hX : Ext w wb := by rw [← eb]; exact ((Kp.refl w).alloc _).alloc _
  have HB1 := Lib.hid hB1'
  have HB2 := Lib.hid hB2'
  have HX := Lib.hid hX
  have f10 : wb.cell? ⟨w.heap.size, 0, none⟩ = some (.string p) := by rw [hB1'.cell']; rfl
  have f11 : wb.cell? ⟨w.heap.size, 1, none⟩ = some (.slice ha hn hac) := by rw [hB1'.cell']; rfl
  have f12 : wb.cell? ⟨w.heap.size, 2, none⟩ = some (.slice ba n bac) := by rw [hB1'.cell']; rfl
  have f20 : wb.cell? ⟨w.heap.size + 1, 0, none⟩ = some (.string p) := by rw [hB2'.cell']; rfl
  have f21 : wb.cell? ⟨w.heap.size + 1, 1, none⟩ = some (.slice hb hn hbc) := by rw [hB2'.cell']; rfl
  have f22 : wb.cell? ⟨w.heap.size + 1, 2, none⟩ = some (.slice bb n bbc) := by rw [hB2'.cell']; rfl
  clear hB1 hB2 hB1' hB2' hX
  go_wp2_with fail
  refine (HT.out _ HX.out).mono ?_
  rintro e w1 ⟨v, rfl, hk1, rfl⟩
  have X1 := Lib.hid (HX.out.trans hk1)
  have B1 := Lib.hid (HB1.out.ext hk1)
  have B2 := Lib.hid (HB2.out.ext hk1)
  have r1 : w1.cell? ⟨w.heap.size, 2, none⟩ = some (.slice ba n bac) := by rw [B1.out.cell']; rfl
  have r2 : w1.cell? ⟨w.heap.size + 1, 2, none⟩ = some (.slice bb n bbc) := by rw [B2.out.cell']; rfl
  clear hk1 eb f10 f11 f12 f20 f21 f22
  go_wp2
  clear r1 r2
  go_loopw [5] (fun iv wr => SameTo w1 n iv wr) (fun iv _ => n - (intOf iv).toNat)
  case atStart => exact ⟨0, Nat.zero_le _, rfl, Kp.refl _⟩
  case round =>
    obtain ⟨i, hi, rfl, hex⟩ := hrel
    have XR := Lib.hid (X1.out.trans hex.out)
    have r1 : wr.cell? ⟨w.heap.size, 2, none⟩ = some (.slice ba n bac) := by rw [(B1.out.ext hex.out).cell']; rfl
    have r2 : wr.cell? ⟨w.heap.size + 1, 2, none⟩ = some (.slice bb n bbc) := by rw [(B2.out.ext hex.out).cell']; rfl
    by_cases hlt : i < n
    · obtain ⟨l, hli⟩ : ∃ l, ls[i]? = some l := ⟨_, List.getElem?_eq_getElem (by rw [← HN.out]; exact hlt)⟩
      obtain ⟨b, off, a2, cap2, eao, _, _, hL, c0, c1, c2, c3, c4, c5, c6, c7⟩ := lit_at HE.out hli
      obtain ⟨b', off', a3, cap3, eao', _, _, hL', d0, d1, d2, d3, d4, d5, d6, d7⟩ := lit_at HE2.out hli
      subst eao eao'
      replace c0 := XR.out.cell c0 id
      replace c1 := XR.out.cell c1 id
      replace c2 := XR.out.cell c2 id
      replace c3 := XR.out.cell c3 id
      replace c4 := XR.out.cell c4 id
      replace c5 := XR.out.cell c5 id
      replace c6 := XR.out.cell c6 id
      replace c7 := XR.out.cell c7 id
      replace d0 := XR.out.cell d0 id
      replace d1 := XR.out.cell d1 id
      replace d2 := XR.out.cell d2 id
      replace d3 := XR.out.cell d3 id
      replace d4 := XR.out.cell d4 id
      replace d5 := XR.out.cell d5 id
      replace d6 := XR.out.cell d6 id
      replace d7 := XR.out.cell d7 id
      obtain ⟨mm, emm⟩ : ∃ mm, mm = (termsOf l).length := ⟨_, rfl⟩
      rw [← emm] at c2 d2
      have hmm : mm ≤ 1048576 := by rw [emm]; exact HF.out.terms l (List.mem_of_getElem? hli)
      have HLit := Lib.hid (fun (k : Int) (p : ByteArray) (op lk : Int) (lt : ByteArray) (rk : Int) (rt : ByteArray) (W : World) (hW : Ext wr W) => literal25_any (termsOf l) k p a2 a3 mm cap2 cap3 op lk lt rk rt W G H emm (hL.terms.ext (XR.out.trans hW)) (hL'.terms.ext (XR.out.trans hW)) (by omega))
      generalize l.1 = k at *
      generalize predOf l = pl at *
      generalize opOf l = s3 at *
      generalize (leftOf l).1 = s4 at *
      generalize (leftOf l).2.1 = s5 at *
      generalize (rightOf l).1 = s6 at *
      generalize (rightOf l).2.1 = s7 at *
      clear hli hL hL' emm
      go_wp2
      go_still_tail 10, (by kernel_rfl)
      go_wp2_with fail
      refine (HLit.out _ _ _ _ _ _ _ _ (Kp.refl wr).drew).mono ?_
      rintro e w2 ⟨v, rfl, hk2, rfl⟩
      have X2 := Lib.hid (hex.out.drew.trans hk2)
      clear hk2 r1 r2 c0 c1 c2 c3 c4 c5 c6 c7 d0 d1 d2 d3 d4 d5 d6 d7
      go_wp2
      go_roundw
      case rel => exact ⟨i + 1, by omega, by first | rfl | (congr 1; done) | (congr 1; omega), X2⟩
      case measure => simp [intOf]; omega
    · go_wp2
      go_ret
      exact RetN.mk XR.out rfl
end Go.Proofs.YtomeebimmmfmbaaGreat

/- A region that draws its order: a condition S that holds behind every operation but the late ones (which wait for all that is taken first). The laws beneath the lines that drawn.py prints. No program in sight. -/
namespace Go.Proofs.YtomeebimmmfmbaaGreat
set_option linter.unusedVariables false
section
variable {P : Program} {ops : Array Oper} {Q : Exit → Act → World → Prop} {md : Region.Mode} {S : World → Prop} {lates : List Nat}
def noLate (lates : List Nat) (listed : Array Bool) : Bool := lates.all fun d => !listed.getD d true
def wpAnyD (P : Program) (md : Region.Mode) (ops : Array Oper) (Q : Exit → Act → World → Prop) (S : World → Prop) (lates : List Nat) : Nat → Array Bool → Act → World → Prop
  | 0, listed, a, w => Region.ready md ops listed = [] ∧ Q .normal a w
  | fuel + 1, listed, a, w => (Region.ready md ops listed = [] → Q .normal a w) ∧
    ∀ i ∈ Region.ready md ops listed, wpOp P ops Q i (fun a' w' => (noLate lates (listed.setIfInBounds i true) = true → S w') ∧ wpAnyD P md ops Q S lates fuel (listed.setIfInBounds i true) a' w') a w
theorem wpAny_of_D : ∀ (fuel : Nat) (listed : Array Bool) (a : Act) (w : World), wpAnyD P md ops Q S lates fuel listed a w → wpAny P md ops Q fuel listed a w
  | 0, _, _, _, h => h
  | fuel + 1, _, _, _, h => ⟨h.1, fun i hi => wpOp_mono (fun a' w' h' => wpAny_of_D fuel _ a' w' h'.2) (h.2 i hi)⟩
def waitsOf (md : Region.Mode) (ops : Array Oper) (i : Nat) : List Nat :=
  (List.range ops.size).foldl (fun D j => if j == i || (match ops[j]? with | some o => o.after.any (fun e => Region.binds md e && D.contains e.on) | none => false) then j :: D else D) []
def waitsB (md : Region.Mode) (ops : Array Oper) (listed : Array Bool) (lates : List Nat) (i : Nat) (D : List Nat) : Bool :=
  lates.all (fun d => D.contains d && d != i) && D.all fun d => !listed.getD d true && (d == i || match ops[d]? with | some o => o.after.any (fun e => Region.binds md e && D.contains e.on) | none => false)
theorem waits_spec {listed : Array Bool} {i : Nat} {D : List Nat} (h : waitsB md ops listed lates i D = true) :
    (∀ d ∈ lates, d ∈ D ∧ d ≠ i) ∧ (∀ d ∈ D, listed.getD d true = false) ∧ ∀ d ∈ D, d ≠ i → ∀ o, ops[d]? = some o → ∃ e ∈ o.after, Region.binds md e = true ∧ e.on ∈ D := by
  unfold waitsB at h
  rw [Bool.and_eq_true, List.all_eq_true, List.all_eq_true] at h
  refine ⟨fun d hd => ?_, fun d hd => ?_, fun d hd hne o ho => ?_⟩
  · have := h.1 d hd
    simp only [Bool.and_eq_true, List.contains_iff_mem, bne_iff_ne, ne_eq] at this
    exact this
  · have := h.2 d hd
    rw [Bool.and_eq_true] at this
    simpa using this.1
  · have h1 := h.2 d hd
    rw [Bool.and_eq_true, Bool.or_eq_true, ho] at h1
    rcases h1.2 with h2 | h2
    · exact absurd (by simpa using h2) hne
    · obtain ⟨e, he, hb⟩ := Array.any_eq_true'.1 h2
      rw [Bool.and_eq_true, List.contains_iff_mem] at hb
      exact ⟨e, he, hb.1, hb.2⟩
theorem noLate_of {listed : Array Bool} {D : List Nat} (hl : ∀ d ∈ lates, d ∈ D) (h : ∀ d ∈ D, listed.getD d true = false) : noLate lates listed = true := by
  unfold noLate
  rw [List.all_eq_true]
  intro d hd
  rw [h d (hl d hd)]; rfl
theorem noLate_set {listed : Array Bool} {i : Nat} (hi : i ∉ lates) : noLate lates (listed.setIfInBounds i true) = noLate lates listed := by
  unfold noLate
  rw [Bool.eq_iff_iff, List.all_eq_true, List.all_eq_true]
  have h : ∀ d ∈ lates, (listed.setIfInBounds i true).getD d true = listed.getD d true := fun d hd => getD_set_ne true (fun e => hi (e ▸ hd))
  exact ⟨fun k d hd => by rw [← h d hd]; exact k d hd, fun k d hd => by rw [h d hd]; exact k d hd⟩
theorem wpAnyD_first {i : Nat} {oi : Oper} {v : Value} {D : List Nat} (hi : ops[i]? = some oi) (hsel : ∀ (j : Nat) (o : Oper) cs b, ops[j]? = some o → o.op ≠ .select cs b)
    (hQ : ∀ c a w, Q (.panic c) (a.put oi.dst v) w → Q (.panic c) a w) (hl : ∀ d ∈ lates, d ∈ D ∧ d ≠ i) (hD : ∀ d ∈ D, d ≠ i → ∀ o, ops[d]? = some o → ∃ e ∈ o.after, Region.binds md e = true ∧ e.on ∈ D) :
    ∀ (fuel : Nat) (listed : Array Bool) (a : Act) (w : World),
      (∀ j oj, ops[j]? = some oj → j ≠ i → listed.getD j true = false → (∀ e ∈ oj.after, Region.binds md e = true → e.on ≠ i) → oi.apart ops oj = true) →
      (∀ d ∈ D, listed.getD d true = false) →
      i ∈ Region.ready md ops listed → YieldsIf P ops S oi v a → S w →
      wpAnyD P md ops Q S lates fuel (listed.setIfInBounds i true) (a.put oi.dst v) w → wpAnyD P md ops Q S lates (fuel + 1) listed a w := by
  have hil : i ∉ lates := fun h => (hl i h).2 rfl
  intro fuel
  induction fuel with
  | zero =>
    intro listed a w _ _ hr hy hS H
    refine ⟨fun h => (by rw [h] at hr; cases hr), fun j hj => ?_⟩
    by_cases hji : j = i
    · subst hji; exact hy.wpOp hi hS ⟨fun _ => hS, H⟩
    · have := ready_mono hj hji
      rw [H.1] at this
      cases this
  | succ fuel ih =>
    intro listed a w hfree hun0 hr hy hS H
    refine ⟨fun h => (by rw [h] at hr; cases hr), fun j hj => ?_⟩
    by_cases hji : j = i
    · subst hji; exact hy.wpOp hi hS ⟨fun _ => hS, H⟩
    · have h1 := H.2 j (ready_mono hj hji)
      obtain ⟨hjun, oj, hoj, hall⟩ := mem_ready.1 hj
      have hjD : j ∉ D := fun hjd => by
        obtain ⟨e, he, hb, heD⟩ := hD j hjd hji oj hoj
        have h2 := hall e he hb
        have h0 := hun0 e.on heD
        rcases Nat.lt_or_ge e.on listed.size with h' | h'
        · simp [h'] at h0 h2; rw [h0] at h2; cases h2
        · simp [Array.getElem?_eq_none h'] at h2
      have hnot : ∀ e ∈ oj.after, Region.binds md e = true → e.on ≠ i := fun e he hb heq => by
        have h1 := hall e he hb
        have h0 := (mem_ready.1 hr).1
        rw [heq] at h1
        rcases Nat.lt_or_ge i listed.size with h' | h'
        · simp [h'] at h0 h1; rw [h0] at h1; cases h1
        · simp [Array.getElem?_eq_none h'] at h1
      have h2 := wpOp_putIf hoj (hfree j oj hoj hji hjun hnot) (fun cs b => hsel i oi cs b hi) (fun cs b => hsel j oj cs b hoj) hQ hy h1
      have hfree' : ∀ k ok, ops[k]? = some ok → k ≠ i → (listed.setIfInBounds j true).getD k true = false →
          (∀ e ∈ ok.after, Region.binds md e = true → e.on ≠ i) → oi.apart ops ok = true := fun k ok hk hki hun hno => by
        refine hfree k ok hk hki ?_ hno
        by_cases hjk : j = k
        · subst hjk; exact hjun
        · rw [getD_set_ne true hjk] at hun; exact hun
      have hun' : ∀ d ∈ D, (listed.setIfInBounds j true).getD d true = false := fun d hd => by
        rw [getD_set_ne true (fun e : j = d => hjD (e.symm ▸ hd))]; exact hun0 d hd
      have hnl : noLate lates (listed.setIfInBounds j true) = true := noLate_of (fun d hd => (hl d hd).1) hun'
      have hnl2 : noLate lates ((listed.setIfInBounds i true).setIfInBounds j true) = true := by
        rw [Array.setIfInBounds_comm _ _ (Ne.symm hji), noLate_set hil]; exact hnl
      refine wpOp_mono (fun a' w' h3 => ⟨fun _ => h3.2.1 hnl2, ih (listed.setIfInBounds j true) a' w' hfree' hun' (ready_mono hr (Ne.symm hji)) h3.1 (h3.2.1 hnl2) ?_⟩) h2
      rw [Array.setIfInBounds_comm _ _ hji]
      exact h3.2.2
theorem wpAnyD_free {i : Nat} {oi : Oper} {v : Value} (hi : ops[i]? = some oi) (hsel : ∀ (j : Nat) (o : Oper) cs b, ops[j]? = some o → o.op ≠ .select cs b)
    (hQ : ∀ c a w, Q (.panic c) (a.put oi.dst v) w → Q (.panic c) a w) (hil : i ∉ lates) :
    ∀ (fuel : Nat) (listed : Array Bool) (a : Act) (w : World),
      (∀ j oj, ops[j]? = some oj → j ≠ i → listed.getD j true = false → (∀ e ∈ oj.after, Region.binds md e = true → e.on ≠ i) → oi.apart ops oj = true) →
      i ∈ Region.ready md ops listed → YieldsIf P ops (fun _ => True) oi v a → (noLate lates listed = true → S w) →
      wpAnyD P md ops Q S lates fuel (listed.setIfInBounds i true) (a.put oi.dst v) w → wpAnyD P md ops Q S lates (fuel + 1) listed a w := by
  intro fuel
  induction fuel with
  | zero =>
    intro listed a w _ hr hy hS H
    refine ⟨fun h => (by rw [h] at hr; cases hr), fun j hj => ?_⟩
    by_cases hji : j = i
    · subst hji; exact hy.wpOp hi trivial ⟨fun h => hS (by rw [noLate_set hil] at h; exact h), H⟩
    · have := ready_mono hj hji
      rw [H.1] at this
      cases this
  | succ fuel ih =>
    intro listed a w hfree hr hy hS H
    refine ⟨fun h => (by rw [h] at hr; cases hr), fun j hj => ?_⟩
    by_cases hji : j = i
    · subst hji; exact hy.wpOp hi trivial ⟨fun h => hS (by rw [noLate_set hil] at h; exact h), H⟩
    · have h1 := H.2 j (ready_mono hj hji)
      obtain ⟨hjun, oj, hoj, hall⟩ := mem_ready.1 hj
      have hnot : ∀ e ∈ oj.after, Region.binds md e = true → e.on ≠ i := fun e he hb heq => by
        have h1 := hall e he hb
        have h0 := (mem_ready.1 hr).1
        rw [heq] at h1
        rcases Nat.lt_or_ge i listed.size with h' | h'
        · simp [h'] at h0 h1; rw [h0] at h1; cases h1
        · simp [Array.getElem?_eq_none h'] at h1
      have h2 := wpOp_putIf hoj (hfree j oj hoj hji hjun hnot) (fun cs b => hsel i oi cs b hi) (fun cs b => hsel j oj cs b hoj) hQ hy h1
      have hfree' : ∀ k ok, ops[k]? = some ok → k ≠ i → (listed.setIfInBounds j true).getD k true = false →
          (∀ e ∈ ok.after, Region.binds md e = true → e.on ≠ i) → oi.apart ops ok = true := fun k ok hk hki hun hno => by
        refine hfree k ok hk hki ?_ hno
        by_cases hjk : j = k
        · subst hjk; exact hjun
        · rw [getD_set_ne true hjk] at hun; exact hun
      have hcm : noLate lates (listed.setIfInBounds j true) = true → noLate lates ((listed.setIfInBounds i true).setIfInBounds j true) = true := fun h => by
        rw [Array.setIfInBounds_comm _ _ (Ne.symm hji), noLate_set hil]; exact h
      refine wpOp_mono (fun a' w' h3 => ⟨fun h => h3.2.1 (hcm h), ih (listed.setIfInBounds j true) a' w' hfree' (ready_mono hr (Ne.symm hji)) h3.1 (fun h => h3.2.1 (hcm h)) ?_⟩) h2
      rw [Array.setIfInBounds_comm _ _ hji]
      exact h3.2.2
theorem wpAnyD_done {listed : Array Bool} {a : Act} {w : World} (hr : Region.ready md ops listed = []) (h : Q .normal a w) : ∀ fuel, wpAnyD P md ops Q S lates fuel listed a w
  | 0 => ⟨hr, h⟩
  | _ + 1 => ⟨fun _ => h, by rw [hr]; simp⟩
theorem draw_begin {id : Nat} {a : Act} {w : World} (S : World → Prop) (lates : List Nat) (hm : P.follows .mixedOrders = true) (hS : S w.drew)
    (h : S w.drew → wpAnyD P .any ops Q S lates ops.size (Array.replicate ops.size false) a w.drew) : (Code.region id ops true).wp P Q a w :=
  wp_region_any hm (wpAny_of_D _ _ _ _ (h hS))
end
section
variable {P : Program} {l : List Oper} {Q : Exit → Act → World → Prop} {md : Region.Mode} {S : World → Prop} {lates : List Nat} {fuel : Nat} {listed : Array Bool} {a : Act} {w : World}
theorem late_no {p : Prop} {b : Bool} (h : b = false) : b = true → p := fun e => by rw [h] at e; cases e
theorem and4 {a b c d : Bool} (h : (a && b && c && d) = true) : a = true ∧ b = true ∧ c = true ∧ d = true := by
  cases a <;> cases b <;> cases c <;> cases d <;> simp_all
theorem opAt {i : Nat} {oi : Oper} (hi : l[i]? = some oi) : l.toArray[i]? = some oi := by rw [List.getElem?_toArray]; exact hi
theorem draw_in {i : Nat} {oi : Oper} {v : Value} (hi : l[i]? = some oi) (hy : ∀ w, S w → (execOp a.eval oi).run P w = .ok (.value v) w)
    (h : wpAnyD P md l.toArray Q S lates fuel (listed.setIfInBounds i true) (a.put oi.dst v) w)
    (side : (Region.noSelect l.toArray && Region.free md l.toArray listed i && (Region.ready md l.toArray listed).contains i && waitsB md l.toArray listed lates i (waitsOf md l.toArray i)) = true := by kernel_rfl)
    (hw : Region.wanted oi (yielded l.toArray a.tmps) = true := by rfl) (hQ : ∀ c a w, Q (.panic c) (a.put oi.dst v) w → Q (.panic c) a w := by exact fun _ _ _ h => h) (hS : S w := by assumption) :
    wpAnyD P md l.toArray Q S lates (fuel + 1) listed a w :=
  let c := and4 side
  let z := waits_spec c.2.2.2
  wpAnyD_first (opAt hi) (Region.noSelect_spec c.1) hQ z.1 z.2.2 fuel listed a w (Region.free_spec (opAt hi) c.2.1) z.2.1 (by simpa using c.2.2.1) (.inl ⟨hw, hy⟩) hS h
theorem draw_free {i : Nat} {oi : Oper} {v : Value} (hi : l[i]? = some oi) (hy : ∀ w, (execOp a.eval oi).run P w = .ok (.value v) w)
    (h : wpAnyD P md l.toArray Q S lates fuel (listed.setIfInBounds i true) (a.put oi.dst v) w)
    (side : (Region.noSelect l.toArray && Region.free md l.toArray listed i && (Region.ready md l.toArray listed).contains i && !lates.contains i) = true := by kernel_rfl)
    (hw : Region.wanted oi (yielded l.toArray a.tmps) = true := by rfl) (hQ : ∀ c a w, Q (.panic c) (a.put oi.dst v) w → Q (.panic c) a w := by exact fun _ _ _ h => h) (hS : noLate lates listed = true → S w := by first | exact fun _ => by assumption | exact late_no (by kernel_rfl)) :
    wpAnyD P md l.toArray Q S lates (fuel + 1) listed a w :=
  let c := and4 side
  wpAnyD_free (opAt hi) (Region.noSelect_spec c.1) hQ (by simpa using c.2.2.2) fuel listed a w (Region.free_spec (opAt hi) c.2.1) (by simpa using c.2.2.1) (.inl ⟨hw, fun w _ => hy w⟩) hS h
theorem draw_out {i : Nat} {oi : Oper} (hi : l[i]? = some oi) (h : wpAnyD P md l.toArray Q S lates fuel (listed.setIfInBounds i true) (a.put oi.dst undef) w)
    (side : (Region.noSelect l.toArray && Region.free md l.toArray listed i && (Region.ready md l.toArray listed).contains i && !lates.contains i) = true := by kernel_rfl)
    (hw : Region.wanted oi (yielded l.toArray a.tmps) = false := by rfl) (hQ : ∀ c a w, Q (.panic c) (a.put oi.dst undef) w → Q (.panic c) a w := by exact fun _ _ _ h => h) (hS : noLate lates listed = true → S w := by first | exact fun _ => by assumption | exact late_no (by kernel_rfl)) :
    wpAnyD P md l.toArray Q S lates (fuel + 1) listed a w :=
  let c := and4 side
  wpAnyD_free (opAt hi) (Region.noSelect_spec c.1) hQ (by simpa using c.2.2.2) fuel listed a w (Region.free_spec (opAt hi) c.2.1) (by simpa using c.2.2.1) (.inr ⟨hw, rfl⟩) hS h
def Comes (P : Program) (md : Region.Mode) (l : List Oper) (Q : Exit → Act → World → Prop) (S : World → Prop) (lates : List Nat) (fuel : Nat) (listed : Array Bool) (a : Act) (w : World) (i : Nat) : Prop :=
  wpOp P l.toArray Q i (fun a' w' => (noLate lates (listed.setIfInBounds i true) = true → S w') ∧ wpAnyD P md l.toArray Q S lates fuel (listed.setIfInBounds i true) a' w') a w
theorem comes_turn {i : Nat} {o : Oper} (ho : l[i]? = some o)
    (h : ∀ K' : Act → World → Prop, Shut (∀ a w, S w → (S w → wpAnyD P md l.toArray Q S lates fuel (listed.setIfInBounds i true) a w) → K' a w) → if Region.wanted o (yielded l.toArray a.tmps) = true then Oper.wp P o a w K' Q else K' (a.put o.dst undef) w) : Comes P md l Q S lates fuel listed a w i :=
  wpOp_step (opAt ho) fun K' hK => h K' fun a w hS hW => hK a w ⟨fun _ => hS, hW hS⟩
theorem comes_late {i : Nat} {o : Oper} (ho : l[i]? = some o) (hi : noLate lates (listed.setIfInBounds i true) = false)
    (h : ∀ K' : Act → World → Prop, Shut (∀ a w, wpAnyD P md l.toArray Q S lates fuel (listed.setIfInBounds i true) a w → K' a w) → if Region.wanted o (yielded l.toArray a.tmps) = true then Oper.wp P o a w K' Q else K' (a.put o.dst undef) w) : Comes P md l Q S lates fuel listed a w i :=
  wpOp_step (opAt ho) fun K' hK => h K' fun a w hW => hK a w ⟨fun hn => absurd (hn.symm.trans hi) Bool.noConfusion, hW⟩
theorem draw_one {i : Nat} (h : Comes P md l Q S lates fuel listed a w i) (hr : Region.ready md l.toArray listed = [i] := by kernel_rfl) : wpAnyD P md l.toArray Q S lates (fuel + 1) listed a w :=
  ⟨fun h0 => absurd (hr ▸ h0) (by simp), fun j hj => by rw [hr] at hj; simp at hj; subst hj; exact h⟩
theorem draw_two {i k : Nat} (h : Comes P md l Q S lates fuel listed a w i) (h' : Comes P md l Q S lates fuel listed a w k) (hr : Region.ready md l.toArray listed = [i, k] := by kernel_rfl) : wpAnyD P md l.toArray Q S lates (fuel + 1) listed a w :=
  ⟨fun h0 => absurd (hr ▸ h0) (by simp), fun j hj => by
    rw [hr] at hj; simp at hj
    rcases hj with rfl | rfl
    · exact h
    · exact h'⟩
theorem draw_app {o : Oper} {K : Act → World → Prop} {E : Prop} (hgd : o.guard = none) (s x : Operand) {t1 t2 : TypeId}
    (ho : o.op = .call { callee := .builtin .append, args := #[s, x], argTypes := #[t1, t2] }) {v u v' : Value} {w' : World} (hs : a.eval s = v) (hx : a.eval x = u)
    (hr : (Builtin.append_ #[t1, t2] o.type #[v, u]).run P w = .ok v' w') (h : K (a.put o.dst v') w') :
    if Region.wanted o (yielded l.toArray a.tmps) = true then Oper.wp P o a w K Q else E := by
  have hw : Region.wanted o (yielded l.toArray a.tmps) = true := by simp [Region.wanted, hgd]
  rw [if_pos hw]
  unfold Oper.wp execOp
  simp only [ho, resolve, invoke, builtin, Sem.run_bind, Sem.run_pure, Result.andThen_ok, List.map_toArray, List.map_cons, List.map_nil, hs, hx, hr]
  exact h
end
end Go.Proofs.YtomeebimmmfmbaaGreat

/- Lists of elements of several cells; rows of one's own and their blocks; appends in a region that draws its order. No program in sight. -/
namespace Go.Proofs.YtomeebimmmfmbaaGreat
open Go.RowKit
set_option linter.unusedVariables false
theorem flat_get {α : Type} (f : α → List Value) (k : Nat) (hk : ∀ x, (f x).length = k) : ∀ (L : List α) (i : Nat) (x : α) (c : Nat), L[i]? = some x → c < k → (L.flatMap f)[i * k + c]? = (f x)[c]?
  | [], i, x, c, h, _ => by simp at h
  | a :: L, 0, x, c, h, hc => by
    simp at h; subst h
    rw [List.flatMap_cons, Nat.zero_mul, Nat.zero_add, List.getElem?_append_left (by rw [hk]; exact hc)]
  | a :: L, i + 1, x, c, h, hc => by
    rw [List.flatMap_cons, List.getElem?_append_right (by rw [hk, Nat.succ_mul]; omega), hk]
    have := flat_get f k hk L i x c (by simpa using h) hc
    rw [← this]; congr 1; rw [Nat.succ_mul]; omega
theorem flat_len {α : Type} (f : α → List Value) (k : Nat) (hk : ∀ x, (f x).length = k) (L : List α) : (L.flatMap f).length = L.length * k := by
  induction L with
  | nil => simp
  | cons a L ih => rw [List.flatMap_cons, List.length_append, hk, ih, List.length_cons, Nat.succ_mul]; omega
theorem Row.blkOf {w : World} {e : TypeId} {k : Nat} {v : Value} {n : Nat} {xs : List Value} {M : Nat → Prop} (h : Row w e k v n xs M) {g : Nat} (hg : v.ownBlock = some g) : ∃ cs, Blk w g cs e := by
  obtain ⟨h1, ⟨rfl, rfl⟩ | ⟨g', cap, rest, rfl, b, c, d⟩⟩ := h
  · cases hg
  · cases hg; exact ⟨_, c⟩
theorem Row.ltB {w : World} {e : TypeId} {k : Nat} {v : Value} {n : Nat} {xs : List Value} {M : Nat → Prop} (h : Row w e k v n xs M) {g : Nat} (hg : v.ownBlock = some g) : g < w.heap.size := by
  obtain ⟨cs, hb⟩ := h.blkOf hg; exact hb.lt
theorem blk_ne {w : World} {g : Nat} {cs cs' : List Value} {e e' : TypeId} (h : Blk w g cs e) (h' : Blk w g cs' e') : e = e' := by
  unfold Blk at h h'; rw [h] at h'; injection h' with h'; injection h'
theorem CellsAt.new (w : World) (xs : List Value) (e : TypeId) : CellsAt (w.alloc (.cells xs.toArray e)) (some ⟨w.heap.size, 0, none⟩) xs := CellsAt.pre (rest := []) (by rw [List.append_nil]; exact Blk.new w xs e)
theorem takeSnoc {α : Type} {xs : List α} {k : Nat} {x : α} (h : xs[k]? = some x) : xs.take (k + 1) = xs.take k ++ [x] := by rw [List.take_add_one, h]; rfl
theorem draw_appN {P : Program} {t e : TypeId} {k bytes : Nat} {z : Value} (E : ElemT P t e k bytes z) {l : List Oper} {a : Act} {w : World} {Q : Exit → Act → World → Prop} {o : Oper} {K : Act → World → Prop} {El : Prop} (hgd : o.guard = none) (s x : Operand)
    (ho : o.op = .call { callee := .builtin .append, args := #[s, x], argTypes := #[t, t] })
    {F : Nat → Prop} {w0 : World} (hkp : Kp F w0 w)
    {v : Value} {n : Nat} {xs : List Value} (hs : a.eval s = v) (hr : Row w e k v n xs (New w0))
    {ao : Option Addr} {m c : Nat} {news : List Value} (hx : a.eval x = .slice ao m c) (hsrc : CellsAt w ao news) (hl : news.length = m * k) (h1 : ∀ u ∈ news, u.oneCell' = true)
    (hb : (n + m) * bytes ≤ 140737488355328) (h63 : n + m ≤ maxLen)
    (h : ∀ v' w', Row w' e k v' (n + m) (xs ++ news) (New w0) → Kp F w0 w' → Kp (fun g => v.ownBlock = some g) w w' → K (a.put o.dst v') w') :
    if Region.wanted o (yielded l.toArray a.tmps) = true then Oper.wp P o a w K Q else El := by
  obtain ⟨v', w', hrun, h2, h3, h4⟩ := run_app (P := P) E o.type hr hl hsrc h1 hb h63 (c := c)
  refine draw_app hgd s x ho hs hx hrun (h v' w' (h2.mono fun g hg => ?_) (hkp.trans' h3 fun i hi hg => absurd hi (Nat.not_lt.2 (hr.block i hg))) h3)
  rcases hg with hg | hg
  · exact hr.block g hg
  · exact Nat.le_trans hkp.size hg
end Go.Proofs.YtomeebimmmfmbaaGreat

/- cost: a body in memory: its parts, its variables, the columns of each variable, of constants. -/
namespace Go.Proofs.YtomeebimmmfmbaaGreat
open Go.RowKit
set_option linter.unusedVariables false
def rowsP (S : List StatZ) (l : LitZ) : Nat := if l.1 = 1 then rowsW S l else 0
def shareP (l : LitZ) : Nat := if l.1 = 1 then 0 else shareW l
def partC (S : List StatZ) (x : LitZ × (Option Addr × Nat)) : List Value := [.bool (decide (x.1.1 = 1)), .float .f64 (rowsP S x.1), .float .f64 (shareP x.1), .slice x.2.1 (varsL x.1).length x.2.2]
def spotC (x : Nat × Nat) : List Value := [.int .i64 x.1, .float .f64 x.2]
theorem partC_len (S : List StatZ) (x : LitZ × (Option Addr × Nat)) : (partC S x).length = 4 := rfl
theorem spotC_len (x : Nat × Nat) : (spotC x).length = 2 := rfl
theorem elem_part : ElemT Tryz.prog 117 164 4 48 (.agg #[.bool false, .float .f64 0, .float .f64 0, .slice none 0 0]) := ⟨by kernel_rfl, by kernel_rfl, rfl, by decide⟩
theorem elem_spot : ElemT Tryz.prog 119 168 2 16 (.agg #[.int .i64 0, .float .f64 0]) := ⟨by kernel_rfl, by kernel_rfl, rfl, by decide⟩
theorem blk_map {w : World} {g : Nat} {cs : List Value} {e : TypeId} {m : List (ByteArray × Value)} (h : Blk w g cs e) (h' : MapIs w g m) : False := by
  obtain ⟨es, c, h1, _⟩ := h'
  unfold Blk at h; rw [h] at h1; cases h1
theorem getM_put (m : List (ByteArray × Value)) (s t : ByteArray) (v : Value) : getM (putM m s v) t = if t = s then some v else getM m t := by
  unfold putM
  by_cases hs : (getM m s).isSome
  · rw [if_pos hs]
    induction m with
    | nil => simp [getM] at hs
    | cons p m ih =>
      unfold getM at hs ih ⊢
      by_cases hp : p.1 = s
      · by_cases ht : t = s
        · subst ht; simp [hp]
        · have h1 : p.1 ≠ t := fun e => ht (e.symm.trans hp)
          simp only [List.map_cons, hp, if_true, List.find?_cons, Ne.symm ht, decide_false, if_neg ht]
          have : ∀ (m : List (ByteArray × Value)), ((m.map fun p => if p.1 = s then (p.1, v) else p).find? fun p => decide (p.1 = t)).map (·.2) = (m.find? fun p => decide (p.1 = t)).map (·.2) := fun m => by
            induction m with
            | nil => rfl
            | cons q m ih2 =>
              rw [List.map_cons]
              by_cases hq : q.1 = s
              · rw [if_pos hq, List.find?_cons_of_neg (by simp [hq, Ne.symm ht]), List.find?_cons_of_neg (by simp [hq, Ne.symm ht])]; exact ih2
              · rw [if_neg hq]
                by_cases hqt : q.1 = t
                · rw [List.find?_cons_of_pos (by simp [hqt]), List.find?_cons_of_pos (by simp [hqt])]
                · rw [List.find?_cons_of_neg (by simp [hqt]), List.find?_cons_of_neg (by simp [hqt])]; exact ih2
          exact this m
      · have hs2 : ((m.find? fun p => decide (p.1 = s)).map (·.2)).isSome := by
          rw [List.find?_cons_of_neg (by simp [hp])] at hs; exact hs
        have ih2 := ih hs2
        rw [List.map_cons, if_neg hp]
        by_cases hpt : p.1 = t
        · rw [List.find?_cons_of_pos (by simp [hpt]), List.find?_cons_of_pos (by simp [hpt]), if_neg (fun e => hp (hpt.trans e))]
        · rw [List.find?_cons_of_neg (by simp [hpt]), List.find?_cons_of_neg (by simp [hpt])]; exact ih2
  · rw [if_neg hs]
    have hn : m.find? (fun p => decide (p.1 = s)) = none := by
      unfold getM at hs
      cases h : m.find? (fun p => decide (p.1 = s)) with
      | none => rfl
      | some x => rw [h] at hs; simp at hs
    unfold getM
    rw [List.find?_append]
    by_cases ht : t = s
    · subst ht; rw [hn]; simp
    · rw [if_neg ht]
      cases h : m.find? (fun p => decide (p.1 = t)) with
      | none => simp [Ne.symm ht]
      | some x => simp
structure BodyIn (w0 w : World) (gb gm : Nat) (nv : Value) (col : Nat → Option ByteArray) (S : List StatZ) (pl : List LitZ) (sp : ByteArray → List (Nat × Nat)) (cn : List (Nat × Nat)) (pv cv : Value) (m : List (ByteArray × Value)) : Prop where
  ext : Ext w0 w
  gbn : w0.heap.size ≤ gb
  gmn : w0.heap.size ≤ gm
  blk : Blk w gb [pv, nv, .map (some gm), cv] 121
  map : MapIs w gm m
  parts : ∃ vs : List (Option Addr × Nat), vs.length = pl.length ∧ Row w 164 4 pv pl.length ((pl.zip vs).flatMap (partC S)) (New w0) ∧
    ∀ x ∈ pl.zip vs, Row w 9 1 (.slice x.2.1 (varsL x.1).length x.2.2) (varsL x.1).length (strs (varsL x.1)) (New w0)
  consts : Row w 168 2 cv cn.length (cn.flatMap spotC) (fun g => New w0 g ∧ col g = none)
  spots : ∀ v, Row w 168 2 ((getM m v).getD (.slice none 0 0)) (sp v).length ((sp v).flatMap spotC) (fun g => New w0 g ∧ col g = some v)
section
variable {w0 w w' : World} {gb gm : Nat} {nv : Value} {col : Nat → Option ByteArray} {S : List StatZ} {pl : List LitZ} {sp : ByteArray → List (Nat × Nat)} {cn : List (Nat × Nat)} {pv cv : Value} {m : List (ByteArray × Value)}
theorem BodyIn.on (h : BodyIn w0 w gb gm nv col S pl sp cn pv cv m) (hk : Ext w w') : BodyIn w0 w' gb gm nv col S pl sp cn pv cv m := by
  obtain ⟨h1, h2, h3, h4, h5, ⟨vs, h6, h7, h8⟩, h9, h10⟩ := h
  exact ⟨h1.trans hk, h2, h3, h4.ext hk, h5.ext hk, ⟨vs, h6, h7.ext hk, fun x hx => (h8 x hx).ext hk⟩, h9.ext hk, fun v => (h10 v).ext hk⟩
def tint (w : World) (col : Nat → Option ByteArray) (t : Option ByteArray) (g : Nat) : Option ByteArray := if g < w.heap.size then col g else t
theorem tint_old {w : World} {col : Nat → Option ByteArray} {t : Option ByteArray} {g : Nat} (h : g < w.heap.size) : tint w col t g = col g := if_pos h
theorem tint_new {w : World} {col : Nat → Option ByteArray} {t : Option ByteArray} {g : Nat} (h : w.heap.size ≤ g) : tint w col t g = t := if_neg (Nat.not_lt.2 h)
theorem typ_ps : 164 ≠ 168 := by decide
theorem typ_pt : 164 ≠ 9 := by decide
theorem typ_pb : 164 ≠ 121 := by decide
theorem typ_st : 168 ≠ 9 := by decide
theorem typ_sb : 168 ≠ 121 := by decide
theorem typ_tb : 9 ≠ 121 := by decide
theorem row_apart {e e' : TypeId} {k k' : Nat} {v v' : Value} {n n' : Nat} {xs xs' : List Value} {M M' : Nat → Prop} (h : Row w e k v n xs M) (h' : Row w e' k' v' n' xs' M') (hne : e ≠ e') {g : Nat} (h1 : v.ownBlock = some g) (h2 : v'.ownBlock = some g) : False := by
  obtain ⟨c1, b1⟩ := h.blkOf h1
  obtain ⟨c2, b2⟩ := h'.blkOf h2
  exact hne (blk_ne b1 b2)
theorem BodyIn.part (h : BodyIn w0 w gb gm nv col S pl sp cn pv cv m) (l : LitZ) (x : Option Addr × Nat) (hx : Row w 9 1 (.slice x.1 (varsL l).length x.2) (varsL l).length (strs (varsL l)) (New w0))
    {ao : Option Addr} {c : Nat} (hsrc : CellsAt w ao (partC S (l, x))) (hl : pl.length ≤ 1048576) (ty : TypeId) :
    ∃ pv' w', (Builtin.append_ #[117, 117] ty #[pv, .slice ao 1 c]).run Tryz.prog w = .ok pv' w' ∧ w'.cell? ⟨gb, 0, none⟩ = some pv ∧ w'.frozen? ⟨gb, 0, none⟩ = false ∧ Kp (fun k => k = gb ∨ ∃ cs, Blk w k cs 164) w (w'.setCell ⟨gb, 0, none⟩ pv') ∧
      BodyIn w0 (w'.setCell ⟨gb, 0, none⟩ pv') gb gm nv col S (pl ++ [l]) sp cn pv' cv m := by
  obtain ⟨h1, h2, h3, h4, h5, ⟨vs, h6, h7, h8⟩, h9, h10⟩ := h
  obtain ⟨pv', w', hrun, hr, hk, _⟩ := run_app (m := 1) elem_part ty h7 (partC_len S (l, x)) hsrc (by intro u hu; simp [partC] at hu; rcases hu with rfl | rfl | rfl | rfl <;> rfl) (by omega) (by unfold maxLen; omega) (c := c)
  have hgbF : ¬ (pv.ownBlock = some gb) := fun e => by
    obtain ⟨cs, hb⟩ := h7.blkOf e
    exact typ_pb (blk_ne hb h4)
  have hB' : Blk w' gb [pv, nv, .map (some gm), cv] 121 := h4.kp hk hgbF
  have hkS : Kp (fun k => k = gb) w' (w'.setCell ⟨gb, 0, none⟩ pv') := Kp.setCell (F := fun k => k = gb) (Kp.refl w') (fun _ => rfl) _
  have hk0 : Ext w0 w' := h1.trans' hk fun i hi hg => by
    have := h7.block i hg; unfold New at this; omega
  have hne : ∀ {g : Nat} {cs : List Value} {e : TypeId}, Blk w g cs e → 164 ≠ e → ¬ pv.ownBlock = some g := fun hb he hg => by
    obtain ⟨cs', hb'⟩ := h7.blkOf hg
    exact he (blk_ne hb' hb)
  have rowK : ∀ {e : TypeId} {k : Nat} {v : Value} {n : Nat} {xs : List Value} {M : Nat → Prop}, Row w e k v n xs M → 164 ≠ e → e ≠ 121 → Row (w'.setCell ⟨gb, 0, none⟩ pv') e k v n xs M := fun hr1 he he2 => by
    have r1 := hr1.kp' hk fun g hg _ hp => by
      obtain ⟨cs, hb⟩ := hr1.blkOf hg
      exact hne hb he hp
    exact r1.kp' hkS fun g hg _ e => by
      obtain ⟨cs, hb⟩ := r1.blkOf hg
      subst e
      exact he2 (blk_ne hb hB')
  refine ⟨pv', w', hrun, by rw [hB'.cell']; rfl, hB'.free 0, (hk.mono fun i _ e => .inr (h7.blkOf e)).trans' hkS fun i _ e => .inl e, ?_⟩
  refine ⟨hk0.trans' hkS fun i hi e => by omega, h2, h3, hB'.set 0 pv', ?_, ?_, rowK h9 typ_ps typ_sb, fun v => rowK (h10 v) typ_ps typ_sb⟩
  · refine (h5.kp hk fun e => ?_).kp hkS fun e => ?_
    · obtain ⟨cs, hb⟩ := h7.blkOf e
      exact blk_map hb h5
    · subst e; exact blk_map h4 h5
  · refine ⟨vs ++ [x], by simp [h6], ?_, ?_⟩
    · have e1 : ((pl ++ [l]).zip (vs ++ [x])).flatMap (partC S) = (pl.zip vs).flatMap (partC S) ++ partC S (l, x) := by
        rw [List.zip_append (by omega), List.flatMap_append]; simp
      rw [e1, List.length_append]
      have r2 : Row w' 164 4 pv' (pl.length + 1) ((pl.zip vs).flatMap (partC S) ++ partC S (l, x)) (New w0) := hr.mono fun g hg => by
        rcases hg with hg | hg
        · exact h7.block g hg
        · exact Nat.le_trans h1.size hg
      exact r2.kp' hkS fun g hg _ e => by
        obtain ⟨cs, hb⟩ := r2.blkOf hg
        subst e
        exact typ_pb (blk_ne hb hB')
    · intro y hy
      rw [List.zip_append (by omega), List.mem_append] at hy
      rcases hy with hy | hy
      · exact rowK (h8 y hy) typ_pt typ_tb
      · simp at hy; subst hy; exact rowK hx typ_pt typ_tb
theorem spot_grow {v : Value} {xs : List (Nat × Nat)} {M : Nat → Prop} (hr : Row w 168 2 v xs.length (xs.flatMap spotC) M) (x : Nat × Nat) {ao : Option Addr} {c : Nat} (hsrc : CellsAt w ao (spotC x)) (hl : xs.length ≤ 1099513724928) (ty : TypeId) :
    ∃ v' w', (Builtin.append_ #[119, 119] ty #[v, .slice ao 1 c]).run Tryz.prog w = .ok v' w' ∧ Row w' 168 2 v' (xs ++ [x]).length ((xs ++ [x]).flatMap spotC) (fun g => v.ownBlock = some g ∨ w.heap.size ≤ g) ∧ Kp (fun g => v.ownBlock = some g) w w' := by
  obtain ⟨v', w', hrun, hr', hk, _⟩ := run_app (m := 1) elem_spot ty hr (spotC_len x) hsrc (by intro u hu; simp [spotC] at hu; rcases hu with rfl | rfl <;> rfl) (by omega) (by unfold maxLen; omega) (c := c)
  refine ⟨v', w', hrun, ?_, hk⟩
  rw [List.length_append, List.flatMap_append]
  simpa using hr'
theorem BodyIn.const (h : BodyIn w0 w gb gm nv col S pl sp cn pv cv m) (x : Nat × Nat) {ao : Option Addr} {c : Nat} (hsrc : CellsAt w ao (spotC x)) (hl : cn.length ≤ 1099513724928) (ty : TypeId) :
    ∃ cv' w', (Builtin.append_ #[119, 119] ty #[cv, .slice ao 1 c]).run Tryz.prog w = .ok cv' w' ∧ w'.cell? ⟨gb, 3, none⟩ = some cv ∧ w'.frozen? ⟨gb, 3, none⟩ = false ∧ Kp (fun k => k = gb ∨ ∃ cs, Blk w k cs 168) w (w'.setCell ⟨gb, 3, none⟩ cv') ∧
      ∃ col', BodyIn w0 (w'.setCell ⟨gb, 3, none⟩ cv') gb gm nv col' S pl sp (cn ++ [x]) pv cv' m := by
  obtain ⟨h1, h2, h3, h4, h5, ⟨vs, h6, h7, h8⟩, h9, h10⟩ := h
  obtain ⟨cv', w', hrun, hr, hk⟩ := spot_grow h9 x hsrc hl ty (c := c)
  have hB' : Blk w' gb [pv, nv, .map (some gm), cv] 121 := h4.kp hk fun e => by
    obtain ⟨cs, hb⟩ := h9.blkOf e
    exact typ_sb (blk_ne hb h4)
  have hkS : Kp (fun k => k = gb) w' (w'.setCell ⟨gb, 3, none⟩ cv') := Kp.setCell (F := fun k => k = gb) (Kp.refl w') (fun _ => rfl) _
  have hk0 : Ext w0 w' := h1.trans' hk fun i hi hg => by
    have := (h9.block i hg).1; unfold New at this; omega
  have rowS : ∀ {e : TypeId} {k : Nat} {v : Value} {n : Nat} {xs : List Value} {M : Nat → Prop}, Row w' e k v n xs M → e ≠ 121 → Row (w'.setCell ⟨gb, 3, none⟩ cv') e k v n xs M := fun hr1 he2 =>
    hr1.kp' hkS fun g hg _ e => by
      obtain ⟨cs, hb⟩ := hr1.blkOf hg
      subst e
      exact he2 (blk_ne hb hB')
  have rowK : ∀ {e : TypeId} {k : Nat} {v : Value} {n : Nat} {xs : List Value} {M : Nat → Prop}, Row w e k v n xs M → e ≠ 168 → e ≠ 121 → Row (w'.setCell ⟨gb, 3, none⟩ cv') e k v n xs M := fun hr1 he he2 =>
    rowS (hr1.kp' hk fun g hg _ hp => row_apart hr1 h9 he hg hp) he2
  refine ⟨cv', w', hrun, by rw [hB'.cell']; rfl, hB'.free 3, (hk.mono fun i _ e => .inr (h9.blkOf e)).trans' hkS fun i _ e => .inl e, tint w col none, hk0.trans' hkS fun i hi e => by omega, h2, h3, hB'.set 3 cv', ?_, ⟨vs, h6, rowK h7 typ_ps typ_pb, fun y hy => rowK (h8 y hy) (Ne.symm typ_st) typ_tb⟩, ?_, fun v => ?_⟩
  · refine (h5.kp hk fun e => ?_).kp hkS fun e => ?_
    · obtain ⟨cs, hb⟩ := h9.blkOf e
      exact blk_map hb h5
    · subst e; exact blk_map h4 h5
  · refine rowS (hr.mono fun g hg => ?_) typ_sb
    rcases hg with hg | hg
    · have := h9.block g hg
      exact ⟨this.1, by rw [tint_old (h9.ltB hg)]; exact this.2⟩
    · exact ⟨Nat.le_trans h1.size hg, tint_new hg⟩
  · refine rowS ((((h10 v).old).mono (fun g hg => ?_)).kp' hk fun g hg hm hp => ?_) typ_sb
    · exact ⟨hg.1.1, by rw [tint_old hg.2]; exact hg.1.2⟩
    · have a := ((h10 v).block g hg).2
      have b := (h9.block g hp).2
      rw [a] at b; cases b
theorem BodyIn.spot (h : BodyIn w0 w gb gm nv col S pl sp cn pv cv m) (v : ByteArray) (x : Nat × Nat) {ao : Option Addr} {c : Nat} (hsrc : CellsAt w ao (spotC x)) (hl : (sp v).length ≤ 1099513724928) (ty : TypeId) :
    ∃ v' w' w'', (Builtin.append_ #[119, 119] ty #[(getM m v).getD (.slice none 0 0), .slice ao 1 c]).run Tryz.prog w = .ok v' w' ∧ (Instr.mapUpdate 118 (.map (some gm)) (.string v) v').run Tryz.prog w' = .ok () w'' ∧
      Kp (fun g => ((getM m v).getD (.slice none 0 0)).ownBlock = some g) w w' ∧ MapIs w' gm m ∧ Kp (fun k => k = gm ∨ ∃ cs, Blk w k cs 168) w w'' ∧
      ∃ col', BodyIn w0 w'' gb gm nv col' S pl (fun u => if u = v then sp v ++ [x] else sp u) cn pv cv (putM m v v') := by
  obtain ⟨h1, h2, h3, h4, h5, ⟨vs, h6, h7, h8⟩, h9, h10⟩ := h
  obtain ⟨v', w', hrun, hr, hk⟩ := spot_grow (h10 v) x hsrc hl ty (c := c)
  have hM' : MapIs w' gm m := h5.kp hk fun e => by
    obtain ⟨cs, hb⟩ := (h10 v).blkOf e
    exact blk_map hb h5
  obtain ⟨w'', hrun2, hM2, hk2⟩ := run_update_str (P := Tryz.prog) Tryz.underlying118 Tryz.underlying9 hM' v v'
  have hB' : Blk w' gb [pv, nv, .map (some gm), cv] 121 := h4.kp hk fun e => by
    obtain ⟨cs, hb⟩ := (h10 v).blkOf e
    exact typ_sb (blk_ne hb h4)
  have hk0 : Ext w0 w' := h1.trans' hk fun i hi hg => by
    have := ((h10 v).block i hg).1; unfold New at this; omega
  have rowS : ∀ {e : TypeId} {k : Nat} {v : Value} {n : Nat} {xs : List Value} {M : Nat → Prop}, Row w' e k v n xs M → Row w'' e k v n xs M := fun hr1 =>
    hr1.kp' hk2 fun g hg _ e => by
      obtain ⟨cs, hb⟩ := hr1.blkOf hg
      subst e
      exact blk_map hb hM'
  have rowK : ∀ {e : TypeId} {k : Nat} {v2 : Value} {n : Nat} {xs : List Value} {M : Nat → Prop}, Row w e k v2 n xs M → e ≠ 168 → Row w'' e k v2 n xs M := fun hr1 he =>
    rowS (hr1.kp' hk fun g hg _ hp => row_apart hr1 (h10 v) he hg hp)
  refine ⟨v', w', w'', hrun, hrun2, hk, hM', (hk.mono fun i _ e => .inr ((h10 v).blkOf e)).trans' hk2 fun i _ e => .inl e, tint w col (some v), hk0.trans' hk2 fun i hi e => by omega, h2, h3, hB'.kp hk2 fun e => by subst e; exact blk_map hB' hM', hM2, ⟨vs, h6, rowK h7 typ_ps, fun y hy => rowK (h8 y hy) (Ne.symm typ_st)⟩, ?_, fun u => ?_⟩
  · refine rowS (((h9.old).mono (fun g hg => ?_)).kp' hk fun g hg hm hp => ?_)
    · exact ⟨hg.1.1, by rw [tint_old hg.2]; exact hg.1.2⟩
    · have a := (h9.block g hg).2
      have b := ((h10 v).block g hp).2
      rw [a] at b; cases b
  · rw [getM_put]
    by_cases hu : u = v
    · subst hu
      simp only [if_true]
      refine rowS (hr.mono fun g hg => ?_)
      rcases hg with hg | hg
      · have := (h10 u).block g hg
        exact ⟨this.1, by rw [tint_old ((h10 u).ltB hg)]; exact this.2⟩
      · exact ⟨Nat.le_trans h1.size hg, tint_new hg⟩
    · rw [if_neg hu, if_neg hu]
      refine rowS ((((h10 u).old).mono (fun g hg => ?_)).kp' hk fun g hg hm hp => ?_)
      · exact ⟨hg.1.1, by rw [tint_old hg.2]; exact hg.1.2⟩
      · have a := ((h10 u).block g hg).2
        have b := ((h10 v).block g hp).2
        rw [a] at b; cases b; exact hu rfl
theorem BodyIn.keepB (h : BodyIn w0 w gb gm nv col S pl sp cn pv cv m) {T e : TypeId} {g : Nat} {cs : List Value} (hk : Kp (fun k => k = gb ∨ ∃ cs, Blk w k cs T) w w') (hb : Blk w g cs e) (h1 : e ≠ 121) (h2 : e ≠ T) : Blk w' g cs e :=
  hb.kp hk fun x => by
    rcases x with x | ⟨cs', hb'⟩
    · subst x; exact h1 (blk_ne hb h.blk)
    · exact h2 (blk_ne hb hb')
theorem BodyIn.keepM (h : BodyIn w0 w gb gm nv col S pl sp cn pv cv m) {T e : TypeId} {g : Nat} {cs : List Value} (hk : Kp (fun k => k = gm ∨ ∃ cs, Blk w k cs T) w w') (hb : Blk w g cs e) (h2 : e ≠ T) : Blk w' g cs e :=
  hb.kp hk fun x => by
    rcases x with x | ⟨cs', hb'⟩
    · subst x; exact blk_map hb h.map
    · exact h2 (blk_ne hb hb')
theorem BodyIn.zero (h1 : Ext w0 w) (h2 : w0.heap.size ≤ gb) (h3 : w0.heap.size ≤ gm) (hB : Blk w gb [.slice none 0 0, nv, .map (some gm), .slice none 0 0] 121) (hM : MapIs w gm []) : BodyIn w0 w gb gm nv (fun _ => none) S [] (fun _ => []) [] (.slice none 0 0) (.slice none 0 0) [] :=
  ⟨h1, h2, h3, hB, hM, ⟨[], rfl, Row.nil _ _ _ _, fun x hx => by simp at hx⟩, Row.nil _ _ _ _, fun v => Row.nil _ _ _ _⟩
end
end Go.Proofs.YtomeebimmmfmbaaGreat

/- The law of costs: a rule in memory of its own, with marks behind its lists: what it is; ownTerms, lent. -/
namespace Go.Proofs.YtomeebimmmfmbaaGreat
open Go.RowKit
set_option linter.unusedVariables false
def termC (t : TermZ) : List Value := [.int .i64 t.1, .string t.2.1]
theorem termC_len (t : TermZ) : (termC t).length = 2 := rfl
def tcells (ts : List TermZ) : List Value := ts.flatMap termC
theorem tcells_len (ts : List TermZ) : (tcells ts).length = ts.length * 2 := flat_len termC 2 termC_len ts
abbrev markT : TermZ := (-7, ⟨#[]⟩, ())
theorem elem_term : ElemT Tryz.prog 23 94 2 24 (.agg #[.int .i64 0, .string ⟨#[]⟩]) := ⟨by kernel_rfl, by kernel_rfl, rfl, by decide⟩
theorem elem_lit : ElemT Tryz.prog 26 97 8 104 (.agg #[.int .i64 0, .string ⟨#[]⟩, .slice none 0 0, .int .i64 0, .int .i64 0, .string ⟨#[]⟩, .int .i64 0, .string ⟨#[]⟩]) := ⟨by kernel_rfl, by kernel_rfl, rfl, by decide⟩
theorem elem_int : ElemT Tryz.prog 29 3 1 8 (.int .i64 0) := ⟨by kernel_rfl, by kernel_rfl, rfl, by decide⟩
theorem elems_cells {α : Type} {s : Shp Tryz.prog α} {f : α → List Value} {w : World} {G : Nat → Prop} {ao : Option Addr} {xs : List α} (hn : 0 < s.n) (hf : ∀ x, (f x).length = s.n) (hat : ∀ es x, s.At w G es x → es = f x) (h : ElemsAt s w G ao xs) : CellsAt w ao (xs.flatMap f) := fun i u hu => by
  have hq := Nat.div_add_mod i s.n
  have hm := Nat.mod_lt i hn
  have hl := (List.getElem?_eq_some_iff.1 hu).1
  rw [flat_len f s.n hf] at hl
  have hi : i / s.n < xs.length := Nat.div_lt_of_lt_mul (by rw [Nat.mul_comm]; exact hl)
  obtain ⟨b, off, es, e, _, _, ha, hc⟩ := h (i / s.n) _ (List.getElem?_eq_getElem hi)
  have hg := flat_get f s.n hf xs (i / s.n) _ (i % s.n) (List.getElem?_eq_getElem hi) hm
  have e1 : i / s.n * s.n + i % s.n = i := by rw [Nat.mul_comm]; exact hq
  rw [e1, hu] at hg
  have := hc (i % s.n) u (by rw [hat es _ ha]; exact hg.symm)
  rw [e1] at this
  exact ⟨b, off, e, this⟩
theorem terms_cells {w : World} {G : Nat → Prop} {ao : Option Addr} {ts : List TermZ} (h : TermsAt w G ao ts) : CellsAt w ao (tcells ts) :=
  elems_cells (s := shTerm) (f := termC) (by decide) (fun x => rfl) (fun es x ha => term_cells ha) h
theorem elems_of {α : Type} {s : Shp Tryz.prog α} {f : α → List Value} {w : World} {G : Nat → Prop} {g : Nat} {xs : List α} {rest : List Value} {e : TypeId} (hf : ∀ x, (f x).length = s.n) (hat : ∀ (i : Nat) x, xs[i]? = some x → s.At w G (f x) x) (hG : G g) (hB : Blk w g (xs.flatMap f ++ rest) e) : ElemsAt s w G (some ⟨g, 0, none⟩) xs := fun i x hi => by
  refine ⟨g, 0, f x, rfl, hG, hB.lt, hat i x hi, fun c u hu => ?_⟩
  have hc : c < s.n := by rw [← hf x]; exact (List.getElem?_eq_some_iff.1 hu).1
  have hg := flat_get f s.n hf xs i x c hi hc
  rw [hB.cell', Nat.zero_add, List.getElem?_append_left (by
    have := (List.getElem?_eq_some_iff.1 (hg.trans hu)).1
    exact this), hg, hu]
theorem term_mk {w : World} {G : Nat → Prop} {t : TermZ} (h : TermFit t) : shTerm.At w G (termC t) t := ⟨[.int .i64 t.1], [.string t.2.1], rfl, ⟨rfl, h.1⟩, [.string t.2.1], [], rfl, ⟨rfl, h.2⟩, rfl⟩
theorem terms_fit {w : World} {G : Nat → Prop} {ao : Option Addr} {ts : List TermZ} (h : TermsAt w G ao ts) : ∀ t ∈ ts, TermFit t := fun t ht => by
  obtain ⟨i, hi⟩ := List.mem_iff_getElem?.1 ht
  obtain ⟨b, off, es, e, _, _, ha, _⟩ := h i t hi
  exact term_fit ha
def TermsM (w0 w : World) (a : Option Addr) (n cap : Nat) (ts : List TermZ) : Prop := ∃ g rest, a = some ⟨g, 0, none⟩ ∧ n = ts.length ∧ n + 1 ≤ cap ∧ cap ≤ maxLen ∧ w0.heap.size ≤ g ∧ Blk w g (tcells (ts ++ [markT]) ++ rest) 94
theorem tcells_snoc (ts : List TermZ) (t : TermZ) : tcells (ts ++ [t]) = tcells ts ++ termC t := by unfold tcells; rw [List.flatMap_append]; simp
theorem TermsM.at {w0 w : World} {a : Option Addr} {n cap : Nat} {ts : List TermZ} (h : TermsM w0 w a n cap ts) (hf : ∀ t ∈ ts, TermFit t) : TermsAt w (New w0) a ts := by
  obtain ⟨g, rest, rfl, _, _, _, hg, hB⟩ := h
  rw [tcells_snoc, List.append_assoc] at hB
  exact elems_of (s := shTerm) (f := termC) (fun x => rfl) (fun i x hi => term_mk (hf x (List.mem_of_getElem? hi))) hg hB
theorem TermsM.kp {w0 w w' : World} {F : Nat → Prop} {a : Option Addr} {n cap : Nat} {ts : List TermZ} (h : TermsM w0 w a n cap ts) (hk : Kp F w w') (hF : ∀ k cs, Blk w k cs 94 → ¬ F k) : TermsM w0 w' a n cap ts := by
  obtain ⟨g, rest, e, hn, h1, h2, hg, hB⟩ := h
  exact ⟨g, rest, e, hn, h1, h2, hg, hB.kp hk (hF g _ hB)⟩
theorem TermsM.ext {w0 w w' : World} {a : Option Addr} {n cap : Nat} {ts : List TermZ} (h : TermsM w0 w a n cap ts) (hk : Ext w w') : TermsM w0 w' a n cap ts := h.kp hk fun _ _ _ => id
theorem TermsM.old {w0 w1 w : World} {a : Option Addr} {n cap : Nat} {ts : List TermZ} (h : TermsM w1 w a n cap ts) (hs : w0.heap.size ≤ w1.heap.size) : TermsM w0 w a n cap ts := by
  obtain ⟨g, rest, e, hn, h1, h2, hg, hB⟩ := h
  exact ⟨g, rest, e, hn, h1, h2, Nat.le_trans hs hg, hB⟩
theorem tcells_one (ts : List TermZ) : ∀ u ∈ tcells ts, u.oneCell' = true := fun u hu => by
  obtain ⟨t, _, h⟩ := List.mem_flatMap.1 hu
  simp [termC] at h
  rcases h with rfl | rfl <;> rfl
set_option maxRecDepth 100000 in
set_option maxHeartbeats 1000000 in
theorem ownTerms_any (ts : List TermZ) (ao : Option Addr) (n cap : Nat) (w : World) (G : Nat → Prop) (hn : n = ts.length) (h : TermsAt w G ao ts) (hl : n ≤ 1048576) :
    Calls Tryz.prog 70 #[.slice ao n cap] w (RetN w fun w' v => ∃ a c, v = .slice a n c ∧ TermsM w w' a n c ts) := by
  have HN := Lib.hid hn
  have HC := Lib.hid (terms_cells h)
  have HL := Lib.hid (tcells_len ts)
  clear hn h
  go_enter Tryz.func70, Tryz.ntmps70
  go_wp2_with (first | (at_builtin; refine Halted.out ?_))
  refine Halted.mk (wp_appN (m := n) (n := 0) elem_term rfl _ _ rfl (Kp.refl (F := fun _ => False) w) rfl (Row.nil _ _ _ _) rfl HC.out (by rw [HL.out, HN.out]) (tcells_one ts) (by omega) (by unfold maxLen; omega) ?_)
  intro v1 w1 hr1 hk1 _ _
  rw [Nat.zero_add, List.nil_append] at hr1
  have HR1 := Lib.hid hr1
  have X1 := Lib.hid hk1
  obtain ⟨a1, c1, e1, _, _⟩ := hr1.shape
  subst e1
  clear hr1 hk1
  go_wp2_with (first | (at_builtin; refine Halted.out ?_))
  refine Halted.mk (wp_appN (m := 1) (n := n) elem_term rfl _ _ rfl (X1.out.alloc _) rfl (HR1.out.alloc _) rfl (CellsAt.two w1 (.int .i64 (-7)) (.string ⟨#[]⟩) 94) (by rfl) (by simp [Value.oneCell']) (by omega) (by unfold maxLen; omega) ?_)
  intro v2 w2 hr2 hk2 _ _
  have HR2 := Lib.hid hr2
  have X2 := Lib.hid hk2
  obtain ⟨h1, ⟨rfl, h0⟩ | ⟨g, cap2, rest, rfl, hM, hB, hlen, hnc, hcm⟩⟩ := hr2
  · omega
  · have hcm2 : cap2 ≤ 9223372036854775807 := hcm
    have i1 : (n : Int) ≤ (cap2 : Int) := by omega
    clear h1 hk2
    go_wp2
    go_ret
    refine RetN.mk X2.out ⟨_, _, rfl, g, rest, rfl, HN.out, hnc, hcm, hM, ?_⟩
    rw [tcells_snoc]; exact hB
theorem ints_one (xs : List Int) : ∀ u ∈ ints xs, u.oneCell' = true := fun u hu => by
  obtain ⟨x, _, rfl⟩ := List.mem_map.1 hu; rfl
end Go.Proofs.YtomeebimmmfmbaaGreat
