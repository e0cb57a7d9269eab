/- Texts joined for a claim (JoinC, Ref14, Ref14b, Ref14c, Stat, Right, RefRight, CostPlain3, RefStat, RefStands, RefShared, CostPlain4, RefGuess, RefSetN, RefCost). -/
import Derived.Test.YtomeebimmmfmbaaGreatGa1
import Derived.Laws.FloatArith
import Derived.StillTailTactics
import Derived.Deep.OwnRows
import Derived.Laws.OwnMore
import Derived.Deep.RegionWith
import Derived.Deep.RegionHeld3
/- join: Check, Vars. -/
namespace Go.Proofs.YtomeebimmmfmbaaGreat
open Go.RowKit
set_option linter.unusedVariables false

set_option maxRecDepth 100000 in
theorem safe_any (N : List ByteArray) (ao : Option Addr) (m cap gb : Nat) (k : Int) (s : ByteArray) (blank : Bool) (w : World) (hm : m = N.length) (hc : w.cell? ⟨gb, 0, none⟩ = some (.slice ao m cap)) (h : CellsAt w ao (strs N)) (hl : m ≤ 4611686018427387904) :
    Calls Tryz.prog 117 #[termV k s, .bool blank, .pointer (some ⟨gb, 0, none⟩)] w (RetN w fun w' v => v = .bool (safeT N blank (k, s, ()))) := by
  by_cases h2 : k = 2
  · subst h2
    go_enter Tryz.func117, Tryz.ntmps117
    go_wp2
    go_ret
    exact RetN.mk ((Kp.refl w).alloc _) (by unfold safeT; simp)
  · have b2 : (k == 2) = false := by simp [h2]
    by_cases h34 : k = 3 ∨ k = 4
    · rcases h34 with rfl | rfl
      all_goals
        clear h2 b2
        go_enter Tryz.func117, Tryz.ntmps117
        go_wp2
        go_ret
        exact RetN.mk ((Kp.refl w).alloc _) (by unfold safeT; simp)
    · have b3 : (k == 3) = false := by simp; exact fun e => h34 (.inl e)
      have b4 : (k == 4) = false := by simp; exact fun e => h34 (.inr e)
      have HS := Lib.hid (fun (W : World) (hW : Ext w W) => containsS_any N s ao m cap W hm (h.ext hW) hl)
      have e0 : (w.alloc (.cells #[.int .i64 k, .string s] 94)).cell? ⟨gb, 0, none⟩ = some (.slice ao m cap) := ((Kp.refl (F := fun _ => False) w).alloc _).cell hc id
      have HH := Lib.hid (And.intro h2 h34); clear h2 h34 h hm hc
      go_enter Tryz.func117, Tryz.ntmps117
      go_wp2_with fail
      refine (HS.out _ ((Kp.refl _).alloc _)).mono ?_
      rintro e w1 ⟨v, rfl, hk1, rfl⟩
      go_wp2
      go_ret
      refine RetN.mk (((Kp.refl w).alloc _).trans hk1) ?_
      obtain ⟨h2, h34⟩ := HH.out
      show Value.bool (hasT N s) = _
      refine congrArg Value.bool ?_
      unfold safeT
      rw [if_neg h2]
      cases hh : hasT N s
      · symm; apply decide_eq_false; rintro (x | x | x)
        · exact h34 (.inl x)
        · exact h34 (.inr x)
        · cases x
      · symm; exact decide_eq_true (.inr (.inr rfl))

def AllTo (w0 : World) {α : Type} (xs : List α) (q : α → Bool) (n : Nat) (iv : Value) (w : World) : Prop := ∃ i : Nat, i ≤ n ∧ iv = .int .i64 i ∧ Hid ((xs.take i).all q = true) ∧ Hid (Ext w0 w)
theorem all_take {α : Type} {q : α → Bool} {xs : List α} {i : Nat} {x : α} (h : xs[i]? = some x) : (xs.take (i + 1)).all q = ((xs.take i).all q && q x) := by
  rw [List.take_add_one, h, List.all_append]; simp
theorem all_no {α : Type} {q : α → Bool} {xs : List α} {i : Nat} {x : α} (h : xs[i]? = some x) (hq : q x = false) : xs.all q = false := by
  rw [List.all_eq_false]; exact ⟨x, List.mem_of_getElem? h, by rw [hq]; decide⟩

set_option maxRecDepth 100000 in
set_option maxHeartbeats 8000000 in
theorem check_any (p : ByteArray) (hs : List TermZ) (ls : List LitZ) (ha : Option Addr) (hn hcap : Nat) (ba : Option Addr) (n bcap : Nat) (w : World) (G : Nat → Prop) (hhn : hn = hs.length) (hh : TermsAt w G ha hs) (hhl : hn ≤ 1048576) (hbn : n = ls.length) (h : LitsAt w G ba ls) (hf : Fit ls) :
    Calls Tryz.prog 76 #[ruleV p ha hn hcap ba n bcap] w (RetN w fun w' v => v = .int .i64 (checkR ((p, hs, ()), ls, ()))) := by
  have HN := Lib.hid hbn; have HE := Lib.hid h; have HF := Lib.hid hf; have hl : n ≤ 1048576 := by have := hf.len; omega
  have HHN := Lib.hid hhn; have HHE := Lib.hid hh
  have HHead := Lib.hid (fun (W : World) (hW : Ext w W) => head_any hs ha hn hcap W G hhn (hh.ext hW) hhl)
  obtain ⟨m, em⟩ : ∃ m, m = (namesB ls).length := ⟨_, rfl⟩
  have HVars0 := fun (W : World) (hW : Ext w W) => vars_any p ha hn hcap ls ba n bcap W G hbn (h.ext hW) hf
  rw [← em] at HVars0
  have HVars := Lib.hid HVars0
  have EM := Lib.hid em
  clear HVars0 em
  have HLit := Lib.hid (fun (W : World) (hW : Ext w W) (l : LitZ) (hl : l ∈ ls) (a : Option Addr) (cap : Nat) (hin : LitIn w G l a cap) => literal_any l.1 (predOf l) (termsOf l) a (termsOf l).length cap (opOf l) (leftOf l).1 (leftOf l).2.1 (rightOf l).1 (rightOf l).2.1 W G rfl (hin.terms.ext hW) (hf.terms l hl) hin.left.1 hin.left.2 hin.right.1 hin.right.2)
  clear hbn h hf hhn hh
  go_enter Tryz.func76, Tryz.ntmps76
  go_wp2_with fail
  refine (HHead.out _ ((Kp.refl _).alloc _)).mono ?_
  rintro e w1 ⟨v, rfl, hk1, rfl⟩
  have bb := Blk.new w [.string p, .slice ha hn hcap, .slice ba n bcap] 28
  have B1 := Lib.hid (bb.ext hk1)
  have b1 : w1.cell? ⟨w.heap.size, 2, none⟩ = some (.slice ba n bcap) := by rw [B1.out.cell']; rfl
  have X1 := Lib.hid (((Kp.refl _).alloc _).trans hk1)
  clear hk1 bb
  cases hhd : headOk hs
  · go_wp2
    go_ret
    exact RetN.mk X1.out (by unfold checkR parted; rw [if_neg (by rw [hhd]; simp)]; rfl)
  · go_wp2
    clear b1
    go_loopw [21] (fun iv wr => AllTo w1 ls litOk n iv wr) (fun iv _ => n - (intOf iv).toNat)
    case atStart => exact ⟨0, Nat.zero_le _, rfl, rfl, Kp.refl _⟩
    case round =>
      obtain ⟨i, hi, rfl, hall, hex⟩ := hrel
      have XR := Lib.hid (X1.out.trans hex.out)
      by_cases hlt : i < n
      · have hlt' : i < ls.length := by rw [← HN.out]; exact hlt
        obtain ⟨l, hli⟩ : ∃ l, ls[i]? = some l := ⟨_, List.getElem?_eq_getElem hlt'⟩
        obtain ⟨b, off, a, cap, eao, hG, hb, hL, c0, c1, c2, c3, c4, c5, c6, c7⟩ := lit_at HE.out hli
        subst eao
        replace c0 := XR.out.cell c0 id
        replace c1 := XR.out.cell c1 id
        replace c2 := XR.out.cell c2 id
        replace c3 := XR.out.cell c3 id
        replace c4 := XR.out.cell c4 id
        replace c5 := XR.out.cell c5 id
        replace c6 := XR.out.cell c6 id
        replace c7 := XR.out.cell c7 id
        have HL := Lib.hid hli
        have HC := Lib.hid (fun (W : World) (hW : Ext w W) => HLit.out W hW l (List.mem_of_getElem? hli) a cap hL)
        clear hli hlt' hL hG hb
        go_wp2_with fail
        refine (HC.out _ (XR.out.alloc _)).mono ?_
        rintro e w2 ⟨v, rfl, hk2, rfl⟩
        have X2 := Lib.hid ((hex.out.alloc _).trans hk2)
        clear hk2 c0 c1 c2 c3 c4 c5 c6 c7
        cases hq : litOk l
        · go_wp2
          go_ret
          refine RetN.mk (X1.out.trans X2.out) ?_
          unfold checkR parted
          rw [if_neg (by rw [all_no HL.out hq]; simp)]; rfl
        · go_wp2
          go_roundw
          case rel => exact ⟨i + 1, by omega, by first | rfl | (congr 1; done) | (congr 1; omega), by rw [all_take HL.out, hall.out, hq]; rfl, X2⟩
          case measure => simp [intOf]; omega
      · have e : ls.take i = ls := List.take_of_length_le (by have := HN.out; omega)
        have HA := Lib.hid hall.out
        rw [e] at HA
        have c0 : wr.cell? ⟨w.heap.size, 0, none⟩ = some (.string p) := by rw [(B1.out.ext hex.out).cell']; rfl
        have c1 : wr.cell? ⟨w.heap.size, 1, none⟩ = some (.slice ha hn hcap) := by rw [(B1.out.ext hex.out).cell']; rfl
        have c2 : wr.cell? ⟨w.heap.size, 2, none⟩ = some (.slice ba n bcap) := by rw [(B1.out.ext hex.out).cell']; rfl
        clear e hall
        go_wp2_with fail
        refine (HVars.out _ XR.out).mono ?_
        rintro e w2 ⟨v, rfl, hk2, ao, cap, rfl, hle, hcells⟩
        have hm : m ≤ 4611686018427387904 := by
          have h1 := namesB_len HF.out.terms
          have h2 := HF.out.len
          have h3 := Nat.mul_le_mul_right 1048576 h2
          have h4 := EM.out
          omega
        clear c0 c1 c2
        have B2 := Lib.hid (B1.out.ext (hex.out.trans hk2))
        have hx2 : Ext w (w2.alloc (.cells #[.slice ao m cap] 76)) := (XR.out.trans hk2).alloc _
        obtain ⟨wb, eb⟩ : ∃ wb, w2.alloc (.cells #[.slice ao m cap] 76) = wb := ⟨_, rfl⟩
        have bn := Blk.new w2 [.slice ao m cap] 76
        have HSafe := Lib.hid (fun (W : World) (hW : Ext wb W) (k : Int) (s : ByteArray) (blank : Bool) => safe_any (namesB ls) ao m cap w2.heap.size k s blank W EM.out (by
          have := bn.cell 0 (by simp)
          rw [← eb] at hW
          exact hW.cell this id) ((hcells.alloc _).ext (eb ▸ hW)) hm)
        have HX2 := Lib.hid hx2
        rw [eb] at HX2
        have C1 := Lib.hid (B2.out.alloc (.cells #[.slice ao m cap] 76))
        rw [eb] at C1
        have c1 : (w2.alloc (.cells #[.slice ao m cap] 76)).cell? ⟨w.heap.size, 1, none⟩ = some (.slice ha hn hcap) := by rw [eb, C1.out.cell']; rfl
        clear hk2 hle hcells hx2 bn
        have EB := Lib.hid eb; clear eb
        go_wp2
        rw [EB.out]
        clear c1
        go_loopw [36] (fun iv wr => AllTo wb hs (safeT (namesB ls) false) hn iv wr) (fun iv _ => hn - (intOf iv).toNat)
        case atStart => exact ⟨0, Nat.zero_le _, rfl, rfl, Kp.refl _⟩
        case round =>
          obtain ⟨j, hj, rfl, hall3, hex3⟩ := hrel
          have X3 := Lib.hid (HX2.out.trans hex3.out)
          by_cases hlt3 : j < hn
          · have hlt4 : j < hs.length := by rw [← HHN.out]; exact hlt3
            obtain ⟨t, ht⟩ : ∃ t, hs[j]? = some t := ⟨_, List.getElem?_eq_getElem hlt4⟩
            obtain ⟨b2, off2, eao2, f0, f1, _⟩ := term_at (HHE.out.ext X3.out) ht
            subst eao2
            obtain ⟨kt, st, ⟨⟩⟩ := t
            simp only at f0 f1
            have HT := Lib.hid ht
            clear ht hlt4
            go_wp2_with fail
            refine (HSafe.out _ (hex3.out.alloc _) kt st false).mono ?_
            rintro e w3 ⟨v, rfl, hk3, rfl⟩
            have X4 := Lib.hid ((hex3.out.alloc _).trans hk3)
            clear hk3 f0 f1
            cases hq : safeT (namesB ls) false (kt, st, ())
            · go_wp2
              go_ret
              refine RetN.mk (HX2.out.trans X4.out) ?_
              unfold checkR safeR parted
              rw [if_pos (by simp only [Bool.and_eq_true]; exact ⟨hhd, HA.out⟩), if_neg (by rw [all_no HT.out hq]; simp)]; rfl
            · go_wp2
              go_roundw
              case rel => exact ⟨j + 1, by omega, by first | rfl | (congr 1; done) | (congr 1; omega), by rw [all_take HT.out, hall3.out, hq]; rfl, X4⟩
              case measure => simp [intOf]; omega
          · have e : hs.take j = hs := List.take_of_length_le (by have := HHN.out; omega)
            have HB := Lib.hid hall3.out
            rw [e] at HB
            have c2 : wr.cell? ⟨w.heap.size, 2, none⟩ = some (.slice ba n bcap) := by rw [(C1.out.ext hex3.out).cell']; rfl
            clear e hall3
            have hltn : ¬ (j : Int) < (hn : Int) := by omega
            go_wp2
            clear c2
            go_loopw [48] (fun iv wr => AllTo wb ls (safeL (namesB ls)) n iv wr) (fun iv _ => n - (intOf iv).toNat)
            case atStart => exact ⟨0, Nat.zero_le _, rfl, rfl, hex3⟩
            case round =>
              obtain ⟨q, hq, rfl, hall4, hex4⟩ := hrel
              have X5 := Lib.hid (HX2.out.trans hex4.out)
              by_cases hlt5 : q < n
              · have hlt6 : q < ls.length := by rw [← HN.out]; exact hlt5
                obtain ⟨l, hli⟩ : ∃ l, ls[q]? = some l := ⟨_, List.getElem?_eq_getElem hlt6⟩
                obtain ⟨b, off, a, cap2, eao, hG, hb, hL, c0, c1, c2, c3, c4, c5, c6, c7⟩ := lit_at HE.out hli
                subst eao
                replace c0 := X5.out.cell c0 id
                replace c1 := X5.out.cell c1 id
                replace c2 := X5.out.cell c2 id
                replace c3 := X5.out.cell c3 id
                replace c4 := X5.out.cell c4 id
                replace c5 := X5.out.cell c5 id
                replace c6 := X5.out.cell c6 id
                replace c7 := X5.out.cell c7 id
                have HL := Lib.hid (And.intro hli hL)
                have hq2 : (q : Int) < (n : Int) := by omega
                obtain ⟨mm, emm⟩ : ∃ mm, mm = (termsOf l).length := ⟨_, rfl⟩
                rw [← emm] at c2
                have HM := Lib.hid emm
                have hmm : mm ≤ 1048576 := by rw [emm]; exact HF.out.terms l (List.mem_of_getElem? hli)
                clear hli hlt6 hL hG hb emm
                have HSafe2 := HSafe
                obtain ⟨k, ek⟩ : ∃ k, l.1 = k := ⟨_, rfl⟩
                obtain ⟨lk, elk⟩ : ∃ lk, (leftOf l).1 = lk := ⟨_, rfl⟩
                obtain ⟨lt, elt⟩ : ∃ lt, (leftOf l).2.1 = lt := ⟨_, rfl⟩
                obtain ⟨rk, erk⟩ : ∃ rk, (rightOf l).1 = rk := ⟨_, rfl⟩
                obtain ⟨rt, ert⟩ : ∃ rt, (rightOf l).2.1 = rt := ⟨_, rfl⟩
                rw [ek] at c0
                rw [elk] at c4
                rw [elt] at c5
                rw [erk] at c6
                rw [ert] at c7
                have eleft : leftOf l = (lk, lt, ()) := by rw [← elk, ← elt]
                have eright : rightOf l = (rk, rt, ()) := by rw [← erk, ← ert]
                generalize predOf l = s1 at c1
                generalize opOf l = s3 at c3
                have HK := Lib.hid (And.intro ek (And.intro eleft eright)); clear ek elk elt erk ert eleft eright
                obtain ⟨wx, ewx⟩ : ∃ wx, wr.alloc (.cells #[.int .i64 k, .string s1, .slice a mm cap2, .int .i64 s3, .int .i64 lk, .string lt, .int .i64 rk, .string rt] 97) = wx := ⟨_, rfl⟩
                have hB := Blk.new wr [.int .i64 k, .string s1, .slice a mm cap2, .int .i64 s3, .int .i64 lk, .string lt, .int .i64 rk, .string rt] 97
                have hWX : Ext wb wx := by rw [← ewx]; exact hex4.out.alloc _
                have hXX : Ext w wx := HX2.out.trans hWX
                obtain ⟨g, eg⟩ : ∃ g, g = wr.heap.size := ⟨_, rfl⟩
                have HGB := Lib.hid hB
                rw [← eg] at HGB
                have ewx2 : wr.alloc (.cells [Value.int .i64 k, .string s1, .slice a mm cap2, .int .i64 s3, .int .i64 lk, .string lt, .int .i64 rk, .string rt].toArray 97) = wx := ewx
                rw [ewx2] at HGB
                have HWX := Lib.hid hWX
                have HXX := Lib.hid hXX
                have EG := Lib.hid (And.intro eg ewx)
                clear hB hWX hXX eg ewx ewx2
                by_cases h3 : k = 3
                · have b3 : (k == 3) = true := by simp [h3]
                  have n2 : ¬ k = 2 := by omega
                  have HH3 := Lib.hid (And.intro h3 n2); clear h3 n2
                  go_wp2_with fail
                  rw [EG.out.2, ← EG.out.1]
                  refine (HSafe.out _ HWX.out lk lt false).mono ?_
                  rintro e w5 ⟨v, rfl, hk5, rfl⟩
                  have X6 := Lib.hid hk5
                  have d6 : w5.cell? ⟨g, 6, none⟩ = some (.int .i64 rk) := by rw [(HGB.out.ext hk5).cell']; rfl
                  have d7 : w5.cell? ⟨g, 7, none⟩ = some (.string rt) := by rw [(HGB.out.ext hk5).cell']; rfl
                  clear hk5 c0 c1 c2 c3 c4 c5 c6 c7
                  cases hsl : safeT (namesB ls) false (lk, lt, ())
                  · go_wp2
                    go_ret
                    refine RetN.mk (HXX.out.trans X6.out) ?_
                    have hno : safeL (namesB ls) l = false := by unfold safeL; rw [if_pos (HK.out.1.trans HH3.out.1), HK.out.2.1, hsl]; rfl
                    unfold checkR safeR parted
                    rw [if_pos (by simp only [Bool.and_eq_true]; exact ⟨hhd, HA.out⟩), if_neg (by rw [all_no HL.out.1 hno]; simp)]; rfl
                  · go_wp2_with fail
                    refine (HSafe.out _ (HWX.out.trans X6.out) rk rt false).mono ?_
                    rintro e w7 ⟨v, rfl, hk7, rfl⟩
                    have X7 := Lib.hid (X6.out.trans hk7)
                    clear hk7 d6 d7
                    cases hsr : safeT (namesB ls) false (rk, rt, ())
                    · go_wp2
                      go_ret
                      refine RetN.mk (HXX.out.trans X7.out) ?_
                      have hno : safeL (namesB ls) l = false := by unfold safeL; rw [if_pos (HK.out.1.trans HH3.out.1), HK.out.2.1, HK.out.2.2, hsr, Bool.and_false]
                      unfold checkR safeR parted
                      rw [if_pos (by simp only [Bool.and_eq_true]; exact ⟨hhd, HA.out⟩), if_neg (by rw [all_no HL.out.1 hno]; simp)]; rfl
                    · have HSL := Lib.hid (show safeL (namesB ls) l = (termsOf l).all (fun t => if k = 2 then safeT (namesB ls) true t else true) by
                        unfold safeL; rw [if_pos (HK.out.1.trans HH3.out.1), HK.out.2.1, HK.out.2.2, hsl, hsr]
                        exact (List.all_eq_true.2 (fun t _ => if_neg HH3.out.2)).symm)
                      have d0 : w7.cell? ⟨g, 2, none⟩ = some (.slice a mm cap2) := by rw [(HGB.out.ext X7.out).cell']; rfl
                      have HX7 := X7
                      clear X7
                      go_wp2
                      clear d0
                      go_loopw [73] (fun iv wr => AllTo wx (termsOf l) (fun t => if k = 2 then safeT (namesB ls) true t else true) mm iv wr) (fun iv _ => mm - (intOf iv).toNat)
                      case atStart => exact ⟨0, Nat.zero_le _, rfl, rfl, HX7.out⟩
                      case round =>
                        obtain ⟨z, hz, rfl, hall8, hex8⟩ := hrel
                        have X8 := Lib.hid (HXX.out.trans hex8.out)
                        by_cases hlt7 : z < mm
                        · have hlt8 : z < (termsOf l).length := by rw [← HM.out]; exact hlt7
                          obtain ⟨t, ht⟩ : ∃ t, (termsOf l)[z]? = some t := ⟨_, List.getElem?_eq_getElem hlt8⟩
                          obtain ⟨b9, off9, eao9, f0, f1, _⟩ := term_at (HL.out.2.terms.ext X8.out) ht
                          subst eao9
                          obtain ⟨kt, st, ⟨⟩⟩ := t
                          simp only at f0 f1
                          have HT := Lib.hid ht
                          have e0 : (wr.alloc (.cells #[.int .i64 kt, .string st] 94)).cell? ⟨g, 0, none⟩ = some (.int .i64 k) := by rw [((HGB.out.ext hex8.out).alloc _).cell']; rfl
                          clear ht hlt8
                          by_cases h2 : k = 2
                          · have b2 : (k == 2) = true := by simp [h2]
                            have HH2 := Lib.hid h2; clear h2
                            go_wp2_with fail
                            refine (HSafe.out _ ((HWX.out.trans hex8.out).alloc _) kt st true).mono ?_
                            rintro e w9 ⟨v, rfl, hk9, rfl⟩
                            have X9 := Lib.hid ((hex8.out.alloc _).trans hk9)
                            clear hk9 f0 f1 e0
                            cases hqq : safeT (namesB ls) true (kt, st, ())
                            · go_wp2
                              go_ret
                              refine RetN.mk (HXX.out.trans X9.out) ?_
                              have hno : safeL (namesB ls) l = false := by rw [HSL.out]; exact all_no HT.out (by show (if k = 2 then _ else _) = false; rw [if_pos HH2.out]; exact hqq)
                              unfold checkR safeR parted
                              rw [if_pos (by simp only [Bool.and_eq_true]; exact ⟨hhd, HA.out⟩), if_neg (by rw [all_no HL.out.1 hno]; simp)]; rfl
                            · go_wp2
                              go_roundw
                              case rel => exact ⟨z + 1, by omega, by first | rfl | (congr 1; done) | (congr 1; omega), by rw [all_take HT.out, hall8.out]; show (if k = 2 then _ else _) = true; rw [if_pos HH2.out]; exact hqq, X9⟩
                              case measure => simp [intOf]; omega
                          · have b2 : (k == 2) = false := by simp [h2]
                            have HH2 := Lib.hid h2; clear h2
                            go_wp2
                            go_roundw
                            case rel => exact ⟨z + 1, by omega, by first | rfl | (congr 1; done) | (congr 1; omega), by rw [all_take HT.out, hall8.out]; show (if k = 2 then _ else _) = true; rw [if_neg HH2.out], hex8.out.alloc _⟩
                            case measure => simp [intOf]; omega
                        · have e : (termsOf l).take z = termsOf l := List.take_of_length_le (by have := HM.out; omega)
                          have H9 := Lib.hid hall8.out
                          rw [e] at H9
                          clear e hall8
                          have hzm : ¬ (z : Int) < (mm : Int) := by omega
                          go_wp2
                          go_roundw
                          case rel => exact ⟨q + 1, by omega, by first | rfl | (congr 1; done) | (congr 1; omega), by rw [all_take HL.out.1, hall4.out, HSL.out, H9.out]; rfl, HWX.out.trans hex8.out⟩
                          case measure => simp [intOf]; omega
                · have b3 : (k == 3) = false := by simp [h3]
                  have HSL := Lib.hid (show safeL (namesB ls) l = (termsOf l).all (fun t => if k = 2 then safeT (namesB ls) true t else true) by
                    unfold safeL; rw [if_neg (fun x => h3 (HK.out.1.symm.trans x)), HK.out.1]
                    by_cases h2 : k = 2
                    · rw [if_pos h2]; congr 1; funext t; rw [if_pos h2]
                    · rw [if_neg h2]; symm; rw [List.all_eq_true]; intro t _; rw [if_neg h2])
                  have HH3 := Lib.hid h3; clear h3
                  have d0 : (wr.alloc (.cells #[.int .i64 k, .string s1, .slice a mm cap2, .int .i64 s3, .int .i64 lk, .string lt, .int .i64 rk, .string rt] 97)).cell? ⟨wr.heap.size, 2, none⟩ = some (.slice a mm cap2) := by rw [EG.out.2, ← EG.out.1, HGB.out.cell']; rfl
                  go_wp2
                  rw [EG.out.2, ← EG.out.1]
                  have HX7 := Lib.hid (Kp.refl (F := fun _ => False) wx)
                  clear c0 c1 c2 c3 c4 c5 c6 c7
                  clear d0
                  go_loopw [73] (fun iv wr => AllTo wx (termsOf l) (fun t => if k = 2 then safeT (namesB ls) true t else true) mm iv wr) (fun iv _ => mm - (intOf iv).toNat)
                  case atStart => exact ⟨0, Nat.zero_le _, rfl, rfl, HX7.out⟩
                  case round =>
                    obtain ⟨z, hz, rfl, hall8, hex8⟩ := hrel
                    have X8 := Lib.hid (HXX.out.trans hex8.out)
                    by_cases hlt7 : z < mm
                    · have hlt8 : z < (termsOf l).length := by rw [← HM.out]; exact hlt7
                      obtain ⟨t, ht⟩ : ∃ t, (termsOf l)[z]? = some t := ⟨_, List.getElem?_eq_getElem hlt8⟩
                      obtain ⟨b9, off9, eao9, f0, f1, _⟩ := term_at (HL.out.2.terms.ext X8.out) ht
                      subst eao9
                      obtain ⟨kt, st, ⟨⟩⟩ := t
                      simp only at f0 f1
                      have HT := Lib.hid ht
                      have e0 : (wr.alloc (.cells #[.int .i64 kt, .string st] 94)).cell? ⟨g, 0, none⟩ = some (.int .i64 k) := by rw [((HGB.out.ext hex8.out).alloc _).cell']; rfl
                      clear ht hlt8
                      by_cases h2 : k = 2
                      · have b2 : (k == 2) = true := by simp [h2]
                        have HH2 := Lib.hid h2; clear h2
                        go_wp2_with fail
                        refine (HSafe.out _ ((HWX.out.trans hex8.out).alloc _) kt st true).mono ?_
                        rintro e w9 ⟨v, rfl, hk9, rfl⟩
                        have X9 := Lib.hid ((hex8.out.alloc _).trans hk9)
                        clear hk9 f0 f1 e0
                        cases hqq : safeT (namesB ls) true (kt, st, ())
                        · go_wp2
                          go_ret
                          refine RetN.mk (HXX.out.trans X9.out) ?_
                          have hno : safeL (namesB ls) l = false := by rw [HSL.out]; exact all_no HT.out (by show (if k = 2 then _ else _) = false; rw [if_pos HH2.out]; exact hqq)
                          unfold checkR safeR parted
                          rw [if_pos (by simp only [Bool.and_eq_true]; exact ⟨hhd, HA.out⟩), if_neg (by rw [all_no HL.out.1 hno]; simp)]; rfl
                        · go_wp2
                          go_roundw
                          case rel => exact ⟨z + 1, by omega, by first | rfl | (congr 1; done) | (congr 1; omega), by rw [all_take HT.out, hall8.out]; show (if k = 2 then _ else _) = true; rw [if_pos HH2.out]; exact hqq, X9⟩
                          case measure => simp [intOf]; omega
                      · have b2 : (k == 2) = false := by simp [h2]
                        have HH2 := Lib.hid h2; clear h2
                        go_wp2
                        go_roundw
                        case rel => exact ⟨z + 1, by omega, by first | rfl | (congr 1; done) | (congr 1; omega), by rw [all_take HT.out, hall8.out]; show (if k = 2 then _ else _) = true; rw [if_neg HH2.out], hex8.out.alloc _⟩
                        case measure => simp [intOf]; omega
                    · have e : (termsOf l).take z = termsOf l := List.take_of_length_le (by have := HM.out; omega)
                      have H9 := Lib.hid hall8.out
                      rw [e] at H9
                      clear e hall8
                      have hzm : ¬ (z : Int) < (mm : Int) := by omega
                      go_wp2
                      go_roundw
                      case rel => exact ⟨q + 1, by omega, by first | rfl | (congr 1; done) | (congr 1; omega), by rw [all_take HL.out.1, hall4.out, HSL.out, H9.out]; rfl, HWX.out.trans hex8.out⟩
                      case measure => simp [intOf]; omega
              · have e : ls.take q = ls := List.take_of_length_le (by have := HN.out; omega)
                have HC := Lib.hid hall4.out
                rw [e] at HC
                clear e hall4
                have hqn : ¬ (q : Int) < (n : Int) := by omega
                go_wp2
                go_ret
                refine RetN.mk X5.out ?_
                unfold checkR safeR parted
                rw [if_pos (by simp only [Bool.and_eq_true]; exact ⟨hhd, HA.out⟩), if_pos (by simp only [Bool.and_eq_true]; exact ⟨HB.out, HC.out⟩)]; rfl
set_option maxRecDepth 100000 in
theorem joinVars_any (p : ByteArray) (hs : List TermZ) (ls : List LitZ) (ha : Option Addr) (hn hcap : Nat) (ba : Option Addr) (n bcap : Nat) (w : World) (G : Nat → Prop) (hhn : hn = hs.length) (hh : TermsAt w G ha hs) (hhl : hn ≤ 1048576) (hbn : n = ls.length) (h : LitsAt w G ba ls) (hf : Fit ls) (hc : checkR ((p, hs, ()), ls, ()) = 0) :
    Calls Tryz.prog 78 #[ruleV p ha hn hcap ba n bcap] w (RetN w fun w' v => ∃ ao cap, v = .slice ao (namesB ls).length cap ∧ (namesB ls).length ≤ cap ∧ CellsAt w' ao (strs (namesB ls))) := by
  have h1 := fun (W : World) (hW : Ext w W) => check_any p hs ls ha hn hcap ba n bcap W G hhn (hh.ext hW) hhl hbn (h.ext hW) hf
  rw [hc] at h1
  have HC := Lib.hid h1
  have HV := Lib.hid (fun (W : World) (hW : Ext w W) => vars_any p ha hn hcap ls ba n bcap W G hbn (h.ext hW) hf)
  clear h1 hhn hh hbn h hf hc
  go_enter Tryz.func78, Tryz.ntmps78
  go_wp2_with fail
  refine (HC.out _ ((Kp.refl _).alloc _)).mono ?_
  rintro e w1 ⟨v, rfl, hk1, rfl⟩
  have bb := (Blk.new w [.string p, .slice ha hn hcap, .slice ba n bcap] 28).ext hk1
  have c0 : w1.cell? ⟨w.heap.size, 0, none⟩ = some (.string p) := by rw [bb.cell']; rfl
  have c1 : w1.cell? ⟨w.heap.size, 1, none⟩ = some (.slice ha hn hcap) := by rw [bb.cell']; rfl
  have c2 : w1.cell? ⟨w.heap.size, 2, none⟩ = some (.slice ba n bcap) := by rw [bb.cell']; rfl
  have X1 := Lib.hid (((Kp.refl _).alloc _).trans hk1)
  clear hk1 bb
  go_wp2_with fail
  refine (HV.out _ X1.out).mono ?_
  rintro e w2 ⟨v, rfl, hk2, ao, cap, rfl, h1, h2⟩
  have X2 := Lib.hid (And.intro (X1.out.trans hk2) (And.intro h1 h2))
  clear hk2 h1 h2 c0 c1 c2
  go_wp2
  go_ret
  exact RetN.mk X2.out.1 ⟨ao, cap, rfl, X2.out.2⟩
end Go.Proofs.YtomeebimmmfmbaaGreat

/- The document's answer for join: has, kinds, names. -/
namespace Go.Proofs.YtomeebimmmfmbaaGreat
open Go.RowKit
set_option linter.unusedVariables false

set_option maxRecDepth 100000 in
set_option maxHeartbeats 1000000 in
theorem has_any (ss : List ByteArray) (s : ByteArray) (ao : Option Addr) (n cap : Nat) (w : World) (hn : n = ss.length) (h : CellsAt w ao (strs ss)) (hl : n ≤ 4611686018427387904) :
    Calls Tryz.prog 140 #[.slice ao n cap, .string s] w (RetN w fun w' v => v = .bool (hasT ss s)) := by
  have HN := Lib.hid hn; have HE := Lib.hid h; clear hn h
  go_enter Tryz.func140, Tryz.ntmps140
  go_wp2
  go_loopw [5] (fun iv wr => NoneS w ss s n iv wr) (fun iv _ => n - (intOf iv).toNat)
  case atStart => exact ⟨0, Nat.zero_le _, rfl, fun j u h => by omega, Kp.refl w⟩
  case round =>
    obtain ⟨i, hi, rfl, hno, hex⟩ := hrel
    by_cases hlt : i < n
    · have hlt' : i < ss.length := by rw [← HN.out]; exact hlt
      obtain ⟨b, off, eao, hc0⟩ := (HE.out.ext hex.out).str hlt'
      subst eao
      have ht : ss[i]? = some ss[i] := List.getElem?_eq_getElem hlt'
      generalize ss[i] = u at *
      by_cases hu : u = s
      · have HT := Lib.hid (And.intro ht hu)
        clear ht hlt'
        subst hu
        have hb := str_eq u
        go_wp2
        go_ret
        exact RetN.mk hex.out (congrArg Value.bool (by unfold hasT; rw [any_true HT.out.1 (by simp)]))
      · have HT := Lib.hid (And.intro ht hu)
        have hb := str_ne hu
        clear ht hlt' hu
        go_wp2
        go_roundw
        case rel =>
          refine ⟨i + 1, by omega, by first | rfl | (congr 1; done) | (congr 1; omega), fun j u hj hu => ?_, hex⟩
          by_cases e : j = i
          · subst e; rw [HT.out.1] at hu; cases hu; exact decide_eq_false HT.out.2
          · exact hno.out j u (by omega) hu
        case measure => simp [intOf]; omega
    · go_wp2
      go_ret
      exact RetN.mk hex.out (congrArg Value.bool (by unfold hasT; rw [any_false HN.out fun j u hj => hno.out j u (by omega)]))

set_option maxRecDepth 100000 in
set_option maxHeartbeats 1000000 in
theorem refKinds_any (ts : List TermZ) (up : Int) (ao : Option Addr) (n cap : Nat) (w : World) (G : Nat → Prop) (hn : n = ts.length) (h : TermsAt w G ao ts) (hl : n ≤ 4611686018427387904) :
    Calls Tryz.prog 161 #[.slice ao n cap, .int .i64 up] w (RetN w fun w' v => v = .bool (kinds ts up)) := by
  have HN := Lib.hid hn; have HE := Lib.hid h; clear hn h
  go_enter Tryz.func161, Tryz.ntmps161
  go_wp2
  go_loopw [5] (fun iv wr => AllTo w ts (fun t => decide (1 ≤ t.1 ∧ t.1 ≤ up)) n iv wr) (fun iv _ => n - (intOf iv).toNat)
  case atStart => exact ⟨0, Nat.zero_le _, rfl, rfl, Kp.refl w⟩
  case round =>
    obtain ⟨i, hi, rfl, hall, hex⟩ := hrel
    by_cases hlt : i < n
    · have hlt' : i < ts.length := by rw [← HN.out]; exact hlt
      obtain ⟨t, ht⟩ : ∃ t, ts[i]? = some t := ⟨_, List.getElem?_eq_getElem hlt'⟩
      obtain ⟨b, off, eao, hc0, hc1, _⟩ := term_at (HE.out.ext hex.out) ht
      subst eao
      obtain ⟨k, s, ⟨⟩⟩ := t
      simp only at hc0 hc1
      have HT := Lib.hid ht
      clear ht hlt'
      by_cases h1 : k < 1
      · go_wp2
        go_ret
        exact RetN.mk hex.out (congrArg Value.bool (by unfold kinds; rw [all_no HT.out (decide_eq_false (by simp only; omega))]))
      · by_cases h2 : up < k
        · go_wp2
          go_ret
          exact RetN.mk hex.out (congrArg Value.bool (by unfold kinds; rw [all_no HT.out (decide_eq_false (by simp only; omega))]))
        · go_wp2
          go_roundw
          case rel => exact ⟨i + 1, by omega, by first | rfl | (congr 1; done) | (congr 1; omega), by rw [all_take HT.out, hall.out, decide_eq_true (by simp only; omega)]; rfl, hex⟩
          case measure => simp [intOf]; omega
    · have e : ts.take i = ts := List.take_of_length_le (by have := HN.out; omega)
      have HA := Lib.hid hall.out
      rw [e] at HA
      go_wp2
      go_ret
      exact RetN.mk hex.out (congrArg Value.bool (by unfold kinds; rw [HA.out]))

/-- names: between two rounds. -/
def NamesIn (w0 : World) (a : List ByteArray) (l : LitZ) (m : Nat) (iv ov : Value) (w : World) : Prop := ∃ i : Nat, i ≤ m ∧ iv = .int .i64 i ∧ Hid (Row w 9 1 ov (namesIn a l i).length (strs (namesIn a l i)) (New w0)) ∧ Hid (Ext w0 w)
set_option maxRecDepth 100000 in
set_option maxHeartbeats 4000000 in
theorem names14_any (p : ByteArray) (ha : Option Addr) (hn hcap : Nat) (ls : List LitZ) (ba : Option Addr) (n bcap : Nat) (w : World) (G : Nat → Prop) (hbn : n = ls.length) (h : LitsAt w G ba ls) (hf : Fit ls) :
    Calls Tryz.prog 138 #[ruleV p ha hn hcap ba n bcap] w (RetN w fun w' v => ∃ ao cap, v = .slice ao (namesB ls).length cap ∧ (namesB ls).length ≤ cap ∧ CellsAt w' ao (strs (namesB ls))) := by
  have HN := Lib.hid hbn; have HE := Lib.hid h; have HF := Lib.hid hf; have hl : n ≤ 1048576 := by have := hf.len; omega
  clear hbn h hf
  go_enter Tryz.func138, Tryz.ntmps138
  go_wp2
  obtain ⟨wb, eb⟩ : ∃ wb, w.alloc (.cells #[.string p, .slice ha hn hcap, .slice ba n bcap] 28) = wb := ⟨_, rfl⟩
  rw [eb]
  have HB := Lib.hid (Blk.new w [.string p, .slice ha hn hcap, .slice ba n bcap] 28)
  have HX := Lib.hid ((Kp.refl (F := fun _ => False) w).alloc (.cells #[.string p, .slice ha hn hcap, .slice ba n bcap] 28))
  have eb2 : w.alloc (.cells [Value.string p, .slice ha hn hcap, .slice ba n bcap].toArray 28) = wb := eb
  rw [eb2] at HB
  rw [eb] at HX
  clear eb eb2
  go_loopw [4, 3] (fun iv ov wr => VarsOut wb ls n iv ov wr) (fun iv _ _ => n - (intOf iv).toNat)
  case atStart => exact ⟨0, Nat.zero_le _, rfl, Row.nil _ _ _ _, Kp.refl _⟩
  case round =>
    obtain ⟨i, hi, rfl, hrow, hex⟩ := hrel
    have b2 : wr.cell? ⟨w.heap.size, 2, none⟩ = some (.slice ba n bcap) := by rw [(HB.out.ext hex.out).cell']; rfl
    have XR := Lib.hid (HX.out.trans hex.out)
    by_cases hlt : i < n
    · have hlt' : i < ls.length := by rw [← HN.out]; exact hlt
      obtain ⟨l, hli⟩ : ∃ l, ls[i]? = some l := ⟨_, List.getElem?_eq_getElem hlt'⟩
      obtain ⟨b, off, a, cap, eao, hG, hb, hL, c0, c1, c2, c3, c4, c5, c6, c7⟩ := lit_at HE.out hli
      subst eao
      clear c1 c3 c4 c5 c6 c7
      have C2 := Lib.hid c2
      replace c0 := XR.out.cell c0 id
      obtain ⟨m, em⟩ : ∃ m, m = (termsOf l).length := ⟨_, rfl⟩
      rw [← em] at c2 C2
      have hm : m ≤ 1048576 := by rw [em]; exact HF.out.terms l (List.mem_of_getElem? hli)
      have HL := Lib.hid (And.intro hli (And.intro hL em))
      obtain ⟨k, ek⟩ : ∃ k, l.1 = k := ⟨_, rfl⟩
      rw [ek] at c0
      have HK := Lib.hid ek
      clear hli hlt' hL em hG hb ek c2
      by_cases h1 : k = 1
      · subst h1
        go_wp2
        clear c0 b2
        go_loopw [5, 3] (fun iv ov wr => NamesIn wb (namesB (ls.take i)) l m iv ov wr) (fun iv _ _ => m - (intOf iv).toNat)
        case atStart => exact ⟨0, Nat.zero_le _, rfl, by rw [namesIn_zero]; exact hrow.out, hex⟩
        case round =>
          obtain ⟨j, hj, rfl, hrow3, hex3⟩ := hrel
          have X3 := Lib.hid (HX.out.trans hex3.out)
          have b2 : wr.cell? ⟨w.heap.size, 2, none⟩ = some (.slice (some ⟨b, off, none⟩) n bcap) := by rw [(HB.out.ext hex3.out).cell']; rfl
          have c2 := X3.out.cell C2.out id
          by_cases hlt3 : j < m
          · have hlt4 : j < (termsOf l).length := by rw [← HL.out.2.2]; exact hlt3
            obtain ⟨t, ht⟩ : ∃ t, (termsOf l)[j]? = some t := ⟨_, List.getElem?_eq_getElem hlt4⟩
            obtain ⟨b5, off5, eao5, f0, f1, _⟩ := term_at (HL.out.2.1.terms.ext X3.out) ht
            subst eao5
            obtain ⟨kt, st, ⟨⟩⟩ := t
            simp only at f0 f1
            have HT := Lib.hid (namesIn_succ (namesB (ls.take i)) ht)
            clear ht hlt4
            have hlen : (namesIn (namesB (ls.take i)) l j).length ≤ 1099513724928 := by
              have h1 := namesIn_len (namesB (ls.take i)) l j
              have h2 : (namesB (ls.take i)).length ≤ (ls.take i).length * 1048576 := namesB_len fun x hx => HF.out.terms x (List.mem_of_mem_take hx)
              rw [List.length_take] at h2
              omega
            generalize eN : namesIn (namesB (ls.take i)) l j = N at *
            by_cases h2 : kt = 1
            · subst h2
              have hrow4 := hrow3.out
              obtain ⟨ao, cap4, eov, hcells, hle⟩ := hrow4.shape
              subst eov
              have HS := Lib.hid (fun (W : World) (hW : Ext wr W) => has_any N st ao N.length cap4 W rfl (hcells.ext hW) (by omega))
              have HR4 := Lib.hid hrow4
              clear hcells hrow4 hrow3
              go_wp2_with fail
              refine (HS.out _ ((Kp.refl _).alloc _)).mono ?_
              rintro e w1 ⟨v, rfl, hk1, rfl⟩
              have bb := Blk.new wr [.int .i64 1, .string st] 94
              have f2 : w1.cell? ⟨wr.heap.size, 1, none⟩ = some (.string st) := by rw [(bb.ext hk1).cell']; rfl
              have HE1 := Lib.hid (((Kp.refl _).alloc _).trans hk1)
              clear hk1 bb f0 f1
              cases hh : hasT N st
              · have HT2 := Lib.hid (HT.out.trans (if_pos ⟨HK.out, by first | rfl | trivial, hh⟩))
                go_wp2_with (first | (at_builtin; refine Halted.out ?_))
                refine Halted.mk (wp_appN elem_strV rfl _ _ rfl ((hex3.out.trans HE1.out).alloc _) rfl ((HR4.out.ext HE1.out).alloc _) rfl (CellsAt.one _ _ _) (by rfl) (by simp [Value.oneCell']) (by omega) (by unfold maxLen; omega) ?_)
                intro v1 w2 hr1 hk1 hk2 _
                have HR5 := Lib.hid (And.intro hr1 hk1)
                clear hr1 hk1 hk2
                go_wp2
                go_roundw
                case rel =>
                  refine ⟨j + 1, by omega, by first | rfl | (congr 1; done) | (congr 1; omega), ?_, HR5.out.2⟩
                  have h := HR5.out.1
                  rw [HT2.out, ← strs_snoc, List.length_append]
                  exact h
                case measure => simp [intOf]; omega
              · have HT2 := Lib.hid (HT.out.trans (if_neg fun x => by rw [hh] at x; cases x.2.2))
                go_wp2
                go_roundw
                case rel => exact ⟨j + 1, by omega, by first | rfl | (congr 1; done) | (congr 1; omega), by rw [HT2.out]; exact HR4.out.ext HE1.out, hex3.out.trans HE1.out⟩
                case measure => simp [intOf]; omega
            · have HT2 := Lib.hid (HT.out.trans (if_neg fun x => h2 x.2.1))
              have b3 : (kt == 1) = false := by simp [h2]
              go_wp2
              go_roundw
              case rel => exact ⟨j + 1, by omega, by first | rfl | (congr 1; done) | (congr 1; omega), by rw [HT2.out]; exact hrow3.out.alloc _, hex3.out.alloc _⟩
              case measure => simp [intOf]; omega
          · have HA := Lib.hid (namesIn_all (namesB (ls.take i)) l (c := j) (by have := HL.out.2.2; omega))
            go_wp2
            go_roundw
            case rel =>
              refine ⟨i + 1, by omega, by first | rfl | (congr 1; done) | (congr 1; omega), ?_, hex3⟩
              have h := hrow3.out
              have e : namesB (ls.take (i + 1)) = namesL (namesB (ls.take i)) l := fold_take _ _ HL.out.1
              rw [HA.out, ← e] at h
              exact h
            case measure => simp [intOf]; omega
      · have b3 : (k == 1) = false := by simp [h1]
        have b4 : (k != 1) = true := by simp [h1]
        have HH := Lib.hid h1; clear h1
        go_wp2
        go_roundw
        case rel =>
          refine ⟨i + 1, by omega, by first | rfl | (congr 1; done) | (congr 1; omega), ?_, hex⟩
          have e : namesB (ls.take (i + 1)) = namesL (namesB (ls.take i)) l := fold_take _ _ HL.out.1
          rw [e]; unfold namesL; rw [if_neg (fun x => HH.out (HK.out.symm.trans x))]
          exact hrow.out
        case measure => simp [intOf]; omega
    · have e : ls.take i = ls := List.take_of_length_le (by have := HN.out; omega)
      have hrow4 := hrow.out
      rw [e] at hrow4
      obtain ⟨ao, cap4, eov, hcells, hle⟩ := hrow4.shape
      subst eov
      have HC := Lib.hid (And.intro hle hcells)
      clear hcells hrow4 hrow hle e
      go_wp2
      go_ret
      exact RetN.mk XR.out ⟨ao, _, rfl, HC.out⟩
end Go.Proofs.YtomeebimmmfmbaaGreat

/- The document's answer for join: parted, bound, Check, Vars. -/
namespace Go.Proofs.YtomeebimmmfmbaaGreat
open Go.RowKit
set_option linter.unusedVariables false

set_option maxRecDepth 100000 in
theorem bound_any (N : List ByteArray) (ao : Option Addr) (m cap : Nat) (k : Int) (s : ByteArray) (w : World) (hm : m = N.length) (h : CellsAt w ao (strs N)) (hl : m ≤ 4611686018427387904) :
    Calls Tryz.prog 139 #[termV k s, .slice ao m cap] w (RetN w fun w' v => v = .bool (safeT N false (k, s, ()))) := by
  by_cases h2 : k = 2
  · subst h2
    go_enter Tryz.func139, Tryz.ntmps139
    go_wp2
    go_ret
    exact RetN.mk ((Kp.refl w).alloc _) (by unfold safeT; simp)
  · have b2 : (k == 2) = false := by simp [h2]
    by_cases h34 : k = 3 ∨ k = 4
    · rcases h34 with rfl | rfl
      all_goals
        clear h2 b2
        go_enter Tryz.func139, Tryz.ntmps139
        go_wp2
        go_ret
        exact RetN.mk ((Kp.refl w).alloc _) (by unfold safeT; simp)
    · have b3 : (k == 3) = false := by simp; exact fun e => h34 (.inl e)
      have b4 : (k == 4) = false := by simp; exact fun e => h34 (.inr e)
      have HS := Lib.hid (fun (W : World) (hW : Ext w W) => has_any N s ao m cap W hm (h.ext hW) hl)
      have HH := Lib.hid (And.intro h2 h34); clear h2 h34 h hm
      go_enter Tryz.func139, Tryz.ntmps139
      go_wp2_with fail
      refine (HS.out _ ((Kp.refl _).alloc _)).mono ?_
      rintro e w1 ⟨v, rfl, hk1, rfl⟩
      go_wp2
      go_ret
      refine RetN.mk (((Kp.refl w).alloc _).trans hk1) ?_
      obtain ⟨h2, h34⟩ := HH.out
      show Value.bool (hasT N s) = _
      refine congrArg Value.bool ?_
      unfold safeT
      rw [if_neg h2]
      cases hh : hasT N s
      · symm; apply decide_eq_false; rintro (x | x | x)
        · exact h34 (.inl x)
        · exact h34 (.inr x)
        · cases x
      · symm; exact decide_eq_true (.inr (.inr rfl))

def AggsTo (w0 : World) (ts : List TermZ) (n : Nat) (iv av : Value) (w : World) : Prop := ∃ i a : Nat, i ≤ n ∧ a ≤ i ∧ iv = .int .i64 i ∧ av = .int .i64 a ∧ Hid (a = aggs (ts.take i)) ∧ Hid (Ext w0 w)
set_option maxRecDepth 100000 in
set_option maxHeartbeats 4000000 in
theorem parted_any (p : ByteArray) (hs : List TermZ) (ls : List LitZ) (ha : Option Addr) (hn hcap : Nat) (ba : Option Addr) (n bcap : Nat) (w : World) (G : Nat → Prop) (hhn : hn = hs.length) (hh : TermsAt w G ha hs) (hhl : hn ≤ 1048576) (hbn : n = ls.length) (h : LitsAt w G ba ls) (hf : Fit ls) :
    Calls Tryz.prog 137 #[ruleV p ha hn hcap ba n bcap] w (RetN w fun w' v => v = .bool (parted ((p, hs, ()), ls, ()))) := by
  have HN := Lib.hid hbn; have HE := Lib.hid h; have HF := Lib.hid hf; have hl : n ≤ 1048576 := by have := hf.len; omega
  have HHN := Lib.hid hhn; have HHE := Lib.hid hh
  have HKinds := Lib.hid (fun (W : World) (hW : Ext w W) => refKinds_any hs 7 ha hn hcap W G hhn (hh.ext hW) (by omega))
  have HKL := Lib.hid (fun (W : World) (hW : Ext w W) (l : LitZ) (hl : l ∈ ls) (a : Option Addr) (cap : Nat) (hin : LitIn w G l a cap) => refKinds_any (termsOf l) 3 a (termsOf l).length cap W G rfl (hin.terms.ext hW) (by have := hf.terms l hl; omega))
  clear hbn h hf hhn hh
  go_enter Tryz.func137, Tryz.ntmps137
  go_wp2
  obtain ⟨wb, eb⟩ : ∃ wb, w.alloc (.cells #[.string p, .slice ha hn hcap, .slice ba n bcap] 28) = wb := ⟨_, rfl⟩
  rw [eb]
  have HB := Lib.hid (Blk.new w [.string p, .slice ha hn hcap, .slice ba n bcap] 28)
  have HX := Lib.hid ((Kp.refl (F := fun _ => False) w).alloc (.cells #[.string p, .slice ha hn hcap, .slice ba n bcap] 28))
  have eb2 : w.alloc (.cells [Value.string p, .slice ha hn hcap, .slice ba n bcap].toArray 28) = wb := eb
  rw [eb2] at HB
  rw [eb] at HX
  clear eb eb2
  go_loopw [4, 3] (fun iv av wr => AggsTo wb hs hn iv av wr) (fun iv _ _ => hn - (intOf iv).toNat)
  case atStart => exact ⟨0, 0, Nat.zero_le _, Nat.le_refl _, rfl, rfl, rfl, Kp.refl _⟩
  case round =>
    obtain ⟨i, a, hi, hai, rfl, rfl, hagg, hex⟩ := hrel
    have b1 : wr.cell? ⟨w.heap.size, 1, none⟩ = some (.slice ha hn hcap) := by rw [(HB.out.ext hex.out).cell']; rfl
    have XR := Lib.hid (HX.out.trans hex.out)
    by_cases hlt : i < hn
    · have hlt' : i < hs.length := by rw [← HHN.out]; exact hlt
      obtain ⟨t, ht⟩ : ∃ t, hs[i]? = some t := ⟨_, List.getElem?_eq_getElem hlt'⟩
      obtain ⟨b, off, eao, hc0, hc1, _⟩ := term_at (HHE.out.ext XR.out) ht
      subst eao
      obtain ⟨k, s, ⟨⟩⟩ := t
      simp only at hc0 hc1
      have HT := Lib.hid (aggs_take ht)
      clear ht hlt'
      by_cases h4 : 4 ≤ k
      · go_wp2
        go_roundw
        case rel => exact ⟨i + 1, a + 1, by omega, by omega, by first | rfl | (congr 1; done) | (congr 1; omega), by first | rfl | (congr 1; done) | (congr 1; omega), Lib.hid (by rw [HT.out, ← hagg.out]; simp [h4]), hex⟩
        case measure => simp [intOf]; omega
      · go_wp2
        go_roundw
        case rel => exact ⟨i + 1, a, by omega, by omega, by first | rfl | (congr 1; done) | (congr 1; omega), by first | rfl | trivial, Lib.hid (by rw [HT.out, ← hagg.out]; simp [h4]), hex⟩
        case measure => simp [intOf]; omega
    · have e : hs.take i = hs := List.take_of_length_le (by have := HHN.out; omega)
      have HA := Lib.hid hagg.out
      rw [e] at HA
      clear e hagg
      go_wp2_with fail
      refine (HKinds.out _ XR.out).mono ?_
      rintro e w1 ⟨v, rfl, hk1, rfl⟩
      have X1 := Lib.hid (hex.out.trans hk1)
      have d1 : w1.cell? ⟨w.heap.size, 1, none⟩ = some (.slice ha hn hcap) := by rw [(HB.out.ext X1.out).cell']; rfl
      clear hk1 b1
      have hno : ∀ {q : Prop}, headOk hs = false → q = (parted ((p, hs, ()), ls, ()) = false) → q := fun x y => by rw [y]; unfold parted; rw [x]; rfl
      have HNo := Lib.hid (fun (x : headOk hs = false) => (show parted ((p, hs, ()), ls, ()) = false by unfold parted; rw [x]; rfl))
      clear hno
      cases hkd : kinds hs 7
      · go_wp2
        go_ret
        refine RetN.mk (HX.out.trans X1.out) (congrArg Value.bool ?_)
        rw [HNo.out (by unfold headOk; rw [hkd]; rfl)]
      · by_cases ha1 : 1 < a
        · have ha1' : (1 : Int) < (a : Int) := by omega
          go_wp2
          go_ret
          refine RetN.mk (HX.out.trans X1.out) (congrArg Value.bool ?_)
          rw [HNo.out (by have := HA.out; unfold headOk; rw [decide_eq_false (show ¬ aggs hs < 2 by omega)]; simp)]
        · have ha1' : ¬ (1 : Int) < (a : Int) := by omega
          by_cases h64 : 64 < hn
          · have h64' : (64 : Int) < (hn : Int) := by omega
            go_wp2
            go_ret
            refine RetN.mk (HX.out.trans X1.out) (congrArg Value.bool ?_)
            rw [HNo.out (by have := HHN.out; unfold headOk; rw [decide_eq_false (show ¬ hs.length ≤ 64 by omega)]; simp)]
          · have h64' : ¬ (64 : Int) < (hn : Int) := by omega
            have HOk := Lib.hid (show headOk hs = true by have g1 := HA.out; have g2 := HHN.out; unfold headOk; rw [hkd, decide_eq_true (show aggs hs < 2 by omega), decide_eq_true (show hs.length ≤ 64 by omega)]; rfl)
            go_wp2
            clear d1
            go_loopw [5] (fun iv wr => AllTo wb ls litOk n iv wr) (fun iv _ => n - (intOf iv).toNat)
            case atStart => exact ⟨0, Nat.zero_le _, rfl, rfl, X1⟩
            case round =>
              obtain ⟨q, hq, rfl, hall, hex3⟩ := hrel
              have X3 := Lib.hid (HX.out.trans hex3.out)
              have b2 : wr.cell? ⟨w.heap.size, 2, none⟩ = some (.slice ba n bcap) := by rw [(HB.out.ext hex3.out).cell']; rfl
              by_cases hlt3 : q < n
              · have hlt4 : q < ls.length := by rw [← HN.out]; exact hlt3
                obtain ⟨l, hli⟩ : ∃ l, ls[q]? = some l := ⟨_, List.getElem?_eq_getElem hlt4⟩
                obtain ⟨b, off, a2, cap2, eao, hG, hb, hL, c0, c1, c2, c3, c4, c5, c6, c7⟩ := lit_at HE.out hli
                subst eao
                replace c0 := X3.out.cell c0 id
                replace c1 := X3.out.cell c1 id
                replace c2 := X3.out.cell c2 id
                replace c3 := X3.out.cell c3 id
                replace c4 := X3.out.cell c4 id
                replace c5 := X3.out.cell c5 id
                replace c6 := X3.out.cell c6 id
                replace c7 := X3.out.cell c7 id
                obtain ⟨mm, emm⟩ : ∃ mm, mm = (termsOf l).length := ⟨_, rfl⟩
                have HKL2 := HKL.out
                have hk0 := fun (W : World) (hW : Ext w W) => HKL.out W hW l (List.mem_of_getElem? hli) a2 cap2 hL
                rw [← emm] at c2 hk0
                have HKl := Lib.hid hk0
                have HF2 := Lib.hid (And.intro hL.left hL.right)
                have HL := Lib.hid (And.intro hli emm)
                clear hli hlt4 hL hG hb emm hk0 HKL2
                obtain ⟨k, ek⟩ : ∃ k, l.1 = k := ⟨_, rfl⟩
                obtain ⟨op, eop⟩ : ∃ op, opOf l = op := ⟨_, rfl⟩
                obtain ⟨lk, elk⟩ : ∃ lk, (leftOf l).1 = lk := ⟨_, rfl⟩
                obtain ⟨lt, elt⟩ : ∃ lt, (leftOf l).2.1 = lt := ⟨_, rfl⟩
                obtain ⟨rk, erk⟩ : ∃ rk, (rightOf l).1 = rk := ⟨_, rfl⟩
                obtain ⟨rt, ert⟩ : ∃ rt, (rightOf l).2.1 = rt := ⟨_, rfl⟩
                rw [ek] at c0
                rw [eop] at c3
                rw [elk] at c4
                rw [elt] at c5
                rw [erk] at c6
                rw [ert] at c7
                have eleft : leftOf l = (lk, lt, ()) := by rw [← elk, ← elt]
                have eright : rightOf l = (rk, rt, ()) := by rw [← erk, ← ert]
                generalize predOf l = s1 at c1
                rw [eleft, eright] at HF2
                have HK := Lib.hid (And.intro ek (And.intro eop (And.intro eleft eright))); clear ek eop elk elt erk ert eleft eright
                have HQN := Lib.hid (fun (x : litOk l = false) => (show parted ((p, hs, ()), ls, ()) = false by unfold parted; rw [all_no HL.out.1 x]; simp))
                have HQY := Lib.hid (fun (x : litOk l = true) => (show (ls.take (q + 1)).all litOk = true by rw [all_take HL.out.1, hall.out, x]; rfl))
                by_cases h12 : k = 1 ∨ k = 2
                · have HL12 := Lib.hid (show litOk l = (decide ((termsOf l).length ≤ 64) && kinds (termsOf l) 3) by unfold litOk; rw [HK.out.1, if_pos h12])
                  rcases h12 with rfl | rfl
                  · go_wp2_with fail
                    refine (HKl.out _ (X3.out.alloc _)).mono ?_
                    rintro e w5 ⟨v, rfl, hk5, rfl⟩
                    have X5 := Lib.hid ((hex3.out.alloc _).trans hk5)
                    have d2 := (Blk.new wr [.int .i64 1, .string s1, .slice a2 mm cap2, .int .i64 op, .int .i64 lk, .string lt, .int .i64 rk, .string rt] 97).ext hk5
                    have d3 : w5.cell? ⟨wr.heap.size, 2, none⟩ = some (.slice a2 mm cap2) := by rw [d2.cell']; rfl
                    clear hk5 d2 c0 c1 c2 c3 c4 c5 c6 c7 b2
                    cases hkd2 : kinds (termsOf l) 3
                    · go_wp2
                      go_ret
                      exact RetN.mk (HX.out.trans X5.out) (congrArg Value.bool (by rw [HQN.out (by rw [HL12.out, hkd2, Bool.and_false])]))
                    · by_cases g64 : 64 < mm
                      · have g64' : (64 : Int) < (mm : Int) := by omega
                        go_wp2
                        go_ret
                        exact RetN.mk (HX.out.trans X5.out) (congrArg Value.bool (by rw [HQN.out (by rw [HL12.out, decide_eq_false (by have := HL.out.2; omega)]; rfl)]))
                      · have g64' : ¬ (64 : Int) < (mm : Int) := by omega
                        go_wp2
                        go_roundw
                        case rel => exact ⟨q + 1, by omega, by first | rfl | (congr 1; done) | (congr 1; omega), HQY.out (by rw [HL12.out, hkd2, decide_eq_true (by have := HL.out.2; omega)]; rfl), X5⟩
                        case measure => simp [intOf]; omega
                  · go_wp2_with fail
                    refine (HKl.out _ (X3.out.alloc _)).mono ?_
                    rintro e w5 ⟨v, rfl, hk5, rfl⟩
                    have X5 := Lib.hid ((hex3.out.alloc _).trans hk5)
                    have d2 := (Blk.new wr [.int .i64 2, .string s1, .slice a2 mm cap2, .int .i64 op, .int .i64 lk, .string lt, .int .i64 rk, .string rt] 97).ext hk5
                    have d3 : w5.cell? ⟨wr.heap.size, 2, none⟩ = some (.slice a2 mm cap2) := by rw [d2.cell']; rfl
                    clear hk5 d2 c0 c1 c2 c3 c4 c5 c6 c7 b2
                    cases hkd2 : kinds (termsOf l) 3
                    · go_wp2
                      go_ret
                      exact RetN.mk (HX.out.trans X5.out) (congrArg Value.bool (by rw [HQN.out (by rw [HL12.out, hkd2, Bool.and_false])]))
                    · by_cases g64 : 64 < mm
                      · have g64' : (64 : Int) < (mm : Int) := by omega
                        go_wp2
                        go_ret
                        exact RetN.mk (HX.out.trans X5.out) (congrArg Value.bool (by rw [HQN.out (by rw [HL12.out, decide_eq_false (by have := HL.out.2; omega)]; rfl)]))
                      · have g64' : ¬ (64 : Int) < (mm : Int) := by omega
                        go_wp2
                        go_roundw
                        case rel => exact ⟨q + 1, by omega, by first | rfl | (congr 1; done) | (congr 1; omega), HQY.out (by rw [HL12.out, hkd2, decide_eq_true (by have := HL.out.2; omega)]; rfl), X5⟩
                        case measure => simp [intOf]; omega
                · have n1 : (k == 1) = false := by simp; exact fun e => h12 (.inl e)
                  have n2 : (k == 2) = false := by simp; exact fun e => h12 (.inr e)
                  by_cases h3 : k = 3
                  · have n3 : (k == 3) = true := by simp [h3]
                    have HL3 := Lib.hid (show litOk l = (decide (1 ≤ op ∧ op ≤ 4) && kinds [(lk, lt, ()), (rk, rt, ())] 3) by unfold litOk; rw [HK.out.1, if_neg h12, if_pos h3, HK.out.2.1, HK.out.2.2.1, HK.out.2.2.2])
                    have HH := Lib.hid (And.intro h12 h3); clear h12 h3
                    by_cases o1 : op < 1
                    · go_wp2
                      go_ret
                      exact RetN.mk (X3.out.alloc _) (congrArg Value.bool (by rw [HQN.out (by rw [HL3.out, decide_eq_false (by omega)]; rfl)]))
                    · by_cases o4 : 4 < op
                      · go_wp2
                        go_ret
                        exact RetN.mk (X3.out.alloc _) (congrArg Value.bool (by rw [HQN.out (by rw [HL3.out, decide_eq_false (by omega)]; rfl)]))
                      · have HT := Lib.hid (fun (W : World) (g : Nat) (hg : g = W.heap.size) => refKinds_any [(lk, lt, ()), (rk, rt, ())] 3 (some ⟨g, 0, none⟩) 2 2 _ _ rfl (hg ▸ terms_two W lk lt rk rt HF2.out.1.1 HF2.out.2.1 HF2.out.1.2 HF2.out.2.2 94) (by decide))
                        go_wp2_with fail
                        refine (HT.out _ _ (alloc_size _ _).symm).mono ?_
                        rintro e w5 ⟨v, rfl, hk5, rfl⟩
                        have X5 := Lib.hid (((hex3.out.alloc _).alloc _).trans hk5)
                        clear hk5 c0 c1 c2 c3 c4 c5 c6 c7 b2
                        cases hkd2 : kinds [(lk, lt, ()), (rk, rt, ())] 3
                        · go_wp2
                          go_ret
                          exact RetN.mk (HX.out.trans X5.out) (congrArg Value.bool (by rw [HQN.out (by rw [HL3.out, hkd2, Bool.and_false])]))
                        · go_wp2
                          go_roundw
                          case rel => exact ⟨q + 1, by omega, by first | rfl | (congr 1; done) | (congr 1; omega), HQY.out (by rw [HL3.out, hkd2, decide_eq_true (by omega)]; rfl), X5⟩
                          case measure => simp [intOf]; omega
                  · have n3 : (k == 3) = false := by simp [h3]
                    have HH := Lib.hid (And.intro h12 h3); clear h12 h3
                    go_wp2
                    go_ret
                    exact RetN.mk (X3.out.alloc _) (congrArg Value.bool (by rw [HQN.out (by unfold litOk; rw [HK.out.1, if_neg HH.out.1, if_neg HH.out.2])]))
              · have e : ls.take q = ls := List.take_of_length_le (by have := HN.out; omega)
                have HC := Lib.hid hall.out
                rw [e] at HC
                clear e hall
                have hqn : ¬ (q : Int) < (n : Int) := by omega
                go_wp2
                go_ret
                exact RetN.mk X3.out (congrArg Value.bool (by unfold parted; rw [HOk.out, HC.out]; rfl))
end Go.Proofs.YtomeebimmmfmbaaGreat

/- The document's answer for join: Check, Vars. -/
namespace Go.Proofs.YtomeebimmmfmbaaGreat
open Go.RowKit
set_option linter.unusedVariables false

set_option maxRecDepth 100000 in
set_option maxHeartbeats 8000000 in
theorem refCheck_any (p : ByteArray) (hs : List TermZ) (ls : List LitZ) (ha : Option Addr) (hn hcap : Nat) (ba : Option Addr) (n bcap : Nat) (w : World) (G : Nat → Prop) (hhn : hn = hs.length) (hh : TermsAt w G ha hs) (hhl : hn ≤ 1048576) (hbn : n = ls.length) (h : LitsAt w G ba ls) (hf : Fit ls) :
    Calls Tryz.prog 111 #[ruleV p ha hn hcap ba n bcap] w (RetN w fun w' v => v = .int .i64 (checkR ((p, hs, ()), ls, ()))) := by
  have HN := Lib.hid hbn; have HE := Lib.hid h; have HF := Lib.hid hf; have hl : n ≤ 1048576 := by have := hf.len; omega
  have HHN := Lib.hid hhn; have HHE := Lib.hid hh
  have HParted := Lib.hid (fun (W : World) (hW : Ext w W) => parted_any p hs ls ha hn hcap ba n bcap W G hhn (hh.ext hW) hhl hbn (h.ext hW) hf)
  obtain ⟨m, em⟩ : ∃ m, m = (namesB ls).length := ⟨_, rfl⟩
  have HVars0 := fun (W : World) (hW : Ext w W) => names14_any p ha hn hcap ls ba n bcap W G hbn (h.ext hW) hf
  rw [← em] at HVars0
  have HVars := Lib.hid HVars0
  have EM := Lib.hid em
  clear HVars0 em hbn h hf hhn hh
  go_enter Tryz.func111, Tryz.ntmps111
  have bb := Blk.new w [.string p, .slice ha hn hcap, .slice ba n bcap] 28
  go_wp2_with fail
  refine (HParted.out _ ((Kp.refl _).alloc _)).mono ?_
  rintro e w1 ⟨v, rfl, hk1, rfl⟩
  have B1 := Lib.hid (bb.ext hk1)
  have c0 : w1.cell? ⟨w.heap.size, 0, none⟩ = some (.string p) := by rw [B1.out.cell']; rfl
  have c1 : w1.cell? ⟨w.heap.size, 1, none⟩ = some (.slice ha hn hcap) := by rw [B1.out.cell']; rfl
  have c2 : w1.cell? ⟨w.heap.size, 2, none⟩ = some (.slice ba n bcap) := by rw [B1.out.cell']; rfl
  have X1 := Lib.hid (((Kp.refl _).alloc _).trans hk1)
  clear hk1 bb
  cases hpt : parted ((p, hs, ()), ls, ())
  · go_wp2
    go_ret
    exact RetN.mk X1.out (by unfold checkR; rw [if_neg (by rw [hpt]; simp)]; rfl)
  · have HP := Lib.hid hpt
    clear hpt
    go_wp2_with fail
    refine (HVars.out _ X1.out).mono ?_
    rintro e w2 ⟨v, rfl, hk2, ao, cap, rfl, hle, hcells⟩
    have hm : m ≤ 4611686018427387904 := by
      have h1 := namesB_len HF.out.terms
      have h2 := HF.out.len
      have h3 := Nat.mul_le_mul_right 1048576 h2
      have h4 := EM.out
      omega
    have B2 := Lib.hid (B1.out.ext hk2)
    have HX2 := Lib.hid (X1.out.trans hk2)
    have HSafe := Lib.hid (fun (W : World) (hW : Ext w2 W) (k : Int) (s : ByteArray) => bound_any (namesB ls) ao m cap k s W EM.out (hcells.ext hW) hm)
    have HHas := Lib.hid (fun (W : World) (hW : Ext w2 W) (s : ByteArray) => has_any (namesB ls) s ao m cap W EM.out (hcells.ext hW) hm)
    clear hk2 hle hcells c0 c1 c2
    go_wp2
    go_loopw [4] (fun iv wr => AllTo w2 hs (safeT (namesB ls) false) hn iv wr) (fun iv _ => hn - (intOf iv).toNat)
    case atStart => exact ⟨0, Nat.zero_le _, rfl, rfl, Kp.refl _⟩
    case round =>
      obtain ⟨j, hj, rfl, hall3, hex3⟩ := hrel
      have X3 := Lib.hid (HX2.out.trans hex3.out)
      have b1 : wr.cell? ⟨w.heap.size, 1, none⟩ = some (.slice ha hn hcap) := by rw [(B2.out.ext hex3.out).cell']; rfl
      by_cases hlt3 : j < hn
      · have hlt4 : j < hs.length := by rw [← HHN.out]; exact hlt3
        obtain ⟨t, ht⟩ : ∃ t, hs[j]? = some t := ⟨_, List.getElem?_eq_getElem hlt4⟩
        obtain ⟨b2, off2, eao2, f0, f1, _⟩ := term_at (HHE.out.ext X3.out) ht
        subst eao2
        obtain ⟨kt, st, ⟨⟩⟩ := t
        simp only at f0 f1
        have HT := Lib.hid ht
        clear ht hlt4
        go_wp2_with fail
        refine (HSafe.out _ hex3.out kt st).mono ?_
        rintro e w3 ⟨v, rfl, hk3, rfl⟩
        have X4 := Lib.hid (hex3.out.trans hk3)
        clear hk3 f0 f1
        cases hq : safeT (namesB ls) false (kt, st, ())
        · go_wp2
          go_ret
          refine RetN.mk (HX2.out.trans X4.out) ?_
          unfold checkR safeR
          rw [if_pos HP.out, if_neg (by rw [all_no HT.out hq]; simp)]; rfl
        · go_wp2
          go_roundw
          case rel => exact ⟨j + 1, by omega, by first | rfl | (congr 1; done) | (congr 1; omega), by rw [all_take HT.out, hall3.out, hq]; rfl, X4⟩
          case measure => simp [intOf]; omega
      · have e : hs.take j = hs := List.take_of_length_le (by have := HHN.out; omega)
        have HB := Lib.hid hall3.out
        rw [e] at HB
        clear e hall3
        have hltn : ¬ (j : Int) < (hn : Int) := by omega
        go_wp2
        clear b1
        go_loopw [5] (fun iv wr => AllTo w2 ls (safeL (namesB ls)) n iv wr) (fun iv _ => n - (intOf iv).toNat)
        case atStart => exact ⟨0, Nat.zero_le _, rfl, rfl, hex3⟩
        case round =>
          obtain ⟨q, hq, rfl, hall4, hex4⟩ := hrel
          have X5 := Lib.hid (HX2.out.trans hex4.out)
          have b2 : wr.cell? ⟨w.heap.size, 2, none⟩ = some (.slice ba n bcap) := by rw [(B2.out.ext hex4.out).cell']; rfl
          by_cases hlt5 : q < n
          · have hlt6 : q < ls.length := by rw [← HN.out]; exact hlt5
            obtain ⟨l, hli⟩ : ∃ l, ls[q]? = some l := ⟨_, List.getElem?_eq_getElem hlt6⟩
            obtain ⟨b, off, a, cap2, eao, hG, hb, hL, c0, c1, c2, c3, c4, c5, c6, c7⟩ := lit_at HE.out hli
            subst eao
            replace c0 := X5.out.cell c0 id
            replace c1 := X5.out.cell c1 id
            replace c2 := X5.out.cell c2 id
            replace c3 := X5.out.cell c3 id
            replace c4 := X5.out.cell c4 id
            replace c5 := X5.out.cell c5 id
            replace c6 := X5.out.cell c6 id
            replace c7 := X5.out.cell c7 id
            have HL := Lib.hid (And.intro hli hL)
            have hq2 : (q : Int) < (n : Int) := by omega
            obtain ⟨mm, emm⟩ : ∃ mm, mm = (termsOf l).length := ⟨_, rfl⟩
            rw [← emm] at c2
            have HM := Lib.hid emm
            have hmm : mm ≤ 1048576 := by rw [emm]; exact HF.out.terms l (List.mem_of_getElem? hli)
            have HLok := Lib.hid (show l.1 = 2 → kinds (termsOf l) 3 = true by
              intro h2
              have h3 := HP.out
              unfold parted at h3
              rw [Bool.and_eq_true, List.all_eq_true] at h3
              have h4 := h3.2 l (List.mem_of_getElem? hli)
              unfold litOk at h4
              rw [if_pos (.inr h2), Bool.and_eq_true] at h4
              exact h4.2)
            clear hli hlt6 hL hG hb emm
            obtain ⟨k, ek⟩ : ∃ k, l.1 = k := ⟨_, rfl⟩
            obtain ⟨lk, elk⟩ : ∃ lk, (leftOf l).1 = lk := ⟨_, rfl⟩
            obtain ⟨lt, elt⟩ : ∃ lt, (leftOf l).2.1 = lt := ⟨_, rfl⟩
            obtain ⟨rk, erk⟩ : ∃ rk, (rightOf l).1 = rk := ⟨_, rfl⟩
            obtain ⟨rt, ert⟩ : ∃ rt, (rightOf l).2.1 = rt := ⟨_, rfl⟩
            rw [ek] at c0 HLok
            rw [elk] at c4
            rw [elt] at c5
            rw [erk] at c6
            rw [ert] at c7
            have eleft : leftOf l = (lk, lt, ()) := by rw [← elk, ← elt]
            have eright : rightOf l = (rk, rt, ()) := by rw [← erk, ← ert]
            generalize predOf l = s1 at c1
            generalize opOf l = s3 at c3
            have HK := Lib.hid (And.intro ek (And.intro eleft eright)); clear ek elk elt erk ert eleft eright
            obtain ⟨wx, ewx⟩ : ∃ wx, wr.alloc (.cells #[.int .i64 k, .string s1, .slice a mm cap2, .int .i64 s3, .int .i64 lk, .string lt, .int .i64 rk, .string rt] 97) = wx := ⟨_, rfl⟩
            have hB := Blk.new wr [.int .i64 k, .string s1, .slice a mm cap2, .int .i64 s3, .int .i64 lk, .string lt, .int .i64 rk, .string rt] 97
            have hWX : Ext w2 wx := by rw [← ewx]; exact hex4.out.alloc _
            have hXX : Ext w wx := HX2.out.trans hWX
            obtain ⟨g, eg⟩ : ∃ g, g = wr.heap.size := ⟨_, rfl⟩
            have HGB := Lib.hid hB
            rw [← eg] at HGB
            have ewx2 : wr.alloc (.cells [Value.int .i64 k, .string s1, .slice a mm cap2, .int .i64 s3, .int .i64 lk, .string lt, .int .i64 rk, .string rt].toArray 97) = wx := ewx
            rw [ewx2] at HGB
            have HWX := Lib.hid hWX
            have HXX := Lib.hid hXX
            have EG := Lib.hid (And.intro eg ewx)
            clear hB hWX hXX eg ewx ewx2
            by_cases h3 : k = 3
            · have b3 : (k == 3) = true := by simp [h3]
              have n2 : ¬ k = 2 := by omega
              have HH3 := Lib.hid (And.intro h3 n2); clear h3 n2
              go_wp2_with fail
              rw [EG.out.2, ← EG.out.1]
              refine (HSafe.out _ HWX.out lk lt).mono ?_
              rintro e w5 ⟨v, rfl, hk5, rfl⟩
              have X6 := Lib.hid hk5
              have d6 : w5.cell? ⟨g, 6, none⟩ = some (.int .i64 rk) := by rw [(HGB.out.ext hk5).cell']; rfl
              have d7 : w5.cell? ⟨g, 7, none⟩ = some (.string rt) := by rw [(HGB.out.ext hk5).cell']; rfl
              clear hk5 c0 c1 c2 c3 c4 c5 c6 c7
              cases hsl : safeT (namesB ls) false (lk, lt, ())
              · go_wp2
                go_ret
                refine RetN.mk (HXX.out.trans X6.out) ?_
                have hno : safeL (namesB ls) l = false := by unfold safeL; rw [if_pos (HK.out.1.trans HH3.out.1), HK.out.2.1, hsl]; rfl
                unfold checkR safeR
                rw [if_pos HP.out, if_neg (by rw [all_no HL.out.1 hno]; simp)]; rfl
              · go_wp2_with fail
                refine (HSafe.out _ (HWX.out.trans X6.out) rk rt).mono ?_
                rintro e w7 ⟨v, rfl, hk7, rfl⟩
                have X7 := Lib.hid (X6.out.trans hk7)
                clear hk7 d6 d7
                cases hsr : safeT (namesB ls) false (rk, rt, ())
                · go_wp2
                  go_ret
                  refine RetN.mk (HXX.out.trans X7.out) ?_
                  have hno : safeL (namesB ls) l = false := by unfold safeL; rw [if_pos (HK.out.1.trans HH3.out.1), HK.out.2.1, HK.out.2.2, hsr, Bool.and_false]
                  unfold checkR safeR
                  rw [if_pos HP.out, if_neg (by rw [all_no HL.out.1 hno]; simp)]; rfl
                · have HSL := Lib.hid (show safeL (namesB ls) l = (termsOf l).all (fun t => if k = 2 then safeT (namesB ls) true t else true) by
                    unfold safeL; rw [if_pos (HK.out.1.trans HH3.out.1), HK.out.2.1, HK.out.2.2, hsl, hsr]
                    exact (List.all_eq_true.2 (fun t _ => if_neg HH3.out.2)).symm)
                  have HX7 := X7
                  clear X7
                  go_wp2
                  go_loopw [7] (fun iv wr => AllTo wx (termsOf l) (fun t => if k = 2 then safeT (namesB ls) true t else true) mm iv wr) (fun iv _ => mm - (intOf iv).toNat)
                  case atStart => exact ⟨0, Nat.zero_le _, rfl, rfl, HX7.out⟩
                  case round =>
                    obtain ⟨z, hz, rfl, hall8, hex8⟩ := hrel
                    have X8 := Lib.hid (HXX.out.trans hex8.out)
                    have d0 : wr.cell? ⟨g, 0, none⟩ = some (.int .i64 k) := by rw [(HGB.out.ext hex8.out).cell']; rfl
                    have d2 : wr.cell? ⟨g, 2, none⟩ = some (.slice a mm cap2) := by rw [(HGB.out.ext hex8.out).cell']; rfl
                    by_cases h2 : k = 2
                    · have b2 : (k == 2) = true := by simp [h2]
                      have HH2 := Lib.hid h2; clear h2
                      by_cases hlt7 : z < mm
                      · have hlt8 : z < (termsOf l).length := by rw [← HM.out]; exact hlt7
                        obtain ⟨t, ht⟩ : ∃ t, (termsOf l)[z]? = some t := ⟨_, List.getElem?_eq_getElem hlt8⟩
                        obtain ⟨b9, off9, eao9, f0, f1, _⟩ := term_at (HL.out.2.terms.ext X8.out) ht
                        subst eao9
                        obtain ⟨kt, st, ⟨⟩⟩ := t
                        simp only at f0 f1
                        have HT := Lib.hid ht
                        have hkt : 1 ≤ kt ∧ kt ≤ 3 := by
                          have h5 := HLok.out HH2.out
                          unfold kinds at h5
                          exact of_decide_eq_true (List.all_eq_true.1 h5 _ (List.mem_of_getElem? ht))
                        have HKT := Lib.hid hkt
                        clear ht hlt8 hkt
                        by_cases h1 : kt = 1
                        · have n1 : (kt == 1) = true := by simp [h1]
                          have hst : safeT (namesB ls) true (kt, st, ()) = hasT (namesB ls) st := by
                            unfold safeT; rw [if_neg (by simp only; omega)]
                            cases hasT (namesB ls) st
                            · exact decide_eq_false (by simp only; rintro (x | x | x) <;> first | omega | cases x)
                            · exact decide_eq_true (.inr (.inr rfl))
                          have HST := Lib.hid hst; clear h1 hst
                          go_wp2_with fail
                          refine (HHas.out _ ((HWX.out.trans hex8.out).alloc _) st).mono ?_
                          rintro e w9 ⟨v, rfl, hk9, rfl⟩
                          have X9 := Lib.hid ((hex8.out.alloc _).trans hk9)
                          clear hk9 f0 f1 d0 d2
                          cases hqq : hasT (namesB ls) st
                          · go_wp2
                            go_ret
                            refine RetN.mk (HXX.out.trans X9.out) ?_
                            have hno : safeL (namesB ls) l = false := by rw [HSL.out]; exact all_no HT.out (by show (if k = 2 then _ else _) = false; rw [if_pos HH2.out, HST.out]; exact hqq)
                            unfold checkR safeR
                            rw [if_pos HP.out, if_neg (by rw [all_no HL.out.1 hno]; simp)]; rfl
                          · go_wp2
                            go_roundw
                            case rel => exact ⟨z + 1, by omega, by first | rfl | (congr 1; done) | (congr 1; omega), by rw [all_take HT.out, hall8.out]; show (if k = 2 then _ else _) = true; rw [if_pos HH2.out, HST.out]; exact hqq, X9⟩
                            case measure => simp [intOf]; omega
                        · have n1 : (kt == 1) = false := by simp [h1]
                          have hst : safeT (namesB ls) true (kt, st, ()) = true := by
                            have h3 := HKT.out
                            unfold safeT
                            by_cases h2 : kt = 2
                            · rw [if_pos h2]
                            · rw [if_neg h2]; exact decide_eq_true (.inl (by simp only; omega))
                          have HST := Lib.hid hst; clear h1 hst
                          go_wp2
                          go_roundw
                          case rel => exact ⟨z + 1, by omega, by first | rfl | (congr 1; done) | (congr 1; omega), by rw [all_take HT.out, hall8.out]; show (if k = 2 then _ else _) = true; rw [if_pos HH2.out]; exact HST.out, hex8.out.alloc _⟩
                          case measure => simp [intOf]; omega
                      · have e : (termsOf l).take z = termsOf l := List.take_of_length_le (by have := HM.out; omega)
                        have H9 := Lib.hid hall8.out
                        rw [e] at H9
                        clear e hall8
                        have hzm : ¬ (z : Int) < (mm : Int) := by omega
                        go_wp2
                        go_roundw
                        case rel => exact ⟨q + 1, by omega, by first | rfl | (congr 1; done) | (congr 1; omega), by rw [all_take HL.out.1, hall4.out, HSL.out, H9.out]; rfl, HWX.out.trans hex8.out⟩
                        case measure => simp [intOf]; omega
                    · have b2 : (k == 2) = false := by simp [h2]
                      have HH2 := Lib.hid h2; clear h2
                      go_wp2
                      go_roundw
                      case rel => exact ⟨q + 1, by omega, by first | rfl | (congr 1; done) | (congr 1; omega), by rw [all_take HL.out.1, hall4.out, HSL.out, List.all_eq_true.2 (fun t _ => if_neg HH2.out)]; rfl, HWX.out.trans hex8.out⟩
                      case measure => simp [intOf]; omega
            · have b3 : (k == 3) = false := by simp [h3]
              have HSL := Lib.hid (show safeL (namesB ls) l = (termsOf l).all (fun t => if k = 2 then safeT (namesB ls) true t else true) by
                unfold safeL; rw [if_neg (fun x => h3 (HK.out.1.symm.trans x)), HK.out.1]
                by_cases h2 : k = 2
                · rw [if_pos h2]; congr 1; funext t; rw [if_pos h2]
                · rw [if_neg h2]; symm; rw [List.all_eq_true]; intro t _; rw [if_neg h2])
              have HH3 := Lib.hid h3; clear h3
              go_wp2
              rw [EG.out.2, ← EG.out.1]
              have HX7 := Lib.hid (Kp.refl (F := fun _ => False) wx)
              clear c0 c1 c2 c3 c4 c5 c6 c7
              go_loopw [7] (fun iv wr => AllTo wx (termsOf l) (fun t => if k = 2 then safeT (namesB ls) true t else true) mm iv wr) (fun iv _ => mm - (intOf iv).toNat)
              case atStart => exact ⟨0, Nat.zero_le _, rfl, rfl, HX7.out⟩
              case round =>
                obtain ⟨z, hz, rfl, hall8, hex8⟩ := hrel
                have X8 := Lib.hid (HXX.out.trans hex8.out)
                have d0 : wr.cell? ⟨g, 0, none⟩ = some (.int .i64 k) := by rw [(HGB.out.ext hex8.out).cell']; rfl
                have d2 : wr.cell? ⟨g, 2, none⟩ = some (.slice a mm cap2) := by rw [(HGB.out.ext hex8.out).cell']; rfl
                by_cases h2 : k = 2
                · have b2 : (k == 2) = true := by simp [h2]
                  have HH2 := Lib.hid h2; clear h2
                  by_cases hlt7 : z < mm
                  · have hlt8 : z < (termsOf l).length := by rw [← HM.out]; exact hlt7
                    obtain ⟨t, ht⟩ : ∃ t, (termsOf l)[z]? = some t := ⟨_, List.getElem?_eq_getElem hlt8⟩
                    obtain ⟨b9, off9, eao9, f0, f1, _⟩ := term_at (HL.out.2.terms.ext X8.out) ht
                    subst eao9
                    obtain ⟨kt, st, ⟨⟩⟩ := t
                    simp only at f0 f1
                    have HT := Lib.hid ht
                    have hkt : 1 ≤ kt ∧ kt ≤ 3 := by
                      have h5 := HLok.out HH2.out
                      unfold kinds at h5
                      exact of_decide_eq_true (List.all_eq_true.1 h5 _ (List.mem_of_getElem? ht))
                    have HKT := Lib.hid hkt
                    clear ht hlt8 hkt
                    by_cases h1 : kt = 1
                    · have n1 : (kt == 1) = true := by simp [h1]
                      have hst : safeT (namesB ls) true (kt, st, ()) = hasT (namesB ls) st := by
                        unfold safeT; rw [if_neg (by simp only; omega)]
                        cases hasT (namesB ls) st
                        · exact decide_eq_false (by simp only; rintro (x | x | x) <;> first | omega | cases x)
                        · exact decide_eq_true (.inr (.inr rfl))
                      have HST := Lib.hid hst; clear h1 hst
                      go_wp2_with fail
                      refine (HHas.out _ ((HWX.out.trans hex8.out).alloc _) st).mono ?_
                      rintro e w9 ⟨v, rfl, hk9, rfl⟩
                      have X9 := Lib.hid ((hex8.out.alloc _).trans hk9)
                      clear hk9 f0 f1 d0 d2
                      cases hqq : hasT (namesB ls) st
                      · go_wp2
                        go_ret
                        refine RetN.mk (HXX.out.trans X9.out) ?_
                        have hno : safeL (namesB ls) l = false := by rw [HSL.out]; exact all_no HT.out (by show (if k = 2 then _ else _) = false; rw [if_pos HH2.out, HST.out]; exact hqq)
                        unfold checkR safeR
                        rw [if_pos HP.out, if_neg (by rw [all_no HL.out.1 hno]; simp)]; rfl
                      · go_wp2
                        go_roundw
                        case rel => exact ⟨z + 1, by omega, by first | rfl | (congr 1; done) | (congr 1; omega), by rw [all_take HT.out, hall8.out]; show (if k = 2 then _ else _) = true; rw [if_pos HH2.out, HST.out]; exact hqq, X9⟩
                        case measure => simp [intOf]; omega
                    · have n1 : (kt == 1) = false := by simp [h1]
                      have hst : safeT (namesB ls) true (kt, st, ()) = true := by
                        have h3 := HKT.out
                        unfold safeT
                        by_cases h2 : kt = 2
                        · rw [if_pos h2]
                        · rw [if_neg h2]; exact decide_eq_true (.inl (by simp only; omega))
                      have HST := Lib.hid hst; clear h1 hst
                      go_wp2
                      go_roundw
                      case rel => exact ⟨z + 1, by omega, by first | rfl | (congr 1; done) | (congr 1; omega), by rw [all_take HT.out, hall8.out]; show (if k = 2 then _ else _) = true; rw [if_pos HH2.out]; exact HST.out, hex8.out.alloc _⟩
                      case measure => simp [intOf]; omega
                  · have e : (termsOf l).take z = termsOf l := List.take_of_length_le (by have := HM.out; omega)
                    have H9 := Lib.hid hall8.out
                    rw [e] at H9
                    clear e hall8
                    have hzm : ¬ (z : Int) < (mm : Int) := by omega
                    go_wp2
                    go_roundw
                    case rel => exact ⟨q + 1, by omega, by first | rfl | (congr 1; done) | (congr 1; omega), by rw [all_take HL.out.1, hall4.out, HSL.out, H9.out]; rfl, HWX.out.trans hex8.out⟩
                    case measure => simp [intOf]; omega
                · have b2 : (k == 2) = false := by simp [h2]
                  have HH2 := Lib.hid h2; clear h2
                  go_wp2
                  go_roundw
                  case rel => exact ⟨q + 1, by omega, by first | rfl | (congr 1; done) | (congr 1; omega), by rw [all_take HL.out.1, hall4.out, HSL.out, List.all_eq_true.2 (fun t _ => if_neg HH2.out)]; rfl, HWX.out.trans hex8.out⟩
                  case measure => simp [intOf]; omega
          · have e : ls.take q = ls := List.take_of_length_le (by have := HN.out; omega)
            have HC := Lib.hid hall4.out
            rw [e] at HC
            clear e hall4
            have hqn : ¬ (q : Int) < (n : Int) := by omega
            go_wp2
            go_ret
            refine RetN.mk X5.out ?_
            unfold checkR safeR
            rw [if_pos HP.out, if_pos (by simp only [Bool.and_eq_true]; exact ⟨HB.out, HC.out⟩)]; rfl

end Go.Proofs.YtomeebimmmfmbaaGreat

/- cost: what is known, in memory; which counts are numbers; slices.IndexFunc, ContainsFunc at them. -/
namespace Go.Proofs.YtomeebimmmfmbaaGreat
open Go.RowKit
set_option linter.unusedVariables false

theorem run_store_float (P : Program) (w : World) (a : Addr) (m : Mode) (k : FloatKind) (b : Nat) : (store a (.float k b) m).run P w = stored P w a (.float k b) m := run_store P w a _ m rfl
/-- Real numbers as cells. -/
def flts (xs : List Nat) : List Value := xs.map (Value.float .f64)
theorem CellsAt.flt {w : World} {ao : Option Addr} {xs : List Nat} (h : CellsAt w ao (flts xs)) {k : Nat} (hk : k < xs.length) : ∃ b off, ao = some ⟨b, off, none⟩ ∧ w.cell? ⟨b, off + k, none⟩ = some (.float .f64 xs[k]) :=
  h k _ (by simp [flts, hk])
/-- What is known of predicates, from an address on. -/
def StatsAt (w : World) (ao : Option Addr) (S : List StatZ) : Prop := ∀ (i : Nat) (s : StatZ), S[i]? = some s → ∃ b off da dcap, ao = some ⟨b, off, none⟩ ∧ w.cell? ⟨b, off + i * 3, none⟩ = some (.string s.1) ∧ w.cell? ⟨b, off + i * 3 + 1, none⟩ = some (.float .f64 s.2.1) ∧ w.cell? ⟨b, off + i * 3 + 2, none⟩ = some (.slice da s.2.2.1.length dcap) ∧ s.2.2.1.length ≤ dcap ∧ dcap ≤ maxLen ∧ CellsAt w da (flts s.2.2.1)
theorem StatsAt.ext {w w' : World} {ao : Option Addr} {S : List StatZ} (h : StatsAt w ao S) (hk : Ext w w') : StatsAt w' ao S := fun i s hs => by
  obtain ⟨b, off, da, dcap, e, h1, h2, h3, h4, h5, h6⟩ := h i s hs
  exact ⟨b, off, da, dcap, e, hk.cell h1 id, hk.cell h2 id, hk.cell h3 id, h4, h5, h6.ext hk⟩
theorem StatsAt.take {w : World} {ao : Option Addr} {S : List StatZ} (h : StatsAt w ao S) (n : Nat) : StatsAt w ao (S.take n) := fun i s hs => h i s (by
  rw [List.getElem?_take] at hs
  split at hs
  · exact hs
  · cases hs)
/-- Words, and not too many. -/
structure StatsFit (S : List StatZ) : Prop where
  len : S.length ≤ 1048576
  dist : ∀ s ∈ S, s.2.2.1.length ≤ 1048576
  rows : ∀ s ∈ S, s.2.1 < 18446744073709551616
  words : ∀ s ∈ S, ∀ x ∈ s.2.2.1, x < 18446744073709551616
/-- A predicate's counts as a value. -/
abbrev statV (p : ByteArray) (x : Nat) (da : Option Addr) (n cap : Nat) : Value := .agg #[.string p, .float .f64 x, .slice da n cap]

theorem isInf_any (x : Nat) (w : World) (hx : x ≤ infW ∨ x = negW) : Calls Tryz.prog 32 #[.float .f64 x, .int .i64 1] w (RetN w fun w' v => v = .bool (decide (x = infW))) := by
  have h : (Ieee.double.order x 9218868437227405311 == some .gt) = decide (x = infW) := by
    rcases hx with hx | rfl
    · exact gt_max hx
    · decide
  have hf : (FloatKind.format .f64) = Ieee.double := rfl
  go_enter Tryz.func32, Tryz.ntmps32
  go_wp2
  go_ret
  exact RetN.mk (Kp.refl _) (congrArg Value.bool (by first | exact h | rfl))
theorem bad_any (x : Nat) (w : World) (hx : x < 18446744073709551616) : Calls Tryz.prog 119 #[.float .f64 x] w (RetN w fun w' v => v = .bool (!finW x)) := by
  have h := ge_zero hx
  by_cases h1 : x ≤ infW ∨ x = negW
  · rw [decide_eq_true h1] at h
    have hf : ((FloatKind.format .f64).order x 0 == some .gt || (FloatKind.format .f64).order x 0 == some .eq) = true := h
    have HI := Lib.hid (fun W => isInf_any x W h1)
    have H1 := Lib.hid h1; clear h1 h
    go_enter Tryz.func119, Tryz.ntmps119
    go_wp2_with fail
    refine (HI.out _).mono ?_
    rintro e w1 ⟨v, rfl, hk1, rfl⟩
    go_wp2
    go_ret
    refine RetN.mk hk1 (congrArg Value.bool ?_)
    unfold finW
    rcases H1.out with h | h
    · by_cases he : x = infW
      · subst he; decide
      · rw [decide_eq_false he, decide_eq_true (.inl (by omega))]; rfl
    · rw [decide_eq_false (by rw [h]; decide), decide_eq_true (.inr h)]; rfl
  · rw [decide_eq_false h1] at h
    have hf : ((FloatKind.format .f64).order x 0 == some .gt || (FloatKind.format .f64).order x 0 == some .eq) = false := h
    have H1 := Lib.hid h1; clear h1 h
    go_enter Tryz.func119, Tryz.ntmps119
    go_wp2
    go_ret
    refine RetN.mk (Kp.refl _) (congrArg Value.bool ?_)
    unfold finW
    rw [decide_eq_false (by have := H1.out; unfold negW at this; omega)]; rfl

/-- slices.IndexFunc, ContainsFunc at real numbers. -/
def TellF (f : FuncId) (first captured : Array Value) (w0 : World) (q : Nat → Bool) : Prop :=
  (∀ args w, (callFunc f args).run Tryz.prog w = .ok (Next.enter f args) w) ∧ ∀ w, Ext w0 w → ∀ (x : Nat), x < 18446744073709551616 → Calls Tryz.prog f (first.push (.float .f64 x) ++ captured) w (RetN w fun w' v => v = .bool (q x))
def NoneF (w0 : World) (ts : List Nat) (q : Nat → Bool) (n : Nat) (iv : Value) (w : World) : Prop := ∃ i : Nat, i ≤ n ∧ iv = .int .i64 i ∧ Hid (∀ (j : Nat) u, j < i → ts[j]? = some u → q u = false) ∧ Hid (Ext w0 w)
/-- The first of which it holds. -/
def FirstF (ts : List Nat) (q : Nat → Bool) (z : Int) : Prop := (∃ (i : Nat) (t : Nat), z = i ∧ ts[i]? = some t ∧ q t = true ∧ ∀ (j : Nat) u, j < i → ts[j]? = some u → q u = false) ∨ (z = -1 ∧ ∀ u ∈ ts, q u = false)
set_option maxRecDepth 100000 in
set_option maxHeartbeats 1000000 in
theorem indexF_any (ts : List Nat) (ao : Option Addr) (n cap : Nat) (f : FuncId) (first captured : Array Value) (q : Nat → Bool) (w : World) (hn : n = ts.length) (h : CellsAt w ao (flts ts)) (hfit : ∀ x ∈ ts, x < 18446744073709551616) (hq : TellF f first captured w q) (hl : n ≤ 4611686018427387904) :
    Calls Tryz.prog 145 #[.slice ao n cap, .func (Fn.func f) first captured] w (RetN w fun w' v => ∃ z : Int, v = .int .i64 z ∧ FirstF ts q z) := by
  have HN := Lib.hid hn; have HE := Lib.hid h; clear hn h
  have HFit := Lib.hid hfit; clear hfit
  have hent := hq.1
  have HQ := Lib.hid hq.2; clear hq
  go_enter Tryz.func145, Tryz.ntmps145
  go_wp2
  go_loopw [8] (fun iv wr => NoneF w ts q n iv wr) (fun iv _ => n - (intOf iv).toNat)
  case atStart => exact ⟨0, Nat.zero_le _, rfl, fun j u h => by omega, Kp.refl w⟩
  case round =>
    obtain ⟨i, hi, rfl, hno, hex⟩ := hrel
    by_cases hlt : i < n
    · have hlt' : i < ts.length := by rw [← HN.out]; exact hlt
      obtain ⟨b, off, eao, hc0⟩ := (HE.out.ext hex.out).flt hlt'
      subst eao
      have ht : ts[i]? = some ts[i] := List.getElem?_eq_getElem hlt'
      have hmem := List.getElem_mem hlt'
      generalize ts[i] = t at *
      obtain ⟨r, er⟩ : ∃ r : Bool, q t = r := ⟨_, rfl⟩
      have HC0 := HQ.out wr hex.out t (HFit.out t hmem)
      rw [er] at HC0
      have HC := Lib.hid HC0
      have HT := Lib.hid (And.intro ht er)
      clear ht hlt' er HC0
      clear hmem
      cases r
      · go_wp2_with fail
        refine HC.out.mono ?_
        rintro e w1 ⟨v, rfl, hk1, rfl⟩
        have HX := Lib.hid (hex.out.trans hk1); clear hk1
        go_wp2
        go_roundw
        case rel =>
          refine ⟨i + 1, by omega, by first | rfl | (congr 1; done) | (congr 1; omega), fun j u hj hu => ?_, HX⟩
          by_cases e : j = i
          · subst e; rw [HT.out.1] at hu; cases hu; exact HT.out.2
          · exact hno.out j u (by omega) hu
        case measure => simp [intOf]; omega
      · go_wp2_with fail
        refine HC.out.mono ?_
        rintro e w1 ⟨v, rfl, hk1, rfl⟩
        have HX := Lib.hid (hex.out.trans hk1); clear hk1
        go_wp2
        go_ret
        exact RetN.mk HX.out ⟨i, rfl, .inl ⟨i, t, rfl, HT.out.1, HT.out.2, hno.out⟩⟩
    · go_wp2
      go_ret
      refine RetN.mk hex.out ⟨-1, rfl, .inr ⟨rfl, fun u hu => ?_⟩⟩
      obtain ⟨j, hj, rfl⟩ := List.mem_iff_getElem.1 hu
      exact hno.out j _ (by have := HN.out; omega) (List.getElem?_eq_getElem hj)
theorem FirstF.any {ts : List Nat} {q : Nat → Bool} {z : Int} (h : FirstF ts q z) : decide (0 ≤ z) = ts.any (fun t => q t) := by
  rcases h with ⟨i, t, rfl, h1, h2, _⟩ | ⟨rfl, h⟩
  · rw [any_true h1 h2]; simp
  · symm; rw [show decide ((0 : Int) ≤ -1) = false by decide, List.any_eq_false]; intro t ht; rw [h t ht]; decide
set_option maxRecDepth 100000 in
theorem containsF_any (ts : List Nat) (ao : Option Addr) (n cap : Nat) (f : FuncId) (first captured : Array Value) (q : Nat → Bool) (w : World) (hn : n = ts.length) (h : CellsAt w ao (flts ts)) (hfit : ∀ x ∈ ts, x < 18446744073709551616) (hq : TellF f first captured w q) (hl : n ≤ 4611686018427387904) :
    Calls Tryz.prog 121 #[.slice ao n cap, .func (Fn.func f) first captured] w (RetN w fun w' v => v = .bool (ts.any (fun t => q t))) := by
  have HI := Lib.hid (indexF_any ts ao n cap f first captured q w hn h hfit hq hl)
  clear hn h hq hl hfit
  go_enter Tryz.func121, Tryz.ntmps121
  go_wp2_with fail
  refine HI.out.mono ?_
  rintro e w1 ⟨v, rfl, hk, z, rfl, hz⟩
  have h := hz.any
  go_wp2
  go_ret
  exact RetN.mk hk (congrArg Value.bool (by first | exact h | simp [← h]))

/-- slices.IndexFunc, ContainsFunc at counts. -/
def TellC (f : FuncId) (first captured : Array Value) (w0 : World) (q : ByteArray → Bool) : Prop :=
  (∀ args w, (callFunc f args).run Tryz.prog w = .ok (Next.enter f args) w) ∧ ∀ w, Ext w0 w → ∀ (p : ByteArray) (x : Nat) (da : Option Addr) (m dcap : Nat), Calls Tryz.prog f (first.push (statV p x da m dcap) ++ captured) w (RetN w fun w' v => v = .bool (q p))
def NoneC (w0 : World) (ts : List StatZ) (q : ByteArray → Bool) (n : Nat) (iv : Value) (w : World) : Prop := ∃ i : Nat, i ≤ n ∧ iv = .int .i64 i ∧ Hid (∀ (j : Nat) u, j < i → ts[j]? = some u → q u.1 = false) ∧ Hid (Ext w0 w)
/-- The first of which it holds. -/
def FirstC (ts : List StatZ) (q : ByteArray → Bool) (z : Int) : Prop := (∃ (i : Nat) (t : StatZ), z = i ∧ ts[i]? = some t ∧ q t.1 = true ∧ ∀ (j : Nat) u, j < i → ts[j]? = some u → q u.1 = false) ∨ (z = -1 ∧ ∀ u ∈ ts, q u.1 = false)
set_option maxRecDepth 100000 in
set_option maxHeartbeats 1000000 in
theorem indexC_any (ts : List StatZ) (ao : Option Addr) (n cap : Nat) (f : FuncId) (first captured : Array Value) (q : ByteArray → Bool) (w : World) (hn : n = ts.length) (h : StatsAt w ao ts) (hq : TellC f first captured w q) (hl : n ≤ 4611686018427387904) :
    Calls Tryz.prog 81 #[.slice ao n cap, .func (Fn.func f) first captured] w (RetN w fun w' v => ∃ z : Int, v = .int .i64 z ∧ FirstC ts q z) := by
  have HN := Lib.hid hn; have HE := Lib.hid h; clear hn h
  skip
  have hent := hq.1
  have HQ := Lib.hid hq.2; clear hq
  go_enter Tryz.func81, Tryz.ntmps81
  go_wp2
  go_loopw [8] (fun iv wr => NoneC w ts q n iv wr) (fun iv _ => n - (intOf iv).toNat)
  case atStart => exact ⟨0, Nat.zero_le _, rfl, fun j u h => by omega, Kp.refl w⟩
  case round =>
    obtain ⟨i, hi, rfl, hno, hex⟩ := hrel
    by_cases hlt : i < n
    · have hlt' : i < ts.length := by rw [← HN.out]; exact hlt
      obtain ⟨t, ht⟩ : ∃ t, ts[i]? = some t := ⟨_, List.getElem?_eq_getElem hlt'⟩
      obtain ⟨b, off, da, dcap, eao, hc0, hc1, hc2, _⟩ := (HE.out.ext hex.out) i t ht
      subst eao
      obtain ⟨r, er⟩ : ∃ r : Bool, q t.1 = r := ⟨_, rfl⟩
      have HC0 := HQ.out wr hex.out t.1 t.2.1 da t.2.2.1.length dcap
      rw [er] at HC0
      have HC := Lib.hid HC0
      have HT := Lib.hid (And.intro ht er)
      clear ht hlt' er HC0
      generalize t.2.2.1.length = m at *
      generalize t.2.1 = x at *
      cases r
      · go_wp2_with fail
        refine HC.out.mono ?_
        rintro e w1 ⟨v, rfl, hk1, rfl⟩
        have HX := Lib.hid (hex.out.trans hk1); clear hk1
        go_wp2
        go_roundw
        case rel =>
          refine ⟨i + 1, by omega, by first | rfl | (congr 1; done) | (congr 1; omega), fun j u hj hu => ?_, HX⟩
          by_cases e : j = i
          · subst e; rw [HT.out.1] at hu; cases hu; exact HT.out.2
          · exact hno.out j u (by omega) hu
        case measure => simp [intOf]; omega
      · go_wp2_with fail
        refine HC.out.mono ?_
        rintro e w1 ⟨v, rfl, hk1, rfl⟩
        have HX := Lib.hid (hex.out.trans hk1); clear hk1
        go_wp2
        go_ret
        exact RetN.mk HX.out ⟨i, rfl, .inl ⟨i, t, rfl, HT.out.1, HT.out.2, hno.out⟩⟩
    · go_wp2
      go_ret
      refine RetN.mk hex.out ⟨-1, rfl, .inr ⟨rfl, fun u hu => ?_⟩⟩
      obtain ⟨j, hj, rfl⟩ := List.mem_iff_getElem.1 hu
      exact hno.out j _ (by have := HN.out; omega) (List.getElem?_eq_getElem hj)
theorem FirstC.any {ts : List StatZ} {q : ByteArray → Bool} {z : Int} (h : FirstC ts q z) : decide (0 ≤ z) = ts.any (fun t => q t.1) := by
  rcases h with ⟨i, t, rfl, h1, h2, _⟩ | ⟨rfl, h⟩
  · rw [any_true h1 h2]; simp
  · symm; rw [show decide ((0 : Int) ≤ -1) = false by decide, List.any_eq_false]; intro t ht; rw [h t ht]; decide
set_option maxRecDepth 100000 in
theorem containsC_any (ts : List StatZ) (ao : Option Addr) (n cap : Nat) (f : FuncId) (first captured : Array Value) (q : ByteArray → Bool) (w : World) (hn : n = ts.length) (h : StatsAt w ao ts) (hq : TellC f first captured w q) (hl : n ≤ 4611686018427387904) :
    Calls Tryz.prog 122 #[.slice ao n cap, .func (Fn.func f) first captured] w (RetN w fun w' v => v = .bool (ts.any (fun t => q t.1))) := by
  have HI := Lib.hid (indexC_any ts ao n cap f first captured q w hn h  hq hl)
  clear hn h hq hl
  go_enter Tryz.func122, Tryz.ntmps122
  go_wp2_with fail
  refine HI.out.mono ?_
  rintro e w1 ⟨v, rfl, hk, z, rfl, hz⟩
  have h := hz.any
  go_wp2
  go_ret
  exact RetN.mk hk (congrArg Value.bool (by first | exact h | simp [← h]))
end Go.Proofs.YtomeebimmmfmbaaGreat

/- cost: right: may the counts be, as they are handed in? -/
namespace Go.Proofs.YtomeebimmmfmbaaGreat
open Go.RowKit
set_option linter.unusedVariables false
attribute [local go_sem] run_store_float

theorem same_any (p : ByteArray) (x : Nat) (da : Option Addr) (m dcap : Nat) (g : Nat) (s : ByteArray) (w : World) (hc : w.cell? ⟨g, 0, none⟩ = some (.string s)) :
    Calls Tryz.prog 120 #[statV p x da m dcap, .pointer (some ⟨g, 0, none⟩)] w (RetN w fun w' v => v = .bool (decide (p = s))) := by
  have e0 : (w.alloc (.cells #[.string p, .float .f64 x, .slice da m dcap] 48)).cell? ⟨g, 0, none⟩ = some (.string s) := ((Kp.refl (F := fun _ => False) w).alloc _).cell hc id
  clear hc
  by_cases h : p = s
  · have hb := str_eq s
    subst h
    go_enter Tryz.func120, Tryz.ntmps120
    go_wp2
    go_ret
    exact RetN.mk ((Kp.refl w).alloc _) (congrArg Value.bool (by simp))
  · have hb := str_ne h
    have H := Lib.hid h; clear h
    go_enter Tryz.func120, Tryz.ntmps120
    go_wp2
    go_ret
    exact RetN.mk ((Kp.refl w).alloc _) (congrArg Value.bool (decide_eq_false H.out).symm)

def StatsTo (w0 : World) (r : RuleZ) (S : List StatZ) (n : Nat) (iv : Value) (w : World) : Prop := ∃ i : Nat, i ≤ n ∧ iv = .int .i64 i ∧ Hid (∀ (j : Nat) (s : StatZ), j < i → S[j]? = some s → statOk r S j s = true) ∧ Hid (Ext w0 w)
theorem statOk_no {r : RuleZ} {S : List StatZ} {i : Nat} {s : StatZ} (hi : S[i]? = some s) (h : statOk r S i s = false) : ¬ statsOk r S := fun k => by
  have := k i s hi; rw [h] at this; cases this
theorem fitL_iff (s : StatZ) (l : LitZ) : fitL s l = true ↔ (l.1 = 1 → predOf l = s.1 → (termsOf l).length = s.2.2.1.length) := by
  unfold fitL; exact decide_eq_true_iff

open Classical in
set_option maxRecDepth 100000 in
set_option maxHeartbeats 8000000 in
theorem right_any (p : ByteArray) (hs : List TermZ) (ls : List LitZ) (ha : Option Addr) (hn hcap : Nat) (ba : Option Addr) (n bcap : Nat) (S : List StatZ) (sa : Option Addr) (sn scap : Nat) (w : World) (G : Nat → Prop) (hbn : n = ls.length) (h : LitsAt w G ba ls) (hf : Fit ls)
    (hsn : sn = S.length) (hsc : sn ≤ scap) (hS : StatsAt w sa S) (hSf : StatsFit S) :
    Calls Tryz.prog 77 #[ruleV p ha hn hcap ba n bcap, .slice sa sn scap] w (RetN w fun w' v => v = .bool (decide (statsOk ((p, hs, ()), ls, ()) S))) := by
  have HN := Lib.hid hbn; have HE := Lib.hid h; have HF := Lib.hid hf; have hl : n ≤ 1048576 := by have := hf.len; omega
  have HSN := Lib.hid hsn; have HSE := Lib.hid hS; have HSF := Lib.hid hSf; have hsl : sn ≤ 1048576 := by have := hSf.len; omega
  have hent : ∀ args w, (callFunc 119 args).run Tryz.prog w = .ok (.enter 119 args) w := enters_of Tryz.func119 (by kernel_rfl) rfl
  clear hbn h hf hsn hS hSf
  go_enter Tryz.func77, Tryz.ntmps77
  go_wp2
  obtain ⟨wb, eb⟩ : ∃ wb, w.alloc (.cells #[.string p, .slice ha hn hcap, .slice ba n bcap] 28) = wb := ⟨_, rfl⟩
  rw [eb]
  have HB := Lib.hid (Blk.new w [.string p, .slice ha hn hcap, .slice ba n bcap] 28)
  have HX := Lib.hid ((Kp.refl (F := fun _ => False) w).alloc (.cells #[.string p, .slice ha hn hcap, .slice ba n bcap] 28))
  have eb2 : w.alloc (.cells [Value.string p, .slice ha hn hcap, .slice ba n bcap].toArray 28) = wb := eb
  rw [eb2] at HB
  rw [eb] at HX
  clear eb eb2
  go_loopw [13] (fun iv wr => StatsTo wb ((p, hs, ()), ls, ()) S sn iv wr) (fun iv _ => sn - (intOf iv).toNat)
  case atStart => exact ⟨0, Nat.zero_le _, rfl, fun j s hj _ => by omega, Kp.refl _⟩
  case round =>
    obtain ⟨i, hi, rfl, hall, hex⟩ := hrel
    have XR := Lib.hid (HX.out.trans hex.out)
    by_cases hlt : i < sn
    · have hlt' : i < S.length := by rw [← HSN.out]; exact hlt
      obtain ⟨s, hsi⟩ : ∃ s, S[i]? = some s := ⟨_, List.getElem?_eq_getElem hlt'⟩
      obtain ⟨b, off, da, dcap, eao, c0, c1, c2, hdl, hdm, hd⟩ := HSE.out i s hsi
      subst eao
      replace c0 := XR.out.cell c0 id
      replace c1 := XR.out.cell c1 id
      replace c2 := XR.out.cell c2 id
      obtain ⟨dn, edn⟩ : ∃ dn, dn = s.2.2.1.length := ⟨_, rfl⟩
      rw [← edn] at c2 hdl
      obtain ⟨ps, eps⟩ : ∃ ps, ps = s.1 := ⟨_, rfl⟩
      rw [← eps] at c0
      obtain ⟨x, ex⟩ : ∃ x, x = s.2.1 := ⟨_, rfl⟩
      rw [← ex] at c1
      have hmem := List.mem_of_getElem? hsi
      have hx64 : x < 18446744073709551616 := ex ▸ HSF.out.rows s hmem
      have hdn : dn ≤ 1048576 := edn ▸ HSF.out.dist s hmem
      have hw64 := HSF.out.words s hmem
      obtain ⟨wx, ewx⟩ : ∃ wx, wr.alloc (.cells #[.string ps, .float .f64 x, .slice da dn dcap] 48) = wx := ⟨_, rfl⟩
      have hB := Blk.new wr [.string ps, .float .f64 x, .slice da dn dcap] 48
      have hWX : Ext wb wx := by rw [← ewx]; exact hex.out.alloc _
      obtain ⟨g, eg⟩ : ∃ g, g = wr.heap.size := ⟨_, rfl⟩
      have HGB := Lib.hid hB
      rw [← eg] at HGB
      have ewx2 : wr.alloc (.cells [Value.string ps, .float .f64 x, .slice da dn dcap].toArray 48) = wx := ewx
      rw [ewx2] at HGB
      have HWX := Lib.hid hWX
      have HXX := Lib.hid (HX.out.trans hWX)
      have EG := Lib.hid (And.intro eg ewx)
      have HD := Lib.hid (fun (W : World) (hW : Ext wx W) => containsF_any s.2.2.1 da dn dcap 119 #[] #[] (fun y => !finW y) W edn (hd.ext (HXX.out.trans hW)) hw64 ⟨hent, fun w' _ y hy => bad_any y w' hy⟩ (by omega))
      have hent2 : ∀ args w, (callFunc 120 args).run Tryz.prog w = .ok (.enter 120 args) w := enters_of Tryz.func120 (by kernel_rfl) rfl
      have HSame := Lib.hid (fun (W : World) (hW : Ext wx W) => containsC_any (S.take i) (some ⟨b, off, none⟩) i scap 120 #[] #[.pointer (some ⟨g, 0, none⟩)] (fun y => decide (y = ps)) W (by rw [List.length_take]; omega) ((HSE.out.ext (HXX.out.trans hW)).take i) ⟨hent2, fun w' hw' y a b c d => same_any y a b c d g ps w' (by rw [((HGB.out.ext hW).ext hw').cell']; rfl)⟩ (by omega))
      have HBad := Lib.hid (fun W => bad_any x W hx64)
      have HT := Lib.hid (And.intro hsi (And.intro edn (And.intro eps ex)))
      have hok : statOk ((p, hs, ()), ls, ()) S i s = ((!(!finW x)) && (!(s.2.2.1.any fun y => !finW y)) && (!((S.take i).any fun u => decide (u.1 = ps))) && ls.all (fitL s)) := by
        unfold statOk
        rw [← ex, eps]
        congr 1
        · congr 1
          · congr 1
            · rw [Bool.not_not]
            · rw [List.not_any_eq_all_not]; congr 1; funext y; rw [Bool.not_not]
          · rw [List.not_any_eq_all_not]; congr 1; funext y; rw [← decide_not]
      have HOk := Lib.hid hok
      clear hsi hlt' hmem hw64 hB hWX eg ewx ewx2 hd edn eps ex hok hent2 hx64 hdm
      go_wp2_with fail
      rw [EG.out.2]
      refine (HBad.out _).mono ?_
      rintro e w1 ⟨v, rfl, hk1, rfl⟩
      have X1 := Lib.hid hk1
      have c3 : w1.cell? ⟨g, 2, none⟩ = some (.slice da dn dcap) := by rw [(HGB.out.ext hk1).cell']; rfl
      clear hk1 c0 c1 c2
      rw [EG.out.1.symm]
      have hno : ∀ (W : World), Ext w W → statOk ((p, hs, ()), ls, ()) S i s = false → RetN w (fun w' v => v = .bool (decide (statsOk ((p, hs, ()), ls, ()) S))) (.returned (.bool false)) W := fun W hx h => RetN.mk hx (congrArg Value.bool (decide_eq_false (statOk_no HT.out.1 h)).symm)
      have HNo := Lib.hid hno
      clear hno
      cases hbr : (!finW x)
      · go_wp2_with fail
        refine (HD.out _ X1.out).mono ?_
        rintro e w2 ⟨v, rfl, hk2, rfl⟩
        have X2 := Lib.hid (X1.out.trans hk2)
        clear hk2 c3
        cases hdr : (s.2.2.1.any fun y => !finW y)
        · go_wp2_with fail
          refine (HSame.out _ X2.out).mono ?_
          rintro e w3 ⟨v, rfl, hk3, rfl⟩
          have X3 := Lib.hid (X2.out.trans hk3)
          clear hk3
          cases hsr : ((S.take i).any fun u => decide (u.1 = ps))
          · have HOk2 := Lib.hid (show statOk ((p, hs, ()), ls, ()) S i s = ls.all (fitL s) by rw [HOk.out, hbr, hdr, hsr]; simp)
            have b2 : w3.cell? ⟨w.heap.size, 2, none⟩ = some (.slice ba n bcap) := by rw [(HB.out.ext (HWX.out.trans X3.out)).cell']; rfl
            go_wp2
            clear b2
            go_loopw [39] (fun iv wr => AllTo wx ls (fitL s) n iv wr) (fun iv _ => n - (intOf iv).toNat)
            case atStart => exact ⟨0, Nat.zero_le _, rfl, rfl, X3⟩
            case round =>
              obtain ⟨q, hq, rfl, hall4, hex4⟩ := hrel
              have X5 := Lib.hid (HXX.out.trans hex4.out)
              by_cases hlt5 : q < n
              · have hlt6 : q < ls.length := by rw [← HN.out]; exact hlt5
                obtain ⟨l, hli⟩ : ∃ l, ls[q]? = some l := ⟨_, List.getElem?_eq_getElem hlt6⟩
                obtain ⟨b5, off5, a, cap2, eao, hG, hb, hL, c0, c1, c2, c3, c4, c5, c6, c7⟩ := lit_at HE.out hli
                subst eao
                replace c0 := X5.out.cell c0 id
                replace c1 := X5.out.cell c1 id
                replace c2 := X5.out.cell c2 id
                replace c3 := X5.out.cell c3 id
                replace c4 := X5.out.cell c4 id
                replace c5 := X5.out.cell c5 id
                replace c6 := X5.out.cell c6 id
                replace c7 := X5.out.cell c7 id
                have hq2 : (q : Int) < (n : Int) := by omega
                obtain ⟨mm, emm⟩ : ∃ mm, mm = (termsOf l).length := ⟨_, rfl⟩
                rw [← emm] at c2
                obtain ⟨k, ek⟩ : ∃ k, k = l.1 := ⟨_, rfl⟩
                rw [← ek] at c0
                obtain ⟨pl, epl⟩ : ∃ pl, pl = predOf l := ⟨_, rfl⟩
                rw [← epl] at c1
                have HL := Lib.hid (And.intro hli (And.intro emm (And.intro ek epl)))
                have hmm : mm ≤ 1048576 := by rw [emm]; exact HF.out.terms l (List.mem_of_getElem? hli)
                clear hli hlt6 hL hG hb emm ek epl
                generalize opOf l = s3 at c3
                generalize (leftOf l).1 = s4 at c4
                generalize (leftOf l).2.1 = s5 at c5
                generalize (rightOf l).1 = s6 at c6
                generalize (rightOf l).2.1 = s7 at c7
                have e0 : (wr.alloc (.cells #[.int .i64 k, .string pl, .slice a mm cap2, .int .i64 s3, .int .i64 s4, .string s5, .int .i64 s6, .string s7] 97)).cell? ⟨g, 0, none⟩ = some (.string ps) := by rw [((HGB.out.ext hex4.out).alloc _).cell']; rfl
                have e2 : (wr.alloc (.cells #[.int .i64 k, .string pl, .slice a mm cap2, .int .i64 s3, .int .i64 s4, .string s5, .int .i64 s6, .string s7] 97)).cell? ⟨g, 2, none⟩ = some (.slice da dn dcap) := by rw [((HGB.out.ext hex4.out).alloc _).cell']; rfl
                have hy : (k = 1 → pl = ps → mm = dn) → fitL s l = true := fun h => by
                  rw [fitL_iff, ← HL.out.2.2.1, ← HL.out.2.2.2, ← HL.out.2.1, ← HT.out.2.1, ← HT.out.2.2.1]; exact h
                by_cases h1 : k = 1
                · have n1 : (k == 1) = true := by simp [h1]
                  by_cases h2 : pl = ps
                  · by_cases h3 : mm = dn
                    · have HY := Lib.hid (hy fun _ _ => h3)
                      have hb := str_eq ps
                      have n3 : ((mm : Int) != (dn : Int)) = false := by simp [h3]
                      have n4 : ((mm : Int) == (dn : Int)) = true := by simp [h3]
                      clear h1 hy
                      subst h2
                      have HH := Lib.hid h3; clear h3
                      go_wp2
                      go_roundw
                      case rel => exact ⟨q + 1, by omega, by first | rfl | (congr 1; done) | (congr 1; omega), by rw [all_take HL.out.1, hall4.out, HY.out]; rfl, hex4.out.alloc _⟩
                      case measure => simp [intOf]; omega
                    · have HY := Lib.hid (show fitL s l = false by
                        rw [Bool.eq_false_iff, Ne, fitL_iff, ← HL.out.2.2.1, ← HL.out.2.2.2, ← HL.out.2.1, ← HT.out.2.1, ← HT.out.2.2.1]
                        exact fun k => h3 (k h1 h2))
                      have hb := str_eq ps
                      have n3 : ((mm : Int) != (dn : Int)) = true := by simp; omega
                      have n4 : ((mm : Int) == (dn : Int)) = false := by simp; omega
                      clear h1 hy
                      subst h2
                      have HH := Lib.hid h3; clear h3
                      go_wp2
                      go_ret
                      exact HNo.out _ (X5.out.alloc _) (by rw [HOk2.out]; exact all_no HL.out.1 HY.out)
                  · have HY := Lib.hid (hy fun _ x => absurd x h2)
                    have hb := str_ne h2
                    clear h1 hy h2
                    go_wp2
                    go_roundw
                    case rel => exact ⟨q + 1, by omega, by first | rfl | (congr 1; done) | (congr 1; omega), by rw [all_take HL.out.1, hall4.out, HY.out]; rfl, hex4.out.alloc _⟩
                    case measure => simp [intOf]; omega
                · have HY := Lib.hid (hy fun x => absurd x h1)
                  have n1 : (k == 1) = false := by simp [h1]
                  clear h1 hy
                  go_wp2
                  go_roundw
                  case rel => exact ⟨q + 1, by omega, by first | rfl | (congr 1; done) | (congr 1; omega), by rw [all_take HL.out.1, hall4.out, HY.out]; rfl, hex4.out.alloc _⟩
                  case measure => simp [intOf]; omega
              · have e : ls.take q = ls := List.take_of_length_le (by have := HN.out; omega)
                have HC := Lib.hid hall4.out
                rw [e] at HC
                clear e hall4
                have hqn : ¬ (q : Int) < (n : Int) := by omega
                go_wp2
                go_roundw
                case rel =>
                  refine ⟨i + 1, by omega, by first | rfl | (congr 1; done) | (congr 1; omega), fun j u hj hu => ?_, HWX.out.trans hex4.out⟩
                  by_cases e : j = i
                  · subst e; rw [HT.out.1] at hu; cases hu; rw [HOk2.out]; exact HC.out
                  · exact hall.out j u (by omega) hu
                case measure => simp [intOf]; omega
          · go_wp2
            go_ret
            exact HNo.out _ (HXX.out.trans X3.out) (by rw [HOk.out, hsr]; simp)
        · go_wp2
          go_ret
          exact HNo.out _ (HXX.out.trans X2.out) (by rw [HOk.out, hdr]; simp)
      · go_wp2
        go_ret
        exact HNo.out _ (HXX.out.trans X1.out) (by rw [HOk.out, hbr]; simp)
    · go_wp2
      go_ret
      refine RetN.mk XR.out (congrArg Value.bool (decide_eq_true ?_).symm)
      intro j s hj
      exact hall.out j s (by have := HSN.out; have := (List.getElem?_eq_some_iff.1 hj).1; omega) hj
end Go.Proofs.YtomeebimmmfmbaaGreat

/- The document's answer for costs: finite, Right. -/
namespace Go.Proofs.YtomeebimmmfmbaaGreat
open Go.RowKit
set_option linter.unusedVariables false
attribute [local go_sem] run_store_float

theorem sub_ok {P : Program} (w : World) (t : TypeId) (x y r : Nat) (h : Ieee.double.sub x y = some r) : (binOp .sub t (.float .f64 x) (.float .f64 y)).run P w = .ok (.float .f64 r) w := run_float_arith w .sub t .f64 x y r h
/-- No number: its bits are drawn, a NaN's: it is not nought. -/
theorem sub_nan {P : Program} (w : World) (t : TypeId) (x y : Nat) (h : Ieee.double.sub x y = none) : ∃ b, (binOp .sub t (.float .f64 x) (.float .f64 y)).run P w = .ok (.float .f64 b) w.drew ∧ (Ieee.double.order b 0 == some .eq) = false := by
  have h' : (FloatKind.format .f64).sub x y = none := h
  refine ⟨(Question.nanBits .f64 x y).cut (w.tape w.drawn (.nanBits .f64 x y)), ?_⟩
  have hrun : (binOp .sub t (.float .f64 x) (.float .f64 y)).run P w = .ok (.float .f64 ((Question.nanBits .f64 x y).cut (w.tape w.drawn (.nanBits .f64 x y)))) w.drew := by
    simp [binOp, Op.floatArith, h', Question.forced]
  generalize w.tape w.drawn (.nanBits .f64 x y) = q at hrun ⊢
  have hb : (Question.nanBits .f64 x y).cut q = (q % 2) * 9223372036854775808 + 9218868437227405312 + 1 + (q / 2) % 4503599627370495 := rfl
  have h1 : (q / 2) % 4503599627370495 < 4503599627370495 := Nat.mod_lt _ (by decide)
  generalize (q / 2) % 4503599627370495 = z at *
  generalize (Question.nanBits .f64 x y).cut q = b at *
  refine ⟨hrun, ?_⟩
  rcases Nat.mod_two_eq_zero_or_one q with h0 | h0
  · rw [h0] at hb
    obtain ⟨f, e⟩ := read_nan (x := b) (by rw [hb]; unfold infW; omega) (by rw [hb]; unfold negW; omega)
    rw [order_nan 0 e]; rfl
  · rw [h0] at hb
    rcases order_neg (x := b) (y := 0) (by rw [hb]; unfold negW; omega) (by rw [hb]; omega) (by decide) with e | e <;> rw [e] <;> rfl

theorem finite_any (x : Nat) (w : World) (hx : x < 18446744073709551616) : Calls Tryz.prog 112 #[.float .f64 x] w (RetN w fun w' v => v = .bool (finW x)) := by
  have h := ge_zero hx
  by_cases h1 : x ≤ infW ∨ x = negW
  · rw [decide_eq_true h1] at h
    have hf : ((FloatKind.format .f64).order x 0 == some .gt || (FloatKind.format .f64).order x 0 == some .eq) = true := h
    by_cases hi : x = infW
    · obtain ⟨b, hr, hn⟩ := sub_nan (P := Tryz.prog) w 45 x x (by rw [hi]; exact sub_self_inf)
      have hn2 : ((FloatKind.format .f64).order b 0 == some .eq) = false := hn
      have H1 := Lib.hid hi; clear h1 h hi hn
      go_enter Tryz.func112, Tryz.ntmps112
      go_wp2
      go_ret
      refine RetN.mk ((Kp.refl _).drew) (congrArg Value.bool ?_)
      rw [H1.out]; decide
    · have hs : ∀ W, (binOp .sub 45 (.float .f64 x) (.float .f64 x)).run Tryz.prog W = .ok (.float .f64 0) W := fun W => sub_ok W _ x x 0 (by
        rcases h1 with h1 | h1
        · exact sub_self (by omega)
        · rw [h1]; exact sub_self_neg)
      have h0 : ((FloatKind.format .f64).order 0 0 == some .eq) = true := by decide
      have H1 := Lib.hid (And.intro h1 hi); clear h1 h hi
      go_enter Tryz.func112, Tryz.ntmps112
      go_wp2
      go_ret
      refine RetN.mk (Kp.refl _) (congrArg Value.bool ?_)
      unfold finW
      symm; apply decide_eq_true
      have h := H1.out
      unfold infW negW at h
      unfold infW
      omega
  · rw [decide_eq_false h1] at h
    have hf : ((FloatKind.format .f64).order x 0 == some .gt || (FloatKind.format .f64).order x 0 == some .eq) = false := h
    have H1 := Lib.hid h1; clear h1 h
    go_enter Tryz.func112, Tryz.ntmps112
    go_wp2
    go_ret
    refine RetN.mk (Kp.refl _) (congrArg Value.bool ?_)
    unfold finW
    symm; apply decide_eq_false
    have h := H1.out
    unfold infW negW at h
    unfold infW
    omega

/-- Between two rounds of a loop that keeps an answer. -/
def OkTo (w0 : World) {α : Type} (b : Bool) (xs : List α) (q : α → Bool) (n : Nat) (iv ov : Value) (w : World) : Prop := ∃ (i : Nat) (r : Bool), i ≤ n ∧ iv = .int .i64 i ∧ ov = .bool r ∧ Hid (r = (b && (xs.take i).all q)) ∧ Hid (Ext w0 w)
theorem ok_zero {α : Type} {q : α → Bool} {xs : List α} {b : Bool} : b = (b && (xs.take 0).all q) := by simp
theorem ok_take {α : Type} {q : α → Bool} {xs : List α} {i : Nat} {x : α} {b r : Bool} (h : xs[i]? = some x) (hr : r = (b && (xs.take i).all q)) : (r && q x) = (b && (xs.take (i + 1)).all q) := by
  rw [all_take h, ← Bool.and_assoc, ← hr]
theorem ok_off {α : Type} {q : α → Bool} {xs : List α} {i : Nat} {x : α} {b : Bool} (h : xs[i]? = some x) (hr : false = (b && (xs.take i).all q)) : false = (b && (xs.take (i + 1)).all q) := by
  rw [← ok_take h hr]; rfl
theorem ok_on {α : Type} {q : α → Bool} {xs : List α} {i : Nat} {x : α} {b r : Bool} (h : xs[i]? = some x) (hr : true = (b && (xs.take i).all q)) (hq : q x = r) : r = (b && (xs.take (i + 1)).all q) := by
  rw [← ok_take h hr, hq]; rfl
theorem ok_end {α : Type} {q : α → Bool} {xs : List α} {i : Nat} {b r : Bool} (h : xs.length ≤ i) (hr : r = (b && (xs.take i).all q)) : r = (b && xs.all q) := by
  rw [List.take_of_length_le h] at hr; exact hr

open Classical in
set_option maxRecDepth 100000 in
set_option maxHeartbeats 8000000 in
theorem refRight_any (p : ByteArray) (hs : List TermZ) (ls : List LitZ) (ha : Option Addr) (hn hcap : Nat) (ba : Option Addr) (n bcap : Nat) (S : List StatZ) (sa : Option Addr) (sn scap : Nat) (w : World) (G : Nat → Prop) (hhn : hn = hs.length) (hh : TermsAt w G ha hs) (hhl : hn ≤ 1048576) (hbn : n = ls.length) (h : LitsAt w G ba ls) (hf : Fit ls)
    (hsn : sn = S.length) (hS : StatsAt w sa S) (hSf : StatsFit S) :
    Calls Tryz.prog 71 #[ruleV p ha hn hcap ba n bcap, .slice sa sn scap] w (RetN w fun w' v => v = .int .i64 (errR ((p, hs, ()), ls, ()) S)) := by
  have HN := Lib.hid hbn; have HE := Lib.hid h; have HF := Lib.hid hf; have hl : n ≤ 1048576 := by have := hf.len; omega
  have HSN := Lib.hid hsn; have HSE := Lib.hid hS; have HSF := Lib.hid hSf; have hsl : sn ≤ 1048576 := by have := hSf.len; omega
  obtain ⟨c, ec⟩ : ∃ c, c = checkR ((p, hs, ()), ls, ()) := ⟨_, rfl⟩
  have hck := fun (W : World) (hW : Ext w W) => refCheck_any p hs ls ha hn hcap ba n bcap W G hhn (hh.ext hW) hhl hbn (h.ext hW) hf
  rw [← ec] at hck
  have HC := Lib.hid hck
  have EC := Lib.hid ec
  clear hck ec hbn h hf hsn hS hSf hhn hh
  go_enter Tryz.func71, Tryz.ntmps71
  go_wp2_with fail
  obtain ⟨wb, eb⟩ : ∃ wb, w.alloc (.cells #[.string p, .slice ha hn hcap, .slice ba n bcap] 28) = wb := ⟨_, rfl⟩
  rw [eb]
  have HB := Lib.hid (Blk.new w [.string p, .slice ha hn hcap, .slice ba n bcap] 28)
  have HX := Lib.hid ((Kp.refl (F := fun _ => False) w).alloc (.cells #[.string p, .slice ha hn hcap, .slice ba n bcap] 28))
  have eb2 : w.alloc (.cells [Value.string p, .slice ha hn hcap, .slice ba n bcap].toArray 28) = wb := eb
  rw [eb2] at HB
  rw [eb] at HX
  clear eb eb2
  refine (HC.out _ HX.out).mono ?_
  rintro e w1 ⟨v, rfl, hk1, rfl⟩
  have X1 := Lib.hid (HX.out.trans hk1)
  have B1 := Lib.hid (HB.out.ext hk1)
  clear hk1 HX HB
  by_cases hc : c = 0
  · subst hc
    go_wp2
    go_loopw [6] (fun iv wr => StatsTo w1 ((p, hs, ()), ls, ()) S sn iv wr) (fun iv _ => sn - (intOf iv).toNat)
    case atStart => exact ⟨0, Nat.zero_le _, rfl, fun j s hj _ => by omega, Kp.refl _⟩
    case round =>
      obtain ⟨i, hi, rfl, hall, hex⟩ := hrel
      have XR := Lib.hid (X1.out.trans hex.out)
      by_cases hlt : i < sn
      · have hlt' : i < S.length := by rw [← HSN.out]; exact hlt
        obtain ⟨s, hsi⟩ : ∃ s, S[i]? = some s := ⟨_, List.getElem?_eq_getElem hlt'⟩
        obtain ⟨b, off, da, dcap, eao, c0, c1, c2, hdl, hdm, hd⟩ := HSE.out i s hsi
        subst eao
        obtain ⟨dn, edn⟩ : ∃ dn, dn = s.2.2.1.length := ⟨_, rfl⟩
        rw [← edn] at c2 hdl
        obtain ⟨ps, eps⟩ : ∃ ps, ps = s.1 := ⟨_, rfl⟩
        rw [← eps] at c0
        obtain ⟨x, ex⟩ : ∃ x, x = s.2.1 := ⟨_, rfl⟩
        rw [← ex] at c1
        have hmem := List.mem_of_getElem? hsi
        have hx64 : x < 18446744073709551616 := ex ▸ HSF.out.rows s hmem
        have hdn : dn ≤ 1048576 := edn ▸ HSF.out.dist s hmem
        have HW64 := Lib.hid (HSF.out.words s hmem)
        obtain ⟨ds, eds⟩ : ∃ ds, ds = s.2.2.1 := ⟨_, rfl⟩
        rw [← eds] at hd edn HW64
        have HT := Lib.hid (And.intro hsi (And.intro eps (And.intro ex eds)))
        have EDN := Lib.hid edn
        have HD := Lib.hid hd
        have C0 := Lib.hid c0
        have C2 := Lib.hid c2
        have HFin := Lib.hid (fun W => finite_any x W hx64)
        replace c1 := XR.out.cell c1 id
        clear hsi hlt' eps ex eds edn hd hdl hdm hmem c0 c2 hx64
        go_wp2_with fail
        refine (HFin.out _).mono ?_
        rintro e w2 ⟨v, rfl, hk2, rfl⟩
        have X2 := Lib.hid (hex.out.trans hk2)
        clear hk2 c1
        obtain ⟨r0, er0⟩ : ∃ r0, r0 = finW x := ⟨_, rfl⟩
        rw [← er0]
        have ER0 := Lib.hid er0; clear er0
        go_wp2
        go_loopw [8, 7] (fun iv ov wr => OkTo w1 r0 ds finW dn iv ov wr) (fun iv _ _ => dn - (intOf iv).toNat)
        case atStart => exact ⟨0, r0, Nat.zero_le _, rfl, rfl, ok_zero, X2⟩
        case round =>
          obtain ⟨j, r, hj, rfl, rfl, hr, hex2⟩ := hrel
          have XR2 := Lib.hid (X1.out.trans hex2.out)
          have c2 := XR2.out.cell C2.out id
          by_cases hlt2 : j < dn
          · have hlt2' : j < ds.length := by rw [← EDN.out]; exact hlt2
            obtain ⟨db, doff, eda, d0⟩ := (HD.out.ext XR2.out).flt hlt2'
            subst eda
            have ht : ds[j]? = some ds[j] := List.getElem?_eq_getElem hlt2'
            have hy := HW64.out _ (List.getElem_mem hlt2')
            generalize ds[j] = y at *
            have HY := Lib.hid (fun W => finite_any y W hy)
            have HTY := Lib.hid ht
            clear ht hy hlt2'
            cases r
            · go_wp2
              go_roundw
              case rel => exact ⟨j + 1, false, by omega, by first | rfl | (congr 1; done) | (congr 1; omega), by first | rfl | trivial, ok_off HTY.out hr.out, hex2⟩
              case measure => simp [intOf]; omega
            · go_wp2_with fail
              refine (HY.out _).mono ?_
              rintro e w3 ⟨v, rfl, hk3, rfl⟩
              have X3 := Lib.hid (hex2.out.trans hk3)
              clear hk3 c2 d0
              go_wp2
              go_roundw
              case rel => exact ⟨j + 1, finW y, by omega, by first | rfl | (congr 1; done) | (congr 1; omega), by first | rfl | trivial, ok_on HTY.out hr.out rfl, X3⟩
              case measure => simp [intOf]; omega
          · have HR2 := Lib.hid (ok_end (by rw [← EDN.out]; omega) hr.out)
            clear hr
            go_wp2
            clear c2
            go_loopw [9, 7] (fun iv ov wr => OkTo w1 r (S.take i) (fun u => decide (u.1 ≠ ps)) i iv ov wr) (fun iv _ _ => i - (intOf iv).toNat)
            case atStart => exact ⟨0, r, Nat.zero_le _, rfl, rfl, ok_zero, hex2⟩
            case round =>
              obtain ⟨q, r4, hq, rfl, rfl, hr4, hex4⟩ := hrel
              have XR4 := Lib.hid (X1.out.trans hex4.out)
              have c0 := XR4.out.cell C0.out id
              by_cases hlt4 : q < i
              · obtain ⟨u, hu⟩ : ∃ u, S[q]? = some u := ⟨_, List.getElem?_eq_getElem (by have := HSN.out; omega)⟩
                obtain ⟨_, _, _, _, e4, g0, _, _, _, _, _⟩ := HSE.out q u hu
                cases e4
                replace g0 := XR4.out.cell g0 id
                have HU := Lib.hid (show (S.take i)[q]? = some u by rw [List.getElem?_take, if_pos hlt4]; exact hu)
                obtain ⟨pu, epu⟩ : ∃ pu, pu = u.1 := ⟨_, rfl⟩
                rw [← epu] at g0
                have EPU := Lib.hid epu
                have hqsn : q < sn := by omega
                clear hu epu
                cases r4
                · go_wp2
                  go_quiet (fail)
                  go_wp2
                  go_roundw
                  case rel => exact ⟨q + 1, false, by omega, by first | rfl | (congr 1; done) | (congr 1; omega), by first | rfl | trivial, ok_off HU.out hr4.out, hex4.out.drewN _⟩
                  case measure => simp [intOf]; omega
                · by_cases hp : pu = ps
                  · have hb := str_eq ps
                    subst hp
                    go_wp2
                    go_quiet (fail)
                    go_wp2
                    go_roundw
                    case rel => exact ⟨q + 1, false, by omega, by first | rfl | (congr 1; done) | (congr 1; omega), by first | rfl | trivial, ok_on HU.out hr4.out (by rw [← EPU.out]; simp), hex4.out.drewN _⟩
                    case measure => simp [intOf]; omega
                  · have hb := str_ne hp
                    have HP := Lib.hid hp; clear hp
                    go_wp2
                    go_quiet (fail)
                    go_wp2
                    go_roundw
                    case rel => exact ⟨q + 1, true, by omega, by first | rfl | (congr 1; done) | (congr 1; omega), by first | rfl | trivial, ok_on HU.out hr4.out (by rw [← EPU.out]; exact decide_eq_true HP.out), hex4.out.drewN _⟩
                    case measure => simp [intOf]; omega
              · have HR4 := Lib.hid (ok_end (by rw [List.length_take]; omega) hr4.out)
                clear hr4
                go_wp2
                clear c0
                go_loopw [10, 7] (fun iv ov wr => OkTo w1 r4 ls (fitL s) n iv ov wr) (fun iv _ _ => n - (intOf iv).toNat)
                case atStart => exact ⟨0, r4, Nat.zero_le _, rfl, rfl, ok_zero, hex4⟩
                case round =>
                  obtain ⟨z, r6, hz, rfl, rfl, hr6, hex6⟩ := hrel
                  have XR6 := Lib.hid (X1.out.trans hex6.out)
                  have b2 : wr.cell? ⟨w.heap.size, 2, none⟩ = some (.slice ba n bcap) := by rw [(B1.out.ext hex6.out).cell']; rfl
                  by_cases hlt6 : z < n
                  · have G0 := Lib.hid (XR6.out.cell C0.out id)
                    have G2 := Lib.hid (XR6.out.cell C2.out id)
                    generalize hbb : b = bs at *
                    generalize hoo : off = offs at *
                    clear hbb hoo
                    have hltl : z < ls.length := by rw [← HN.out]; exact hlt6
                    obtain ⟨l, hli⟩ : ∃ l, ls[z]? = some l := ⟨_, List.getElem?_eq_getElem hltl⟩
                    obtain ⟨b, off, a2, cap2, eao, hG, hb, hL, c0, c1, c2, c3, c4, c5, c6, c7⟩ := lit_at HE.out hli
                    subst eao
                    replace c0 := XR6.out.cell c0 id
                    replace c1 := XR6.out.cell c1 id
                    replace c2 := XR6.out.cell c2 id
                    replace c3 := XR6.out.cell c3 id
                    replace c4 := XR6.out.cell c4 id
                    replace c5 := XR6.out.cell c5 id
                    replace c6 := XR6.out.cell c6 id
                    replace c7 := XR6.out.cell c7 id
                    obtain ⟨mm, emm⟩ : ∃ mm, mm = (termsOf l).length := ⟨_, rfl⟩
                    rw [← emm] at c2
                    have hmm : mm ≤ 1048576 := by rw [emm]; exact HF.out.terms l (List.mem_of_getElem? hli)
                    obtain ⟨k, ek⟩ : ∃ k, k = l.1 := ⟨_, rfl⟩
                    rw [← ek] at c0
                    clear hltl hG hb
                    obtain ⟨pl, epl⟩ : ∃ pl, pl = predOf l := ⟨_, rfl⟩
                    rw [← epl] at c1
                    have HL := Lib.hid (And.intro hli (And.intro emm (And.intro ek epl)))
                    clear hli hL emm ek epl
                    generalize opOf l = s3 at c3
                    generalize (leftOf l).1 = s4 at c4
                    generalize (leftOf l).2.1 = s5 at c5
                    generalize (rightOf l).1 = s6 at c6
                    generalize (rightOf l).2.1 = s7 at c7
                    have e0 : (wr.alloc (.cells #[.int .i64 k, .string pl, .slice a2 mm cap2, .int .i64 s3, .int .i64 s4, .string s5, .int .i64 s6, .string s7] 97)).cell? ⟨bs, offs + i * 3, none⟩ = some (.string ps) := ((Kp.refl (F := fun _ => False) wr).alloc _).cell G0.out id
                    have e2 : (wr.alloc (.cells #[.int .i64 k, .string pl, .slice a2 mm cap2, .int .i64 s3, .int .i64 s4, .string s5, .int .i64 s6, .string s7] 97)).cell? ⟨bs, offs + i * 3 + 2, none⟩ = some (.slice da dn dcap) := ((Kp.refl (F := fun _ => False) wr).alloc _).cell G2.out id
                    have hfit : fitL s l = true ↔ (k = 1 → pl = ps → mm = dn) := by
                      rw [fitL_iff, ← HL.out.2.2.1, ← HL.out.2.2.2, ← HL.out.2.1, ← HT.out.2.1, ← HT.out.2.2.2, ← EDN.out]
                    have HFit := Lib.hid hfit; clear hfit
                    cases r6
                    · go_wp2
                      go_quiet (fail)
                      go_wp2
                      go_roundw
                      case rel => exact ⟨z + 1, false, by omega, by first | rfl | (congr 1; done) | (congr 1; omega), by first | rfl | trivial, ok_off HL.out.1 hr6.out, (hex6.out.alloc _).drewN _⟩
                      case measure => simp [intOf]; omega
                    · by_cases h1 : k = 1
                      · by_cases h2 : pl = ps
                        · have hb := str_eq ps
                          by_cases h3 : mm = dn
                          · have HY := Lib.hid (HFit.out.2 fun _ _ => h3)
                            have n3 : ((mm : Int) == (dn : Int)) = true := by simp [h3]
                            subst h1; subst h2
                            have HH := Lib.hid h3; clear h3
                            go_wp2
                            go_quiet (fail)
                            go_wp2
                            go_roundw
                            case rel => exact ⟨z + 1, true, by omega, by first | rfl | (congr 1; done) | (congr 1; omega), by first | rfl | trivial, ok_on HL.out.1 hr6.out HY.out, (hex6.out.alloc _).drewN _⟩
                            case measure => simp [intOf]; omega
                          · have HY := Lib.hid (show fitL s l = false by rw [Bool.eq_false_iff, Ne, HFit.out]; exact fun y => h3 (y h1 h2))
                            have n3 : ((mm : Int) == (dn : Int)) = false := by simp; omega
                            subst h1; subst h2
                            have HH := Lib.hid h3; clear h3
                            go_wp2
                            go_quiet (fail)
                            go_wp2
                            go_roundw
                            case rel => exact ⟨z + 1, false, by omega, by first | rfl | (congr 1; done) | (congr 1; omega), by first | rfl | trivial, ok_on HL.out.1 hr6.out HY.out, (hex6.out.alloc _).drewN _⟩
                            case measure => simp [intOf]; omega
                        · have HY := Lib.hid (HFit.out.2 fun _ y => absurd y h2)
                          have hb := str_ne h2
                          subst h1
                          have HH := Lib.hid h2; clear h2
                          go_wp2
                          go_quiet (fail)
                          go_wp2
                          go_roundw
                          case rel => exact ⟨z + 1, true, by omega, by first | rfl | (congr 1; done) | (congr 1; omega), by first | rfl | trivial, ok_on HL.out.1 hr6.out HY.out, (hex6.out.alloc _).drewN _⟩
                          case measure => simp [intOf]; omega
                      · have HY := Lib.hid (HFit.out.2 fun y => absurd y h1)
                        have n1 : (k == 1) = false := by simp [h1]
                        have n2 : (k != 1) = true := by simp [h1]
                        have HH := Lib.hid h1; clear h1
                        go_wp2
                        go_quiet (fail)
                        go_wp2
                        go_roundw
                        case rel => exact ⟨z + 1, true, by omega, by first | rfl | (congr 1; done) | (congr 1; omega), by first | rfl | trivial, ok_on HL.out.1 hr6.out HY.out, (hex6.out.alloc _).drewN _⟩
                        case measure => simp [intOf]; omega
                  · have HR6 := Lib.hid (ok_end (by rw [← HN.out]; omega) hr6.out)
                    have hok : statOk ((p, hs, ()), ls, ()) S i s = r6 := by
                      rw [HR6.out, HR4.out, HR2.out, ER0.out, HT.out.2.2.1, HT.out.2.2.2, HT.out.2.1]; rfl
                    have HOk := Lib.hid hok
                    clear hr6 hok
                    cases r6
                    · go_wp2
                      go_ret
                      exact RetN.mk XR6.out (congrArg (Value.int .i64) (by unfold errR; rw [if_pos EC.out.symm, if_neg (statOk_no HT.out.1 HOk.out)]; rfl))
                    · go_wp2
                      go_roundw
                      case rel =>
                        refine ⟨i + 1, by omega, by first | rfl | (congr 1; done) | (congr 1; omega), fun j u hj hu => ?_, hex6⟩
                        by_cases e : j = i
                        · subst e; rw [HT.out.1] at hu; cases hu; exact HOk.out
                        · exact hall.out j u (by omega) hu
                      case measure => simp [intOf]; omega
      · have HA := Lib.hid (show statsOk ((p, hs, ()), ls, ()) S from fun j s hj => hall.out j s (by have := HSN.out; have := (List.getElem?_eq_some_iff.1 hj).1; omega) hj)
        clear hall
        go_wp2
        go_ret
        exact RetN.mk XR.out (congrArg (Value.int .i64) (by unfold errR; rw [if_pos EC.out.symm, if_pos HA.out]; rfl))
  · have b1 : ((c : Int) == 0) = false := by simp; omega
    have b2 : ((c : Int) != 0) = true := by simp; omega
    have HH := Lib.hid hc; clear hc
    go_wp2
    go_ret
    exact RetN.mk X1.out (congrArg (Value.int .i64) (by unfold errR; rw [← EC.out, if_neg HH.out]))
end Go.Proofs.YtomeebimmmfmbaaGreat

/- What is known of a literal's predicate; sets of literals, part by part. No program in sight. -/
namespace Go.Proofs.YtomeebimmmfmbaaGreat
set_option linter.unusedVariables false

/-- What statsOk says, part by part. -/
structure Known (S : List StatZ) (ls : List LitZ) : Prop where
  rows : ∀ s ∈ S, finW s.2.1 = true
  dist : ∀ s ∈ S, ∀ x ∈ s.2.2.1, finW x = true
  uniq : ∀ (i j : Nat) (s u : StatZ), S[i]? = some s → S[j]? = some u → s.1 = u.1 → i = j
  fit : ∀ s ∈ S, ∀ l ∈ ls, l.1 = 1 → predOf l = s.1 → (termsOf l).length = s.2.2.1.length
theorem Known.of {r : RuleZ} {S : List StatZ} (h : statsOk r S) : Known S r.2.1 := by
  have hm : ∀ s ∈ S, ∃ i : Nat, S[i]? = some s := fun s hs => by
    obtain ⟨i, hi, rfl⟩ := List.mem_iff_getElem.1 hs
    exact ⟨i, List.getElem?_eq_getElem hi⟩
  have hp : ∀ (i : Nat) (s : StatZ), S[i]? = some s → finW s.2.1 = true ∧ s.2.2.1.all finW = true ∧ (S.take i).all (fun u => decide (u.1 ≠ s.1)) = true ∧ r.2.1.all (fitL s) = true := fun i s hs => by
    have := h i s hs
    unfold statOk at this
    simp only [Bool.and_eq_true] at this
    exact ⟨this.1.1.1, this.1.1.2, this.1.2, this.2⟩
  have hlt : ∀ (i j : Nat) (s u : StatZ), S[i]? = some s → S[j]? = some u → s.1 = u.1 → ¬ i < j := fun i j s u hi hj he hl => by
    have h1 := List.all_eq_true.1 (hp j u hj).2.2.1 s (List.mem_of_getElem? (i := i) (by rw [List.getElem?_take, if_pos hl]; exact hi))
    exact of_decide_eq_true h1 he
  refine ⟨fun s hs => ?_, fun s hs x hx => ?_, fun i j s u hi hj he => ?_, fun s hs l hl h1 h2 => ?_⟩
  · obtain ⟨i, hi⟩ := hm s hs; exact (hp i s hi).1
  · obtain ⟨i, hi⟩ := hm s hs; exact List.all_eq_true.1 (hp i s hi).2.1 x hx
  · have a := hlt i j s u hi hj he
    have b := hlt j i u s hj hi he.symm
    omega
  · obtain ⟨i, hi⟩ := hm s hs
    exact of_decide_eq_true (List.all_eq_true.1 (hp i s hi).2.2.2 l hl) h1 h2
theorem statOf_none {S : List StatZ} {l : LitZ} (h : ∀ u ∈ S, u.1 ≠ predOf l) : statOf S l = none := by
  unfold statOf
  rw [List.find?_eq_none]
  intro u hu; simpa using h u hu
theorem statOf_some {S : List StatZ} {l : LitZ} {s : StatZ} (h : statOf S l = some s) : s ∈ S ∧ s.1 = predOf l := by
  unfold statOf at h
  exact ⟨List.mem_of_find?_eq_some h, of_decide_eq_true (by simpa using List.find?_some h)⟩
theorem statOf_first {l : LitZ} {s : StatZ} : ∀ {S : List StatZ} {i : Nat}, S[i]? = some s → s.1 = predOf l → (∀ (j : Nat) u, j < i → S[j]? = some u → u.1 ≠ predOf l) → statOf S l = some s
  | [], i, h, _, _ => by simp at h
  | a :: S, 0, h, hp, _ => by
    simp at h; subst h
    unfold statOf; rw [List.find?_cons_of_pos]; simpa using hp
  | a :: S, i + 1, h, hp, hno => by
    have h0 := hno 0 a (by omega) rfl
    unfold statOf; rw [List.find?_cons_of_neg (by simpa using h0)]
    exact statOf_first (S := S) (i := i) (by simpa using h) hp fun j u hj hu => hno (j + 1) u (by omega) (by simpa using hu)
theorem Known.rowsFin {S : List StatZ} {ls : List LitZ} (k : Known S ls) (l : LitZ) : finW (rowsW S l) = true := by
  unfold rowsW
  split
  · rename_i s h; exact k.rows s (statOf_some h).1
  · decide
theorem fin_lt {x : Nat} (h : finW x = true) (h0 : zeroW x = false) : 0 < x ∧ x < infW := by
  unfold finW at h; unfold zeroW at h0
  have h1 := of_decide_eq_true h
  have h2 := of_decide_eq_false h0
  omega
/-- One more column. -/
theorem distW_at {S : List StatZ} {l : LitZ} {s : StatZ} (h : statOf S l = some s) (c : Nat) : distW S l c = atLeast (s.2.2.1.getD c 0) := by unfold distW; rw [h]
theorem distW_none {S : List StatZ} {l : LitZ} (h : statOf S l = none) (c : Nat) : distW S l c = oneW := by unfold distW; rw [h]

/-- Is a variable in the i-th literal, a positive one of the set? -/
def boundAt (ls : List LitZ) (inn : List Bool) (v : ByteArray) (i : Nat) : Prop := ∃ l : LitZ, ls[i]? = some l ∧ inn[i]? = some true ∧ l.1 = 1 ∧ v ∈ varsT (termsOf l)
theorem mem_varsT {ts : List TermZ} {v : ByteArray} : v ∈ varsT ts ↔ ∃ (j : Nat) (t : TermZ), ts[j]? = some t ∧ t.1 = 1 ∧ t.2.1 = v := by
  unfold varsT
  rw [List.mem_filterMap]
  constructor
  · rintro ⟨t, ht, e⟩
    obtain ⟨j, hj, rfl⟩ := List.mem_iff_getElem.1 ht
    refine ⟨j, _, List.getElem?_eq_getElem hj, ?_⟩
    split at e
    · rename_i h; cases e; exact ⟨h, rfl⟩
    · cases e
  · rintro ⟨j, t, ht, h1, h2⟩
    exact ⟨t, List.mem_of_getElem? ht, by rw [if_pos h1, h2]⟩
/-- What a literal asks is bound. -/
def standsAt (ls : List LitZ) (inn : List Bool) (i : Nat) : Prop := ∀ l : LitZ, ls[i]? = some l → inn[i]? = some true → l.1 ≠ 1 → ∀ v ∈ varsT (asks l), boundIn ls inn v

/-- The pairs of a set. -/
theorem zip_at {ls : List LitZ} {inn : List Bool} {i : Nat} {l : LitZ} {b : Bool} (h1 : ls[i]? = some l) (h2 : inn[i]? = some b) : (ls.zip inn)[i]? = some (l, b) := by
  rw [List.getElem?_zip_eq_some]; exact ⟨h1, h2⟩
theorem zip_len {ls : List LitZ} {inn : List Bool} (h : inn.length = ls.length) : (ls.zip inn).length = ls.length := by
  rw [List.length_zip, h, Nat.min_self]
theorem spotsL_ok (S : List StatZ) (v : ByteArray) (p : LitZ × Bool) : ∀ x ∈ spotsL S v p, oneW ≤ x ∧ x < infW := fun x hx => by
  unfold spotsL at hx
  split at hx
  · obtain ⟨y, hy, e⟩ := List.mem_filterMap.1 hx
    unfold colsW at hy
    obtain ⟨c, hc, rfl⟩ := List.mem_mapIdx.1 hy
    unfold isVarT at e
    split at e
    · cases e; exact ⟨distW_ge S _ c, distW_lt S _ c⟩
    · cases e
  · cases hx
theorem spotsIn_ok (S : List StatZ) (v : ByteArray) (ps : Pairs) : ∀ x ∈ spotsIn S ps v, oneW ≤ x ∧ x < infW := fun x hx => by
  obtain ⟨p, _, h⟩ := List.mem_flatMap.1 hx
  exact spotsL_ok S v p x h
/-- ... of constants. -/
def constsPart (S : List StatZ) (p : LitZ × Bool) (c : Nat) : List Nat := if p.2 = true ∧ p.1.1 = 1 then ((colsW S p.1).take c).filterMap isConstT else []
theorem constsPart_all (S : List StatZ) {p : LitZ × Bool} {c : Nat} (h : (termsOf p.1).length ≤ c) : constsPart S p c = constsL S p := by
  unfold constsPart constsL
  rw [List.take_of_length_le (by rw [cols_len]; exact h)]
theorem foldl_div_le {s : Nat} (hs : s ≤ infW) : ∀ (xs : List Nat), (∀ x ∈ xs, oneW ≤ x ∧ x < infW) → xs.foldl fdiv s ≤ infW
  | [], _ => hs
  | x :: xs, h => foldl_div_le (fdiv_le hs (Nat.lt_of_lt_of_le (by decide) (h x List.mem_cons_self).1) (h x List.mem_cons_self).2) xs fun y hy => h y (List.mem_cons_of_mem _ hy)
end Go.Proofs.YtomeebimmmfmbaaGreat

/- The document's answer for costs: rows, distinct, is, bound. -/
namespace Go.Proofs.YtomeebimmmfmbaaGreat
open Go.RowKit
set_option linter.unusedVariables false
attribute [local go_sem] run_store_float

def bools (bs : List Bool) : List Value := bs.map Value.bool
theorem CellsAt.bool {w : World} {ao : Option Addr} {bs : List Bool} (h : CellsAt w ao (bools bs)) {k : Nat} {b : Bool} (hk : bs[k]? = some b) : ∃ g off, ao = some ⟨g, off, none⟩ ∧ w.cell? ⟨g, off + k, none⟩ = some (.bool b) :=
  h k _ (by simp [bools, hk])

theorem is_any (k : Int) (s v : ByteArray) (w : World) : Calls Tryz.prog 175 #[termV k s, .string v] w (RetN w fun w' x => x = .bool (decide (k = 1 ∧ s = v))) := by
  by_cases h1 : k = 1
  · by_cases h2 : s = v
    · have hb := str_eq v
      have hd : decide (k = 1 ∧ s = v) = true := decide_eq_true ⟨h1, h2⟩
      rw [hd]
      clear hd
      subst h1; subst h2
      go_enter Tryz.func175, Tryz.ntmps175
      go_wp2
      go_ret
      exact RetN.mk ((Kp.refl w).alloc _) rfl
    · have hb := str_ne h2
      have hd : decide (k = 1 ∧ s = v) = false := decide_eq_false fun e => h2 e.2
      rw [hd]
      have HH := Lib.hid h2
      clear hd h2
      subst h1
      go_enter Tryz.func175, Tryz.ntmps175
      go_wp2
      go_ret
      exact RetN.mk ((Kp.refl w).alloc _) rfl
  · have b1 : (k == 1) = false := by simp [h1]
    have hd : decide (k = 1 ∧ s = v) = false := decide_eq_false fun e => h1 e.1
    rw [hd]
    have HH := Lib.hid h1
    clear hd h1
    go_enter Tryz.func175, Tryz.ntmps175
    go_wp2
    go_ret
    exact RetN.mk ((Kp.refl w).alloc _) rfl

def NoneTo (w0 : World) (q : Nat → Prop) (n : Nat) (iv : Value) (w : World) : Prop := ∃ i : Nat, i ≤ n ∧ iv = .int .i64 i ∧ Hid (∀ j, j < i → ¬ q j) ∧ Hid (Ext w0 w)
theorem none_succ {q : Nat → Prop} {i : Nat} (h : ¬ q i) (hno : ∀ j, j < i → ¬ q j) : ∀ j, j < i + 1 → ¬ q j := fun j hj => by
  by_cases e : j = i
  · subst e; exact h
  · exact hno j (by omega)
open Classical in
set_option maxRecDepth 100000 in
set_option maxHeartbeats 4000000 in
theorem refBound_any (p : ByteArray) (ls : List LitZ) (ha : Option Addr) (hn hcap : Nat) (ba : Option Addr) (n bcap : Nat) (inn : List Bool) (ia : Option Addr) (icap : Nat) (v : ByteArray) (w : World) (G : Nat → Prop) (hbn : n = ls.length) (h : LitsAt w G ba ls) (hf : Fit ls) (hin : inn.length = n) (hI : CellsAt w ia (bools inn)) :
    Calls Tryz.prog 162 #[ruleV p ha hn hcap ba n bcap, .slice ia n icap, .string v] w (RetN w fun w' x => x = .bool (decide (boundIn ls inn v))) := by
  have HN := Lib.hid hbn; have HE := Lib.hid h; have HF := Lib.hid hf; have hl : n ≤ 1048576 := by have := hf.len; omega
  have HI := Lib.hid (And.intro hin hI)
  have HIs := Lib.hid (fun k s W => is_any k s v W)
  clear hbn h hf hin hI
  go_enter Tryz.func162, Tryz.ntmps162
  go_wp2
  obtain ⟨wb, eb⟩ : ∃ wb, w.alloc (.cells #[.string p, .slice ha hn hcap, .slice ba n bcap] 28) = wb := ⟨_, rfl⟩
  rw [eb]
  have HB := Lib.hid (Blk.new w [.string p, .slice ha hn hcap, .slice ba n bcap] 28)
  have HX := Lib.hid ((Kp.refl (F := fun _ => False) w).alloc (.cells #[.string p, .slice ha hn hcap, .slice ba n bcap] 28))
  have eb2 : w.alloc (.cells [Value.string p, .slice ha hn hcap, .slice ba n bcap].toArray 28) = wb := eb
  rw [eb2] at HB
  rw [eb] at HX
  clear eb eb2
  go_loopw [7] (fun iv wr => NoneTo wb (boundAt ls inn v) n iv wr) (fun iv _ => n - (intOf iv).toNat)
  case atStart => exact ⟨0, Nat.zero_le _, rfl, fun j hj => by omega, Kp.refl _⟩
  case round =>
    obtain ⟨i, hi, rfl, hno, hex⟩ := hrel
    have b2 : wr.cell? ⟨w.heap.size, 2, none⟩ = some (.slice ba n bcap) := by rw [(HB.out.ext hex.out).cell']; rfl
    by_cases hlt : i < n
    · obtain ⟨bi, ebi⟩ : ∃ bi, inn[i]? = some bi := ⟨_, List.getElem?_eq_getElem (by have := HI.out.1; omega)⟩
      have XR := Lib.hid (HX.out.trans hex.out)
      have hltl : i < ls.length := by rw [← HN.out]; exact hlt
      obtain ⟨l, hli⟩ : ∃ l, ls[i]? = some l := ⟨_, List.getElem?_eq_getElem hltl⟩
      obtain ⟨b, off, a2, cap2, eao, hG, hb, hL, c0, c1, c2, c3, c4, c5, c6, c7⟩ := lit_at HE.out hli
      subst eao
      replace c0 := XR.out.cell c0 id
      replace c1 := XR.out.cell c1 id
      replace c2 := XR.out.cell c2 id
      replace c3 := XR.out.cell c3 id
      replace c4 := XR.out.cell c4 id
      replace c5 := XR.out.cell c5 id
      replace c6 := XR.out.cell c6 id
      replace c7 := XR.out.cell c7 id
      obtain ⟨mm, emm⟩ : ∃ mm, mm = (termsOf l).length := ⟨_, rfl⟩
      rw [← emm] at c2
      have hmm : mm ≤ 1048576 := by rw [emm]; exact HF.out.terms l (List.mem_of_getElem? hli)
      obtain ⟨k, ek⟩ : ∃ k, k = l.1 := ⟨_, rfl⟩
      rw [← ek] at c0
      clear hltl hG hb
      have HL := Lib.hid (And.intro hli (And.intro emm (And.intro ek hL)))
      have HBI := Lib.hid ebi
      clear hli emm ek hL ebi c0 c1 c2 c3 c4 c5 c6 c7
      go_wp2
      clear b2
      go_loopw [8] (fun iv wr => NoneTo wb (fun j => bi = true ∧ k = 1 ∧ ∃ t : TermZ, (termsOf l)[j]? = some t ∧ t.1 = 1 ∧ t.2.1 = v) mm iv wr) (fun iv _ => mm - (intOf iv).toNat)
      case atStart => exact ⟨0, Nat.zero_le _, rfl, fun j hj => by omega, hex⟩
      case round =>
        obtain ⟨c, hc, rfl, hno2, hex2⟩ := hrel
        have b2 : wr.cell? ⟨w.heap.size, 2, none⟩ = some (.slice (some ⟨b, off, none⟩) n bcap) := by rw [(HB.out.ext hex2.out).cell']; rfl
        have X2 := Lib.hid (HX.out.trans hex2.out)
        obtain ⟨ib, ioff, eia, d0⟩ := (HI.out.2.ext X2.out).bool HBI.out
        subst eia
        obtain ⟨_, _, _, _, e0, _, _, _, c0, _, c2, _⟩ := lit_at HE.out HL.out.1
        cases e0
        replace c0 := X2.out.cell c0 id
        rw [← HL.out.2.2.1] at c0
        cases bi
        · go_wp2
          go_roundw
          case rel =>
            refine ⟨i + 1, by omega, by first | rfl | (congr 1; done) | (congr 1; omega), none_succ ?_ hno.out, hex2⟩
            rintro ⟨l', h1, h2, _⟩
            rw [HBI.out] at h2; cases h2
          case measure => simp [intOf]; omega
        · by_cases h1 : k = 1
          · by_cases hlt2 : c < mm
            · obtain ⟨t, ht⟩ : ∃ t, (termsOf l)[c]? = some t := ⟨_, List.getElem?_eq_getElem (by rw [← HL.out.2.1]; exact hlt2)⟩
              obtain ⟨_, _, a3, cap3, e0, _, _, hL3, _, _, c2', _⟩ := lit_at HE.out HL.out.1
              cases e0
              replace c2 := X2.out.cell c2' id
              rw [← HL.out.2.1] at c2
              obtain ⟨bt, offt, eaot, f0, f1, _⟩ := term_at (hL3.terms.ext X2.out) ht
              subst eaot
              obtain ⟨kt, st, ⟨⟩⟩ := t
              simp only at f0 f1
              have HT := Lib.hid (And.intro ht h1)
              clear ht hL3 c2'
              subst h1
              go_wp2_with fail
              refine (HIs.out _ _ _).mono ?_
              rintro e w1 ⟨x, rfl, hk1, rfl⟩
              have X3 := Lib.hid (hex2.out.trans hk1)
              clear hk1 c0 c2 f0 f1 d0 b2
              by_cases hh : kt = 1 ∧ st = v
              · rw [decide_eq_true hh]
                have HH := Lib.hid hh; clear hh
                go_wp2
                go_ret
                exact RetN.mk (HX.out.trans X3.out) (congrArg Value.bool (decide_eq_true ⟨i, l, HL.out.1, HBI.out, HL.out.2.2.1.symm, mem_varsT.2 ⟨c, _, HT.out.1, HH.out.1, HH.out.2⟩⟩).symm)
              · rw [decide_eq_false hh]
                have HH := Lib.hid hh; clear hh
                go_wp2
                go_roundw
                case rel =>
                  refine ⟨c + 1, by omega, by first | rfl | (congr 1; done) | (congr 1; omega), none_succ ?_ hno2.out, X3⟩
                  rintro ⟨_, _, t, ht, q1, q2⟩
                  rw [HT.out.1] at ht; cases ht
                  exact HH.out ⟨q1, q2⟩
                case measure => simp [intOf]; omega
            · have HA := Lib.hid hno2.out
              obtain ⟨_, _, a3, cap3, e0, _, _, hL3, _, _, c2', _⟩ := lit_at HE.out HL.out.1
              cases e0
              replace c2 := X2.out.cell c2' id
              rw [← HL.out.2.1] at c2
              have H1 := Lib.hid h1
              subst h1
              clear hL3 c2' hno2
              have hcm : ¬ (c : Int) < (mm : Int) := by omega
              go_wp2
              go_roundw
              case rel =>
                refine ⟨i + 1, by omega, by first | rfl | (congr 1; done) | (congr 1; omega), none_succ ?_ hno.out, hex2⟩
                rintro ⟨l', q1, q2, q3, q4⟩
                rw [HL.out.1] at q1; cases q1
                obtain ⟨j, t, ht, r1, r2⟩ := mem_varsT.1 q4
                have := (List.getElem?_eq_some_iff.1 ht).1
                have := HL.out.2.1
                exact HA.out j (by omega) ⟨rfl, rfl, t, ht, r1, r2⟩
              case measure => simp [intOf]; omega
          · have n1 : (k == 1) = false := by simp [h1]
            have HH := Lib.hid h1; clear h1
            go_wp2
            go_roundw
            case rel =>
              refine ⟨i + 1, by omega, by first | rfl | (congr 1; done) | (congr 1; omega), none_succ ?_ hno.out, hex2⟩
              rintro ⟨l', q1, q2, q3, q4⟩
              rw [HL.out.1] at q1; cases q1
              exact HH.out (HL.out.2.2.1.trans q3)
            case measure => simp [intOf]; omega
    · have ha : ¬ boundIn ls inn v := by
        rintro ⟨j, l, q1, q2, q3, q4⟩
        exact hno.out j (by have := (List.getElem?_eq_some_iff.1 q1).1; have := HN.out; omega) ⟨l, q1, q2, q3, q4⟩
      have HA := Lib.hid ha
      clear ha hno
      go_wp2
      go_ret
      exact RetN.mk (HX.out.trans hex.out) (congrArg Value.bool (decide_eq_false HA.out).symm)
end Go.Proofs.YtomeebimmmfmbaaGreat

/- The document's answer for costs: Stands. -/
namespace Go.Proofs.YtomeebimmmfmbaaGreat
open Go.RowKit
set_option linter.unusedVariables false

theorem stands_iff {ls : List LitZ} {inn : List Bool} : stands ls inn ↔ ∀ i, standsAt ls inn i := ⟨fun h i l h1 h2 h3 v hv => h i l h1 h2 h3 v hv, fun h i l h1 h2 h3 v hv => h i l h1 h2 h3 v hv⟩
def AllAt (w0 : World) (q : Nat → Prop) (n : Nat) (iv : Value) (w : World) : Prop := ∃ i : Nat, i ≤ n ∧ iv = .int .i64 i ∧ Hid (∀ j, j < i → q j) ∧ Hid (Ext w0 w)
theorem allAt_succ {q : Nat → Prop} {i : Nat} (h : q i) (hno : ∀ j, j < i → q j) : ∀ j, j < i + 1 → q j := fun j hj => by
  by_cases e : j = i
  · subst e; exact h
  · exact hno j (by omega)
/-- The j-th of these terms is no variable that is not bound. -/
def termBound (ls : List LitZ) (inn : List Bool) (ts : List TermZ) (j : Nat) : Prop := ∀ t : TermZ, ts[j]? = some t → t.1 = 1 → boundIn ls inn t.2.1

open Classical in
set_option maxRecDepth 100000 in
set_option maxHeartbeats 8000000 in
theorem refStands_any (p : ByteArray) (ls : List LitZ) (ha : Option Addr) (hn hcap : Nat) (ba : Option Addr) (n bcap : Nat) (inn : List Bool) (ia : Option Addr) (icap : Nat) (w : World) (G : Nat → Prop) (hbn : n = ls.length) (h : LitsAt w G ba ls) (hf : Fit ls) (hin : inn.length = n) (hI : CellsAt w ia (bools inn)) :
    Calls Tryz.prog 141 #[ruleV p ha hn hcap ba n bcap, .slice ia n icap] w (RetN w fun w' x => x = .bool (decide (stands ls inn))) := by
  have HN := Lib.hid hbn; have HE := Lib.hid h; have HF := Lib.hid hf; have hl : n ≤ 1048576 := by have := hf.len; omega
  have HI := Lib.hid (And.intro hin hI)
  have HBound := Lib.hid (fun (v : ByteArray) (W : World) (hW : Ext w W) => refBound_any p ls ha hn hcap ba n bcap inn ia icap v W G hbn (h.ext hW) hf hin (hI.ext hW))
  clear hbn h hf hin hI
  go_enter Tryz.func141, Tryz.ntmps141
  go_wp2
  obtain ⟨wb, eb⟩ : ∃ wb, w.alloc (.cells #[.string p, .slice ha hn hcap, .slice ba n bcap] 28) = wb := ⟨_, rfl⟩
  rw [eb]
  have HB := Lib.hid (Blk.new w [.string p, .slice ha hn hcap, .slice ba n bcap] 28)
  have HX := Lib.hid ((Kp.refl (F := fun _ => False) w).alloc (.cells #[.string p, .slice ha hn hcap, .slice ba n bcap] 28))
  have eb2 : w.alloc (.cells [Value.string p, .slice ha hn hcap, .slice ba n bcap].toArray 28) = wb := eb
  rw [eb2] at HB
  rw [eb] at HX
  clear eb eb2
  go_loopw [5] (fun iv wr => AllAt wb (standsAt ls inn) n iv wr) (fun iv _ => n - (intOf iv).toNat)
  case atStart => exact ⟨0, Nat.zero_le _, rfl, fun j hj => by omega, Kp.refl _⟩
  case round =>
    obtain ⟨i, hi, rfl, hall, hex⟩ := hrel
    have b2 : wr.cell? ⟨w.heap.size, 2, none⟩ = some (.slice ba n bcap) := by rw [(HB.out.ext hex.out).cell']; rfl
    by_cases hlt : i < n
    · obtain ⟨bi, ebi⟩ : ∃ bi, inn[i]? = some bi := ⟨_, List.getElem?_eq_getElem (by have := HI.out.1; omega)⟩
      have XR := Lib.hid (HX.out.trans hex.out)
      obtain ⟨ib, ioff, eia, d0⟩ := (HI.out.2.ext XR.out).bool ebi
      subst eia
      have hltl : i < ls.length := by rw [← HN.out]; exact hlt
      obtain ⟨l, hli⟩ : ∃ l, ls[i]? = some l := ⟨_, List.getElem?_eq_getElem hltl⟩
      obtain ⟨b, off, a2, cap2, eao, hG, hb, hL, c0, c1, c2, c3, c4, c5, c6, c7⟩ := lit_at HE.out hli
      subst eao
      replace c0 := XR.out.cell c0 id
      replace c1 := XR.out.cell c1 id
      replace c2 := XR.out.cell c2 id
      replace c3 := XR.out.cell c3 id
      replace c4 := XR.out.cell c4 id
      replace c5 := XR.out.cell c5 id
      replace c6 := XR.out.cell c6 id
      replace c7 := XR.out.cell c7 id
      obtain ⟨mm, emm⟩ : ∃ mm, mm = (termsOf l).length := ⟨_, rfl⟩
      rw [← emm] at c2
      have hmm : mm ≤ 1048576 := by rw [emm]; exact HF.out.terms l (List.mem_of_getElem? hli)
      obtain ⟨k, ek⟩ : ∃ k, k = l.1 := ⟨_, rfl⟩
      rw [← ek] at c0
      clear hltl hG hb
      obtain ⟨o, eo⟩ : ∃ o, o = opOf l := ⟨_, rfl⟩
      rw [← eo] at c3
      obtain ⟨lk, elk⟩ : ∃ lk, lk = (leftOf l).1 := ⟨_, rfl⟩
      rw [← elk] at c4
      obtain ⟨lt, elt⟩ : ∃ lt, lt = (leftOf l).2.1 := ⟨_, rfl⟩
      rw [← elt] at c5
      obtain ⟨rk, erk⟩ : ∃ rk, rk = (rightOf l).1 := ⟨_, rfl⟩
      rw [← erk] at c6
      obtain ⟨rt, ert⟩ : ∃ rt, rt = (rightOf l).2.1 := ⟨_, rfl⟩
      rw [← ert] at c7
      have eleft : leftOf l = (lk, lt, ()) := by rw [elk, elt]
      have eright : rightOf l = (rk, rt, ()) := by rw [erk, ert]
      generalize predOf l = s1 at c1
      have HL := Lib.hid (And.intro hli (And.intro emm (And.intro ek (And.intro hL (And.intro eleft eright)))))
      have HBI := Lib.hid ebi
      have HK1 := Lib.hid (And.intro (show (Lit.int .i64 lk).wf = true ∧ lt.size ≤ maxLen by have := hL.left; rw [eleft] at this; exact this) (show (Lit.int .i64 rk).wf = true ∧ rt.size ≤ maxLen by have := hL.right; rw [eright] at this; exact this))
      clear hli emm ek hL ebi eo elk elt erk ert eleft eright
      have d1 : (wr.alloc (.cells #[.int .i64 k, .string s1, .slice a2 mm cap2, .int .i64 o, .int .i64 lk, .string lt, .int .i64 rk, .string rt] 97)).cell? ⟨ib, ioff + i, none⟩ = some (.bool bi) := ((Kp.refl (F := fun _ => False) wr).alloc _).cell d0 id
      by_cases hgo : bi = true ∧ k ≠ 1
      · obtain ⟨hbt, hk1⟩ := hgo
        subst hbt
        have n1 : (k == 1) = false := by simp [hk1]
        have HKN := Lib.hid hk1; clear hk1
        -- the terms that are looked at: in W2 at ta
        have key : ∀ (W2 : World) (ta : Option Addr) (tn tcap : Nat) (ts : List TermZ), Ext wb W2 → (∃ G', TermsAt W2 G' ta ts) → tn = ts.length → tn ≤ 1048576 → asks l = ts → True := fun _ _ _ _ _ _ _ _ _ _ => trivial
        clear key
        by_cases h2 : k = 2
        · have n2 : (k == 2) = true := by simp [h2]
          have hts : asks l = termsOf l := by unfold asks; rw [if_pos (HL.out.2.2.1.symm.trans h2)]
          have HTS := Lib.hid hts
          have H2 := Lib.hid h2
          clear h2 hts
          go_wp2
          clear c0 c1 c2 c3 c4 c5 c6 c7 d0 d1 b2
          go_loopw [8] (fun iv wr => AllAt wb (termBound ls inn (termsOf l)) mm iv wr) (fun iv _ => mm - (intOf iv).toNat)
          case atStart => exact ⟨0, Nat.zero_le _, rfl, fun j hj => by omega, (hex.out.alloc _).alloc _⟩
          case round =>
            obtain ⟨c, hc, rfl, hall2, hex2⟩ := hrel
            have X2 := Lib.hid (HX.out.trans hex2.out)
            have r0 : wr.cell? ⟨w.heap.size, 0, none⟩ = some (.string p) := by rw [(HB.out.ext hex2.out).cell']; rfl
            have r1 : wr.cell? ⟨w.heap.size, 1, none⟩ = some (.slice ha hn hcap) := by rw [(HB.out.ext hex2.out).cell']; rfl
            have r2 : wr.cell? ⟨w.heap.size, 2, none⟩ = some (.slice (some ⟨b, off, none⟩) n bcap) := by rw [(HB.out.ext hex2.out).cell']; rfl
            by_cases hlt2 : c < mm
            · obtain ⟨t, ht⟩ : ∃ t, (termsOf l)[c]? = some t := ⟨_, List.getElem?_eq_getElem (by rw [← HL.out.2.1]; exact hlt2)⟩
              obtain ⟨bt, offt, eaot, f0, f1, _⟩ := term_at (HL.out.2.2.2.1.terms.ext X2.out) ht
              subst eaot
              obtain ⟨kt, st, ⟨⟩⟩ := t
              simp only at f0 f1
              have HT := Lib.hid ht
              clear ht
              by_cases hkt : kt = 1
              · have m1 : (kt == 1) = true := by simp [hkt]
                have HKT := Lib.hid hkt
                subst hkt
                go_wp2
                go_still_tail 14, (by kernel_rfl)
                go_wp2_with fail
                refine (HBound.out _ _ X2.out.drew).mono ?_
                rintro e w1 ⟨x, rfl, hk1, rfl⟩
                have X3 := Lib.hid (hex2.out.drew.trans hk1)
                clear hk1 f0 f1 r0 r1 r2
                by_cases hh : boundIn ls inn st
                · rw [decide_eq_true hh]
                  have HH := Lib.hid hh; clear hh
                  go_wp2
                  go_roundw
                  case rel => exact ⟨c + 1, by omega, by first | rfl | (congr 1; done) | (congr 1; omega), allAt_succ (fun t ht _ => by rw [HT.out] at ht; cases ht; exact HH.out) hall2.out, X3⟩
                  case measure => simp [intOf]; omega
                · rw [decide_eq_false hh]
                  have HH := Lib.hid hh; clear hh
                  go_wp2
                  go_ret
                  refine RetN.mk (HX.out.trans X3.out) (congrArg Value.bool (decide_eq_false fun hs => HH.out ?_).symm)
                  exact hs i l HL.out.1 HBI.out (fun e => HKN.out (HL.out.2.2.1.trans e)) st (by rw [HTS.out]; exact mem_varsT.2 ⟨c, _, HT.out, rfl, rfl⟩)
              · have m1 : (kt == 1) = false := by simp [hkt]
                have HKT := Lib.hid hkt
                clear hkt
                go_wp2
                go_quiet (fail)
                go_wp2
                go_roundw
                case rel => exact ⟨c + 1, by omega, by first | rfl | (congr 1; done) | (congr 1; omega), allAt_succ (fun t ht h1 => by rw [HT.out] at ht; cases ht; exact absurd h1 HKT.out) hall2.out, hex2.out.drewN _⟩
                case measure => simp [intOf]; omega
            · have HA := Lib.hid hall2.out
              have hcm : ¬ (c : Int) < (mm : Int) := by omega
              clear hall2
              go_wp2
              go_roundw
              case rel =>
                refine ⟨i + 1, by omega, by first | rfl | (congr 1; done) | (congr 1; omega), allAt_succ ?_ hall.out, hex2⟩
                intro l' q1 q2 q3 v hv
                rw [HL.out.1] at q1; cases q1
                rw [HTS.out] at hv
                obtain ⟨j, t, ht, t1, rfl⟩ := mem_varsT.1 hv
                exact HA.out j (by have := (List.getElem?_eq_some_iff.1 ht).1; have := HL.out.2.1; omega) t ht t1
              case measure => simp [intOf]; omega
        · have n2 : (k == 2) = false := by simp [h2]
          have hts : asks l = [(lk, lt, ()), (rk, rt, ())] := by unfold asks; rw [if_neg (fun e => h2 (HL.out.2.2.1.trans e)), HL.out.2.2.2.2.1, HL.out.2.2.2.2.2]
          have HTS := Lib.hid hts
          have H2 := Lib.hid h2
          clear h2 hts
          obtain ⟨wy, ewy⟩ : ∃ wy, wr.alloc (.cells #[.int .i64 k, .string s1, .slice a2 mm cap2, .int .i64 o, .int .i64 lk, .string lt, .int .i64 rk, .string rt] 97) = wy := ⟨_, rfl⟩
          have hy : Ext wr wy := by rw [← ewy]; exact (Kp.refl wr).alloc _
          have hsz : wy.heap.size = wr.heap.size + 1 := by rw [← ewy, alloc_size]
          have htw := terms_two wy lk lt rk rt HK1.out.1.1 HK1.out.2.1 HK1.out.1.2 HK1.out.2.2 94
          have HTW := Lib.hid (And.intro htw (And.intro hy (And.intro hsz ewy)))
          clear htw hy hsz ewy
          go_wp2
          rw [HTW.out.2.2.2]
          clear c0 c1 c2 c3 c4 c5 c6 c7 d0 d1 b2
          obtain ⟨g2, eg2⟩ : ∃ g2, g2 = wr.heap.size + 1 := ⟨_, rfl⟩
          rw [← eg2]
          have HT2 := Lib.hid (show TermsAt (wy.alloc (.cells #[.int .i64 lk, .string lt, .int .i64 rk, .string rt] 94)) (fun _ => True) (some ⟨g2, 0, none⟩) [(lk, lt, ()), (rk, rt, ())] by
            have h := HTW.out.1; rw [HTW.out.2.2.1, ← eg2] at h; exact h)
          have HX2 := Lib.hid (show Ext wb (wy.alloc (.cells #[.int .i64 lk, .string lt, .int .i64 rk, .string rt] 94)) from (hex.out.trans HTW.out.2.1).alloc _)
          clear eg2
          generalize wy.alloc (.cells #[.int .i64 lk, .string lt, .int .i64 rk, .string rt] 94) = wz at *
          go_loopw [8] (fun iv wr => AllAt wz (termBound ls inn [(lk, lt, ()), (rk, rt, ())]) 2 iv wr) (fun iv _ => 2 - (intOf iv).toNat)
          case atStart => exact ⟨0, Nat.zero_le _, rfl, fun j hj => by omega, Kp.refl _⟩
          case round =>
            obtain ⟨c, hc, rfl, hall2, hex2⟩ := hrel
            have X2 := Lib.hid (HX.out.trans (HX2.out.trans hex2.out))
            have r0 : wr.cell? ⟨w.heap.size, 0, none⟩ = some (.string p) := by rw [(HB.out.ext (HX2.out.trans hex2.out)).cell']; rfl
            have r1 : wr.cell? ⟨w.heap.size, 1, none⟩ = some (.slice ha hn hcap) := by rw [(HB.out.ext (HX2.out.trans hex2.out)).cell']; rfl
            have r2 : wr.cell? ⟨w.heap.size, 2, none⟩ = some (.slice (some ⟨b, off, none⟩) n bcap) := by rw [(HB.out.ext (HX2.out.trans hex2.out)).cell']; rfl
            by_cases hlt2 : c < 2
            · obtain ⟨t, ht⟩ : ∃ t, ([(lk, lt, ()), (rk, rt, ())] : List TermZ)[c]? = some t := ⟨_, List.getElem?_eq_getElem (by simpa using hlt2)⟩
              obtain ⟨bt, offt, eaot, f0, f1, _⟩ := term_at (HT2.out.ext hex2.out) ht
              cases eaot
              obtain ⟨kt, st, ⟨⟩⟩ := t
              simp only [Nat.zero_add] at f0 f1
              have HT := Lib.hid ht
              clear ht
              by_cases hkt : kt = 1
              · have m1 : (kt == 1) = true := by simp [hkt]
                have HKT := Lib.hid hkt
                subst hkt
                go_wp2
                go_still_tail 14, (by kernel_rfl)
                go_wp2_with fail
                refine (HBound.out _ _ X2.out.drew).mono ?_
                rintro e w1 ⟨x, rfl, hk1, rfl⟩
                have X3 := Lib.hid (hex2.out.drew.trans hk1)
                clear hk1 f0 f1 r0 r1 r2
                by_cases hh : boundIn ls inn st
                · rw [decide_eq_true hh]
                  have HH := Lib.hid hh; clear hh
                  go_wp2
                  go_roundw
                  case rel => exact ⟨c + 1, by omega, by first | rfl | (congr 1; done) | (congr 1; omega), allAt_succ (fun t ht _ => by rw [HT.out] at ht; cases ht; exact HH.out) hall2.out, X3⟩
                  case measure => simp [intOf]; omega
                · rw [decide_eq_false hh]
                  have HH := Lib.hid hh; clear hh
                  go_wp2
                  go_ret
                  refine RetN.mk (HX.out.trans (HX2.out.trans X3.out)) (congrArg Value.bool (decide_eq_false fun hs => HH.out ?_).symm)
                  exact hs i l HL.out.1 HBI.out (fun e => HKN.out (HL.out.2.2.1.trans e)) st (by rw [HTS.out]; exact mem_varsT.2 ⟨c, _, HT.out, rfl, rfl⟩)
              · have m1 : (kt == 1) = false := by simp [hkt]
                have HKT := Lib.hid hkt
                clear hkt
                go_wp2
                go_quiet (fail)
                go_wp2
                go_roundw
                case rel => exact ⟨c + 1, by omega, by first | rfl | (congr 1; done) | (congr 1; omega), allAt_succ (fun t ht h1 => by rw [HT.out] at ht; cases ht; exact absurd h1 HKT.out) hall2.out, hex2.out.drewN _⟩
                case measure => simp [intOf]; omega
            · have HA := Lib.hid hall2.out
              have hcm : ¬ (c : Int) < 2 := by omega
              clear hall2
              go_wp2
              go_roundw
              case rel =>
                refine ⟨i + 1, by omega, by first | rfl | (congr 1; done) | (congr 1; omega), allAt_succ ?_ hall.out, HX2.out.trans hex2.out⟩
                intro l' q1 q2 q3 v hv
                rw [HL.out.1] at q1; cases q1
                rw [HTS.out] at hv
                obtain ⟨j, t, ht, t1, rfl⟩ := mem_varsT.1 hv
                exact HA.out j (by have := (List.getElem?_eq_some_iff.1 ht).1; simp at this; omega) t ht t1
              case measure => simp [intOf]; omega
      · have hat : standsAt ls inn i := by
          intro l' q1 q2 q3 v hv
          rw [HL.out.1] at q1; cases q1
          rw [HBI.out] at q2
          exact absurd ⟨by simpa using q2, fun e => q3 (HL.out.2.2.1.symm.trans e)⟩ hgo
        have HAt := Lib.hid hat
        clear hat
        cases bi
        · clear hgo
          go_wp2
          go_roundw
          case rel => exact ⟨i + 1, by omega, by first | rfl | (congr 1; done) | (congr 1; omega), allAt_succ HAt.out hall.out, hex.out.alloc _⟩
          case measure => simp [intOf]; omega
        · obtain rfl : k = 1 := Decidable.byContradiction fun e => hgo ⟨rfl, e⟩
          clear hgo
          go_wp2
          go_roundw
          case rel => exact ⟨i + 1, by omega, by first | rfl | (congr 1; done) | (congr 1; omega), allAt_succ HAt.out hall.out, hex.out.alloc _⟩
          case measure => simp [intOf]; omega
    · have ha : stands ls inn := stands_iff.2 fun j l q1 => hall.out j (by have := (List.getElem?_eq_some_iff.1 q1).1; have := HN.out; omega) l q1
      have HA := Lib.hid ha
      clear ha hall
      go_wp2
      go_ret
      exact RetN.mk (HX.out.trans hex.out) (congrArg Value.bool (decide_eq_true HA.out).symm)
end Go.Proofs.YtomeebimmmfmbaaGreat

/- The document's answer for costs: shared. -/
namespace Go.Proofs.YtomeebimmmfmbaaGreat
open Go.RowKit
set_option linter.unusedVariables false
attribute [local go_sem] run_store_float

theorem elem_flt : ElemT Tryz.prog 46 45 1 8 (.float .f64 0) := ⟨by kernel_rfl, by kernel_rfl, rfl, by decide⟩
theorem flts_snoc (xs : List Nat) (d : Nat) : flts xs ++ [.float .f64 d] = flts (xs ++ [d]) := by simp [flts]
theorem div_run {s d : Nat} (hs : s ≤ infW) (hd : oneW ≤ d) (hd' : d < infW) (t : TypeId) (W : World) : (binOp .quo t (.float .f64 s) (.float .f64 d)).run Tryz.prog W = .ok (.float .f64 (fdiv s d)) W :=
  run_float_arith W .quo t .f64 s d _ (fdiv_eq hs (Nat.lt_of_lt_of_le (by decide) hd) hd')
theorem mul_run {s d : Nat} (hs : s ≤ infW) (hd : 0 < d) (hd' : d < infW) (t : TypeId) (W : World) : (binOp .mul t (.float .f64 s) (.float .f64 d)).run Tryz.prog W = .ok (.float .f64 (fmul s d)) W :=
  run_float_arith W .mul t .f64 s d _ (fmul_eq hs hd hd')
theorem add_run {s d : Nat} (hs : s ≤ infW) (hd : d ≤ infW) (t : TypeId) (W : World) : (binOp .add t (.float .f64 s) (.float .f64 d)).run Tryz.prog W = .ok (.float .f64 (fadd s d)) W :=
  run_float_arith W .add t .f64 s d _ (fadd_eq hs hd)
def DivTo (w0 : World) (k : Nat) (L : List Nat) (s : Nat) (n : Nat) (iv sv : Value) (w : World) : Prop := ∃ i x : Nat, i ≤ n ∧ iv = .int .i64 i ∧ sv = .float .f64 x ∧ Hid (x = divAll k L s i) ∧ Hid (Ext w0 w)
end Go.Proofs.YtomeebimmmfmbaaGreat

/- A guess, stage by stage. No program in sight. -/
namespace Go.Proofs.YtomeebimmmfmbaaGreat
set_option linter.unusedVariables false

/-- A positive literal of the set has rows. -/
def rowsOk (S : List StatZ) (ps : Pairs) : Prop := ∀ p ∈ ps, p.2 = true → p.1.1 = 1 → 0 < rowsW S p.1 ∧ rowsW S p.1 < infW
def mulTo (S : List StatZ) (ps : Pairs) (i : Nat) : Nat := (ps.take i).foldl (mulRows S) oneW
def sharTo (S : List StatZ) (ps : Pairs) (N : List ByteArray) (s i : Nat) : Nat := (N.take i).foldl (fun s v => sharedW (spotsIn S ps v) s) s
def constTo (S : List StatZ) (ps : Pairs) (s i : Nat) : Nat := (constsIn S (ps.take i)).foldl fdiv s
def shareTo (ps : Pairs) (s i : Nat) : Nat := (ps.take i).foldl mulShare s

theorem mulTo_succ (S : List StatZ) {ps : Pairs} {i : Nat} {p : LitZ × Bool} (h : ps[i]? = some p) : mulTo S ps (i + 1) = mulRows S (mulTo S ps i) p := fold_take _ _ h
theorem sharTo_succ (S : List StatZ) (ps : Pairs) {N : List ByteArray} {s i : Nat} {v : ByteArray} (h : N[i]? = some v) : sharTo S ps N s (i + 1) = sharedW (spotsIn S ps v) (sharTo S ps N s i) := fold_take _ _ h
theorem shareTo_succ {ps : Pairs} {s i : Nat} {p : LitZ × Bool} (h : ps[i]? = some p) : shareTo ps s (i + 1) = mulShare (shareTo ps s i) p := fold_take _ _ h
theorem mulRows_le {S : List StatZ} {s : Nat} {p : LitZ × Bool} (hs : s ≤ infW) (hp : p.2 = true → p.1.1 = 1 → 0 < rowsW S p.1 ∧ rowsW S p.1 < infW) : mulRows S s p ≤ infW := by
  unfold mulRows
  split
  · rename_i h; exact fmul_le hs (hp h.1 h.2).1 (hp h.1 h.2).2
  · exact hs
theorem foldMul_le {S : List StatZ} : ∀ (ps : Pairs) (s : Nat), s ≤ infW → rowsOk S ps → ps.foldl (mulRows S) s ≤ infW
  | [], s, hs, _ => hs
  | p :: ps, s, hs, h => foldMul_le ps _ (mulRows_le hs (h p List.mem_cons_self)) fun q hq => h q (List.mem_cons_of_mem _ hq)
theorem mulTo_le {S : List StatZ} {ps : Pairs} (h : rowsOk S ps) (i : Nat) : mulTo S ps i ≤ infW := foldMul_le _ _ (by decide) fun p hp => h p (List.mem_of_mem_take hp)
theorem sharedW_le {L : List Nat} (hL : ∀ x ∈ L, oneW ≤ x ∧ x < infW) {s : Nat} (hs : s ≤ infW) : sharedW L s ≤ infW := divAll_le hL _ hs _ (Nat.le_refl _)
theorem foldShar_le (S : List StatZ) (ps : Pairs) : ∀ (N : List ByteArray) (s : Nat), s ≤ infW → N.foldl (fun s v => sharedW (spotsIn S ps v) s) s ≤ infW
  | [], s, hs => hs
  | v :: N, s, hs => foldShar_le S ps N _ (sharedW_le (spotsIn_ok S v ps) hs)
theorem sharTo_le (S : List StatZ) (ps : Pairs) (N : List ByteArray) {s : Nat} (hs : s ≤ infW) (i : Nat) : sharTo S ps N s i ≤ infW := foldShar_le _ _ _ _ hs
theorem constsPart_ok (S : List StatZ) (p : LitZ × Bool) (c : Nat) : ∀ x ∈ constsPart S p c, oneW ≤ x ∧ x < infW := fun x hx => by
  unfold constsPart at hx
  split at hx
  · obtain ⟨y, hy, e⟩ := List.mem_filterMap.1 hx
    have hy := List.mem_of_mem_take hy
    unfold colsW at hy
    obtain ⟨c, hc, rfl⟩ := List.mem_mapIdx.1 hy
    unfold isConstT at e
    split at e
    · cases e; exact ⟨distW_ge S _ c, distW_lt S _ c⟩
    · cases e
  · cases hx
theorem constsIn_ok (S : List StatZ) (ps : Pairs) : ∀ x ∈ constsIn S ps, oneW ≤ x ∧ x < infW := fun x hx => by
  obtain ⟨p, _, h⟩ := List.mem_flatMap.1 hx
  rw [← constsPart_all S (Nat.le_refl _)] at h
  exact constsPart_ok S p _ x h
theorem constTo_le (S : List StatZ) (ps : Pairs) {s : Nat} (hs : s ≤ infW) (i : Nat) : constTo S ps s i ≤ infW := foldl_div_le hs _ (constsIn_ok S _)
theorem mulShare_le {s : Nat} {p : LitZ × Bool} (hs : s ≤ infW) : mulShare s p ≤ infW := by
  unfold mulShare
  split
  · exact fmul_le hs (shareW_pos _).1 (shareW_pos _).2
  · exact hs
theorem foldShare_le : ∀ (ps : Pairs) (s : Nat), s ≤ infW → ps.foldl mulShare s ≤ infW
  | [], s, hs => hs
  | p :: ps, s, hs => foldShare_le ps _ (mulShare_le hs)
theorem shareTo_le (ps : Pairs) {s : Nat} (hs : s ≤ infW) (i : Nat) : shareTo ps s i ≤ infW := foldShare_le _ _ hs
/-- The whole of it. -/
theorem guessW_eq {S : List StatZ} {ls : List LitZ} {inn : List Bool} (hz : zeroIn S (ls.zip inn) = false) {n m : Nat} (hn : (ls.zip inn).length ≤ n) (hm : (namesB ls).length ≤ m) :
    guessW S ls inn = shareTo (ls.zip inn) (constTo S (ls.zip inn) (sharTo S (ls.zip inn) (namesB ls) (mulTo S (ls.zip inn) n) m) n) n := by
  unfold guessW shareTo constTo sharTo mulTo
  rw [if_neg (by rw [hz]; decide), List.take_of_length_le hn, List.take_of_length_le hm]
theorem guessW_zero {S : List StatZ} {ls : List LitZ} {inn : List Bool} {i : Nat} {l : LitZ} (h : (ls.zip inn)[i]? = some (l, true)) (h1 : l.1 = 1) (hz : zeroW (rowsW S l) = true) : guessW S ls inn = 0 := by
  unfold guessW
  rw [if_pos]
  unfold zeroIn
  rw [List.any_eq_true]
  exact ⟨_, List.mem_of_getElem? h, by simp [h1, hz]⟩
/-- No positive literal of the set without rows. -/
theorem zeroIn_no {S : List StatZ} {ps : Pairs} {n : Nat} (hn : ps.length ≤ n) (h : ∀ j, j < n → ¬ ∃ l : LitZ, ps[j]? = some (l, true) ∧ l.1 = 1 ∧ zeroW (rowsW S l) = true) : zeroIn S ps = false := by
  unfold zeroIn
  rw [List.any_eq_false]
  rintro ⟨l, b⟩ hp hh
  obtain ⟨j, hj, e⟩ := List.mem_iff_getElem.1 hp
  simp only [Bool.and_eq_true, decide_eq_true_eq] at hh
  obtain ⟨⟨rfl, h1⟩, hz⟩ := hh
  exact h j (by omega) ⟨l, by rw [List.getElem?_eq_getElem hj, e], h1, hz⟩
theorem rowsOk_of {S : List StatZ} {ls : List LitZ} (K : Known S ls) {ps : Pairs} (hz : zeroIn S ps = false) : rowsOk S ps := fun p hp h2 h1 => by
  unfold zeroIn at hz
  have := List.any_eq_false.1 hz p hp
  refine fin_lt (K.rowsFin p.1) ?_
  cases h : zeroW (rowsW S p.1)
  · rfl
  · exact absurd (by simp [h1, h2, h]) this
theorem mulRows_off {S : List StatZ} {s : Nat} {p : LitZ × Bool} (h : ¬ (p.2 = true ∧ p.1.1 = 1)) : mulRows S s p = s := if_neg h
theorem mulRows_on {S : List StatZ} {s : Nat} {l : LitZ} (h : l.1 = 1) : mulRows S s (l, true) = fmul s (rowsW S l) := if_pos ⟨rfl, h⟩
theorem mulShare_off {s : Nat} {p : LitZ × Bool} (h : ¬ (p.2 = true ∧ p.1.1 ≠ 1)) : mulShare s p = s := if_neg h
theorem mulShare_on {s : Nat} {l : LitZ} (h : l.1 ≠ 1) : mulShare s (l, true) = fmul s (shareW l) := if_pos ⟨rfl, h⟩
theorem guessW_le {S : List StatZ} {ls : List LitZ} (K : Known S ls) (inn : List Bool) : guessW S ls inn ≤ infW := by
  cases hz : zeroIn S (ls.zip inn) with
  | true => unfold guessW; rw [if_pos hz]; exact Nat.zero_le _
  | false =>
    rw [guessW_eq hz (Nat.le_refl _) (Nat.le_refl _)]
    exact shareTo_le _ (constTo_le _ _ (sharTo_le _ _ _ (mulTo_le (rowsOk_of K hz) _) _) _) _
theorem spotsOne_len' (S : List StatZ) (v : ByteArray) (l : LitZ) (i : Nat) : (spotsOne S v l i).length ≤ (termsOf l).length := by
  unfold spotsOne; split
  · rw [List.length_map]; exact Nat.le_trans (List.length_filterMap_le _ _) (Nat.le_of_eq (cols_len S l))
  · simp
theorem constsOne_len' (S : List StatZ) (l : LitZ) (i : Nat) : (constsOne S l i).length ≤ (termsOf l).length := by
  unfold constsOne; split
  · rw [List.length_map]; exact Nat.le_trans (List.length_filterMap_le _ _) (Nat.le_of_eq (cols_len S l))
  · simp
theorem spotsP_len' (S : List StatZ) (v : ByteArray) (M : Nat) : ∀ (ls : List LitZ) (i : Nat), (∀ l ∈ ls, (termsOf l).length ≤ M) → (spotsP S v i ls).length ≤ ls.length * M
  | [], i, _ => by simp [spotsP]
  | l :: ls, i, h => by
    have h1 := spotsP_len' S v M ls (i + 1) fun x hx => h x (List.mem_cons_of_mem _ hx)
    have h2 := spotsOne_len' S v l i
    have h3 := h l List.mem_cons_self
    rw [spotsP, List.length_append, List.length_cons, Nat.succ_mul]; omega
theorem constsP_len' (S : List StatZ) (M : Nat) : ∀ (ls : List LitZ) (i : Nat), (∀ l ∈ ls, (termsOf l).length ≤ M) → (constsP S i ls).length ≤ ls.length * M
  | [], i, _ => by simp [constsP]
  | l :: ls, i, h => by
    have h1 := constsP_len' S M ls (i + 1) fun x hx => h x (List.mem_cons_of_mem _ hx)
    have h2 := constsOne_len' S l i
    have h3 := h l List.mem_cons_self
    rw [constsP, List.length_append, List.length_cons, Nat.succ_mul]; omega
end Go.Proofs.YtomeebimmmfmbaaGreat

/- The document's answer for costs: the guess of a set. -/
namespace Go.Proofs.YtomeebimmmfmbaaGreat
open Go.RowKit
set_option linter.unusedVariables false
attribute [local go_sem] run_store_float

def FoldTo (w0 : World) (f : Nat → Nat) (n : Nat) (iv sv : Value) (w : World) : Prop := ∃ i x : Nat, i ≤ n ∧ iv = .int .i64 i ∧ sv = .float .f64 x ∧ Hid (x = f i) ∧ Hid (Ext w0 w)
theorem eq_zero_run {x : Nat} (h : finW x = true) {b : Bool} (hb : zeroW x = b) : ((FloatKind.format .f64).order x 0 == some .eq) = b := (eq_zero h).trans hb

end Go.Proofs.YtomeebimmmfmbaaGreat

/- The document's answer for costs: numbers as a set, orders, Guess, Cost. -/
namespace Go.Proofs.YtomeebimmmfmbaaGreat
open Go.RowKit
set_option linter.unusedVariables false
attribute [local go_sem] run_store_float

theorem blk_made (w : World) (z : Value) (n : Nat) (e : TypeId) : Blk (w.alloc (.cells (madeCells #[z] n) e)) w.heap.size (List.replicate n z) e := by
  have h := Blk.new w (List.replicate n z) e
  have e1 : madeCells #[z] n = (List.replicate n z).toArray := by
    apply Array.toList_inj.1; rw [toList_madeCells_one]
  rw [e1]; exact h
theorem bools_rep (n : Nat) : bools (List.replicate n false) = List.replicate n (.bool false) := by simp [bools]
theorem bools_set (bs : List Bool) (i : Nat) (b : Bool) : (bools bs).set i (.bool b) = bools (bs.set i b) := by simp [bools, List.map_set]
theorem Blk.bools {w : World} {g : Nat} {bs : List Bool} {e : TypeId} (h : Blk w g (bools bs) e) : CellsAt w (some ⟨g, 0, none⟩) (Go.Proofs.YtomeebimmmfmbaaGreat.bools bs) := CellsAt.pre (rest := []) (by rw [List.append_nil]; exact h)

theorem putNum_none (xs : List Int) : xs.foldl putNum none = none := by
  induction xs with
  | nil => rfl
  | cons x xs ih => exact ih
theorem putNum_len {o : Option (List Bool)} {x : Int} {inn inn' : List Bool} (h : putNum (some inn) x = some inn') : inn'.length = inn.length := by
  unfold putNum at h
  dsimp only at h
  split at h
  · cases h; simp
  · cases h
theorem setTo_no {n : Nat} {xs : List Int} {i : Nat} {x : Int} (h : xs[i]? = some x) (hb : (xs.take (i + 1)).foldl putNum (some (List.replicate n false)) = none) : setW n xs = none := by
  unfold setW
  rw [← List.take_append_drop (i + 1) xs, List.foldl_append, hb, putNum_none]
theorem putNum_neg {inn : List Bool} {x : Int} (h : ¬ 0 ≤ x) : putNum (some inn) x = none := if_neg fun e => h e.1
theorem putNum_off {inn : List Bool} {q : Nat} (h : inn[q]? ≠ some false) : putNum (some inn) (q : Int) = none := if_neg fun e => h (by simpa using e.2)
theorem putNum_on {inn : List Bool} {q : Nat} (h : inn[q]? = some false) : putNum (some inn) (q : Int) = some (inn.set q true) := by
  show (if 0 ≤ (q : Int) ∧ inn[(q : Int).toNat]? = some false then some (inn.set (q : Int).toNat true) else none) = _
  rw [if_pos ⟨by omega, by simpa using h⟩]; simp

/-- A set that was made of numbers, or none. -/
def SetV (o : Option (List Bool)) (n : Nat) (w' : World) (v : Value) : Prop := ∃ ao m c, v = .tuple #[.slice ao m c, .bool o.isSome] ∧ ∀ inn, o = some inn → m = n ∧ CellsAt w' ao (bools inn) ∧ inn.length = n
def NumsTo (w0 : World) (g n : Nat) (xs : List Int) (m : Nat) (iv : Value) (w : World) : Prop := ∃ (i : Nat) (inn : List Bool), i ≤ m ∧ iv = .int .i64 i ∧ Hid ((xs.take i).foldl putNum (some (List.replicate n false)) = some inn) ∧ Hid (Blk w g (bools inn) 4) ∧ Hid (inn.length = n) ∧ Hid (Ext w0 w)

open Classical in
theorem setOk_none {ls : List LitZ} {xs : List Int} (h : setW ls.length xs = none) : setOk ls xs = none := by unfold setOk; rw [h]
open Classical in
theorem setOk_some {ls : List LitZ} {xs : List Int} {inn : List Bool} (h : setW ls.length xs = some inn) : setOk ls xs = if stands ls inn then some inn else none := by unfold setOk; rw [h]

open Classical in
set_option maxRecDepth 100000 in
set_option maxHeartbeats 4000000 in
theorem refSet_any (p : ByteArray) (ls : List LitZ) (ha : Option Addr) (hn hcap : Nat) (ba : Option Addr) (n bcap : Nat) (xs : List Int) (na : Option Addr) (m mcap : Nat) (w : World) (G : Nat → Prop) (hbn : n = ls.length) (h : LitsAt w G ba ls) (hf : Fit ls) (hm : m = xs.length) (hx : CellsAt w na (ints xs)) (hml : m ≤ 4611686018427387904) :
    Calls Tryz.prog 113 #[ruleV p ha hn hcap ba n bcap, .slice na m mcap] w (RetN w (SetV (setOk ls xs) n)) := by
  have HN := Lib.hid hbn; have HE := Lib.hid h; have HF := Lib.hid hf; have hl : n ≤ 1048576 := by have := hf.len; omega
  have HM := Lib.hid (And.intro hm hx)
  have HSt := Lib.hid (fun (inn : List Bool) (ia : Option Addr) (icap : Nat) (W : World) (hW : Ext w W) (hin : inn.length = n) (hI : CellsAt W ia (bools inn)) => refStands_any p ls ha hn hcap ba n bcap inn ia icap W G hbn (h.ext hW) hf hin hI)
  have hmk := run_make_row' (P := Tryz.prog) 111 4 (.bool false) 1 Tryz.underlying111 (by kernel_rfl) rfl .i64 .i64 n (by omega) (by omega)
  clear hbn h hf hm hx
  go_enter Tryz.func113, Tryz.ntmps113
  go_wp2
  obtain ⟨wb, eb⟩ : ∃ wb, w.alloc (.cells #[.string p, .slice ha hn hcap, .slice ba n bcap] 28) = wb := ⟨_, rfl⟩
  rw [eb]
  have HB := Lib.hid (Blk.new w [.string p, .slice ha hn hcap, .slice ba n bcap] 28)
  have HX := Lib.hid ((Kp.refl (F := fun _ => False) w).alloc (.cells #[.string p, .slice ha hn hcap, .slice ba n bcap] 28))
  have eb2 : w.alloc (.cells [Value.string p, .slice ha hn hcap, .slice ba n bcap].toArray 28) = wb := eb
  rw [eb2] at HB
  rw [eb] at HX
  obtain ⟨g, eg⟩ : ∃ g, g = w.heap.size + 1 := ⟨_, rfl⟩
  have eg2 : wb.heap.size = g := by rw [eg, ← eb, alloc_size]
  have hB := blk_made wb (.bool false) n 4
  rw [eg2, ← bools_rep] at hB
  have HG := Lib.hid hB
  have EG := Lib.hid eg2
  rw [← eg]
  clear eb eb2 eg2 hB eg hmk
  generalize hwc : wb.alloc (.cells (madeCells #[.bool false] n) 4) = wc at *
  have HWC := Lib.hid (show Ext wb wc by rw [← hwc]; exact (Kp.refl wb).alloc _)
  clear hwc
  go_loopw [7] (fun iv wr => NumsTo wb g n xs m iv wr) (fun iv _ => m - (intOf iv).toNat)
  case atStart => exact ⟨0, _, Nat.zero_le _, rfl, rfl, HG.out, Lib.hid (by simp), HWC.out⟩
  case round =>
    obtain ⟨i, inn, hi, rfl, hput, hblk, hlen, hex⟩ := hrel
    have XR := Lib.hid (HX.out.trans hex.out)
    by_cases hlt : i < m
    · have hltx : i < xs.length := by rw [← HM.out.1]; exact hlt
      obtain ⟨nb, noff, ena, d0⟩ := (HM.out.2.ext XR.out).int hltx
      subst ena
      have hxi : xs[i]? = some xs[i] := List.getElem?_eq_getElem hltx
      generalize xs[i] = x at *
      have HXi := Lib.hid hxi
      have HStep := Lib.hid (show (xs.take (i + 1)).foldl putNum (some (List.replicate n false)) = putNum (some inn) x by rw [fold_take _ _ hxi, hput.out])
      clear hxi hltx
      have hbad : putNum (some inn) x = none → SetV (setOk ls xs) n wr (.tuple #[.slice none 0 0, .bool false]) := fun e => by
        have : setOk ls xs = none := setOk_none (by rw [← HN.out]; exact setTo_no HXi.out (by rw [HStep.out, e]))
        rw [this]
        exact ⟨_, _, _, rfl, fun inn h => by cases h⟩
      have HBad := Lib.hid hbad; clear hbad
      by_cases hx0 : x < 0
      · go_wp2
        go_ret2
        exact RetN.mk XR.out (HBad.out (putNum_neg (by omega)))
      · obtain ⟨q, rfl⟩ : ∃ q : Nat, x = q := ⟨x.toNat, by omega⟩
        by_cases hqn : q < n
        · obtain ⟨b, hb⟩ : ∃ b, inn[q]? = some b := ⟨_, List.getElem?_eq_getElem (by have := hlen.out; omega)⟩
          have e0 : wr.cell? ⟨g, q, none⟩ = some (.bool b) := by rw [hblk.out.cell']; simp [bools, hb]
          have hfr := hblk.out.free q
          have HBq := Lib.hid hb
          clear hb
          cases b
          · go_wp2
            go_roundw
            case rel =>
              refine ⟨i + 1, inn.set q true, by omega, by first | rfl | (congr 1; done) | (congr 1; omega), Lib.hid (by rw [HStep.out, putNum_on HBq.out]), ?_, Lib.hid (by rw [List.length_set]; exact hlen.out), hex.out.setCell (fun h => ?_) _⟩
              · have h := hblk.out.set q (.bool true)
                rw [bools_set] at h
                exact h
              · have h : g < wb.heap.size := h
                rw [EG.out] at h; omega
            case measure => simp [intOf]; omega
          · go_wp2
            go_ret2
            exact RetN.mk XR.out (HBad.out (putNum_off (by rw [HBq.out]; simp)))
        · go_wp2
          go_ret2
          exact RetN.mk XR.out (HBad.out (putNum_off (by rw [List.getElem?_eq_none (by have := hlen.out; omega)]; simp)))
    · have hall : setW ls.length xs = some inn := by
        have h := hput.out
        rw [List.take_of_length_le (by have := HM.out.1; omega), HN.out] at h
        exact h
      have HAll := Lib.hid (setOk_some hall)
      have r0 : wr.cell? ⟨w.heap.size, 0, none⟩ = some (.string p) := by rw [(HB.out.ext hex.out).cell']; rfl
      have r1 : wr.cell? ⟨w.heap.size, 1, none⟩ = some (.slice ha hn hcap) := by rw [(HB.out.ext hex.out).cell']; rfl
      have r2 : wr.cell? ⟨w.heap.size, 2, none⟩ = some (.slice ba n bcap) := by rw [(HB.out.ext hex.out).cell']; rfl
      clear hall
      go_wp2_with fail
      refine (HSt.out inn _ _ _ XR.out hlen.out hblk.out.bools).mono ?_
      rintro e w1 ⟨v, rfl, hk1, rfl⟩
      have X1 := Lib.hid (And.intro (XR.out.trans hk1) (hblk.out.ext hk1).bools)
      clear hk1 r0 r1 r2
      by_cases hst : stands ls inn
      · rw [decide_eq_true hst]
        have HA2 := Lib.hid (HAll.out.trans (if_pos hst))
        clear hst
        go_wp2
        go_ret2
        refine RetN.mk X1.out.1 ⟨some ⟨g, 0, none⟩, n, n, ?_, fun inn' h => ?_⟩
        · rw [HA2.out]; rfl
        · rw [HA2.out] at h; cases h
          exact ⟨rfl, X1.out.2, hlen.out⟩
      · rw [decide_eq_false hst]
        have HA2 := Lib.hid (HAll.out.trans (if_neg hst))
        clear hst
        go_wp2
        go_ret2
        refine RetN.mk X1.out.1 ⟨some ⟨g, 0, none⟩, n, n, ?_, fun inn' h => ?_⟩
        · rw [HA2.out]; rfl
        · rw [HA2.out] at h; cases h

theorem CellsAt.intsTake {w : World} {ao : Option Addr} {xs : List Int} (h : CellsAt w ao (ints xs)) (i : Nat) : CellsAt w ao (ints (xs.take i)) := fun k u hu => h k u (by
  unfold ints at hu ⊢
  rw [List.map_take, List.getElem?_take] at hu
  split at hu
  · exact hu
  · cases hu)

open Classical in
set_option maxRecDepth 100000 in
set_option maxHeartbeats 4000000 in
theorem refOrder_any (p : ByteArray) (ls : List LitZ) (ha : Option Addr) (hn hcap : Nat) (ba : Option Addr) (n bcap : Nat) (xs : List Int) (na : Option Addr) (m mcap : Nat) (w : World) (G : Nat → Prop) (hbn : n = ls.length) (h : LitsAt w G ba ls) (hf : Fit ls) (hm : m = xs.length) (hx : CellsAt w na (ints xs)) (hml : m ≤ 4611686018427387904) (hmc : m ≤ mcap) (hmx : mcap ≤ maxLen) :
    Calls Tryz.prog 72 #[ruleV p ha hn hcap ba n bcap, .slice na m mcap] w (RetN w fun w' v => v = .bool (decide (orderOk ls xs))) := by
  have HN := Lib.hid hbn; have hl : n ≤ 1048576 := by have := hf.len; omega
  have HM := Lib.hid hm
  have hmx2 : mcap ≤ 9223372036854775807 := hmx
  have HSet := Lib.hid (fun (i : Nat) (hi : i ≤ m) (W : World) (hW : Ext w W) => refSet_any p ls ha hn hcap ba n bcap (xs.take i) na i mcap W G hbn (h.ext hW) hf (by rw [List.length_take]; omega) ((hx.intsTake i).ext hW) (by omega))
  clear hbn h hf hm hx hmx
  go_enter Tryz.func72, Tryz.ntmps72
  by_cases hne : m = n
  · have b1 : ((m : Int) != (n : Int)) = false := by simp [hne]
    have b2 : ((m : Int) == (n : Int)) = true := by simp [hne]
    have HNe := Lib.hid hne
    clear hne
    go_wp2
    obtain ⟨wb, eb⟩ : ∃ wb, w.alloc (.cells #[.string p, .slice ha hn hcap, .slice ba n bcap] 28) = wb := ⟨_, rfl⟩
    rw [eb]
    have HB := Lib.hid (Blk.new w [.string p, .slice ha hn hcap, .slice ba n bcap] 28)
    have HX := Lib.hid ((Kp.refl (F := fun _ => False) w).alloc (.cells #[.string p, .slice ha hn hcap, .slice ba n bcap] 28))
    have eb2 : w.alloc (.cells [Value.string p, .slice ha hn hcap, .slice ba n bcap].toArray 28) = wb := eb
    rw [eb2] at HB
    rw [eb] at HX
    clear eb eb2
    clear b1 b2
    go_loopw [5] (fun iv wr => ∃ i : Nat, i ≤ m + 1 ∧ iv = .int .i64 i ∧ Hid (∀ j, j < i → (setOk ls (xs.take j)).isSome = true) ∧ Hid (Ext wb wr)) (fun iv _ => m + 1 - (intOf iv).toNat)
    case atStart => exact ⟨0, Nat.zero_le _, rfl, fun j hj => by omega, Kp.refl _⟩
    case round =>
      obtain ⟨i, hi, rfl, hall, hex⟩ := hrel
      have XR := Lib.hid (HX.out.trans hex.out)
      by_cases hlt : i ≤ m
      · have r0 : wr.cell? ⟨w.heap.size, 0, none⟩ = some (.string p) := by rw [(HB.out.ext hex.out).cell']; rfl
        have r1 : wr.cell? ⟨w.heap.size, 1, none⟩ = some (.slice ha hn hcap) := by rw [(HB.out.ext hex.out).cell']; rfl
        have r2 : wr.cell? ⟨w.heap.size, 2, none⟩ = some (.slice ba n bcap) := by rw [(HB.out.ext hex.out).cell']; rfl
        have i1 : (i : Int) ≤ (mcap : Int) := by omega
        have i2 : (i : Int) ≤ (m : Int) := by omega
        have HSi := Lib.hid (HSet.out i hlt)
        go_wp2
        go_region_with (first | (go_at_call 113; refine (HSi.out _ XR.out.drew).mono ?_; rintro e w1 ⟨v, rfl, hk1, a, mm, c, rfl, hso⟩))
        have X1 := Lib.hid (hex.out.drew.trans hk1)
        clear hk1 r0 r1 r2 hso
        cases hs : (setOk ls (xs.take i)).isSome
        · have HS := Lib.hid hs; clear hs
          go_wp2
          go_ret
          refine RetN.mk (HX.out.trans X1.out) (congrArg Value.bool (decide_eq_false fun ho => ?_).symm)
          have := ho.2 i (by have := HM.out; omega)
          rw [HS.out] at this; cases this
        · have HS := Lib.hid hs; clear hs
          go_wp2
          go_roundw
          case rel =>
            refine ⟨i + 1, by omega, by first | rfl | (congr 1; done) | (congr 1; omega), fun j hj => ?_, X1⟩
            by_cases e : j = i
            · rw [e]; exact HS.out
            · exact hall.out j (by omega)
          case measure => simp [intOf]; omega
      · have ho : orderOk ls xs := ⟨by have := HM.out; have := HN.out; have := HNe.out; omega, fun j hj => hall.out j (by have := HM.out; omega)⟩
        have HO := Lib.hid ho
        clear ho hall
        go_wp2
        go_ret
        exact RetN.mk XR.out (congrArg Value.bool (decide_eq_true HO.out).symm)
  · have b1 : ((m : Int) != (n : Int)) = true := by simp; omega
    have b2 : ((m : Int) == (n : Int)) = false := by simp; omega
    have HNe := Lib.hid hne
    clear hne
    go_wp2
    go_ret
    refine RetN.mk ((Kp.refl w).alloc _) (congrArg Value.bool (decide_eq_false fun ho => ?_).symm)
    exact HNe.out (by have := ho.1; have := HM.out; have := HN.out; omega)
end Go.Proofs.YtomeebimmmfmbaaGreat

/- The document's answer for costs: Guess, Cost. -/
namespace Go.Proofs.YtomeebimmmfmbaaGreat
open Go.RowKit
set_option linter.unusedVariables false
attribute [local go_sem] run_store_float

theorem errR_zero {r : RuleZ} {S : List StatZ} (h : errR r S = 0) : checkR r = 0 ∧ statsOk r S := by
  unfold errR at h
  split at h
  · rename_i h1
    refine ⟨h1, ?_⟩
    split at h
    · assumption
    · cases h
  · exact absurd h (by assumption)

open Classical in

theorem guessOf_some {S : List StatZ} {ls : List LitZ} {xs : List Int} {inn : List Bool} (h : setOk ls xs = some inn) : guessOf S ls xs = guessW S ls inn := by unfold guessOf; rw [h]
theorem guessOf_le {S : List StatZ} {ls : List LitZ} (K : Known S ls) (xs : List Int) : guessOf S ls xs ≤ infW := by
  unfold guessOf
  split
  · exact guessW_le K _
  · exact Nat.zero_le _
theorem costTo_le {S : List StatZ} {ls : List LitZ} (K : Known S ls) (xs : List Int) : ∀ i, costTo S ls xs i ≤ infW
  | 0 => Nat.zero_le _
  | i + 1 => fadd_le (costTo_le K xs i) (guessOf_le K _)

end Go.Proofs.YtomeebimmmfmbaaGreat
