/- AggNumbers: the program's Of, by slices.IndexFunc. -/
import Derived.Test.YtcphalpcdcddpaaDoorNumOf
namespace Go.Proofs.YtcphalpcdcddpaaDoor
open Go.RowKit
set_option linter.unusedVariables false

def IdxIs (ts : List TermZ) (v : Value) : Prop := (∃ i : Nat, v = .int .i64 i ∧ i < ts.length ∧ FirstAgg ts i true) ∨ (v = .int .i64 (-1) ∧ FirstAgg ts 0 false)
set_option maxRecDepth 100000 in
set_option maxHeartbeats 1000000 in
theorem indexTerm_any (ts : List TermZ) (ao : Option Addr) (n cap : Nat) (w : World) (G : Nat → Prop) (hn : n = ts.length) (h : ElemsAt shTerm w G ao ts) (hl : n ≤ 1048576) :
    Calls Tryd.prog 11 #[.slice ao n cap, .func (Fn.func 12) #[] #[]] w (RetN w fun w' v => IdxIs ts v) := by
  have HN := Lib.hid hn; have HE := Lib.hid h; clear hn h
  have hent : ∀ args w, (callFunc 12 args).run Tryd.prog w = .ok (.enter 12 args) w := enters_of Tryd.func12 (by kernel_rfl) rfl
  go_enter Tryd.func11, Tryd.ntmps11
  go_wp2
  go_loopw [8] (fun iv wr => NoAgg w ts n iv wr) (fun iv _ => n - (intOf iv).toNat)
  case atStart => exact ⟨0, Nat.zero_le _, rfl, fun j u h => by omega, Kp.refl w⟩
  case round =>
    obtain ⟨i, hi, rfl, hno, hex⟩ := hrel
    by_cases hlt : i < n
    · have hlt' : i < ts.length := by rw [← HN.out]; exact hlt
      obtain ⟨t, ht⟩ : ∃ t, ts[i]? = some t := ⟨_, List.getElem?_eq_getElem hlt'⟩
      obtain ⟨b, off, eao, hc0, hc1, _⟩ := term_at (HE.out.ext hex.out) ht
      subst eao
      obtain ⟨k, ek⟩ : ∃ k, k = t.1 := ⟨_, rfl⟩
      obtain ⟨s, es⟩ : ∃ s, s = t.2.1 := ⟨_, rfl⟩
      rw [← ek] at hc0
      rw [← es] at hc1
      obtain ⟨r, er⟩ : ∃ r : Bool, r = decide (4 ≤ k ∧ k ≤ 7) := ⟨_, rfl⟩
      have hr : isAgg t = r := by unfold isAgg; rw [er, ek]
      have HC := Lib.hid (ofFn_any k s wr)
      rw [← er] at HC
      have HT := Lib.hid (And.intro ht hr)
      clear ht hlt' ek es er hr
      cases r
      · go_wp2_with fail
        refine HC.out.mono ?_
        rintro e w1 ⟨v, rfl, hk1, rfl⟩
        have HX := Lib.hid (hex.out.trans hk1); clear hk1 hc0 hc1
        go_wp2
        go_roundw
        case rel =>
          refine ⟨i + 1, by omega, by first | rfl | (congr 1; done) | (congr 1; omega), fun j u hj hu => ?_, HX⟩
          by_cases e : j = i
          · subst e; rw [HT.out.1] at hu; cases hu; exact HT.out.2
          · exact hno.out j u (by omega) hu
        case measure => simp [intOf]; omega
      · go_wp2_with fail
        refine HC.out.mono ?_
        rintro e w1 ⟨v, rfl, hk1, rfl⟩
        have HX := Lib.hid (hex.out.trans hk1); clear hk1 hc0 hc1
        go_wp2
        go_ret
        exact RetN.mk HX.out (.inl ⟨i, rfl, by have := HN.out; omega, .inl ⟨rfl, t, HT.out.1, HT.out.2, hno.out⟩⟩)
    · go_wp2
      go_ret
      refine RetN.mk hex.out (.inr ⟨rfl, .inr ⟨rfl, rfl, fun t ht => ?_⟩⟩)
      obtain ⟨j, hj, rfl⟩ := List.mem_iff_getElem.1 ht
      exact hno.out j _ (by have := HN.out; omega) (List.getElem?_eq_getElem hj)

set_option maxRecDepth 100000 in
theorem of_any (p : ByteArray) (ts : List TermZ) (ao : Option Addr) (n cap : Nat) (w : World) (G : Nat → Prop) (hn : n = ts.length) (h : ElemsAt shTerm w G ao ts) (hl : n ≤ 1048576) :
    Calls Tryd.prog 6 #[.agg #[.string p, .slice ao n cap]] w (RetN w fun w' v => ∃ i b, v = .tuple #[.int .i64 (i : Nat), .bool b] ∧ FirstAgg ts i b) := by
  have hx : Ext w (w.alloc (.cells #[.string p, .slice ao n cap] 24)) := (Kp.refl w).alloc _
  have HI := Lib.hid (indexTerm_any ts ao n cap _ G hn (h.ext hx) hl)
  have HX := Lib.hid hx
  have HL := Lib.hid (show ts.length ≤ 1048576 by omega)
  clear hn h hx hl
  go_enter Tryd.func6, Tryd.ntmps6
  go_wp2_with fail
  refine HI.out.mono ?_
  rintro e w1 ⟨v, rfl, hk, hv⟩
  have HK := Lib.hid (HX.out.trans hk); clear hk
  rcases hv with ⟨i, rfl, hi, hf⟩ | ⟨rfl, hf⟩
  · have hi2 : i ≤ 1048576 := by have := HL.out; omega
    have HF := Lib.hid hf; clear hf hi
    have q1 : max (i : Int) 0 = (i : Int) := by omega
    have q2 : (0 : Int) ≤ (i : Int) := by omega
    go_wp2
    go_ret2
    exact RetN.mk HK.out ⟨i, true, by first | rfl | simp, HF.out⟩
  · have HF := Lib.hid hf; clear hf
    go_wp2
    go_ret2
    exact RetN.mk HK.out ⟨0, false, by first | rfl | simp, HF.out⟩
end Go.Proofs.YtcphalpcdcddpaaDoor
