/- AggNumbers: the law's function. -/
import Derived.Test.YtcphalpcdcddpaaDoorNumOf2
import Derived.Test.YtcphalpcdcddpaaDoorNumN
import Derived.Test.YtcphalpcdcddpaaDoorNumR
namespace Go.Proofs.YtcphalpcdcddpaaDoor
open Go.RowKit
set_option linter.unusedVariables false

set_option maxRecDepth 100000 in
set_option maxHeartbeats 1000000 in
theorem numbers_any (s : ByteArray) (hs : s.size ≤ 281474976710656) (z : Int) (h0 : -9223372036854775808 ≤ z) (h1 : z ≤ 9223372036854775807)
    (p : ByteArray) (ts : List TermZ) (ao : Option Addr) (n cap : Nat) (w : World) (G : Nat → Prop) (hN : NumW w) (hn : n = ts.length) (h : ElemsAt shTerm w G ao ts) (hl : n ≤ 1048576) :
    Calls Tryd.prog 3 #[.string s, .int .i64 z, .agg #[.string p, .slice ao n cap]] w (RetN w fun w' v => v = .bool true) := by
  obtain ⟨sp, esp⟩ : ∃ sp, sp = numSpec s.data.toList := ⟨_, rfl⟩
  obtain ⟨x, b⟩ := sp
  have hx : Ext w (w.alloc (.cells #[.string p, .slice ao n cap] 24)) := (Kp.refl w).alloc _
  have hc0 : (w.alloc (.cells #[.string p, .slice ao n cap] 24)).cell? ⟨w.heap.size, 0, none⟩ = some (.string p) := by unfold World.cell? World.alloc; simp only [Array.getElem?_push_size]; rfl
  have hc1 : (w.alloc (.cells #[.string p, .slice ao n cap] 24)).cell? ⟨w.heap.size, 1, none⟩ = some (.slice ao n cap) := by unfold World.cell? World.alloc; simp only [Array.getElem?_push_size]; rfl
  have HC0 := Lib.hid hc0; have HC1 := Lib.hid hc1; clear hc0 hc1
  have HN := Lib.hid hn; have HE := Lib.hid h; have HL := Lib.hid hl; have HW := Lib.hid hN; have HX := Lib.hid hx
  have C1 : ∀ w, NumW w → Calls Tryd.prog 4 #[.string s] w (RetN w fun w' v => v = .tuple #[.int .i64 x, .bool b]) := by
    intro w hw
    have := number_any s hs w hw
    rw [← esp] at this; exact this
  have C2 : ∀ w, Calls Tryd.prog 5 #[.string s] w (RetN w fun w' v => v = .tuple #[.int .i64 x, .bool b]) := by
    intro w
    have := refNumber_any s hs w
    rw [← esp] at this; exact this
  clear hn h hl hN hx esp
  go_enter Tryd.func3, Tryd.ntmps3
  go_wp2_with fail
  refine (C1 _ (HW.out.ext HX.out)).mono ?_
  rintro e w1 ⟨v, rfl, hk, rfl⟩
  have HD0 := Lib.hid (hk.cell HC0.out id); have HD1 := Lib.hid (hk.cell HC1.out id)
  have HX1 := Lib.hid (HX.out.trans hk); clear hk
  go_wp2_with fail
  refine (C2 _).mono ?_
  rintro e w2 ⟨v, rfl, hk, rfl⟩
  have d0 := hk.cell HD0.out id; have d1 := hk.cell HD1.out id
  have HX2 := Lib.hid (HX1.out.trans hk); clear hk
  go_wp2_with fail
  refine (of_any p ts ao n cap _ G HN.out (HE.out.ext HX2.out) HL.out).mono ?_
  rintro e w3 ⟨v, rfl, hk, i, c, rfl, hf⟩
  have e0 := hk.cell d0 id; have e1 := hk.cell d1 id
  clear d0 d1
  have HX3 := Lib.hid (HX2.out.trans hk); clear hk
  go_wp2_with fail
  refine (refOf_any p ts ao n cap _ G HN.out (HE.out.ext HX3.out) HL.out).mono ?_
  rintro e w4 ⟨v, rfl, hk, i', c', rfl, hf'⟩
  clear e0 e1
  obtain ⟨rfl, rfl⟩ := hf.unique hf'
  have HX4 := Lib.hid (HX3.out.trans hk); clear hk hf hf'
  have HZ := Lib.hid (And.intro h0 h1)
  clear C1 C2 h0 h1
  cases b <;> cases c
  all_goals
    go_wp2_with fail
    refine (written_any z HZ.out.1 HZ.out.2 _ (HW.out.ext HX4.out)).mono ?_
    rintro e w5 ⟨v, rfl, hk, rfl⟩
    have HX5 := Lib.hid (HX4.out.trans hk); clear hk
    go_wp2_with fail
    refine (refWritten_any z HZ.out.1 HZ.out.2 _).mono ?_
    rintro e w6 ⟨v, rfl, hk, rfl⟩
    have HX6 := Lib.hid (HX5.out.trans hk); clear hk
    go_wp2
    go_ret
    exact RetN.mk HX6.out rfl
end Go.Proofs.YtcphalpcdcddpaaDoor
