/- sibylref03.Set: Meet, Union and Same of pointers. -/
import Derived.Test.YtfkhelihepbehaaRef8
namespace Go.Proofs.Ytfkhelihepbehaa
open Go.RowKit
set_option linter.unusedVariables false

section
variable {w w' : World} {b : Nat} {lv : Value} {which : Int} {zs : List Int}
set_option maxRecDepth 100000 in
theorem refMeet_any {vo : Value} {which2 : Int} {zs2 : List Int} (h : RefAt w b lv which zs) (h2 : PtrRef w vo which2 zs2) (hl2 : zs2.length ≤ 1048576 * 1048576) : Calls Try.prog 47 #[.pointer (some ⟨b, 0, none⟩), vo] w
    (RetN w fun w' v => ∃ b' lv', v = .pointer (some ⟨b', 0, none⟩) ∧ w.heap.size ≤ b' ∧ (∀ k, lv'.ownBlock = some k → w.heap.size ≤ k) ∧ RefAt w' b' lv' which (zs.filter fun x => !isIn (ordC which) (zs.filter fun x => !isIn (ordC which) zs2 x) x)) := by
  have HH := Lib.hid h
  have HM := Lib.hid (refMinus_any h h2 hl2); clear h h2
  go_enter Try.func47, Try.ntmps47
  go_wp2_with fail
  refine HM.out.mono ?_
  rintro e w1 ⟨v, rfl, hk, b1, lv1, rfl, hb1, hlv1, hr1⟩
  have HR := Lib.hid (And.intro hk hr1); clear hk hr1
  go_wp2_with fail
  refine (refMinus_any (HH.out.ext HR.out.1) (.inr ⟨b1, lv1, rfl, HR.out.2⟩) HR.out.2.len).mono ?_
  rintro e w2 ⟨v, rfl, hk2, b2, lv2, rfl, hb2, hlv2, hr2⟩
  have HR2 := Lib.hid (And.intro hk2 hr2); clear hk2 hr2
  go_wp2
  go_ret
  have hsz := HR.out.1.size
  exact RetN.mk (HR.out.1.trans HR2.out.1) ⟨b2, lv2, rfl, by omega, fun k hk => by have := hlv2 k hk; omega, HR2.out.2⟩
set_option maxRecDepth 100000 in
theorem refSame_nil {vo : Value} {which2 : Int} {zs2 : List Int} (h2 : PtrRef w vo which2 zs2) (hl2 : zs2.length ≤ 1048576 * 1048576) : Calls Try.prog 51 #[.pointer none, vo] w
    (RetF (fun _ => False) w fun w' v => v = .bool (decide (zs2.length = 0))) := by
  have H2 := Lib.hid h2; clear h2
  obtain ⟨m, em⟩ : ∃ m, m = zs2.length := ⟨_, rfl⟩
  go_enter Try.func51, Try.ntmps51
  go_wp2_with fail
  refine (refItems_nil w).mono ?_
  rintro e w1 ⟨rfl, rfl⟩
  go_wp2_with fail
  refine (refItems_ptr H2.out).mono ?_
  rintro e w2 ⟨v, rfl, hk2, hr2⟩
  obtain ⟨ao2, cap2, e2, _, _⟩ := hr2.shape
  subst e2
  clear hr2
  rw [← em]
  rw [← em] at hl2
  have EM := Lib.hid em; clear em
  by_cases h0 : m = 0
  · have t0 : ((0 : Int) != (m : Int)) = false := by subst h0; rfl
    go_wp2
    go_loopw [7] (fun kv wr => kv = .int .i64 0 ∧ Ext w2 wr) (fun _ _ => 0)
    case atStart => exact ⟨rfl, Kp.refl _⟩
    case round =>
      obtain ⟨rfl, hex⟩ := hrel
      go_wp2
      go_ret
      exact RetF.mk (hk2.trans hex) (by rw [← EM.out, h0]; rfl)
  · have t0 : ((0 : Int) != (m : Int)) = true := by rw [bne_iff_ne]; omega
    go_wp2
    go_ret
    exact RetF.mk hk2 (by rw [← EM.out]; simp [h0])
end
end Go.Proofs.Ytfkhelihepbehaa
