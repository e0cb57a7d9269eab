/- slices.Clone, EqualFunc, Grow, Concat at string. -/
import Derived.Test.YtfkhelihepbehaaBinStr
namespace Go.Proofs.Ytfkhelihepbehaa
open Go.RowKit
set_option linter.unusedVariables false

theorem cloneStr_any (vs : List Value) (ao : Option Addr) (cap : Nat) (w : World) (n : Nat) (hn : n = vs.length) (hc : CellsAt w ao vs) (h1 : ∀ u ∈ vs, u.oneCell' = true) (hm : n * 16 ≤ 140737488355328) :
    Calls Try.prog 103 #[.slice ao n cap] w (RetN w fun w' v => Row w' 9 1 v n vs (New w)) := by
  have hq : ∀ w : World, (binOp .eql 22 (.slice ao n cap) (.slice none 0 0)).run Try.prog w = .ok (.bool ao.isNone) w := fun w => Lib.run_eql_slice_nil w _ _ _ _ _ _ _ Try.underlying22
  have HNN := Lib.hid hn; clear hn
  have hl : n ≤ maxLen := by unfold maxLen; omega
  cases ao with
  | none =>
    have hv : vs = [] := by
      cases vs with
      | nil => rfl
      | cons x vs => obtain ⟨b, o, h, _⟩ := hc.off (by simp); cases h
    subst hv
    have h0 : n = 0 := HNN.out
    subst h0
    go_enter Try.func103, Try.ntmps103
    go_wp2
    go_ret
    exact RetN.mk (Kp.refl _) (Row.nil _ _ _ _)
  | some a =>
    go_enter Try.func103, Try.ntmps103
    go_wp2_with (first | (at_builtin; refine Halted.out ?_))
    refine Halted.mk (wp_appN elemStr rfl _ _ rfl ((Kp.refl (F := fun _ => False) w).alloc _) rfl (Row.empty w 9 1 (New w) (Nat.le_refl _)) rfl (hc.alloc _) (by rw [HNN.out, Nat.mul_one]) h1 (by omega) (by omega) ?_)
    intro v1 w1 hr1 hk1 _ _
    have HR := Lib.hid hr1; clear hr1
    go_wp2
    go_ret
    exact RetN.mk hk1 (by simpa using HR.out)



end Go.Proofs.Ytfkhelihepbehaa
