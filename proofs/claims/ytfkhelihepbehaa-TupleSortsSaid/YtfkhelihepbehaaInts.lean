/- The statements' helper ints. -/
import Derived.Test.YtfkhelihepbehaaCmp
namespace Go.Proofs.Ytfkhelihepbehaa
open Go.RowKit
set_option linter.unusedVariables false

theorem ints_yes (zs : List Int) (a b : Option Addr) (n c d : Nat) (w : World) (hn : n = zs.length) (ha : CellsAt w a (ints zs)) (hb : CellsAt w b (ints zs)) (hx : n ≤ maxLen) :
    Calls Try.prog 16 #[.slice a n c, .slice b n d] w (RetD (.bool true) w) := by
  unfold maxLen at hx
  have HN := Lib.hid hn; clear hn
  go_enter Try.func16, Try.ntmps16
  go_wp2
  go_loopw [5] (fun i wr => ∃ k m : Nat, k ≤ n ∧ i = .int .i64 k ∧ wr = w.drewN m) (fun i _ => n - (intOf i).toNat)
  case atStart => exact ⟨0, 0, Nat.zero_le _, rfl, rfl⟩
  case round =>
    obtain ⟨k, m, hk, rfl, rfl⟩ := hrel
    by_cases h1 : k < n
    · obtain ⟨b1, o1, rfl, c1⟩ := ha.int (show k < zs.length by rw [← HN.out]; exact h1)
      obtain ⟨b2, o2, rfl, c2⟩ := hb.int (show k < zs.length by rw [← HN.out]; exact h1)
      go_wp2
      go_quiet (fail)
      go_wp2
      go_roundw
      case rel => exact ⟨k + 1, _, by omega, by go_num, rfl⟩
      case measure => simp [intOf]; omega
    · go_wp2
      go_ret
      refine RetD.mk' rfl ?_
      first | exact ⟨_, rfl⟩ | exact drew_ex2 _ _ _ | exact drew_ex3 _ _ _ | exact ⟨_, by rw [World.drewN_drewN, World.drewN_drewN]⟩
end Go.Proofs.Ytfkhelihepbehaa
