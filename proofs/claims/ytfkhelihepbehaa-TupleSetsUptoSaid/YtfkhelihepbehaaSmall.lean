/- The statements' helpers of chapter 3: place, likeOrder, order, ints. -/
import Derived.Test.YtfkhelihepbehaaRef9
import Derived.Test.YtfkhelihepbehaaIterInt
namespace Go.Proofs.Ytfkhelihepbehaa
open Go.RowKit
set_option linter.unusedVariables false

theorem place_mod (x : Int) (n : Nat) (hn : 0 < n) : (if x.tmod n < 0 then x.tmod n + n else x.tmod n) = x % (n : Int) := by
  have h1 := Int.tmod_eq_emod (a := x) (b := n)
  have h3 := Int.emod_lt_of_pos x (show (0 : Int) < n by omega)
  have h4 := Int.emod_nonneg x (show (n : Int) ≠ 0 by omega)
  have h5 : (n : Int).natAbs = n := by omega
  rw [h5] at h1
  split at h1 <;> split <;> omega
/-- The place among n. -/
def placeN (x : Int) (n : Nat) : Nat := (x % (n : Int)).toNat
theorem placeN_lt (x : Int) (n : Nat) (hn : 0 < n) : placeN x n < n := by
  have h3 := Int.emod_lt_of_pos x (show (0 : Int) < n by omega)
  have h4 := Int.emod_nonneg x (show (n : Int) ≠ 0 by omega)
  unfold placeN; omega
theorem placeN_eq (x : Int) (n : Nat) (hn : 0 < n) : (placeN x n : Int) = if x.tmod n < 0 then x.tmod n + n else x.tmod n := by
  rw [place_mod x n hn]
  have h4 := Int.emod_nonneg x (show (n : Int) ≠ 0 by omega)
  unfold placeN; omega

theorem place_any (x : Int) (n : Nat) (hn : 0 < n) (hm : n ≤ 1000) (w : World) :
    Calls Try.prog 11 #[.int .i64 x, .int .i64 n] w (Ret (.int .i64 (placeN x n : Nat)) w) := by
  have h0 : (n : Int) ≠ 0 := by omega
  have HP := Lib.hid (placeN_eq x n hn)
  have b1 : x.tmod n < n := Int.tmod_lt_of_pos x (by omega)
  have b2 : -(n : Int) < x.tmod n := by
    have h1 := Int.tmod_eq_emod (a := x) (b := n)
    have h3 := Int.emod_lt_of_pos x (show (0 : Int) < n by omega)
    have h4 := Int.emod_nonneg x (show (n : Int) ≠ 0 by omega)
    have h5 : (n : Int).natAbs = n := by omega
    rw [h5] at h1
    split at h1 <;> omega
  have e1 : wrap64 (x.tmod n) = x.tmod n := by unfold wrap64; omega
  by_cases hk : x.tmod n < 0
  · have e2 : wrap64 (x.tmod n + n) = x.tmod n + n := by unfold wrap64; omega
    have E := Lib.hid (And.intro e1 e2); clear e1 e2
    go_enter Try.func11, Try.ntmps11
    go_wp2
    go_ret
    exact Ret.mk (by rw [HP.out, if_pos hk]; first | rfl | simp [E.out.1, E.out.2])
  · have E := Lib.hid e1; clear e1
    go_enter Try.func11, Try.ntmps11
    go_wp2
    go_ret
    exact Ret.mk (by rw [HP.out, if_neg (by omega)]; rfl)
theorem likeOrder_any (x : Int) (w : World) : Calls Try.prog 15 #[.int .i64 x] w (Ret (.int .i64 (if x = 4 then 3 else x)) w) := by
  by_cases h : x = 4
  · subst h
    go_enter Try.func15, Try.ntmps15
    go_wp2
    go_ret
    exact Ret.mk rfl
  · have t : (x == 4) = false := by simp [h]
    go_enter Try.func15, Try.ntmps15
    go_wp2
    go_ret
    simp only [if_neg h]; exact Ret.mk rfl

theorem orderFn_any (b : Nat) (x p q : Int) (e : TypeId) (w : World) (hB : Blk w b [.int .i64 x] e) :
    Calls Try.prog 32 #[.int .i64 p, .int .i64 q, .pointer (some ⟨b, 0, none⟩)] w (fun e w' => e = .returned (.int .i64 (ordC x p q)) ∧ Ext w w') := by
  have c1 : w.cell? ⟨b, 0, none⟩ = some (.int .i64 x) := by rw [hB.cell']; rfl
  clear hB
  go_enter Try.func32, Try.ntmps32
  go_wp2_with fail
  refine (refOrder_any x p q w).mono ?_
  rintro e w' ⟨rfl, rfl⟩
  go_wp2
  go_ret
  exact ⟨rfl, Kp.refl _⟩

theorem order_any (x : Int) (w : World) : Calls Try.prog 13 #[.int .i64 x] w
    (RetN w fun w' v => OrdVInt Try.prog (fun k => k = w.heap.size) w' v (fun _ => True) (ordC (if x = 4 then 3 else x)) ∧ w.heap.size < w'.heap.size) := by
  by_cases h : x = 4
  · subst h
    go_enter Try.func13, Try.ntmps13
    go_wp2
    go_ret
    exact RetN.mk ((Kp.refl w).alloc _) ⟨.inl ⟨rfl, fun _ _ _ _ => rfl⟩, by simp⟩
  · have t : (x == 4) = false := by simp [h]
    have hent : ∀ args w, (callFunc 32 args).run Try.prog w = .ok (.enter 32 args) w := enters_of Try.func32 (by kernel_rfl) rfl
    have HE := Lib.hid hent; clear hent
    go_enter Try.func13, Try.ntmps13
    go_wp2
    go_ret
    refine RetN.mk ((Kp.refl w).alloc _) ⟨.inr ⟨_, _, _, rfl, HE.out, fun w1 hw1 p q _ _ => ?_⟩, by simp⟩
    have hB := Blk.new w [.int .i64 x] 3
    exact orderFn_any w.heap.size x p q 3 w1 (by
      unfold Blk at hB ⊢
      exact (hw1 _ rfl).2.trans hB)

theorem ints_yes (zs : List Int) (a b : Option Addr) (n c d : Nat) (w : World) (hn : n = zs.length) (ha : CellsAt w a (ints zs)) (hb : CellsAt w b (ints zs)) (hx : n ≤ maxLen) :
    Calls Try.prog 16 #[.slice a n c, .slice b n d] w (RetD (.bool true) w) := by
  unfold maxLen at hx
  have HN := Lib.hid hn; clear hn
  go_enter Try.func16, Try.ntmps16
  go_wp2
  go_loopw [5] (fun i wr => ∃ k m : Nat, k ≤ n ∧ i = .int .i64 k ∧ wr = w.drewN m) (fun i _ => n - (intOf i).toNat)
  case atStart => exact ⟨0, 0, Nat.zero_le _, rfl, rfl⟩
  case round =>
    obtain ⟨k, m, hk, rfl, rfl⟩ := hrel
    by_cases h1 : k < n
    · obtain ⟨b1, o1, rfl, c1⟩ := ha.int (show k < zs.length by rw [← HN.out]; exact h1)
      obtain ⟨b2, o2, rfl, c2⟩ := hb.int (show k < zs.length by rw [← HN.out]; exact h1)
      go_wp2
      go_quiet (fail)
      go_wp2
      go_roundw
      case rel => exact ⟨k + 1, _, by omega, by go_num, rfl⟩
      case measure => simp [intOf]; omega
    · go_wp2
      go_ret
      refine RetD.mk' rfl ?_
      first | exact ⟨_, rfl⟩ | exact drew_ex2 _ _ _ | exact drew_ex3 _ _ _ | exact ⟨_, by rw [World.drewN_drewN, World.drewN_drewN]⟩
end Go.Proofs.Ytfkhelihepbehaa
