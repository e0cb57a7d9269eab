/- sibylref03: Order, ten; sibyllaw03: order$1. -/
import Derived.Test.YtfkhelihepbehaaSetAtInt
namespace Go.Proofs.Ytfkhelihepbehaa
open Go.RowKit
set_option linter.unusedVariables false

def tenC (n : Int) : Int := if n < 0 then wrap64 (-1 - wrap64 ((wrap64 (-1 - n)).tdiv 10)) else wrap64 (n.tdiv 10)
def cmpI (a b : Int) : Int := if a < b then -1 else if b < a then 1 else 0
/-- One of the four orders of numbers. -/
def ordC (which a b : Int) : Int := if which = 1 then cmpI b a else if which = 2 then cmpI (tenC a) (tenC b) else if which = 3 then 0 else cmpI a b

theorem cmpI_law {α : Type} (f : α → Int) : OrdLaw (fun x y => cmpI (f x) (f y)) := by
  constructor
  · intro x y; simp only [cmpI]; split <;> split <;> (try split) <;> omega
  · intro x y z; simp only [cmpI]; split <;> split <;> (try split) <;> (try split) <;> (try split) <;> omega
theorem ordC_law (which : Int) : OrdLaw (ordC which) := by
  by_cases h1 : which = 1
  · have := cmpI_law (fun x : Int => -x)
    have e : ordC which = fun x y => cmpI (-x) (-y) := by
      funext x y; simp only [ordC, if_pos h1, cmpI]; split <;> split <;> (try split) <;> omega
    rw [e]; exact this
  · by_cases h2 : which = 2
    · have e : ordC which = fun x y => cmpI (tenC x) (tenC y) := by funext x y; simp only [ordC, if_neg h1, if_pos h2]
      rw [e]; exact cmpI_law tenC
    · by_cases h3 : which = 3
      · have e : ordC which = fun x y => cmpI ((fun _ : Int => (0 : Int)) x) ((fun _ : Int => (0 : Int)) y) := by funext x y; simp only [ordC, if_neg h1, if_neg h2, if_pos h3]; rfl
        rw [e]; exact cmpI_law _
      · have e : ordC which = fun x y => cmpI x y := by funext x y; simp only [ordC, if_neg h1, if_neg h2, if_neg h3]
        rw [e]; exact cmpI_law (fun x => x)

theorem ten_any (n : Int) (w : World) : Calls Try.prog 86 #[.int .i64 n] w (Ret (.int .i64 (tenC n)) w) := by
  by_cases h : n < 0
  · go_enter Try.func86, Try.ntmps86
    go_wp2
    go_ret
    exact Ret.mk (by rw [tenC, if_pos h]; rfl)
  · go_enter Try.func86, Try.ntmps86
    go_wp2
    go_ret
    exact Ret.mk (by rw [tenC, if_neg (by omega)]; rfl)

set_option maxRecDepth 100000 in
theorem refOrder_any (which a b : Int) (w : World) : Calls Try.prog 33 #[.int .i64 which, .int .i64 a, .int .i64 b] w (Ret (.int .i64 (ordC which a b)) w) := by
  have fin : ∀ x y : Int, ordC which a b = cmpI x y → (x < y → ordC which a b = -1) ∧ (¬ x < y → y < x → ordC which a b = 1) ∧ (¬ x < y → ¬ y < x → ordC which a b = 0) := by
    intro x y e
    rw [e]; unfold cmpI
    exact ⟨fun h => by rw [if_pos h], fun h h' => by rw [if_neg h, if_pos h'], fun h h' => by rw [if_neg h, if_neg h']⟩
  by_cases h1 : which = 1
  · have FIN := Lib.hid (fin b a (by simp only [ordC, if_pos h1])); clear fin
    subst h1
    by_cases hl : b < a
    · go_enter Try.func33, Try.ntmps33
      go_wp2
      go_ret
      exact Ret.mk (congrArg _ (FIN.out.1 hl))
    · by_cases hg : a < b
      · go_enter Try.func33, Try.ntmps33
        go_wp2
        go_ret
        exact Ret.mk (congrArg _ (FIN.out.2.1 hl hg))
      · go_enter Try.func33, Try.ntmps33
        go_wp2
        go_ret
        exact Ret.mk (congrArg _ (FIN.out.2.2 hl hg))
  · have t1 : (which == 1) = false := by simp [h1]
    by_cases h2 : which = 2
    · have FIN := Lib.hid (fin (tenC a) (tenC b) (by simp only [ordC, if_neg h1, if_pos h2])); clear fin h1
      subst h2
      by_cases hl : tenC a < tenC b
      · go_enter Try.func33, Try.ntmps33
        go_wp2_with (go_at_call 86; (with_reducible refine (ten_any _ _).mono ?_); rintro e w' ⟨rfl, rfl⟩)
        go_ret
        exact Ret.mk (congrArg _ (FIN.out.1 hl))
      · by_cases hg : tenC b < tenC a
        · go_enter Try.func33, Try.ntmps33
          go_wp2_with (go_at_call 86; (with_reducible refine (ten_any _ _).mono ?_); rintro e w' ⟨rfl, rfl⟩)
          go_ret
          exact Ret.mk (congrArg _ (FIN.out.2.1 hl hg))
        · go_enter Try.func33, Try.ntmps33
          go_wp2_with (go_at_call 86; (with_reducible refine (ten_any _ _).mono ?_); rintro e w' ⟨rfl, rfl⟩)
          go_ret
          exact Ret.mk (congrArg _ (FIN.out.2.2 hl hg))
    · have t2 : (which == 2) = false := by simp [h2]
      by_cases h3 : which = 3
      · have e : ordC which a b = 0 := by simp only [ordC, if_neg h1, if_neg h2, if_pos h3]
        clear fin h1 h2 t1 t2
        subst h3
        have E := Lib.hid e; clear e
        go_enter Try.func33, Try.ntmps33
        go_wp2
        go_ret
        exact Ret.mk (congrArg _ E.out)
      · have t3 : (which == 3) = false := by simp [h3]
        have FIN := Lib.hid (fin a b (by simp only [ordC, if_neg h1, if_neg h2, if_neg h3])); clear fin h1 h2 h3
        by_cases hl : a < b
        · go_enter Try.func33, Try.ntmps33
          go_wp2
          go_ret
          exact Ret.mk (congrArg _ (FIN.out.1 hl))
        · by_cases hg : b < a
          · go_enter Try.func33, Try.ntmps33
            go_wp2
            go_ret
            exact Ret.mk (congrArg _ (FIN.out.2.1 hl hg))
          · go_enter Try.func33, Try.ntmps33
            go_wp2
            go_ret
            exact Ret.mk (congrArg _ (FIN.out.2.2 hl hg))
end Go.Proofs.Ytfkhelihepbehaa
