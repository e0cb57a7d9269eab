/- What slices.Compact keeps: no program in sight. -/
import Derived.Test.YtfkhelihepbehaaArr
namespace Go.Proofs.Ytfkhelihepbehaa
open Go.RowKit
set_option linter.unusedVariables false

/-- Of the first k of C: those that are not alike their neighbour ahead. -/
def keepTo (q : Nat → Nat → Bool) (C : List Nat) (k : Nat) : List Nat :=
  ((List.range k).filter fun j => j == 0 || !q (C.getD j 0) (C.getD (j - 1) 0)).map (C.getD · 0)

section
variable {q : Nat → Nat → Bool} {C : List Nat}
theorem keepTo_zero : keepTo q C 0 = [] := rfl
theorem keepTo_one : keepTo q C 1 = [C.getD 0 0] := rfl
theorem keepTo_yes {k : Nat} (hk : 0 < k) (h : q (C.getD k 0) (C.getD (k - 1) 0) = true) : keepTo q C (k + 1) = keepTo q C k := by
  unfold keepTo
  have h0 : (k == 0) = false := by simp; omega
  simp only [List.range_succ, List.filter_append, List.filter_cons, List.filter_nil, h, h0, Bool.not_true, Bool.or_false]
  simp
theorem keepTo_no {k : Nat} (h : q (C.getD k 0) (C.getD (k - 1) 0) = false) : keepTo q C (k + 1) = keepTo q C k ++ [C.getD k 0] := by
  unfold keepTo
  simp only [List.range_succ, List.filter_append, List.filter_cons, List.filter_nil, h, Bool.not_false, Bool.or_true]
  simp
theorem keepTo_le (k : Nat) : (keepTo q C k).length ≤ k := by
  unfold keepTo
  rw [List.length_map]
  exact Nat.le_trans (List.length_filter_le _ _) (by simp)
theorem keepTo_all {k : Nat} (hk : k ≤ C.length) (h : ∀ j, 0 < j → j < k → q (C.getD j 0) (C.getD (j - 1) 0) = false) : keepTo q C k = C.take k := by
  induction k with
  | zero => simp [keepTo_zero]
  | succ k ih =>
    by_cases h0 : k = 0
    · subst h0
      cases C with
      | nil => simp at hk
      | cons x C => simp [keepTo_one]
    · rw [keepTo_no (h k (by omega) (by omega)), ih (by omega) (fun j h1 h2 => h j h1 (by omega)), List.take_succ_eq_append_getElem (by omega), List.getD_eq_getElem?_getD, List.getElem?_eq_getElem (by omega)]; rfl
end

/-- Between two rounds of the first loop. -/
def Compact1 (n : Nat) (q : Nat → Nat → Bool) (C : List Nat) (F : Nat → Prop) (w0 : World) (kv : Value) (w : World) : Prop :=
  ∃ k : Nat, 1 ≤ k ∧ k ≤ n ∧ kv = .int .i64 k ∧ (∀ j, 0 < j → j < k → q (C.getD j 0) (C.getD (j - 1) 0) = false) ∧ Kp F w0 w
/-- Between two rounds of the second one. -/
def Compact2 (n k0 : Nat) (q : Nat → Nat → Bool) (C : List Nat) (w0 : World) (g : Nat) (val : Nat → Value) (rest : List Value) (e : TypeId) (kv jv : Value) (w : World) : Prop :=
  ∃ k j : Nat, 1 ≤ j ∧ k0 + j ≤ n ∧ kv = .int .i64 k ∧ jv = .int .i64 j ∧ k0 ≤ k ∧ k < k0 + j ∧ (keepTo q C (k0 + j)).length = k ∧ Kp (fun i => i = g) w0 w ∧
    Blk w g ((keepTo q C (k0 + j)).map val ++ (C.map val ++ rest).drop k) e

/-- A likeness that Compact may ask. -/
def LikeOn (P : Program) (f : FuncId) (first captured : Array Value) (g n : Nat) (w0 : World) (val : Nat → Value) (q : Nat → Nat → Bool) : Prop :=
  (∀ args w, (callFunc f args).run P w = .ok (Next.enter f args) w) ∧ ∀ w, Kp (fun k => k = g) w0 w → ∀ i j, i < n → j < n → Calls P f (first ++ (#[val i, val j] ++ captured)) w fun e w' => e = .returned (.bool (q i j)) ∧ Ext w w'

theorem compact_cell {K C : List Nat} {val : Nat → Value} {rest : List Value} {k t : Nat} (hk : K.length = k) (ht : k ≤ t) (htC : t < C.length) :
    (K.map val ++ (C.map val ++ rest).drop k)[t]? = some (val (C.getD t 0)) := by
  rw [List.getElem?_append_right (by simp; omega), List.getElem?_drop, List.length_map, hk, show k + (t - k) = t by omega, List.getElem?_append_left (by simpa using htC), List.getElem?_map, List.getD_eq_getElem?_getD, List.getElem?_eq_getElem htC]; rfl
theorem compact_set {K C : List Nat} {val : Nat → Value} {rest : List Value} {k x : Nat} (hk : K.length = k) (hc : k < C.length) :
    (K.map val ++ (C.map val ++ rest).drop k).set k (val x) = (K ++ [x]).map val ++ (C.map val ++ rest).drop (k + 1) := by
  rw [List.set_append_right _ _ (by simp; omega), List.length_map, hk, Nat.sub_self, List.drop_eq_getElem_cons (i := k) (by simp; omega), List.set_cons_zero]
  simp
end Go.Proofs.Ytfkhelihepbehaa
