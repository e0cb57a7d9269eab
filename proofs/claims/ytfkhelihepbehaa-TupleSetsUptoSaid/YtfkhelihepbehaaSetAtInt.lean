/- tuple.Set at int: At, Each. -/
import Derived.Test.YtfkhelihepbehaaSetMeetInt
namespace Go.Proofs.Ytfkhelihepbehaa
open Go.RowKit
set_option linter.unusedVariables false

section
variable {S : Nat → Prop} {w : World} {b : Nat} {ov iv : Value} {tail : List Value} {te : TypeId} {D : Int → Prop} {c : Int → Int → Int} {zs : List (Int)}

set_option maxRecDepth 100000 in
theorem setAtInt_in (h : SetAtInt Try.prog S w b ov iv tail te D c zs) (k : Nat) (x : Int) (hx : zs[k]? = some x) :
    Calls Try.prog 56 #[.pointer (some ⟨b, 0, none⟩), .int .i64 k] w (Ret (.tuple #[(Value.int .i64 (x)), .bool true]) w) := by
  obtain ⟨c1, c2⟩ := h.cells
  obtain ⟨ao, cap, rfl, hc, hcap⟩ := h.row.shape
  have HL := Lib.hid (setLenInt_any h)
  have hl := h.len
  have hk := (List.getElem?_eq_some_iff.1 hx).1
  obtain ⟨g, o, eao, c3⟩ := hc k ((Value.int .i64 (x))) (by rw [List.getElem?_map, hx]; rfl)
  subst eao
  clear h hc
  have t1 : decide ((k : Int) < 0) = false := by simp
  have t2 : decide ((k : Int) ≥ (zs.length : Int)) = false := by simp; omega
  have t3 : decide ((zs.length : Int) ≤ (k : Int)) = false := by simp; omega
  have t4 : (k : Int) < (zs.length : Int) := by omega
  go_enter Try.func56, Try.ntmps56
  go_wp2_with fail
  refine HL.out.mono ?_
  rintro e w' ⟨rfl, rfl⟩
  go_wp2
  go_ret2
  exact Ret.mk rfl
set_option maxRecDepth 100000 in
theorem setAtInt_out {v : Value} (h : PtrSetInt Try.prog S w v zs) (i : Int) (hi : i < 0 ∨ zs.length ≤ i) :
    Calls Try.prog 56 #[v, .int .i64 i] w (Ret (.tuple #[.int .i64 0, .bool false]) w) := by
  have HL := Lib.hid (setLenInt_ptr h); clear h
  by_cases h0 : i < 0
  · have t1 : decide (i < 0) = true := by simp [h0]
    go_enter Try.func56, Try.ntmps56
    go_wp2
    go_ret2
    exact Ret.mk rfl
  · have t1 : decide (i < 0) = false := by simp; omega
    have t2 : decide (i ≥ (zs.length : Int)) = true := by simp; omega
    have t3 : decide ((zs.length : Int) ≤ i) = true := by simp; omega
    go_enter Try.func56, Try.ntmps56
    go_wp2_with fail
    refine HL.out.mono ?_
    rintro e w' ⟨rfl, rfl⟩
    go_wp2
    go_ret2
    exact Ret.mk rfl
end
end Go.Proofs.Ytfkhelihepbehaa
