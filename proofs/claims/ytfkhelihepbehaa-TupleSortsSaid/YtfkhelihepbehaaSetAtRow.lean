/- tuple.Set at []string: At, Each. -/
import Derived.Test.YtfkhelihepbehaaSetMeetRow
namespace Go.Proofs.Ytfkhelihepbehaa
open Go.RowKit
set_option linter.unusedVariables false

section
variable {S : Nat → Prop} {w : World} {b : Nat} {ov iv : Value} {tail : List Value} {te : TypeId} {D : Option Addr × Nat × Nat → Prop} {c : Option Addr × Nat × Nat → Option Addr × Nat × Nat → Int} {zs : List (Option Addr × Nat × Nat)}

set_option maxRecDepth 100000 in
theorem setAtRow_in (h : SetAtRow Try.prog S w b ov iv tail te D c zs) (k : Nat) (x : Option Addr × Nat × Nat) (hx : zs[k]? = some x) :
    Calls Try.prog 117 #[.pointer (some ⟨b, 0, none⟩), .int .i64 k] w (Ret (.tuple #[(Value.slice (x).1 (x).2.1 (x).2.2), .bool true]) w) := by
  obtain ⟨c1, c2⟩ := h.cells
  obtain ⟨ao, cap, rfl, hc, hcap⟩ := h.row.shape
  have HL := Lib.hid (setLenRow_any h)
  have hl := h.len
  have hk := (List.getElem?_eq_some_iff.1 hx).1
  obtain ⟨g, o, eao, c3⟩ := hc k ((Value.slice (x).1 (x).2.1 (x).2.2)) (by rw [List.getElem?_map, hx]; rfl)
  subst eao
  clear h hc
  have t1 : decide ((k : Int) < 0) = false := by simp
  have t2 : decide ((k : Int) ≥ (zs.length : Int)) = false := by simp; omega
  have t3 : decide ((zs.length : Int) ≤ (k : Int)) = false := by simp; omega
  have t4 : (k : Int) < (zs.length : Int) := by omega
  go_enter Try.func117, Try.ntmps117
  go_wp2_with fail
  refine HL.out.mono ?_
  rintro e w' ⟨rfl, rfl⟩
  go_wp2
  go_ret2
  exact Ret.mk rfl
set_option maxRecDepth 100000 in
theorem setAtRow_out {v : Value} (h : PtrSetRow Try.prog S w v zs) (i : Int) (hi : i < 0 ∨ zs.length ≤ i) :
    Calls Try.prog 117 #[v, .int .i64 i] w (Ret (.tuple #[.slice none 0 0, .bool false]) w) := by
  have HL := Lib.hid (setLenRow_ptr h); clear h
  by_cases h0 : i < 0
  · have t1 : decide (i < 0) = true := by simp [h0]
    go_enter Try.func117, Try.ntmps117
    go_wp2
    go_ret2
    exact Ret.mk rfl
  · have t1 : decide (i < 0) = false := by simp; omega
    have t2 : decide (i ≥ (zs.length : Int)) = true := by simp; omega
    have t3 : decide ((zs.length : Int) ≤ i) = true := by simp; omega
    go_enter Try.func117, Try.ntmps117
    go_wp2_with fail
    refine HL.out.mono ?_
    rintro e w' ⟨rfl, rfl⟩
    go_wp2
    go_ret2
    exact Ret.mk rfl
end
end Go.Proofs.Ytfkhelihepbehaa
