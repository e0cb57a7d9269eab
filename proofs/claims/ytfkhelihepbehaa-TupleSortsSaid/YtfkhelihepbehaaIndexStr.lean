/- slices.IndexFunc, ContainsFunc at string. -/
import Derived.Test.YtfkhelihepbehaaBinStr
namespace Go.Proofs.Ytfkhelihepbehaa
open Go.RowKit
set_option linter.unusedVariables false

/-- A function that tells of each element. -/
def TellEachStr (P : Program) (f : FuncId) (first captured : Array Value) (w0 : World) (vs : List Value) (q : Nat → Bool) : Prop :=
  (∀ args w, (callFunc f args).run P w = .ok (Next.enter f args) w) ∧ ∀ w, Ext w0 w → ∀ i u, vs[i]? = some u → Calls P f (first.push u ++ captured) w fun e w' => e = .returned (.bool (q i)) ∧ Ext w w'
/-- Between two rounds: none so far. -/
def NoneAtStr (n : Nat) (q : Nat → Bool) (w0 : World) (iv : Value) (w : World) : Prop :=
  ∃ i : Nat, i ≤ n ∧ iv = .int .i64 i ∧ (∀ j, j < i → q j = false) ∧ Ext w0 w
/-- The first place at which it holds; none: -1. -/
def FirstIsStr (n : Nat) (q : Nat → Bool) (v : Value) : Prop := (∃ i : Nat, i < n ∧ v = .int .i64 i ∧ q i = true ∧ ∀ j, j < i → q j = false) ∨ (v = .int .i64 (-1) ∧ ∀ j, j < n → q j = false)

set_option maxRecDepth 100000 in
set_option maxHeartbeats 2000000 in
theorem indexFuncStr_any (vs : List Value) (ao : Option Addr) (c : Nat) (f : FuncId) (first captured : Array Value) (q : Nat → Bool) (w : World) (n : Nat) (hn : n = vs.length)
    (ha : CellsAt w ao vs) (hcmp : TellEachStr Try.prog f first captured w vs q) (hbig : n ≤ 4611686018427387904) :
    Calls Try.prog 145 #[.slice ao n c, .func (Fn.func f) first captured] w (RetN w fun w' v => FirstIsStr n q v) := by
  have hent := hcmp.1
  have HC := Lib.hid hcmp.2; clear hcmp
  have HA := Lib.hid ha; clear ha
  have HN := Lib.hid hn; clear hn
  go_enter Try.func145, Try.ntmps145
  go_wp2
  go_loopw [8] (NoneAtStr n q w) (fun i _ => n - (intOf i).toNat)
  case atStart => exact ⟨0, Nat.zero_le _, rfl, by simp, Kp.refl _⟩
  case round =>
    obtain ⟨i, hi, rfl, hq, hkp⟩ := hrel
    have HQ := Lib.hid hq; clear hq
    by_cases hlt : i < n
    · have g1 : vs[i]? = some (vs[i]'(by have := HN.out; omega)) := List.getElem?_eq_getElem _
      obtain ⟨b1, o1, eao, c1⟩ := (HA.out.ext hkp) i _ g1
      have hcall := fun W hW => HC.out W hW i _ g1
      have HCall := Lib.hid hcall; clear hcall
      clear g1
      generalize vs[i]'(by have := HN.out; omega) = u at *
      subst eao
      cases hqi : q i
      · rw [hqi] at HCall
        have HI := Lib.hid hqi; clear hqi
        go_wp2_with fail
        refine (HCall.out _ hkp).mono ?_
        rintro e w1 ⟨rfl, hk2⟩
        have hkp2 := hkp.ext hk2
        clear hk2 c1
        go_wp2
        go_roundw
        case rel =>
          refine ⟨i + 1, by omega, by first | rfl | (congr 1; done) | (congr 1; omega), fun j hj => ?_, hkp2⟩
          by_cases e : j = i
          · subst e; exact HI.out
          · exact HQ.out j (by omega)
        case measure => first | (simp [intOf]; done) | (simp [intOf]; omega)
      · rw [hqi] at HCall
        have HI := Lib.hid hqi; clear hqi
        go_wp2_with fail
        refine (HCall.out _ hkp).mono ?_
        rintro e w1 ⟨rfl, hk2⟩
        have hkp2 := hkp.ext hk2
        clear hk2 c1
        go_wp2
        go_ret
        exact RetN.mk hkp2 (.inl ⟨i, hlt, rfl, HI.out, HQ.out⟩)
    · have e : n = i := by omega
      subst e
      clear hlt hi
      go_wp2
      go_ret
      exact RetN.mk hkp (.inr ⟨rfl, HQ.out⟩)

theorem containsFuncStr_any (vs : List Value) (ao : Option Addr) (c : Nat) (f : FuncId) (first captured : Array Value) (q : Nat → Bool) (w : World) (n : Nat) (hn : n = vs.length)
    (ha : CellsAt w ao vs) (hcmp : TellEachStr Try.prog f first captured w vs q) (hbig : n ≤ 4611686018427387904) :
    Calls Try.prog 128 #[.slice ao n c, .func (Fn.func f) first captured] w (RetN w fun w' v => v = .bool ((List.range n).any q)) := by
  have HI := Lib.hid (indexFuncStr_any vs ao c f first captured q w n hn ha hcmp hbig); clear ha hcmp hn
  go_enter Try.func128, Try.ntmps128
  go_wp2_with fail
  refine HI.out.mono ?_
  rintro e w1 ⟨v, rfl, hk, ⟨i, hi, rfl, hq, _⟩ | ⟨rfl, hq⟩⟩
  · have t : (List.range n).any q = true := List.any_eq_true.2 ⟨i, List.mem_range.2 hi, hq⟩
    have HK := Lib.hid (And.intro hk t); clear hk hq t
    go_wp2
    go_ret
    exact RetN.mk HK.out.1 (by rw [HK.out.2]; first | rfl | simp)
  · have t : (List.range n).any q = false := by
      rw [List.any_eq_false]
      intro i hi
      simp [hq i (List.mem_range.1 hi)]
    have HK := Lib.hid (And.intro hk t); clear hk hq t
    go_wp2
    go_ret
    exact RetN.mk HK.out.1 (by rw [HK.out.2]; first | rfl | simp)
end Go.Proofs.Ytfkhelihepbehaa
