/- slices.BinarySearchFunc at int, slices.Clone, slices.EqualFunc. -/
import Derived.Test.YtfkhelihepbehaaArr
import Derived.Test.YtfkhelihepbehaaSl
import Derived.Test.YtfkhelihepbehaaProg
namespace Go.Proofs.Ytfkhelihepbehaa
open Go.RowKit
set_option linter.unusedVariables false

theorem elemInt : ElemT Try.prog 26 3 1 8 (.int .i64 0) := ⟨by kernel_rfl, by kernel_rfl, rfl, by decide⟩

/-- A comparison with one value: of any of a list's values, in every world in which all old blocks are as they were. -/
def CmpToInt (P : Program) (f : FuncId) (first captured : Array Value) (w0 : World) (vs : List Value) (t : Value) (c : Nat → Int) : Prop :=
  (∀ args w, (callFunc f args).run P w = .ok (Next.enter f args) w) ∧ ∀ w, Ext w0 w → ∀ i v, vs[i]? = some v → Calls P f (first ++ (#[v, t] ++ captured)) w fun e w' => e = .returned (.int .i64 (c i)) ∧ Ext w w'

/-- The search, between two rounds. -/
def BinAtInt (n : Nat) (c : Nat → Int) (w0 : World) (iv jv : Value) (w : World) : Prop :=
  ∃ i j : Nat, i ≤ j ∧ j ≤ n ∧ iv = .int .i64 i ∧ jv = .int .i64 j ∧ (i = 0 ∨ c (i - 1) < 0) ∧ (j = n ∨ 0 ≤ c j) ∧ Ext w0 w

set_option maxRecDepth 100000 in
set_option maxHeartbeats 2000000 in
theorem binSearchInt_any (zs : List (Int)) (z : Nat → Int) (ao : Option Addr) (cap : Nat) (t : Value) (f : FuncId) (first captured : Array Value) (c : Nat → Int) (w : World) (n : Nat)
    (hc : CellsAt w ao ((List.range n).map fun i => (Value.int .i64 (z (i))))) (hcmp : CmpToInt Try.prog f first captured w ((List.range n).map fun i => (Value.int .i64 (z (i)))) t c) (hm : n ≤ 4611686018427387904) :
    Calls Try.prog 123 #[.slice ao n cap, t, .func (Fn.func f) first captured] w
      (RetF (fun _ => False) w fun w' v => ∃ i : Nat, i ≤ n ∧ (i = 0 ∨ c (i - 1) < 0) ∧ (i = n ∨ 0 ≤ c i) ∧ v = .tuple #[.int .i64 i, .bool (decide (i < n ∧ c i = 0))]) := by
  have hent := hcmp.1
  have HC := Lib.hid hcmp.2; clear hcmp
  have cell : ∀ W : World, Ext w W → ∀ i, i < n → ∃ b off, ao = some ⟨b, off, none⟩ ∧ W.cell? ⟨b, off + i, none⟩ = some ((Value.int .i64 (z (i)))) := fun W hW i hi => by
    have := hc.ext hW
    exact this i _ (by simp [hi])
  have HCELL := Lib.hid cell; clear cell
  go_enter Try.func123, Try.ntmps123
  go_wp2
  go_loopw [9, 10] (BinAtInt n c w) (fun i j _ => (intOf j).toNat - (intOf i).toNat)
  case atStart => exact ⟨0, n, Nat.zero_le _, Nat.le_refl _, rfl, rfl, .inl rfl, .inl rfl, Kp.refl _⟩
  case round =>
    obtain ⟨i, j, hij, hj, rfl, rfl, hlo, hhi, hkp⟩ := hrel
    have HL := Lib.hid (And.intro hlo hhi); clear hlo hhi
    by_cases hlt : i < j
    · obtain ⟨h, eh⟩ : ∃ h, h = (i + j) / 2 := ⟨_, rfl⟩
      have rh : ((i : Int) + j) / 2 = (h : Int) := by omega
      have hhn : h < n := by omega
      have h1 : i ≤ h := by omega
      have h2 : h < j := by omega
      clear eh
      obtain ⟨b, off, rfl, c1⟩ := HCELL.out _ hkp h hhn
      have hcall := fun W hW => HC.out W hW h ((Value.int .i64 (z (h)))) (by simp [hhn])
      have HCall := Lib.hid hcall; clear hcall
      generalize hcc : c h = cc at HCall
      have HCC := Lib.hid hcc; clear hcc
      by_cases hneg : cc < 0
      · go_wp2_with fail
        refine (HCall.out _ hkp).mono ?_
        rintro e w1 ⟨rfl, hk2⟩
        have hkp2 := hkp.ext hk2
        clear hk2 c1
        go_wp2
        go_roundw
        case rel => exact ⟨h + 1, j, by omega, hj, by first | rfl | (congr 1; done) | (congr 1; omega), rfl, .inr (by rw [Nat.add_sub_cancel, HCC.out]; omega), HL.out.2, hkp2⟩
        case measure => simp [intOf]; omega
      · go_wp2_with fail
        refine (HCall.out _ hkp).mono ?_
        rintro e w1 ⟨rfl, hk2⟩
        have hkp2 := hkp.ext hk2
        clear hk2 c1
        go_wp2
        go_roundw
        case rel => exact ⟨i, h, by omega, by omega, rfl, by first | rfl | (congr 1; done) | (congr 1; omega), HL.out.1, .inr (by rw [HCC.out]; omega), hkp2⟩
        case measure => simp [intOf]; omega
    · obtain rfl : i = j := by omega
      by_cases hin : i < n
      · obtain ⟨b, off, rfl, c1⟩ := HCELL.out _ hkp i hin
        have hcall := fun W hW => HC.out W hW i ((Value.int .i64 (z (i)))) (by simp [hin])
        have HCall := Lib.hid hcall; clear hcall
        generalize hcc : c i = cc at HCall
        have HCC := Lib.hid hcc; clear hcc
        have key : decide (i < n ∧ c i = 0) = (cc == 0) := by rw [HCC.out]; simp [hin]; rfl
        have HK := Lib.hid key; clear key
        generalize hbb : (cc == 0) = bb at HK
        go_wp2_with fail
        refine (HCall.out _ hkp).mono ?_
        rintro e w1 ⟨rfl, hk2⟩
        have hkp2 := hkp.ext hk2
        clear hk2 c1
        go_wp2
        go_ret2
        exact RetF.mk hkp2 ⟨i, by omega, HL.out.1, HL.out.2, tup_ib HK.out⟩
      · have key : decide (i < n ∧ c i = 0) = false := by simp; omega
        have HK := Lib.hid key; clear key
        go_wp2
        go_ret2
        exact RetF.mk hkp ⟨i, by omega, HL.out.1, HL.out.2, tup_ib HK.out⟩
end Go.Proofs.Ytfkhelihepbehaa
