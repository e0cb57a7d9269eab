/- slices.Clone, EqualFunc, Grow, Concat at int. -/
import Derived.Test.YtfkhelihepbehaaBinInt
namespace Go.Proofs.Ytfkhelihepbehaa
open Go.RowKit
set_option linter.unusedVariables false

theorem cloneInt_any (vs : List Value) (ao : Option Addr) (cap : Nat) (w : World) (n : Nat) (hn : n = vs.length) (hc : CellsAt w ao vs) (h1 : ∀ u ∈ vs, u.oneCell' = true) (hm : n * 8 ≤ 140737488355328) :
    Calls Try.prog 27 #[.slice ao n cap] w (RetN w fun w' v => Row w' 3 1 v n vs (New w)) := by
  have hq : ∀ w : World, (binOp .eql 26 (.slice ao n cap) (.slice none 0 0)).run Try.prog w = .ok (.bool ao.isNone) w := fun w => Lib.run_eql_slice_nil w _ _ _ _ _ _ _ Try.underlying26
  have HNN := Lib.hid hn; clear hn
  have hl : n ≤ maxLen := by unfold maxLen; omega
  cases ao with
  | none =>
    have hv : vs = [] := by
      cases vs with
      | nil => rfl
      | cons x vs => obtain ⟨b, o, h, _⟩ := hc.off (by simp); cases h
    subst hv
    have h0 : n = 0 := HNN.out
    subst h0
    go_enter Try.func27, Try.ntmps27
    go_wp2
    go_ret
    exact RetN.mk (Kp.refl _) (Row.nil _ _ _ _)
  | some a =>
    go_enter Try.func27, Try.ntmps27
    go_wp2_with (first | (at_builtin; refine Halted.out ?_))
    refine Halted.mk (wp_appN elemInt rfl _ _ rfl ((Kp.refl (F := fun _ => False) w).alloc _) rfl (Row.empty w 3 1 (New w) (Nat.le_refl _)) rfl (hc.alloc _) (by rw [HNN.out, Nat.mul_one]) h1 (by omega) (by omega) ?_)
    intro v1 w1 hr1 hk1 _ _
    have HR := Lib.hid hr1; clear hr1
    go_wp2
    go_ret
    exact RetN.mk hk1 (by simpa using HR.out)

def EqEachInt (P : Program) (f : FuncId) (first captured : Array Value) (w0 : World) (us vs : List Value) (q : Nat → Bool) : Prop :=
  (∀ args w, (callFunc f args).run P w = .ok (Next.enter f args) w) ∧ ∀ w, Ext w0 w → ∀ i u v, us[i]? = some u → vs[i]? = some v → Calls P f (first ++ (#[u, v] ++ captured)) w fun e w' => e = .returned (.bool (q i)) ∧ Ext w w'
def EqAtInt (n : Nat) (q : Nat → Bool) (w0 : World) (iv : Value) (w : World) : Prop :=
  ∃ i : Nat, i ≤ n ∧ iv = .int .i64 i ∧ (∀ j, j < i → q j = true) ∧ Ext w0 w

set_option maxRecDepth 100000 in
set_option maxHeartbeats 2000000 in
theorem equalFuncInt_any (us vs : List Value) (ao bo : Option Addr) (c d : Nat) (f : FuncId) (first captured : Array Value) (q : Nat → Bool) (w : World) (n m : Nat) (hn : n = us.length) (hm : m = vs.length)
    (ha : CellsAt w ao us) (hb : CellsAt w bo vs) (hcmp : EqEachInt Try.prog f first captured w us vs q) (hbig : n ≤ 4611686018427387904) (hbig2 : m ≤ 4611686018427387904) :
    Calls Try.prog 96 #[.slice ao n c, .slice bo m d, .func (Fn.func f) first captured] w
      (RetF (fun _ => False) w fun w' v => ∃ r : Bool, v = .bool r ∧ (r = true ↔ n = m ∧ ∀ i, i < n → q i = true)) := by
  by_cases hnm : n = m
  · subst hnm
    have hent := hcmp.1
    have HC := Lib.hid hcmp.2; clear hcmp
    have HA := Lib.hid ha; have HB := Lib.hid hb; clear ha hb
    have HN := Lib.hid hn; have HM := Lib.hid hm; clear hn hm
    have hne : ((n : Int) != (n : Int)) = false := by simp
    go_enter Try.func96, Try.ntmps96
    go_wp2
    go_loopw [17] (EqAtInt n q w) (fun i _ => n - (intOf i).toNat)
    case atStart => exact ⟨0, Nat.zero_le _, rfl, by simp, Kp.refl _⟩
    case round =>
      obtain ⟨i, hi, rfl, hq, hkp⟩ := hrel
      have HQ := Lib.hid hq; clear hq
      by_cases hlt : i < n
      · have g1 : us[i]? = some (us[i]'(by have := HN.out; omega)) := List.getElem?_eq_getElem _
        have g2 : vs[i]? = some (vs[i]'(by have := HM.out; omega)) := List.getElem?_eq_getElem _
        obtain ⟨b1, o1, rfl, c1⟩ := (HA.out.ext hkp) i _ g1
        obtain ⟨b2, o2, rfl, c2⟩ := (HB.out.ext hkp) i _ g2
        have hcall := fun W hW => HC.out W hW i _ _ g1 g2
        have HCall := Lib.hid hcall; clear hcall
        have HG := Lib.hid (And.intro g1 g2); clear g1 g2
        generalize us[i]'(by have := HN.out; omega) = u at *
        generalize vs[i]'(by have := HM.out; omega) = v at *
        cases hqi : q i
        · rw [hqi] at HCall
          have HI := Lib.hid hqi; clear hqi
          go_wp2_with fail
          refine (HCall.out _ hkp).mono ?_
          rintro e w1 ⟨rfl, hk2⟩
          have hkp2 := hkp.ext hk2
          clear hk2 c1 c2
          go_wp2
          go_ret
          refine RetF.mk hkp2 ⟨false, rfl, by simp, fun h => ?_⟩
          have := h.2 i hlt; rw [HI.out] at this; cases this
        · rw [hqi] at HCall
          have HI := Lib.hid hqi; clear hqi
          go_wp2_with fail
          refine (HCall.out _ hkp).mono ?_
          rintro e w1 ⟨rfl, hk2⟩
          have hkp2 := hkp.ext hk2
          clear hk2 c1 c2
          go_wp2
          go_roundw
          case rel =>
            refine ⟨i + 1, by omega, by first | rfl | (congr 1; done) | (congr 1; omega), fun j hj => ?_, hkp2⟩
            by_cases e : j = i
            · subst e; exact HI.out
            · exact HQ.out j (by omega)
          case measure => simp [intOf]; omega
      · go_wp2
        go_ret
        exact RetF.mk hkp ⟨true, rfl, by simp only [true_iff]; exact ⟨trivial, fun i hi => HQ.out i (by omega)⟩⟩
  · have hne : ((n : Int) != (m : Int)) = true := by rw [bne_iff_ne]; omega
    clear hcmp hn hm ha hb
    go_enter Try.func96, Try.ntmps96
    go_wp2
    go_ret
    exact RetF.mk (Kp.refl _) ⟨false, rfl, by simp; omega⟩

theorem growInt_nil (k : Nat) (w : World) (hm : k * 8 ≤ 140737488355328) :
    Calls Try.prog 126 #[.slice none 0 0, .int .i64 k] w (RetN w fun w' v => Row w' 3 1 v 0 [] (New w)) := by
  have hl : k ≤ maxLen := by unfold maxLen; omega
  by_cases h0 : k = 0
  · subst h0
    go_enter Try.func126, Try.ntmps126
    go_wp2
    go_ret
    exact RetN.mk (Kp.refl _) (Row.nil _ _ _ _)
  · obtain ⟨w', G, hrun, hG, hGm, hext, hsz, hB⟩ := run_app_zeros (w := w) elemInt rfl Try.underlying3 (ao := none) (n := 0) (cap := 0) (olds := []) (CellsAt.nil _ _) rfl (k := k) (by omega) (by omega) (by omega) (by omega)
    simp only [Nat.zero_add, List.nil_append, Nat.sub_zero] at hrun hG hB
    have hG0 : ¬ G = 0 := by omega
    have HB := Lib.hid hB
    have HE := Lib.hid hext
    clear hB hext hsz
    unfold maxLen at hl hGm
    go_enter Try.func126, Try.ntmps126
    go_wp2_with (first | (at_builtin; refine Halted.out ?_))
    refine Halted.mk (wp_appRun rfl _ _ rfl rfl rfl hrun ?_)
    clear hrun
    go_wp2
    go_ret
    exact RetN.mk HE.out ⟨by simp, .inr ⟨_, G, List.replicate G (.int .i64 0), rfl, Nat.le_refl _, HB.out.congrL (by simp), by simp, Nat.zero_le _, by unfold maxLen; omega⟩⟩

/-- A list of slices as a call is handed it. -/
def partsInt (ps : List (Option Addr × Nat × List Value)) : List Value := ps.map fun p => .slice p.1 p.2.2.length p.2.1
def totalInt (ps : List (Option Addr × Nat × List Value)) : Nat := (ps.map fun p => p.2.2.length).sum
theorem total_snocInt (ps : List (Option Addr × Nat × List Value)) (p : Option Addr × Nat × List Value) : totalInt (ps ++ [p]) = totalInt ps + p.2.2.length := by simp [totalInt]
theorem total_takeInt (ps : List (Option Addr × Nat × List Value)) (i : Nat) : totalInt (ps.take i) ≤ totalInt ps := by
  have : totalInt ps = totalInt (ps.take i) + totalInt (ps.drop i) := by
    conv => lhs; rw [← List.take_append_drop i ps]
    simp only [totalInt, List.map_append, List.sum_append]
  omega
def ConcatAInt (ps : List (Option Addr × Nat × List Value)) (iv sv : Value) : Prop := ∃ i : Nat, i ≤ ps.length ∧ iv = .int .i64 i ∧ sv = .int .i64 (totalInt (ps.take i))
def ConcatBInt (ps : List (Option Addr × Nat × List Value)) (w0 : World) (e : TypeId) (iv sv : Value) (w : World) : Prop :=
  ∃ i : Nat, i ≤ ps.length ∧ iv = .int .i64 i ∧ Ext w0 w ∧ Row w e 1 sv (totalInt (ps.take i)) ((ps.take i).flatMap fun p => p.2.2) (New w0)

set_option maxRecDepth 100000 in
set_option maxHeartbeats 2000000 in
theorem concatInt_any (ps : List (Option Addr × Nat × List Value)) (oa : Option Addr) (oc : Nat) (w : World) (k : Nat) (hk : k = ps.length) (ho : CellsAt w oa (partsInt ps)) (hps : ∀ p ∈ ps, CellsAt w p.1 p.2.2 ∧ ∀ u ∈ p.2.2, u.oneCell' = true)
    (hm : totalInt ps * 8 ≤ 140737488355328) (hk2 : k ≤ 4611686018427387904) :
    Calls Try.prog 91 #[.slice oa k oc] w (RetN w fun w' v => Row w' 3 1 v (totalInt ps) (ps.flatMap fun p => p.2.2) (New w)) := by
  have hbig : totalInt ps ≤ 4611686018427387904 := by omega
  have HK := Lib.hid hk; clear hk
  have HO := Lib.hid ho; clear ho
  have HP := Lib.hid hps; clear hps
  have tt := total_takeInt ps
  go_enter Try.func91, Try.ntmps91
  go_wp2
  go_loop [11, 3] (ConcatAInt ps) (fun i _ => k - (intOf i).toNat)
  case atStart => exact ⟨0, Nat.zero_le _, rfl, rfl⟩
  case round =>
    obtain ⟨i, hi, rfl, rfl⟩ := hrel
    by_cases hlt : i < k
    · have hi' : i < ps.length := by have := HK.out; omega
      obtain ⟨b, off, rfl, c1⟩ := HO.out i (.slice ps[i].1 ps[i].2.2.length ps[i].2.1) (by simp [partsInt, hi'])
      have t1 := tt i
      have t2 := tt (i + 1)
      have e2 : totalInt (ps.take (i + 1)) = totalInt (ps.take i) + ps[i].2.2.length := by rw [List.take_succ_eq_append_getElem hi', total_snocInt]
      have E2 := Lib.hid e2; rw [e2] at t2; clear e2
      generalize hT : totalInt (ps.take i) = T at *
      generalize ps[i].2.2.length = m at *
      have HT := Lib.hid hT; clear hT tt
      have hT0 : ¬ ((T : Int) + m < 0) := by omega
      go_wp2
      go_round
      case rel => exact ⟨i + 1, by omega, by first | rfl | (congr 1; done) | (congr 1; omega), by rw [E2.out]; go_num⟩
      case measure => simp [intOf]; omega
    · have hik : i = ps.length := by have := HK.out; omega
      subst hik
      rw [List.take_length] 
      clear tt
      go_wp2_with fail
      refine (growInt_nil (totalInt ps) w hm).mono ?_
      rintro e w1 ⟨v, rfl, hk1, hr1⟩
      have tt := total_takeInt ps
      go_wp2
      go_loopw [27, 6] (ConcatBInt ps w 3) (fun i _ _ => ps.length - (intOf i).toNat)
      case atStart => exact ⟨0, Nat.zero_le _, rfl, hk1, by simpa [totalInt] using hr1⟩
      case round =>
        obtain ⟨i, hi2, rfl, hkp, hr⟩ := hrel
        by_cases hlt2 : i < ps.length
        · have hlt3 : i < k := by have := HK.out; omega
          obtain ⟨b, off, rfl, c1⟩ := (HO.out.ext hkp) i (.slice ps[i].1 ps[i].2.2.length ps[i].2.1) (by simp [partsInt, hlt2])
          obtain ⟨hs, h1⟩ := HP.out ps[i] (List.getElem_mem hlt2)
          have hs' := hs.ext hkp
          have t2 := tt (i + 1)
          have e2 : totalInt (ps.take (i + 1)) = totalInt (ps.take i) + ps[i].2.2.length := by rw [List.take_succ_eq_append_getElem hlt2, total_snocInt]
          have E2 := Lib.hid e2; rw [e2] at t2; clear e2
          have e3 : (ps.take (i + 1)).flatMap (fun p => p.2.2) = (ps.take i).flatMap (fun p => p.2.2) ++ ps[i].2.2 := by rw [List.take_succ_eq_append_getElem hlt2, List.flatMap_append, List.flatMap_singleton]
          have E3 := Lib.hid e3; clear e3
          have H1 := Lib.hid h1
          clear h1 hs
          generalize hT : totalInt (ps.take i) = T at *
          have HT := Lib.hid hT; clear hT tt
          generalize (ps.take i).flatMap (fun p => p.2.2) = X at *
          generalize hY : ps[i].2.2 = Y at *
          have HY := Lib.hid hY; clear hY
          generalize ps[i].1 = ya at *
          generalize ps[i].2.1 = yc at *
          go_wp2_with (first | (at_builtin; refine Halted.out ?_))
          refine Halted.mk (wp_appN elemInt rfl _ _ rfl hkp rfl hr rfl hs' (by rw [Nat.mul_one]) H1.out (by omega) (by unfold maxLen; omega) ?_)
          intro v2 w2 hr2 hk2' _ _
          have HR2 := Lib.hid hr2; clear hr2 hr hs' c1
          go_wp2
          go_roundw
          case rel => exact ⟨i + 1, by omega, by first | rfl | (congr 1; done) | (congr 1; omega), hk2', by rw [E2.out, E3.out]; exact HR2.out⟩
          case measure => simp [intOf]; omega
        · have hik : i = ps.length := by omega
          have hlt3 : ¬ i < k := by have := HK.out; omega
          subst hik
          rw [List.take_length] at hr
          have HR := Lib.hid hr; clear hr
          go_wp2
          go_ret
          exact RetN.mk hkp HR.out
end Go.Proofs.Ytfkhelihepbehaa
