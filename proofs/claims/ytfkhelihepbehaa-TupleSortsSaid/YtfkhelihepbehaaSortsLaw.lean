/- TupleSorts walked: the order of rows is one. -/
import Derived.Test.YtfkhelihepbehaaKnown
import Derived.Test.YtfkhelihepbehaaRead
import Derived.Test.YtfkhelihepbehaaRows
namespace Go.Proofs.Ytfkhelihepbehaa
open Go.RowKit
set_option linter.unusedVariables false

set_option maxRecDepth 100000 in
set_option maxHeartbeats 2000000 in
theorem sorts_walk (v0 v1 v2 : Value) (w : World) (h0 : InStrs w v0 8796093021952 140737488351232) (h1 : InStrs w v1 8796093021952 140737488351232) (h2 : InStrs w v2 8796093021952 140737488351232) :
    Calls Try.prog 5 #[v0, v1, v2] w (fun e w' => e = .returned (.bool true) ∧ Below w.heap.size w w') := by
  obtain ⟨a0, c0, xs, rfl, h0, l0, _⟩ := h0
  obtain ⟨a1, c1, bs, rfl, h1, l1, _⟩ := h1
  obtain ⟨a2, c2, cs, rfl, h2, l2, _⟩ := h2
  have HK := Lib.hid (known_any w)
  have m0 : xs.length ≤ maxLen := by unfold maxLen; omega
  have m1 : bs.length ≤ maxLen := by unfold maxLen; omega
  have m2 : cs.length ≤ maxLen := by unfold maxLen; omega
  obtain ⟨x, ex⟩ : ∃ x, x = cmpRow xs bs := ⟨_, rfl⟩
  obtain ⟨y, ey⟩ : ∃ y, y = cmpRow bs cs := ⟨_, rfl⟩
  obtain ⟨z, ez⟩ : ∃ z, z = cmpRow xs cs := ⟨_, rfl⟩
  have hx := cmpRow_cases xs bs
  have hsw := cmpRow_swap xs bs
  have htr : x ≤ 0 → y ≤ 0 → z ≤ 0 := fun p q => by rw [ez]; exact cmpRow_trans (ex ▸ p) (ey ▸ q)
  have HAB := Lib.hid (fun w1 (hw : Ext w w1) => tupleCompare_any xs bs a0 a1 c0 c1 w1 (h0.ext hw) (h1.ext hw) m0 m1)
  have HBC := Lib.hid (fun w1 (hw : Ext w w1) => tupleCompare_any bs cs a1 a2 c1 c2 w1 (h1.ext hw) (h2.ext hw) m1 m2)
  have HAC := Lib.hid (fun w1 (hw : Ext w w1) => tupleCompare_any xs cs a0 a2 c0 c2 w1 (h0.ext hw) (h2.ext hw) m0 m2)
  have HBA := Lib.hid (fun w1 (hw : Ext w w1) => tupleCompare_any bs xs a1 a0 c1 c0 w1 (h1.ext hw) (h0.ext hw) m1 m0)
  have HSA := Lib.hid (fun w1 (hw : Ext w w1) => same_any xs bs a0 a1 c0 c1 w1 (h0.ext hw) (h1.ext hw) m0)
  have hz : decide (xs = bs) = decide (x = 0) := by
    rw [Bool.eq_iff_iff, decide_eq_true_iff, decide_eq_true_iff, ex]
    exact ⟨fun h => by rw [h]; exact cmpRow_self _, cmpRow_zero⟩
  rw [← ex] at HAB hx hsw
  rw [← ey] at HBC
  rw [← ez] at HAC
  rw [hsw] at HBA
  rw [hz] at HSA
  have HTR := Lib.hid htr
  clear ex ey ez hsw hz htr h0 h1 h2 l0 l1 l2 m0 m1 m2
  go_enter Try.func5, Try.ntmps5
  go_wp2_with fail
  refine HK.out.mono ?_
  rintro e w1 ⟨v, rfl, hk, rfl⟩
  go_wp2_with fail
  refine (HAB.out w1 hk).mono ?_
  rintro e w' ⟨rfl, rfl⟩
  go_wp2_with fail
  refine (HBC.out w1 hk).mono ?_
  rintro e w' ⟨rfl, rfl⟩
  go_wp2_with fail
  refine (HAC.out w1 hk).mono ?_
  rintro e w' ⟨rfl, rfl⟩
  rcases hx with rfl | rfl | rfl
  all_goals
    go_wp2_with fail
    refine (HBA.out w1 hk).mono ?_
    rintro e w' ⟨rfl, rfl⟩
    go_wp2_with fail
    refine (HSA.out w1 hk).mono ?_
    rintro e w2 ⟨rfl, n, rfl⟩
    have hk2 := hk.drewN n
    generalize w1.drewN n = w3 at hk2 ⊢
    by_cases hy : y ≤ 0
    · by_cases hz : z ≤ 0
      · go_wp2
        go_ret
        exact ⟨rfl, hk2.below⟩
      · have HY := Lib.hid (And.intro hy hz)
        first
          | (exfalso; exact HY.out.2 (HTR.out (by decide) HY.out.1))
          | (go_wp2
             go_ret
             exact ⟨rfl, hk2.below⟩)
    · go_wp2
      go_ret
      exact ⟨rfl, hk2.below⟩
end Go.Proofs.Ytfkhelihepbehaa

namespace Go.Proofs.Ytfkhelihepbehaa.lawTupleSorts
open Go.ChangeShapes Go.WideShapes Go.ChangeAt Go.RowKit
open Go.ChangeMaps (open_string shut_string)
set_option linter.unusedVariables false

theorem own : ownKnob Try.prog.godebug = none := by kernel_rfl
theorem laidOut : laidOutB Try.prog = true := by kernel_rfl

set_option maxRecDepth 100000 in
theorem lifted (os : Os) (started : os.Started) (H : Type) (enc : TypeId × Value → H) :
    ReturnsInHanded {} Try.checked os 5 .any (Rows.tupleSortsSpec.pre6 enc Try.prog Try.f5 Rows.tupleSortsRow.domain false) (Rows.tupleSortsSpec.post enc Try.prog Try.f5 false true false false) := by
  refine returnsInHanded_of_change_sized (C := Try.checked) own started (by kernel_rfl) Try.func5
    (ChangeSpec.witness6 (enc := enc) (C := Try.checked) false ⟨#[], #[.slice none 0 0, .slice none 0 0, .slice none 0 0], []⟩ 8 (by kernel_rfl) (by kernel_rfl) (by kernel_rfl) (by kernel_rfl)) ?_
  intro W base args ds gs before hval0 hW hcnd hsz0 _
  have hsz : (DataW.weightsEach Try.prog (Try.f5.params.toList ++ Rows.tupleSortsSpec.plain.varTypes Try.prog) (ds ++ gs)).all (· ≤ reachBytes) = true := hsz0
  clear hsz0
  have hval : ∀ (j : Nat) t v, Try.f5.params[j]? = some t → args[j]? = some v → Value.okWide Try.prog W .any base t v := hval0
  have hW' := hW
  obtain ⟨p, q, hA0, hV, rfl, hfz, hnd⟩ := hW
  have hA : DataW.TrodAll enc Try.prog W 0 (fun _ => true) true Try.f5.params.toList args.toList ds p := hA0
  rw [Try.params5] at hA hval hsz
  obtain ⟨v0, vs0, d0, ds0, p0, q0, hargs, rfl, rfl, h0, r0⟩ := trodAll_cons hA
  obtain ⟨v1, vs1, d1, ds1, p1, q1, rfl, rfl, rfl, h1, r1⟩ := trodAll_cons r0
  obtain ⟨v2, vs2, d2, ds2, p2, q2, rfl, rfl, rfl, h2, r2⟩ := trodAll_cons r1
  obtain ⟨rfl, rfl, rfl⟩ := trodAll_nil r2
  obtain rfl : args = #[v0, v1, v2] := by cases args; simp_all
  obtain ⟨rfl, rfl⟩ := trodVars_none hV
  have lt0 : ∀ x ∈ p0, x.block < W.heap.size := by obtain ⟨m, hm⟩ := h0; exact DataW.trod_lt m _ _ _ hm
  have lt1 : ∀ x ∈ p1, x.block < W.heap.size := by obtain ⟨m, hm⟩ := h1; exact DataW.trod_lt m _ _ _ hm
  have lt2 : ∀ x ∈ p2, x.block < W.heap.size := by obtain ⟨m, hm⟩ := h2; exact DataW.trod_lt m _ _ _ hm
  clear hA0 hval0
  have x0 := read_strs Try.underlying22 Try.underlying9 (by kernel_rfl) (by kernel_rfl) (hval 0 22 v0 rfl rfl) h0 (sized_of hsz (j := 0) rfl rfl)
  have x1 := read_strs Try.underlying22 Try.underlying9 (by kernel_rfl) (by kernel_rfl) (hval 1 22 v1 rfl rfl) h1 (sized_of hsz (j := 1) rfl rfl)
  have x2 := read_strs Try.underlying22 Try.underlying9 (by kernel_rfl) (by kernel_rfl) (hval 2 22 v2 rfl rfl) h2 (sized_of hsz (j := 2) rfl rfl)
  refine (sorts_walk v0 v1 v2 W x0 x1 x2).mono fun e W' ⟨he, bel⟩ => ?_
  subst he
  exact ⟨_, rfl, _, _, _, [], _, [], hW', trodAll_mk1 (shut_bool Try.underlying4 _), (trodAll_cons_mk (Below.trod laidOut (by kernel_rfl) (of_decide_eq_true (by kernel_rfl)) h0 bel lt0) (trodAll_cons_mk (Below.trod laidOut (by kernel_rfl) (of_decide_eq_true (by kernel_rfl)) h1 bel lt1) (trodAll_cons_mk (Below.trod laidOut (by kernel_rfl) (of_decide_eq_true (by kernel_rfl)) h2 bel lt2) trodAll_mk0))), rfl, bel.frame _, fun h => by cases h⟩

theorem over : Rows.tupleSortsRow.holds Try.pinned (OpenSpec.ofChange Rows.tupleSortsSpec) :=
  OpenClaim.holds_of_wide 5 Try.f5 rfl rfl rfl rfl rfl rfl rfl ⟨rfl, rfl, rfl, rfl, rfl⟩ rfl rfl rfl rfl rfl (by kernel_rfl) Try.func5 (by kernel_rfl)
    (of_decide_eq_true (by kernel_rfl)) (by unfold Func.isWrapper; first | (rw [if_pos (by decide +kernel)]; kernel_rfl) | (rw [if_neg (by decide +kernel)]; exact ⟨rfl, rfl⟩))
    (fun os started H enc _ => lifted os started H enc)

theorem proved : Rows.TupleSortsSaid := over
#print axioms proved
end Go.Proofs.Ytfkhelihepbehaa.lawTupleSorts
