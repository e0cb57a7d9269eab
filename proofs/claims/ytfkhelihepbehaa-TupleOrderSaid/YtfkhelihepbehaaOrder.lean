/- Proved here: sibyllaw03.TupleOrder returns true for every two rows and leaves them as they were. No condition. -/
import Derived.Test.YtfkhelihepbehaaRows
import Derived.Test.YtfkhelihepbehaaLend
import Derived.Test.YtfkhelihepbehaaRead
namespace Go.Proofs.Ytfkhelihepbehaa
open Go.ChangeShapes Go.WideShapes Go.ChangeAt Go.RowKit
open Go.ChangeMaps (open_string shut_string)
set_option linter.unusedVariables false

set_option maxHeartbeats 1000000 in
theorem order_walk (v0 v1 : Value) (w : World) (h0 : InStrs w v0 8796093021952 140737488351232) (h1 : InStrs w v1 8796093021952 140737488351232) :
    Calls Try.prog 3 #[v0, v1] w fun e w' => e = .returned (.bool true) ∧ Below w.heap.size w w' := by
  obtain ⟨a, c, xs, rfl, ha, lx, sx⟩ := h0
  obtain ⟨b, d, ys, rfl, hb, ly, sy⟩ := h1
  have mx : xs.length ≤ maxLen := by unfold maxLen; omega
  have my : ys.length ≤ maxLen := by unfold maxLen; omega
  go_enter Try.func3, Try.ntmps3
  go_wp2_with fail
  refine (lent_any xs a c w ha lx).mono ?_
  rintro e w1 ⟨v, rfl, k1, g1, cap1, rest1, rfl, hg1, B1, l1, m1⟩
  have ha1 := ha.ext k1
  have hb1 := hb.ext k1
  go_wp2_with fail
  refine (lent_any ys b d w1 hb1 ly).mono ?_
  rintro e w2 ⟨v, rfl, k2, g2, cap2, rest2, rfl, hg2, B2, l2, m2⟩
  have B1' := B1.ext k2
  have ha2 := ha1.ext k2
  have hb2 := hb1.ext k2
  have hne : g1 < g2 := Nat.lt_of_lt_of_le B1.lt hg2
  have hk2 := k1.ext k2
  have k1' := k1.size
  clear ha1 hb1 B1 k1
  have cx : CellsAt w2 (some ⟨g1, 0, none⟩) (strs xs) := by
    have := B1'; rw [strs_snoc2, List.append_assoc] at this; exact CellsAt.pre this
  have cy : CellsAt w2 (some ⟨g2, 0, none⟩) (strs ys) := by
    have := B2; rw [strs_snoc2, List.append_assoc] at this; exact CellsAt.pre this
  have e1 : (cmpRow xs ys == cmpRow xs ys) = true := by simp
  have e2 : (cmpRow ys xs == cmpRow ys xs) = true := by simp
  go_wp2_with fail
  refine (tupleCompare_any xs ys _ _ _ _ _ cx cy mx my).mono ?_
  rintro e w' ⟨rfl, rfl⟩
  go_wp2_with fail
  refine (refCompare_any xs ys _ _ _ _ _ ha2 hb2 mx my).mono ?_
  rintro e w' ⟨rfl, n1, rfl⟩
  have cx1 := cx.drewN n1
  have cy1 := cy.drewN n1
  have ha3 := ha2.drewN n1
  have hb3 := hb2.drewN n1
  go_wp2_with fail
  refine (tupleCompare_any ys xs _ _ _ _ _ cy1 cx1 my mx).mono ?_
  rintro e w' ⟨rfl, rfl⟩
  go_wp2_with fail
  refine (refCompare_any ys xs _ _ _ _ _ hb3 ha3 my mx).mono ?_
  rintro e w' ⟨rfl, n2, rfl⟩
  go_wp2_with fail
  refine (kept_any xs g1 cap1 a c rest1 _ (B1'.drewN _) (by omega) (ha2.drewN _) lx (fun s h => Nat.le_trans (sx s h) (by decide))).mono ?_
  rintro e w3 ⟨v, rfl, k3, rfl⟩
  have h23 : Ext w w3 := (hk2.drewN (n1 + n2)).trans' (by simpa using k3) (fun i hi e => by subst e; omega)
  have B2' := (B2.drewN (n1 + n2)).kp (by simpa using k3) (by omega)
  go_wp2_with fail
  refine (kept_any ys g2 cap2 b d rest2 _ B2' (by omega) (hb.ext h23) ly (fun s h => Nat.le_trans (sy s h) (by decide))).mono ?_
  rintro e w4 ⟨v, rfl, k4, rfl⟩
  go_wp2_with fail
  go_ret
  exact ⟨rfl, (h23.trans' k4 (fun i hi e => by subst e; have := hk2.size; have := k1'; omega)).below⟩

theorem order_own : ownKnob Try.prog.godebug = none := by kernel_rfl
theorem order_laidOut : laidOutB Try.prog = true := by kernel_rfl
end Go.Proofs.Ytfkhelihepbehaa
