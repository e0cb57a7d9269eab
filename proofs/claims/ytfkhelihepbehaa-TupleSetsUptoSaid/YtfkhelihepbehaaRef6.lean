/- sibylref03.Set: Copy, Union, Same. -/
import Derived.Test.YtfkhelihepbehaaRef5
namespace Go.Proofs.Ytfkhelihepbehaa
open Go.RowKit
set_option linter.unusedVariables false

/-- A truth value that says just p. -/
def BoolIs (p : Prop) (v : Value) : Prop := ∃ r : Bool, v = .bool r ∧ (r = true ↔ p)

section
variable {w w' : World} {b : Nat} {lv : Value} {which : Int} {zs : List Int}

theorem refCopy_nil (w : World) : Calls Try.prog 49 #[.pointer none] w (Ret (.pointer none) w) := by
  go_enter Try.func49, Try.ntmps49
  go_wp2
  go_ret
  exact Ret.mk rfl
set_option maxRecDepth 100000 in
set_option maxHeartbeats 1000000 in
theorem refCopy_any (h : RefAt w b lv which zs) : Calls Try.prog 49 #[.pointer (some ⟨b, 0, none⟩)] w
    (RetN w fun w' v => ∃ b' lv', v = .pointer (some ⟨b', 0, none⟩) ∧ w.heap.size ≤ b' ∧ (∀ k, lv'.ownBlock = some k → w.heap.size ≤ k) ∧ RefAt w' b' lv' which zs) := by
  obtain ⟨c1, c2⟩ := h.cells
  have hl := h.len
  have HH := Lib.hid h; clear h
  go_enter Try.func49, Try.ntmps49
  go_wp2
  go_region_held3 (fun w' => w'.cell? ⟨b, 0, none⟩ = some (.int .i64 which)) (first | assumption | go_keep)
    (first | (go_at_call 52; refine (refItems_any (HH.out.ext (Kp.refl w).drew)).mono ?_; rintro e w1 ⟨v, rfl, hk, hr⟩; obtain ⟨ao1, cap2, ev, _, _⟩ := hr.shape; subst ev; have d1 := hk.cell c1 id))
  all_goals
    go_wp2
    go_ret
    have hex : Ext w w1 := (Kp.refl w).drew.trans hk
    exact RetN.mk (hex.alloc _) ⟨w1.heap.size, .slice ao1 zs.length cap2, rfl, hex.size, (fun k hk' => hr.block k hk'), ⟨Blk.new w1 [_, _] _, hr.own.alloc _, (fun e => by have := hr.lt _ e; omega), hl⟩⟩

theorem refUnion_nil (v : Value) (w : World) : Calls Try.prog 43 #[.pointer none, v] w (Ret (.pointer none) w) := by
  go_enter Try.func43, Try.ntmps43
  go_wp2
  go_ret
  exact Ret.mk rfl
theorem refMeet_nil (v : Value) (w : World) : Calls Try.prog 47 #[.pointer none, v] w (Ret (.pointer none) w) := by
  go_enter Try.func47, Try.ntmps47
  go_wp2
  go_ret
  exact Ret.mk rfl
theorem refMinus_nil (v : Value) (w : World) : Calls Try.prog 45 #[.pointer none, v] w (Ret (.pointer none) w) := by
  go_enter Try.func45, Try.ntmps45
  go_wp2
  go_ret
  exact Ret.mk rfl

/-- Between two rounds of Same. -/
def SameAt (n : Nat) (ok : Nat → Prop) (w0 : World) (kv : Value) (w : World) : Prop := ∃ i : Nat, i ≤ n ∧ kv = .int .i64 i ∧ (∀ j, j < i → ok j) ∧ Ext w0 w

set_option maxRecDepth 100000 in
set_option maxHeartbeats 2000000 in
theorem refSame_any {vo : Value} {which2 : Int} {zs2 : List Int} (h : RefAt w b lv which zs) (h2 : PtrRef w vo which2 zs2) (hl2 : zs2.length ≤ 1048576 * 1048576) : Calls Try.prog 51 #[.pointer (some ⟨b, 0, none⟩), vo] w
    (RetF (fun _ => False) w fun w' v => BoolIs (zs.length = zs2.length ∧ ∀ (i : Nat) x y, zs[i]? = some x → zs2[i]? = some y → ordC which x y = 0) v) := by
  obtain ⟨c1, c2⟩ := h.cells
  have hl := h.len
  have HH := Lib.hid h; clear h
  have H2 := Lib.hid h2; clear h2
  obtain ⟨n, en⟩ : ∃ n, n = zs.length := ⟨_, rfl⟩
  obtain ⟨m, em⟩ : ∃ m, m = zs2.length := ⟨_, rfl⟩
  have EN := Lib.hid (And.intro en em)
  go_enter Try.func51, Try.ntmps51
  go_wp2_with fail
  refine (refItems_any HH.out).mono ?_
  rintro e w1 ⟨v, rfl, hk1, hr1⟩
  obtain ⟨ao1, cap1, e1, hc1, _⟩ := hr1.shape
  subst e1
  go_wp2_with fail
  refine (refItems_ptr (H2.out.ext hk1)).mono ?_
  rintro e w2 ⟨v, rfl, hk2, hr2⟩
  obtain ⟨ao2, cap2, e2, hc2, _⟩ := hr2.shape
  subst e2
  have hex2 := hk1.trans hk2
  have HC1 := Lib.hid (hc1.ext hk2)
  have HC2 := Lib.hid hc2
  clear hr1 hr2 hc1 hc2 hk1 hk2 c2
  rw [← en, ← em]
  rw [← en] at hl
  rw [← em] at hl2
  clear en em
  by_cases hnm : n = m
  · subst hnm
    have t0 : ((n : Int) != (n : Int)) = false := by simp
    go_wp2
    go_loopw [7] (SameAt n (fun j => ∀ x y, zs[j]? = some x → zs2[j]? = some y → ordC which x y = 0) w2) (fun k _ => n - (intOf k).toNat)
    case atStart => exact ⟨0, Nat.zero_le _, rfl, fun j h => by omega, Kp.refl _⟩
    case round =>
      obtain ⟨i, hi, rfl, hok, hex⟩ := hrel
      have OK := Lib.hid hok; clear hok
      have d1 := (hex2.trans hex).cell c1 id
      by_cases hlt : i < n
      · obtain ⟨x, hx⟩ : ∃ x, zs[i]? = some x := ⟨_, List.getElem?_eq_getElem (by have := EN.out.1; omega)⟩
        obtain ⟨y, hy⟩ : ∃ y, zs2[i]? = some y := ⟨_, List.getElem?_eq_getElem (by have := EN.out.2; omega)⟩
        obtain ⟨g1, o1, ea1, c3⟩ := (HC1.out.ext hex) i (.int .i64 x) (by simp [ints, hx])
        obtain ⟨g2, o2, ea2, c4⟩ := (HC2.out.ext hex) i (.int .i64 y) (by simp [ints, hy])
        subst ea1 ea2
        have HY := Lib.hid (And.intro hx hy); clear hx hy
        have i1 : (i : Int) < (n : Int) := by omega
        have i2 : (0 : Int) ≤ (i : Int) := by omega
        generalize hcc : ordC which x y = cc
        have HCC := Lib.hid hcc; clear hcc
        by_cases hz : cc = 0
        · have t1 : (cc != 0) = false := by simp [hz]
          go_wp2
          go_still_tail 12, (by kernel_rfl)
          go_wp2_with fail
          refine (refOrder_any which x y _).mono ?_
          rintro e w3 ⟨rfl, rfl⟩
          rw [HCC.out]
          clear d1 c3 c4
          go_wp2
          go_roundw
          case rel =>
            refine ⟨i + 1, by omega, by first | rfl | (congr 1; done) | (congr 1; omega), fun j hj => ?_, hex.drew⟩
            by_cases e : j = i
            · subst e
              intro x' y' hx' hy'
              rw [HY.out.1] at hx'; rw [HY.out.2] at hy'; cases hx'; cases hy'
              rw [HCC.out]; exact hz
            · exact OK.out j (by omega)
          case measure => simp [intOf]; omega
        · have t1 : (cc != 0) = true := by simp [hz]
          go_wp2
          go_still_tail 12, (by kernel_rfl)
          go_wp2_with fail
          refine (refOrder_any which x y _).mono ?_
          rintro e w3 ⟨rfl, rfl⟩
          rw [HCC.out]
          clear d1 c3 c4
          go_wp2
          go_ret
          refine RetF.mk (hex2.trans hex.drew) ⟨false, rfl, by simp only [Bool.false_eq_true, false_iff]; intro hh; exact hz (by rw [← HCC.out]; exact hh.2 i x y HY.out.1 HY.out.2)⟩
      · go_wp2
        go_ret
        refine RetF.mk (hex2.trans hex) ⟨true, rfl, by simp only [true_iff]; exact ⟨by rw [← EN.out.1]; exact EN.out.2, fun j x y hx hy => OK.out j (by have := EN.out.1; have := (List.getElem?_eq_some_iff.1 hx).1; omega) x y hx hy⟩⟩
  · have t0 : ((n : Int) != (m : Int)) = true := by rw [bne_iff_ne]; omega
    go_wp2
    go_ret
    refine RetF.mk hex2 ⟨false, rfl, by simp only [Bool.false_eq_true, false_iff]; intro hh; have := EN.out; omega⟩
end
end Go.Proofs.Ytfkhelihepbehaa
