/- sibylref03.Set: among, Items, Add, Drop. -/
import Derived.Test.YtfkhelihepbehaaRef2
namespace Go.Proofs.Ytfkhelihepbehaa
open Go.RowKit
set_option linter.unusedVariables false

theorem ints_one (zs : List Int) : ∀ u ∈ ints zs, u.oneCell' = true := by intro u hu; obtain ⟨x, _, rfl⟩ := List.mem_map.1 hu; rfl
theorem ints_take (zs : List Int) (k : Nat) : (ints zs).take k = ints (zs.take k) := by simp [ints]
theorem ints_drop (zs : List Int) (k : Nat) : (ints zs).drop k = ints (zs.drop k) := by simp [ints]
theorem ints_append (xs ys : List Int) : ints xs ++ ints ys = ints (xs ++ ys) := by simp [ints]
theorem CellsAt.sub {w : World} {g off : Nat} {vs : List Value} (h : CellsAt w (some ⟨g, off, none⟩) vs) (k : Nat) : CellsAt w (some ⟨g, off + k, none⟩) (vs.drop k) := by
  intro i u hu
  rw [List.getElem?_drop] at hu
  obtain ⟨b, o, e, hc⟩ := h (k + i) u hu
  cases e
  exact ⟨g, off + k, rfl, by rw [Nat.add_assoc]; exact hc⟩
theorem CellsAt.take {w : World} {ao : Option Addr} {vs : List Value} (h : CellsAt w ao vs) (k : Nat) : CellsAt w ao (vs.take k) := by
  intro i u hu
  rw [List.getElem?_take] at hu
  split at hu
  · exact h i u hu
  · cases hu

section
variable {w w' : World} {b : Nat} {lv : Value} {which : Int} {zs : List Int}

theorem refItems_nil (w : World) : Calls Try.prog 52 #[.pointer none] w (Ret (.slice none 0 0) w) := by
  go_enter Try.func52, Try.ntmps52
  go_wp2
  go_ret
  exact Ret.mk rfl
set_option maxRecDepth 100000 in
theorem refItems_any (h : RefAt w b lv which zs) : Calls Try.prog 52 #[.pointer (some ⟨b, 0, none⟩)] w (RetN w fun w' r => Row w' 3 1 r zs.length (ints zs) (New w)) := by
  obtain ⟨c1, c2⟩ := h.cells
  obtain ⟨ao, cap, rfl, hc, _⟩ := h.row.shape
  have hl := h.len
  have HC := Lib.hid hc; clear h hc
  go_enter Try.func52, Try.ntmps52
  go_wp2_with (first | (at_builtin; refine Halted.out ?_))
  refine Halted.mk (wp_appN elemInt rfl _ _ rfl (Kp.refl (F := fun _ => False) w) rfl (Row.nil w 3 1 (New w)) rfl HC.out (by simp [ints]) (ints_one zs) (by omega) (by unfold maxLen; omega) ?_)
  intro v1 w1 hr1 hk1 _ _
  have HR := Lib.hid hr1; clear hr1
  go_wp2
  go_ret
  exact RetN.mk hk1 (by simpa using HR.out)
theorem refItems_ptr {v : Value} (h : PtrRef w v which zs) : Calls Try.prog 52 #[v] w (RetN w fun w' r => Row w' 3 1 r zs.length (ints zs) (New w)) := by
  rcases h with ⟨rfl, rfl⟩ | ⟨b, lv, rfl, h⟩
  · refine (refItems_nil w).mono ?_
    rintro e w' ⟨rfl, rfl⟩
    exact RetN.mk (Kp.refl _) (Row.nil _ _ _ _)
  · exact refItems_any h

set_option maxRecDepth 100000 in
set_option maxHeartbeats 1000000 in
theorem refAmong_any (x : Int) (cs : List Value) (te : TypeId) (hB : Blk w b (.int .i64 which :: cs) te) (ao : Option Addr) (n cap : Nat) (hn : n = zs.length) (hc : CellsAt w ao (ints zs)) (hl : n ≤ 1048576 * 1048576) :
    Calls Try.prog 95 #[.pointer (some ⟨b, 0, none⟩), .slice ao n cap, .int .i64 x] w (RetF (fun _ => False) w fun w' v => v = .bool (isIn (ordC which) zs x)) := by
  have c1 : w.cell? ⟨b, 0, none⟩ = some (.int .i64 which) := by rw [hB.cell']; rfl
  have HC := Lib.hid hc; have EN := Lib.hid hn; clear hc hn hB
  go_enter Try.func95, Try.ntmps95
  go_wp2
  go_loopw [7] (ReadAt n (fun i => ∀ j z, j < i → zs[j]? = some z → ¬ ordC which z x = 0) w) (fun k _ => n - (intOf k).toNat)
  case atStart => exact ⟨0, Nat.zero_le _, rfl, fun j z h => by omega, Kp.refl _⟩
  case round =>
    obtain ⟨i, hi, rfl, hok, hex⟩ := hrel
    have OK := Lib.hid hok; clear hok
    have d1 := hex.cell c1 id
    by_cases hlt : i < n
    · obtain ⟨y, hy⟩ : ∃ y, zs[i]? = some y := ⟨_, List.getElem?_eq_getElem (by have := EN.out; omega)⟩
      obtain ⟨g, o, eao, c3⟩ := (HC.out.ext hex) i (.int .i64 y) (by simp [ints, hy])
      subst eao
      have HY := Lib.hid hy; clear hy
      have i1 : (i : Int) < (n : Int) := by omega
      have i2 : (0 : Int) ≤ (i : Int) := by omega
      generalize hcc : ordC which y x = cc
      have HCC := Lib.hid hcc; clear hcc
      by_cases hz : cc = 0
      · have t1 : (cc == 0) = true := by simp [hz]
        go_wp2
        go_still_tail 9, (by kernel_rfl)
        go_wp2_with fail
        refine (refOrder_any which y x _).mono ?_
        rintro e w1 ⟨rfl, rfl⟩
        rw [HCC.out]
        clear d1 c3
        go_wp2
        go_ret
        exact RetF.mk hex.drew (by rw [isIn_iff.2 ⟨y, List.mem_of_getElem? HY.out, by rw [HCC.out]; exact hz⟩]; rfl)
      · have t1 : (cc == 0) = false := by simp [hz]
        go_wp2
        go_still_tail 9, (by kernel_rfl)
        go_wp2_with fail
        refine (refOrder_any which y x _).mono ?_
        rintro e w1 ⟨rfl, rfl⟩
        rw [HCC.out]
        clear d1 c3
        go_wp2
        go_roundw
        case rel =>
          refine ⟨i + 1, by omega, by first | rfl | (congr 1; done) | (congr 1; omega), fun j z hj hz' => ?_, hex.drew⟩
          by_cases e : j = i
          · subst e
            rw [HY.out] at hz'; cases hz'
            rw [HCC.out]; exact hz
          · exact OK.out j z (by omega) hz'
        case measure => simp [intOf]; omega
    · go_wp2
      go_ret
      have key : isIn (ordC which) zs x = false := by
        cases hb : isIn (ordC which) zs x with
        | false => rfl
        | true =>
          obtain ⟨y, hy, hz⟩ := isIn_iff.1 hb
          obtain ⟨j, hj, rfl⟩ := List.mem_iff_getElem.1 hy
          exact (OK.out j _ (by have := EN.out; omega) (List.getElem?_eq_getElem hj) hz).elim
      exact RetF.mk hex (by rw [key]; rfl)
end
end Go.Proofs.Ytfkhelihepbehaa
