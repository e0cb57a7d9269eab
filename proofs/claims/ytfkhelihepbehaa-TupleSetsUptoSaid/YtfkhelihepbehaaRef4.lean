/- sibylref03.Set: Add, Drop. -/
import Derived.Test.YtfkhelihepbehaaRef3
namespace Go.Proofs.Ytfkhelihepbehaa
open Go.RowKit
set_option linter.unusedVariables false

theorem Row.cast {w : World} {e : TypeId} {k : Nat} {v : Value} {n n' : Nat} {xs xs' : List Value} {M : Nat → Prop} (h : Row w e k v n xs M) (hn : n = n') (hx : xs = xs') : Row w e k v n' xs' M := by subst hn hx; exact h

section
variable {w w' : World} {b : Nat} {lv : Value} {which : Int} {zs : List Int}

theorem refStore {iv0 iv : Value} {M : Nat → Prop} (hB : Blk w b [.int .i64 which, iv0] 81) (hr : Row w 3 1 iv zs.length (ints zs) M) (hap : iv.ownBlock ≠ some b) (hl : zs.length ≤ 1048576 * 1048576) :
    RefAt (w.setCell ⟨b, 1, none⟩ iv) b iv which zs := by
  have hk : Kp (fun k => k = b) w (w.setCell ⟨b, 1, none⟩ iv) := Kp.setCell (F := fun k => k = b) (Kp.refl w) (fun _ => rfl) iv
  exact ⟨hB.set 1 iv, hr.own.kp hk fun g hg e => hap (by rw [hg, e]), hap, hl⟩

theorem refAdd_nil (x : Int) (w : World) : Calls Try.prog 34 #[.pointer none, .int .i64 x] w (Ret (.bool false) w) := by
  go_enter Try.func34, Try.ntmps34
  go_wp2
  go_ret
  exact Ret.mk rfl

set_option maxRecDepth 100000 in
set_option maxHeartbeats 2000000 in
theorem refAdd_any (x : Int) (h : RefAt w b lv which zs) (hl1 : zs.length + 1 ≤ 1048576 * 1048576) : Calls Try.prog 34 #[.pointer (some ⟨b, 0, none⟩), .int .i64 x] w
    (RetF (fun k => k = b) w fun w' v => v = .bool (!isIn (ordC which) zs x) ∧ ∃ lv', RefAt w' b lv' which (addS (ordC which) zs x) ∧ ∀ k, lv'.ownBlock = some k → lv.ownBlock = some k ∨ w.heap.size ≤ k) := by
  have HF := Lib.hid (refFind_any x h)
  have HH := Lib.hid h; clear h
  go_enter Try.func34, Try.ntmps34
  go_wp2_with fail
  refine HF.out.mono ?_
  rintro e w1 ⟨v, rfl, hk, ⟨rfl, hno⟩ | ⟨i, y, rfl, hy, hz, _⟩⟩
  · have key : isIn (ordC which) zs x = false := by
      cases hb : isIn (ordC which) zs x with
      | false => rfl
      | true => obtain ⟨y, hy, hz⟩ := isIn_iff.1 hb; exact (hno y hy hz).elim
    have hadd : addS (ordC which) zs x = zs.take (below (ordC which) zs x) ++ x :: zs.drop (below (ordC which) zs x) := by unfold addS; rw [key]; rfl
    have hle := below_le (c := ordC which) zs x
    have KEY := Lib.hid (And.intro key hadd); clear key hno hadd
    go_wp2_with fail
    refine (refBelow_any x (HH.out.ext hk)).mono ?_
    rintro e w2 ⟨v, rfl, hk2, rfl⟩
    generalize below (ordC which) zs x = m at *
    have hex := hk.trans hk2
    have h2 := HH.out.ext hex
    clear hk hk2
    obtain ⟨c1, c2⟩ := h2.cells
    have hbw : b < w2.heap.size := h2.blk.lt
    have hbw0 : b < w.heap.size := HH.out.blk.lt
    have f0 := h2.blk.free 1
    have H2 := Lib.hid h2
    obtain ⟨q1, ⟨rfl, q2⟩ | ⟨g, cap, rest, rfl, q2, q3, q4, q5, q6⟩⟩ := h2.row
    · clear h2
      have hz : zs = [] := List.eq_nil_of_length_eq_zero q2
      subst hz
      have hm0 : m = 0 := by simp at hle; exact hle
      subst hm0
      go_wp2_with (first | (at_builtin; refine Halted.out ?_))
      refine Halted.mk (wp_appN elemInt rfl _ _ rfl hex rfl (Row.nil w2 3 1 (New w)) rfl (CellsAt.nil _ _) rfl (by simp) (by decide) (by decide) ?_)
      intro v1 w3 hr1 hk3 _ _
      have HR1 := Lib.hid hr1; clear hr1
      go_wp2_with (first | (at_builtin; refine Halted.out ?_))
      refine Halted.mk (wp_appN elemInt rfl _ _ rfl (hk3.alloc (.cells #[.int .i64 x] 3)) rfl (HR1.out.alloc _) rfl (CellsAt.one w3 (.int .i64 x) 3) rfl (by simp; rfl) (by decide) (by decide) ?_)
      intro v2 w4 hr2 hk4 _ _
      have HR2 := Lib.hid hr2; clear hr2 HR1
      have e1 := hk4.cell HH.out.cells.2 id
      go_wp2_with (first | (at_builtin; refine Halted.out ?_))
      refine Halted.mk (wp_appN elemInt rfl _ _ rfl hk4 rfl HR2.out rfl (CellsAt.nil _ _) rfl (by simp) (by decide) (by decide) ?_)
      intro v3 w5 hr3 hk5 _ _
      have hr4 := hr3.cast (n' := 1) (xs' := ints (addS (ordC which) [] x)) rfl (by rw [KEY.out.2]; rfl)
      obtain ⟨ao3, cap3, e3, _, _⟩ := hr4.shape
      subst e3
      have g1 := hk5.cell HH.out.cells.2 id
      have g2 := (HH.out.blk.ext hk5).free 1
      have HR4 := Lib.hid hr4; clear hr3 hr4 HR2
      go_wp2
      go_ret
      refine RetF.mk (Kp.setCell (F := fun k => k = b) (Ext.kp hk5) (fun _ => rfl) _) ⟨by rw [KEY.out.1]; rfl, .slice ao3 1 cap3, ?_, fun k hk => .inr (HR4.out.block k hk)⟩
      refine refStore (HH.out.blk.ext hk5) (HR4.out.cast (by rw [KEY.out.2]; rfl) rfl) (fun e => by have := HR4.out.block _ e; simp only [New] at this; omega) (by rw [KEY.out.2]; simp)
    · obtain ⟨n, en⟩ : ∃ n, n = zs.length := ⟨_, rfl⟩
      rw [← en] at c2 hle q5 hl1
      have EN := Lib.hid en; clear en h2
      have hcs : CellsAt w2 (some ⟨g, 0, none⟩) (ints zs) := CellsAt.pre q3
      have HCS := Lib.hid hcs; clear hcs q1 q3 q4
      have hp1 : (m : Int) ≤ (cap : Int) := by omega
      have hp2 : (m : Int) ≤ (n : Int) := by omega
      unfold maxLen at q6
      have hcu : w.cell? ⟨b, 1, none⟩ = some (.slice (some ⟨g, 0, none⟩) n cap) := by have := HH.out.cells.2; rw [← EN.out] at this; exact this
      clear q2
      have src : CellsAt w (some ⟨g, 0, none⟩) (ints zs) := by
        obtain ⟨ao', cap', e', hc', _⟩ := HH.out.row.shape
        cases e'; exact hc'
      have SRC := Lib.hid src; clear src
      by_cases hcm : cap = m
      all_goals
        go_wp2_with (first | (at_builtin; refine Halted.out ?_))
        refine Halted.mk (wp_appN elemInt rfl _ _ rfl hex rfl (Row.nil w2 3 1 (New w)) rfl (HCS.out.take m) (by have := EN.out; simp [ints]; omega) (fun u hu => ints_one zs u (List.mem_of_mem_take hu)) (by omega) (by unfold maxLen; omega) ?_)
        intro v1 w3 hr1 hk3 _ _
        have HR1 := Lib.hid hr1; clear hr1
        go_wp2_with (first | (at_builtin; refine Halted.out ?_))
        refine Halted.mk (wp_appN elemInt rfl _ _ rfl (hk3.alloc (.cells #[.int .i64 x] 3)) rfl (HR1.out.alloc _) rfl (CellsAt.one w3 (.int .i64 x) 3) rfl (by simp; rfl) (by omega) (by unfold maxLen; omega) ?_)
        intro v2 w4 hr2 hk4 _ _
        have HR2 := Lib.hid hr2; clear hr2 HR1
        have e1 := hk4.cell hcu id
        go_wp2_with (first | (at_builtin; refine Halted.out ?_))
        refine Halted.mk (wp_appN elemInt rfl _ _ rfl hk4 rfl HR2.out rfl (news := (ints zs).drop m) (by
            first
              | (have := (SRC.out.ext hk4).sub m; rwa [Nat.zero_add] at this)
              | (rw [List.drop_of_length_le (by have := EN.out; simp [ints]; omega)]; exact CellsAt.nil _ _)) (by have := EN.out; simp [ints]; omega) (fun u hu => ints_one zs u (List.mem_of_mem_drop hu)) (by omega) (by unfold maxLen; omega) ?_)
        intro v3 w5 hr3 hk5 _ _
        have hr4 := hr3.cast (n' := n + 1) (xs' := ints (addS (ordC which) zs x)) (by omega) (by rw [KEY.out.2]; simp [ints])
        obtain ⟨ao3, cap3, e3, _, _⟩ := hr4.shape
        subst e3
        have g1 := hk5.cell hcu id
        have g2 := (HH.out.blk.ext hk5).free 1
        have HR4 := Lib.hid hr4; clear hr3 hr4 HR2
        go_wp2
        go_ret
        have hlz : (addS (ordC which) zs x).length = n + 1 := by rw [addS_len, KEY.out.1, EN.out]; rfl
        refine RetF.mk (Kp.setCell (F := fun k => k = b) (Ext.kp hk5) (fun _ => rfl) _) ⟨by rw [KEY.out.1]; rfl, .slice ao3 (n + 1) cap3, ?_, fun k hk => .inr (HR4.out.block k hk)⟩
        refine refStore (HH.out.blk.ext hk5) (HR4.out.cast hlz.symm rfl) (fun e => by have := HR4.out.block _ e; simp only [New] at this; omega) (by rw [hlz]; exact hl1)
  · have key : isIn (ordC which) zs x = true := isIn_iff.2 ⟨y, List.mem_of_getElem? hy, hz⟩
    have hadd : addS (ordC which) zs x = zs := by unfold addS; rw [key]; rfl
    have KEY := Lib.hid (And.intro key hadd); clear key hy hz hadd
    have t1 : decide ((i : Int) ≥ 0) = true := by simp
    go_wp2
    go_ret
    refine RetF.mk (Ext.kp hk) ⟨by rw [KEY.out.1]; rfl, lv, ?_, fun k hk => .inl hk⟩
    rw [KEY.out.2]; exact HH.out.ext hk
end
end Go.Proofs.Ytfkhelihepbehaa
