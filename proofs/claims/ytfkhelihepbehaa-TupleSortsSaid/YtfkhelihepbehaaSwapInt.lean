/- slices at int: swapRangeCmpFunc and rotateCmpFunc: what they do to a row of cells. -/
import Derived.Test.YtfkhelihepbehaaProg
import Derived.Test.YtfkhelihepbehaaArr
import Derived.BigRegion
namespace Go.Proofs.Ytfkhelihepbehaa
open Go.RowKit
set_option linter.unusedVariables false

def valInt (z : Nat → Int) (i : Nat) : Value := (Value.int .i64 (z (i)))


set_option maxHeartbeats 1000000 in
theorem swapRangeInt_any (z : Nat → Int) (g n cap : Nat) (rest : List Value) (fv : Value) (w0 w : World) (hk0 : Kp (fun k => k = g) w0 w) (p X M Y q : List Nat) (hXY : X.length = Y.length)
    (hn : (p ++ X ++ M ++ Y ++ q).length = n) (hB : Blk w g ((p ++ X ++ M ++ Y ++ q).map (valInt z) ++ rest) 3) (hm : n ≤ 4611686018427387904) (a b m : Nat) (ea : a = p.length) (eb : b = (p.length + X.length + M.length : Nat)) (em : m = X.length) :
    Calls Try.prog 153 #[.slice (some ⟨g, 0, none⟩) n cap, .int .i64 a, .int .i64 b, .int .i64 m, fv] w
      (RetF (fun k => k = g) w0 fun w' v => v = .tuple #[] ∧ Blk w' g ((p ++ Y ++ M ++ X ++ q).map (valInt z) ++ rest) 3) := by
  simp only [List.length_append] at hn
  have b1 : a ≤ n := by omega
  have b2 : b + m ≤ n := by omega
  have b3 : a + m ≤ b := by omega
  have HX := Lib.hid hXY; clear hXY
  have HN := Lib.hid hn; clear hn
  have EA := Lib.hid ea; clear ea
  have EB := Lib.hid eb; clear eb
  have EM := Lib.hid em; clear em
  go_enter Try.func153, Try.ntmps153
  go_wp2
  go_loopw [10] (fun i wr => ∃ (k : Nat) (X1 X2 Y1 Y2 : List Nat), Hid (X = X1 ++ X2 ∧ Y = Y1 ++ Y2 ∧ X1.length = k ∧ Y1.length = k) ∧ k ≤ m ∧ i = .int .i64 k ∧ Kp (fun k => k = g) w0 wr ∧ Hid (Blk wr g ((p ++ Y1 ++ X2 ++ M ++ X1 ++ Y2 ++ q).map (valInt z) ++ rest) 3)) (fun i _ => m - (intOf i).toNat)
  case atStart => exact ⟨0, [], X, [], Y, ⟨rfl, rfl, rfl, rfl⟩, Nat.zero_le _, rfl, hk0, by show Blk _ _ _ _; simpa using hB⟩
  case round =>
    obtain ⟨k, X1, X2, Y1, Y2, HH, hkm, rfl, hkp, hb⟩ := hrel
    by_cases hlt : k < m
    · have key : ∃ x y X2' Y2', X2 = x :: X2' ∧ Y2 = y :: Y2' ∧ X2'.length + k + 1 = m := by
        obtain ⟨rfl, rfl, h3, h4⟩ := HH.out
        have h5 := EM.out; have h6 := HX.out
        simp only [List.length_append] at h5 h6
        cases X2 with
        | nil => simp at h5; omega
        | cons x X2 =>
          cases Y2 with
          | nil => simp at h6; simp at h5; omega
          | cons y Y2 => exact ⟨x, y, X2, Y2, rfl, rfl, by simp at h5; omega⟩
      obtain ⟨x, y, X2', Y2', rfl, rfl, hl2⟩ := key
      obtain ⟨s1, s2, c1, c2⟩ := swapCells (u := p ++ Y1) (v := X2' ++ M ++ X1) (t := Y2' ++ q) (x := x) (y := y) (i := a + k) (j := b + k) (by simpa using hb.out) (by
          have := EA.out; have := HH.out.2.2.2; simp; omega) (by
          have := EA.out; have := EB.out; have := EM.out; have := HH.out.2.2; simp; omega)
      have f1 := hb.out.free (a + k)
      have f2 := hb.out.free (b + k)
      have S1 := Lib.hid s1; have S2 := Lib.hid s2
      clear s1 s2
      unfold valInt at c1 c2
      have hne : ¬ (a + k = b + k) := by omega
      have hne' : ¬ (b + k = a + k) := by omega
      have HL2 := Lib.hid hl2; clear hl2
      obtain ⟨i1, i2, i3, i4⟩ := idx_facts (a := a) (b := k) (n := n) (by omega) hm
      obtain ⟨j1, j2, j3, j4⟩ := idx_facts (a := b) (b := k) (n := n) (by omega) hm
      go_wp2
      go_region
      clear i1 i2 i3 i4 j1 j2 j3 j4
      go_wp2
      go_roundw
      case rel =>
        refine ⟨k + 1, X1 ++ [x], X2', Y1 ++ [y], Y2', ⟨?_, ?_, ?_, ?_⟩, by omega, by go_num, ?_, ?_⟩
        · simpa using HH.out.1
        · simpa using HH.out.2.1
        · simpa using HH.out.2.2.1
        · simpa using HH.out.2.2.2
        · exact ((hkp.setCell (fun _ => rfl) _).setCell (fun _ => rfl) _).drew
        · exact S1.out.drew.congrL (by simp)
      case measure => simp [intOf]; omega
    · have key : X2 = [] ∧ Y2 = [] := by
        obtain ⟨rfl, rfl, h3, h4⟩ := HH.out
        have h5 := EM.out; have h6 := HX.out
        simp only [List.length_append] at h5 h6
        exact ⟨List.eq_nil_of_length_eq_zero (by omega), List.eq_nil_of_length_eq_zero (by omega)⟩
      obtain ⟨rfl, rfl⟩ := key
      go_wp2
      go_end0
      refine RetF.mk hkp ⟨rfl, ?_⟩
      obtain ⟨h1, h2, _, _⟩ := HH.out
      have h3 := hb.out
      rw [h1, h2]
      simpa using h3

theorem swapRangeInt_int (z : Nat → Int) (g n cap : Nat) (rest : List Value) (fv : Value) (w0 w : World) (hk0 : Kp (fun k => k = g) w0 w) (p X M Y q : List Nat) (hXY : X.length = Y.length)
    (hn : (p ++ X ++ M ++ Y ++ q).length = n) (hB : Blk w g ((p ++ X ++ M ++ Y ++ q).map (valInt z) ++ rest) 3) (hm : n ≤ 4611686018427387904) (a b m : Int) (ea : a = (p.length : Nat)) (eb : b = (p.length + X.length + M.length : Nat)) (em : m = (X.length : Nat)) :
    Calls Try.prog 153 #[.slice (some ⟨g, 0, none⟩) n cap, .int .i64 a, .int .i64 b, .int .i64 m, fv] w
      (RetF (fun k => k = g) w0 fun w' v => v = .tuple #[] ∧ Blk w' g ((p ++ Y ++ M ++ X ++ q).map (valInt z) ++ rest) 3) := by
  subst ea eb em
  exact swapRangeInt_any z g n cap rest fv w0 w hk0 p X M Y q hXY hn hB hm _ _ _ rfl rfl rfl

set_option maxHeartbeats 1000000 in
theorem rotateInt_any (z : Nat → Int) (g n cap : Nat) (rest : List Value) (fv : Value) (w0 w : World) (hk0 : Kp (fun k => k = g) w0 w) (p X Y q : List Nat) (hX : X ≠ []) (hY : Y ≠ [])
    (hn : (p ++ X ++ Y ++ q).length = n) (hB : Blk w g ((p ++ X ++ Y ++ q).map (valInt z) ++ rest) 3) (hm : n ≤ 4611686018427387904) (a m b : Nat) (ea : a = p.length) (em : m = p.length + X.length) (eb : b = p.length + X.length + Y.length) :
    Calls Try.prog 143 #[.slice (some ⟨g, 0, none⟩) n cap, .int .i64 a, .int .i64 m, .int .i64 b, fv] w
      (RetF (fun k => k = g) w0 fun w' v => v = .tuple #[] ∧ Blk w' g ((p ++ Y ++ X ++ q).map (valInt z) ++ rest) 3) := by
  have b1 : a < m := by have := List.length_pos_iff.2 hX; omega
  have b2 : m < b := by have := List.length_pos_iff.2 hY; omega
  have b3 : b ≤ n := by simp at hn; omega
  have HN := Lib.hid hn; clear hn
  have EA := Lib.hid ea; clear ea
  have EB := Lib.hid eb; clear eb
  have EM := Lib.hid em; clear em
  go_enter Try.func143, Try.ntmps143
  go_wp2
  go_loopw [10, 11] (fun i j wr => ∃ (x y : Nat) (p' X' Y' q' : List Nat), Hid (X'.length = x ∧ Y'.length = y ∧ p'.length + x = m ∧ p' ++ Y' ++ X' ++ q' = p ++ Y ++ X ++ q) ∧ 0 < x ∧ 0 < y ∧ x ≤ m ∧ m + y ≤ n ∧ i = .int .i64 x ∧ j = .int .i64 y ∧ Kp (fun k => k = g) w0 wr ∧ Hid (Blk wr g ((p' ++ X' ++ Y' ++ q').map (valInt z) ++ rest) 3)) (fun i j _ => (intOf i).toNat + (intOf j).toNat)
  case atStart =>
    have h1 := EA.out; have h2 := EB.out; have h3 := EM.out
    refine ⟨X.length, Y.length, p, X, Y, q, ⟨rfl, rfl, by omega, rfl⟩, by omega, by omega, by omega, by omega, ?_, ?_, hk0, hB⟩
    · congr 1; omega
    · congr 1; omega
  case round =>
    obtain ⟨x, y, p', X', Y', q', HH, hx, hy, hxm, hyn, rfl, rfl, hkp, hb⟩ := hrel
    have HNn : (p' ++ X' ++ Y' ++ q').length = n := by
      have h1 := congrArg List.length HH.out.2.2.2
      have h2 := HN.out
      simp at h1 h2 ⊢
      omega
    have HNN := Lib.hid HNn; clear HNn
    rcases Nat.lt_trichotomy y x with hlt | heq | hgt
    · have h1 : ((x : Int) != (y : Int)) = true := by rw [bne_iff_ne]; omega
      obtain ⟨hX1, hY1, hp1, ht⟩ := HH.out
      have HT := Lib.hid ht; clear ht
      have key : ∃ X1 X2, X' = X1 ++ X2 ∧ X1.length = y ∧ X2.length = x - y := ⟨_, _, (List.take_append_drop y X').symm, by simp; omega, by simp; omega⟩
      obtain ⟨X1, X2, rfl, lX1, lX2⟩ := key
      have HL := Lib.hid (And.intro hX1 (And.intro hY1 (And.intro hp1 (And.intro lX1 lX2))))
      clear hX1 hY1 hp1 lX1 lX2
      go_wp2_with fail
      refine (swapRangeInt_int z g n cap rest fv w0 wr hkp p' X1 X2 Y' q' (by have := HL.out; omega) (by simpa using HNN.out) (by simpa using hb.out) hm _ _ _ (by have := HL.out; omega) (by have := HL.out; omega) (by have := HL.out; omega)).mono ?_
      rintro e w1 ⟨v, rfl, hk1, rfl, hb1⟩
      have HB1 := Lib.hid hb1; clear hb1
      go_wp2
      go_roundw
      case rel =>
        refine ⟨x - y, y, p' ++ Y', X2, X1, q', ⟨by have := HL.out; omega, by have := HL.out; omega, by have := HL.out; simp; omega, by rw [← HT.out]; simp⟩, by omega, hy, by omega, hyn, ?_, rfl, hk1, HB1.out.congrL (by simp)⟩
        congr 1; omega
      case measure => simp [intOf]; omega
    · subst heq
      have h1 : ((y : Int) != (y : Int)) = false := by simp
      obtain ⟨hX1, hY1, hp1, ht⟩ := HH.out
      have HT := Lib.hid ht; clear ht
      have HL := Lib.hid (And.intro hX1 (And.intro hY1 hp1))
      clear hX1 hY1 hp1
      go_wp2_with fail
      refine (swapRangeInt_int z g n cap rest fv w0 wr hkp p' X' [] Y' q' (by have := HL.out; omega) (by simpa using HNN.out) (by simpa using hb.out) hm _ _ _ (by have := HL.out; omega) (by have := HL.out; simp; omega) (by have := HL.out; omega)).mono ?_
      rintro e w1 ⟨v, rfl, hk1, rfl, hb1⟩
      have HB1 := Lib.hid hb1; clear hb1
      go_wp2
      go_end0
      refine RetF.mk hk1 ⟨rfl, ?_⟩
      have := HT.out
      rw [← this]
      simpa using HB1.out
    · have h1 : ((x : Int) != (y : Int)) = true := by rw [bne_iff_ne]; omega
      obtain ⟨hX1, hY1, hp1, ht⟩ := HH.out
      have HT := Lib.hid ht; clear ht
      have key : ∃ Y1 Y2, Y' = Y1 ++ Y2 ∧ Y1.length = y - x ∧ Y2.length = x := ⟨_, _, (List.take_append_drop (y - x) Y').symm, by simp; omega, by simp; omega⟩
      obtain ⟨Y1, Y2, rfl, lY1, lY2⟩ := key
      have HL := Lib.hid (And.intro hX1 (And.intro hY1 (And.intro hp1 (And.intro lY1 lY2))))
      clear hX1 hY1 hp1 lY1 lY2
      go_wp2_with fail
      refine (swapRangeInt_int z g n cap rest fv w0 wr hkp p' X' Y1 Y2 q' (by have := HL.out; omega) (by simpa using HNN.out) (by simpa using hb.out) hm _ _ _ (by have := HL.out; omega) (by have := HL.out; omega) (by have := HL.out; omega)).mono ?_
      rintro e w1 ⟨v, rfl, hk1, rfl, hb1⟩
      have HB1 := Lib.hid hb1; clear hb1
      go_wp2
      go_roundw
      case rel =>
        refine ⟨x, y - x, p', Y2, Y1, X' ++ q', ⟨by have := HL.out; omega, by have := HL.out; omega, by have := HL.out; omega, by rw [← HT.out]; simp⟩, hx, by omega, by omega, by omega, rfl, ?_, hk1, HB1.out.congrL (by simp)⟩
        congr 1; omega
      case measure => simp [intOf]; omega
end Go.Proofs.Ytfkhelihepbehaa
