/- sibylref03.Set: find, Below, Has, among, Items. -/
import Derived.Test.YtfkhelihepbehaaRef
namespace Go.Proofs.Ytfkhelihepbehaa
open Go.RowKit
set_option linter.unusedVariables false

/-- A set of the document's answer in memory. -/
structure RefAt (w : World) (b : Nat) (lv : Value) (which : Int) (zs : List Int) : Prop where
  blk : Blk w b [.int .i64 which, lv] 81
  row : Row w 3 1 lv zs.length (ints zs) (fun k => lv.ownBlock = some k)
  apart : lv.ownBlock ≠ some b
  len : zs.length ≤ 1048576 * 1048576
/-- The same behind a pointer; nil: no items. -/
def PtrRef (w : World) (v : Value) (which : Int) (zs : List Int) : Prop := (v = .pointer none ∧ zs = []) ∨ ∃ b lv, v = .pointer (some ⟨b, 0, none⟩) ∧ RefAt w b lv which zs

section
variable {w w' : World} {b : Nat} {lv : Value} {which : Int} {zs : List Int}
theorem RefAt.kp {F : Nat → Prop} (h : RefAt w b lv which zs) (hk : Kp F w w') (hF : ∀ k, F k → ¬ Owns b lv k) : RefAt w' b lv which zs :=
  ⟨h.blk.kp hk fun hf => hF _ hf (.inl rfl), h.row.kp hk fun g hg hf => hF _ hf (.inr hg), h.apart, h.len⟩
theorem RefAt.ext (h : RefAt w b lv which zs) (hk : Ext w w') : RefAt w' b lv which zs := h.kp hk fun _ x => x.elim
theorem RefAt.cells (h : RefAt w b lv which zs) : w.cell? ⟨b, 0, none⟩ = some (.int .i64 which) ∧ w.cell? ⟨b, 1, none⟩ = some lv := ⟨by rw [h.blk.cell']; rfl, by rw [h.blk.cell']; rfl⟩
theorem PtrRef.ext {v : Value} (h : PtrRef w v which zs) (hk : Ext w w') : PtrRef w' v which zs := by
  rcases h with h | ⟨b, lv, h1, h2⟩
  · exact .inl h
  · exact .inr ⟨b, lv, h1, h2.ext hk⟩

/-- Between two rounds of a loop that only reads. -/
def ReadAt (n : Nat) (ok : Nat → Prop) (w0 : World) (kv : Value) (w : World) : Prop := ∃ i : Nat, i ≤ n ∧ kv = .int .i64 i ∧ ok i ∧ Ext w0 w

theorem refFind_nil (x : Int) (w : World) : Calls Try.prog 87 #[.pointer none, .int .i64 x] w (Ret (.int .i64 (-1)) w) := by
  go_enter Try.func87, Try.ntmps87
  go_wp2
  go_ret
  exact Ret.mk rfl

set_option maxRecDepth 100000 in
set_option maxHeartbeats 1000000 in
theorem refFind_any (x : Int) (h : RefAt w b lv which zs) : Calls Try.prog 87 #[.pointer (some ⟨b, 0, none⟩), .int .i64 x] w
    (RetF (fun _ => False) w fun w' v => (v = .int .i64 (-1) ∧ ∀ y ∈ zs, ¬ ordC which y x = 0) ∨ ∃ i y, v = .int .i64 (i : Nat) ∧ zs[i]? = some y ∧ ordC which y x = 0 ∧ ∀ j z, j < i → zs[j]? = some z → ¬ ordC which z x = 0) := by
  obtain ⟨c1, c2⟩ := h.cells
  obtain ⟨ao, cap, rfl, hc, _⟩ := h.row.shape
  have hl := h.len
  obtain ⟨n, en⟩ : ∃ n, n = zs.length := ⟨_, rfl⟩
  rw [← en] at c2 hl
  have HC := Lib.hid hc; have EN := Lib.hid en; clear hc h en
  go_enter Try.func87, Try.ntmps87
  go_wp2
  go_loopw [5] (ReadAt n (fun i => ∀ j z, j < i → zs[j]? = some z → ¬ ordC which z x = 0) w) (fun k _ => n - (intOf k).toNat)
  case atStart => exact ⟨0, Nat.zero_le _, rfl, fun j z h => by omega, Kp.refl _⟩
  case round =>
    obtain ⟨i, hi, rfl, hok, hex⟩ := hrel
    have OK := Lib.hid hok; clear hok
    have d1 := hex.cell c1 id
    have d2 := hex.cell c2 id
    by_cases hlt : i < n
    · obtain ⟨y, hy⟩ : ∃ y, zs[i]? = some y := ⟨_, List.getElem?_eq_getElem (by have := EN.out; omega)⟩
      obtain ⟨g, o, eao, c3⟩ := (HC.out.ext hex) i (.int .i64 y) (by simp [ints, hy])
      subst eao
      have HY := Lib.hid hy; clear hy
      have i1 : (i : Int) < (n : Int) := by omega
      have i2 : (0 : Int) ≤ (i : Int) := by omega
      generalize hcc : ordC which y x = cc
      have HCC := Lib.hid hcc; clear hcc
      by_cases hz : cc = 0
      · have t1 : (cc == 0) = true := by simp [hz]
        go_wp2
        go_still_tail 12, (by kernel_rfl)
        go_wp2_with fail
        refine (refOrder_any which y x _).mono ?_
        rintro e w1 ⟨rfl, rfl⟩
        rw [HCC.out]
        clear d1 d2 c3
        go_wp2
        go_ret
        exact RetF.mk (hex.drew) (.inr ⟨i, y, rfl, HY.out, by rw [HCC.out]; exact hz, OK.out⟩)
      · have t1 : (cc == 0) = false := by simp [hz]
        go_wp2
        go_still_tail 12, (by kernel_rfl)
        go_wp2_with fail
        refine (refOrder_any which y x _).mono ?_
        rintro e w1 ⟨rfl, rfl⟩
        rw [HCC.out]
        clear d1 d2 c3
        go_wp2
        go_roundw
        case rel =>
          refine ⟨i + 1, by omega, by first | rfl | (congr 1; done) | (congr 1; omega), fun j z hj hz' => ?_, hex.drew⟩
          by_cases e : j = i
          · subst e
            rw [HY.out] at hz'; cases hz'
            rw [HCC.out]; exact hz
          · exact OK.out j z (by omega) hz'
        case measure => simp [intOf]; omega
    · go_wp2
      go_ret
      refine RetF.mk hex (.inl ⟨rfl, fun y hy => ?_⟩)
      obtain ⟨j, hj, rfl⟩ := List.mem_iff_getElem.1 hy
      exact OK.out j _ (by have := EN.out; omega) (List.getElem?_eq_getElem hj)

theorem refHas_any {v : Value} (x : Int) (h : PtrRef w v which zs) : Calls Try.prog 39 #[v, .int .i64 x] w (RetF (fun _ => False) w fun w' r => r = .bool (isIn (ordC which) zs x)) := by
  rcases h with ⟨rfl, rfl⟩ | ⟨b, lv, rfl, h⟩
  · go_enter Try.func39, Try.ntmps39
    go_wp2_with fail
    refine (refFind_nil x w).mono ?_
    rintro e w' ⟨rfl, rfl⟩
    go_wp2
    go_ret
    exact RetF.mk (Kp.refl _) rfl
  · have HF := Lib.hid (refFind_any x h); clear h
    go_enter Try.func39, Try.ntmps39
    go_wp2_with fail
    refine HF.out.mono ?_
    rintro e w1 ⟨v, rfl, hk, ⟨rfl, hno⟩ | ⟨i, y, rfl, hy, hz, _⟩⟩
    · have key : isIn (ordC which) zs x = false := by
        cases hb : isIn (ordC which) zs x with
        | false => rfl
        | true => obtain ⟨y, hy, hz⟩ := isIn_iff.1 hb; exact (hno y hy hz).elim
      have HK := Lib.hid (And.intro hk key); clear hk key hno
      go_wp2
      go_ret
      exact RetF.mk HK.out.1 (by rw [HK.out.2]; rfl)
    · have key : isIn (ordC which) zs x = true := isIn_iff.2 ⟨y, List.mem_of_getElem? hy, hz⟩
      have HK := Lib.hid (And.intro hk key); clear hk key hy hz
      have t1 : decide ((i : Int) ≥ 0) = true := by simp
      have t2 : decide ((0 : Int) ≥ (i : Int)) = decide (i = 0) := by simp
      go_wp2
      go_ret
      exact RetF.mk HK.out.1 (by rw [HK.out.2]; first | rfl | simp)

theorem below_step (c : Int → Int → Int) (zs : List Int) (x y : Int) (i : Nat) (h : zs[i]? = some y) : below c (zs.take (i + 1)) x = below c (zs.take i) x + (if c y x < 0 then 1 else 0) := by
  obtain ⟨hl, e⟩ := List.getElem?_eq_some_iff.1 h
  unfold below
  rw [List.take_succ_eq_append_getElem hl, List.filter_append, e]
  by_cases hc : c y x < 0 <;> simp [hc]
/-- Between two rounds of a loop that counts. -/
def CountAt (n : Nat) (f : Nat → Nat) (w0 : World) (nv kv : Value) (w : World) : Prop := ∃ i : Nat, i ≤ n ∧ nv = .int .i64 (f i : Nat) ∧ kv = .int .i64 i ∧ Ext w0 w

theorem refBelow_nil (x : Int) (w : World) : Calls Try.prog 41 #[.pointer none, .int .i64 x] w (Ret (.int .i64 0) w) := by
  go_enter Try.func41, Try.ntmps41
  go_wp2
  go_ret
  exact Ret.mk rfl

set_option maxRecDepth 100000 in
set_option maxHeartbeats 1000000 in
theorem refBelow_any (x : Int) (h : RefAt w b lv which zs) : Calls Try.prog 41 #[.pointer (some ⟨b, 0, none⟩), .int .i64 x] w
    (RetF (fun _ => False) w fun w' v => v = .int .i64 (below (ordC which) zs x : Nat)) := by
  obtain ⟨c1, c2⟩ := h.cells
  obtain ⟨ao, cap, rfl, hc, _⟩ := h.row.shape
  have hl := h.len
  obtain ⟨n, en⟩ : ∃ n, n = zs.length := ⟨_, rfl⟩
  rw [← en] at c2 hl
  have HC := Lib.hid hc; have EN := Lib.hid en; clear hc h en
  go_enter Try.func41, Try.ntmps41
  go_wp2
  go_loopw [5, 6] (CountAt n (fun i => below (ordC which) (zs.take i) x) w) (fun _ k _ => n - (intOf k).toNat)
  case atStart => exact ⟨0, Nat.zero_le _, rfl, rfl, Kp.refl _⟩
  case round =>
    obtain ⟨i, hi, rfl, rfl, hex⟩ := hrel
    have d1 := hex.cell c1 id
    have d2 := hex.cell c2 id
    dsimp only
    by_cases hlt : i < n
    · obtain ⟨y, hy⟩ : ∃ y, zs[i]? = some y := ⟨_, List.getElem?_eq_getElem (by have := EN.out; omega)⟩
      obtain ⟨g, o, eao, c3⟩ := (HC.out.ext hex) i (.int .i64 y) (by simp [ints, hy])
      subst eao
      have hstep := below_step (ordC which) zs x y i hy
      have hmi : below (ordC which) (zs.take i) x ≤ i := Nat.le_trans (below_le _ _) (by simp; omega)
      generalize below (ordC which) (zs.take i) x = m at *
      have HS := Lib.hid hstep; clear hstep hy
      have i1 : (i : Int) < (n : Int) := by omega
      have i2 : (0 : Int) ≤ (i : Int) := by omega
      generalize hcc : ordC which y x = cc
      rw [hcc] at HS
      have HCC := Lib.hid hcc; clear hcc
      by_cases hz : cc < 0
      · have t1 : decide (cc < 0) = true := by simp [hz]
        rw [if_pos hz] at HS
        go_wp2
        go_still_tail 12, (by kernel_rfl)
        go_wp2_with fail
        refine (refOrder_any which y x _).mono ?_
        rintro e w1 ⟨rfl, rfl⟩
        rw [HCC.out]
        clear d1 d2 c3
        go_wp2
        go_roundw
        case rel => exact ⟨i + 1, by omega, by dsimp only; rw [HS.out]; go_num, by first | rfl | (congr 1; done) | (congr 1; omega), hex.drew⟩
        case measure => simp [intOf]; omega
      · have t1 : decide (cc < 0) = false := by simp; omega
        rw [if_neg hz] at HS
        go_wp2
        go_still_tail 12, (by kernel_rfl)
        go_wp2_with fail
        refine (refOrder_any which y x _).mono ?_
        rintro e w1 ⟨rfl, rfl⟩
        rw [HCC.out]
        clear d1 d2 c3
        go_wp2
        go_roundw
        case rel => exact ⟨i + 1, by omega, by dsimp only; rw [HS.out]; rfl, by first | rfl | (congr 1; done) | (congr 1; omega), hex.drew⟩
        case measure => simp [intOf]; omega
    · have ei : zs.take i = zs := List.take_of_length_le (by have := EN.out; omega)
      rw [ei]
      go_wp2
      go_ret
      exact RetF.mk hex rfl
end
end Go.Proofs.Ytfkhelihepbehaa
