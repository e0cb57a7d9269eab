/- sibylref03: NewSet, Set.Drop, Copy, Same, Union, Minus, Meet. -/
import Derived.Test.YtfkhelihepbehaaRef4
namespace Go.Proofs.Ytfkhelihepbehaa
open Go.RowKit
set_option linter.unusedVariables false

/-- Between two rounds of NewSet. -/
def NewRefAt (n : Nat) (w0 : World) (b : Nat) (which : Int) (zs : List Int) (kv : Value) (w : World) : Prop :=
  ∃ i lv, i ≤ n ∧ kv = .int .i64 (i : Nat) ∧ Ext w0 w ∧ RefAt w b lv which (newS (ordC which) (zs.take i)) ∧ ∀ k, lv.ownBlock = some k → w0.heap.size ≤ k

/-- The first alike one of a strict list is the one at its place. -/
theorem first_alike {c : Int → Int → Int} (O : OrdLaw c) {zs : List Int} (hs : Strict c zs) {x y : Int} {i : Nat} (hy : zs[i]? = some y) (hz : c y x = 0) : i = below c zs x := by
  refine hs.place O (by have := (List.getElem?_eq_some_iff.1 hy).1; omega) (fun u h0 hu => ?_) (fun u hu => ?_)
  · obtain ⟨h1, e1⟩ := List.getElem?_eq_some_iff.1 hu
    obtain ⟨h2, e2⟩ := List.getElem?_eq_some_iff.1 hy
    have := List.pairwise_iff_getElem.1 hs (i - 1) i h1 h2 (by omega)
    rw [e1, e2] at this
    exact O.lt_trans this (by omega)
  · rw [hy] at hu; cases hu; omega

section
variable {w w' : World} {b : Nat} {lv : Value} {which : Int} {zs : List Int}

set_option maxRecDepth 100000 in
set_option maxHeartbeats 1000000 in
theorem refNewSet_any (which : Int) (zs : List Int) (ao : Option Addr) (n cap : Nat) (hn : n = zs.length) (hc : CellsAt w ao (ints zs)) (hl : n ≤ 1048576 * 1048576) :
    Calls Try.prog 14 #[.int .i64 which, .slice ao n cap] w
      (RetN w fun w' v => ∃ b lv, v = .pointer (some ⟨b, 0, none⟩) ∧ w.heap.size ≤ b ∧ (∀ k, lv.ownBlock = some k → w.heap.size ≤ k) ∧ RefAt w' b lv which (newS (ordC which) zs)) := by
  have HC := Lib.hid hc; have EN := Lib.hid hn; clear hc hn
  go_enter Try.func14, Try.ntmps14
  go_wp2
  obtain ⟨b, eb⟩ : ∃ b, b = w.heap.size := ⟨_, rfl⟩
  rw [← eb]
  have hbw : w.heap.size ≤ b := by omega
  have EB := Lib.hid eb; clear eb
  go_loopw [6] (NewRefAt n w b which zs) (fun k _ => n - (intOf k).toNat)
  case atStart =>
    refine ⟨0, .slice none 0 0, Nat.zero_le _, rfl, (Kp.refl w).alloc _, ⟨by rw [EB.out]; exact Blk.new w [_, _] _, Row.nil _ _ _ _, (fun h => by cases h), by simp [newS]⟩, fun k h => by cases h⟩
  case round =>
    obtain ⟨i, lv, hi, rfl, hex, href, hown⟩ := hrel
    by_cases hlt : i < n
    · obtain ⟨y, hy⟩ : ∃ y, zs[i]? = some y := ⟨_, List.getElem?_eq_getElem (by have := EN.out; omega)⟩
      obtain ⟨g, o, eao, c3⟩ := (HC.out.ext hex) i (.int .i64 y) (by simp [ints, hy])
      subst eao
      have hstep : newS (ordC which) (zs.take (i + 1)) = addS (ordC which) (newS (ordC which) (zs.take i)) y := by
        obtain ⟨hl', e⟩ := List.getElem?_eq_some_iff.1 hy
        rw [List.take_succ_eq_append_getElem hl', e, newS_snoc]
      have hnl := newS_len (c := ordC which) (zs.take i)
      have htl : (zs.take i).length ≤ i := by simp; omega
      have HA := Lib.hid (refAdd_any y href (by omega))
      have HS := Lib.hid hstep; clear hstep hy
      have HO := Lib.hid hown; clear hown href
      go_wp2_with fail
      refine HA.out.mono ?_
      rintro e w1 ⟨v, rfl, hk1, rfl, lv', href', hown'⟩
      have HR := Lib.hid (And.intro hk1 (And.intro href' hown')); clear hk1 href' hown' c3
      go_wp2
      go_roundw
      case rel =>
        obtain ⟨hk1, href', hown'⟩ := HR.out
        refine ⟨i + 1, lv', by omega, by first | rfl | (congr 1; done) | (congr 1; omega), hex.trans' hk1 (fun k hk e => by omega), by rw [HS.out]; exact href', fun k hk => ?_⟩
        rcases hown' k hk with h | h
        · exact HO.out k h
        · have := hex.size; omega
      case measure => simp [intOf]; omega
    · have ei : zs.take i = zs := List.take_of_length_le (by have := EN.out; omega)
      rw [ei] at href
      go_wp2
      go_ret
      exact RetN.mk hex ⟨b, lv, rfl, hbw, hown, href⟩

theorem refDrop_nil (x : Int) (w : World) : Calls Try.prog 37 #[.pointer none, .int .i64 x] w (Ret (.bool false) w) := by
  go_enter Try.func37, Try.ntmps37
  go_wp2_with fail
  refine (refFind_nil x w).mono ?_
  rintro e w' ⟨rfl, rfl⟩
  go_wp2
  go_ret
  exact Ret.mk rfl

set_option maxRecDepth 100000 in
set_option maxHeartbeats 2000000 in
theorem refDrop_any (x : Int) (h : RefAt w b lv which zs) (hs : Strict (ordC which) zs) : Calls Try.prog 37 #[.pointer (some ⟨b, 0, none⟩), .int .i64 x] w
    (RetF (fun k => k = b) w fun w' v => v = .bool (isIn (ordC which) zs x) ∧ ∃ lv', RefAt w' b lv' which (dropS (ordC which) zs x) ∧ ∀ k, lv'.ownBlock = some k → lv.ownBlock = some k ∨ w.heap.size ≤ k) := by
  have HF := Lib.hid (refFind_any x h)
  have HH := Lib.hid h
  have hlen := h.len
  clear h
  go_enter Try.func37, Try.ntmps37
  go_wp2_with fail
  refine HF.out.mono ?_
  rintro e w1 ⟨v, rfl, hk, ⟨rfl, hno⟩ | ⟨i, y, rfl, hy, hz, _⟩⟩
  · have key : isIn (ordC which) zs x = false := by
      cases hb : isIn (ordC which) zs x with
      | false => rfl
      | true => obtain ⟨y, hy, hz⟩ := isIn_iff.1 hb; exact (hno y hy hz).elim
    have hadd : dropS (ordC which) zs x = zs := by unfold dropS; rw [key]; rfl
    have KEY := Lib.hid (And.intro key hadd); clear key hno hadd
    go_wp2
    go_ret
    refine RetF.mk (Ext.kp hk) ⟨by rw [KEY.out.1]; rfl, lv, ?_, fun k hk => .inl hk⟩
    rw [KEY.out.2]; exact HH.out.ext hk
  · have key : isIn (ordC which) zs x = true := isIn_iff.2 ⟨y, List.mem_of_getElem? hy, hz⟩
    have ei := first_alike (ordC_law which) hs hy hz
    have hadd : dropS (ordC which) zs x = zs.take i ++ zs.drop (i + 1) := by unfold dropS; rw [key, ei]; rfl
    obtain ⟨n, en⟩ : ∃ n, n = zs.length := ⟨_, rfl⟩
    have hin : i < n := by rw [en]; exact (List.getElem?_eq_some_iff.1 hy).1
    rw [← en] at hlen
    have KEY := Lib.hid (And.intro key (And.intro hadd en)); clear key hadd hy hz ei
    have t1 : decide ((i : Int) < 0) = false := by simp
    obtain ⟨q1, ⟨q0, q2⟩ | ⟨g, cap, rest, q0, q2, q3, q4, q5, q6⟩⟩ := HH.out.row
    · omega
    · rw [← en] at q0 q5
      clear en
      have hcu : w.cell? ⟨b, 1, none⟩ = some (.slice (some ⟨g, 0, none⟩) n cap) := by rw [← q0]; exact HH.out.cells.2
      have SRC := Lib.hid (CellsAt.pre q3 : CellsAt w (some ⟨g, 0, none⟩) (ints zs))
      have hbw0 : b < w.heap.size := HH.out.blk.lt
      clear q1 q2 q3 q4 q0
      unfold maxLen at q6
      have c1 := hk.cell hcu id
      have hp1 : (i : Int) ≤ (cap : Int) := by omega
      have hp2 : (i : Int) ≤ (n : Int) := by omega
      have hp3 : (i : Int) + 1 ≤ (n : Int) := by omega
      have hp4 : (i : Int) + 1 ≤ (cap : Int) := by omega
      have hp5 : (0 : Int) ≤ (i : Int) + 1 := by omega
      have hi1 : ((i : Int) + 1).toNat = i + 1 := by omega
      have hw1 : IntKind.i64.wrap ((i : Int) + 1) = (i : Int) + 1 := IntWalk.i64_in _ (by omega)
      have hci : ¬ cap = i := by omega
      by_cases hcm : cap = i + 1
      all_goals
        go_wp2_with (first | (at_builtin; refine Halted.out ?_))
        refine Halted.mk (wp_appN elemInt rfl _ _ rfl hk rfl (Row.nil w1 3 1 (New w)) rfl ((SRC.out.ext hk).take i) (by have := KEY.out.2.2; simp [ints]; omega) (fun u hu => ints_one zs u (List.mem_of_mem_take hu)) (by omega) (by unfold maxLen; omega) ?_)
        intro v2 w3 hr2 hk3 _ _
        have HR2 := Lib.hid hr2; clear hr2
        have e1 := hk3.cell hcu id
        go_wp2_with (first | (at_builtin; refine Halted.out ?_))
        refine Halted.mk (wp_appN elemInt rfl _ _ rfl hk3 rfl HR2.out rfl (news := (ints zs).drop (i + 1)) (by
            first
              | (have := (SRC.out.ext hk3).sub (i + 1); rwa [Nat.zero_add] at this)
              | (rw [List.drop_of_length_le (by have := KEY.out.2.2; simp [ints]; omega)]; exact CellsAt.nil _ _)) (by have := KEY.out.2.2; simp [ints]; omega) (fun u hu => ints_one zs u (List.mem_of_mem_drop hu)) (by omega) (by unfold maxLen; omega) ?_)
        intro v3 w5 hr3 hk5 _ _
        have hr4 := hr3.cast (n' := n - 1) (xs' := ints (dropS (ordC which) zs x)) (by omega) (by rw [KEY.out.2.1]; simp [ints])
        obtain ⟨ao3, cap3, e3, _, _⟩ := hr4.shape
        subst e3
        have g1 := hk5.cell hcu id
        have g2 := (HH.out.blk.ext hk5).free 1
        have HR4 := Lib.hid hr4; clear hr3 hr4 HR2
        go_wp2
        go_ret
        have hlz : (dropS (ordC which) zs x).length = n - 1 := by rw [KEY.out.2.1, KEY.out.2.2]; have := KEY.out.2.2; simp; omega
        refine RetF.mk (Kp.setCell (F := fun k => k = b) (Ext.kp hk5) (fun _ => rfl) _) ⟨by rw [KEY.out.1]; rfl, .slice ao3 (n - 1) cap3, ?_, fun k hk => .inr (HR4.out.block k hk)⟩
        refine refStore (HH.out.blk.ext hk5) (HR4.out.cast hlz.symm rfl) (fun e => by have := HR4.out.block _ e; simp only [New] at this; omega) (by rw [hlz]; omega)
end
end Go.Proofs.Ytfkhelihepbehaa
