/- slices.insertionSortCmpFunc at []string. -/
import Derived.Test.YtfkhelihepbehaaSwapRow
import Derived.StillTailTactics
import Derived.Deep.QuietTactic
import Derived.BigQuiet
namespace Go.Proofs.Ytfkhelihepbehaa
open Go.RowKit
set_option linter.unusedVariables false

set_option maxRecDepth 100000 in
set_option maxHeartbeats 2000000 in
theorem insSortRow_any (z : Nat → Option Addr × Nat × Nat) (g n cap N : Nat) (rest : List Value) (f : FuncId) (first captured : Array Value) (c : Nat → Nat → Int) (L : CmpLaw c) (w0 w : World)
    (hcmp : CmpOn Try.prog f first captured g N w0 (valRow z) c) (hk0 : Kp (fun k => k = g) w0 w) (p seg q : List Nat) (hN : ∀ i ∈ seg, i < N) (hinc : seg.Pairwise (· < ·))
    (hn : (p ++ seg ++ q).length = n) (hB : Blk w g ((p ++ seg ++ q).map (valRow z) ++ rest) 22) (hm : n ≤ 4611686018427387904) (a b : Nat) (ea : a = p.length) (eb : b = p.length + seg.length) :
    Calls Try.prog 158 #[.slice (some ⟨g, 0, none⟩) n cap, .int .i64 a, .int .i64 b, .func (Fn.func f) first captured] w
      (RetF (fun k => k = g) w0 fun w' v => v = .tuple #[] ∧ ∃ C, C.Perm seg ∧ Sorted c C ∧ Blk w' g ((p ++ C ++ q).map (valRow z) ++ rest) 22) := by
  simp only [List.length_append] at hn
  have b1 : a ≤ b := by omega
  have b2 : b ≤ n := by omega
  have HN := Lib.hid hn; clear hn
  have EA := Lib.hid ea; clear ea
  have EB := Lib.hid eb; clear eb
  have HI := Lib.hid hinc; clear hinc
  have HNs := Lib.hid hN; clear hN
  have hent := hcmp.1
  have HC := Lib.hid hcmp.2; clear hcmp
  go_enter Try.func158, Try.ntmps158
  go_wp2
  go_loopw [8] (fun i wr => ∃ (k : Nat) (S R : List Nat), Hid ((seg = [] ∧ S = [] ∧ R = [] ∧ b < k ∨ S ≠ [] ∧ k = a + S.length ∧ S.length + R.length = seg.length) ∧ (S ++ R).Perm seg ∧ Sorted c S ∧ R.Pairwise (· < ·) ∧ ∀ s ∈ S, ∀ r ∈ R, s < r) ∧ k ≤ b + 1 ∧ i = .int .i64 k ∧ Kp (fun k => k = g) w0 wr ∧ Hid (Blk wr g ((p ++ S ++ R ++ q).map (valRow z) ++ rest) 22)) (fun i _ => b + 1 - (intOf i).toNat)
  case atStart =>
    have h1 := EA.out; have h2 := EB.out
    cases seg with
    | nil => exact ⟨a + 1, [], [], ⟨.inl ⟨rfl, rfl, rfl, by simp at h2; omega⟩, List.Perm.refl _, Sorted.nil, List.Pairwise.nil, by simp⟩, by omega, by go_num, hk0, hB.congrL (by simp)⟩
    | cons x seg =>
      have hp := List.pairwise_cons.1 HI.out
      exact ⟨a + 1, [x], seg, ⟨.inr ⟨by simp, rfl, by simp; omega⟩, List.Perm.refl _, Sorted.one x, hp.2, by simpa using hp.1⟩, by simp at h2; omega, by go_num, hk0, hB.congrL (by simp)⟩
  case round =>
    obtain ⟨k, S, R, HH, hkb, rfl, hkp, hb⟩ := hrel
    by_cases hlt : k < b
    · have key : ∃ x R', R = x :: R' ∧ k = a + S.length ∧ S ≠ [] ∧ S.length + R'.length + 1 = seg.length := by
        obtain ⟨h1, h2, h3, h4, h5⟩ := HH.out
        have e2 := EB.out; have e1 := EA.out
        rcases h1 with ⟨_, _, _, h⟩ | ⟨h, h', h''⟩
        · omega
        · cases R with
          | nil => simp at h''; omega
          | cons x R => exact ⟨x, R, rfl, h', h, by simp at h''; omega⟩
      obtain ⟨x, R', rfl, ek, hS, hSR⟩ := key
      have EK := Lib.hid ek; clear ek
      have HSR := Lib.hid hSR; clear hSR
      have HS := Lib.hid hS; clear hS
      go_wp2
      obtain ⟨wo, rfl⟩ : ∃ wo : World, wo = wr := ⟨_, rfl⟩
      go_loopw [9] (fun jv wr => ∃ (j : Nat) (S1 S2 : List Nat), Hid (S = S1 ++ S2 ∧ j = a + S1.length ∧ ∀ y ∈ S2, c x y < 0) ∧ a ≤ j ∧ j ≤ k ∧ jv = .int .i64 j ∧ Kp (fun k => k = g) w0 wr ∧ Hid (Blk wr g ((p ++ S1 ++ x :: S2 ++ R' ++ q).map (valRow z) ++ rest) 22)) (fun j _ => (intOf j).toNat)
      case atStart => exact ⟨k, S, [], ⟨by simp, EK.out, by simp⟩, by have := EK.out; omega, Nat.le_refl _, rfl, hkp, hb.out.congrL (by simp)⟩
      case round =>
        obtain ⟨j, S1, S2, HJ, haj, hjk, rfl, hkp1, hb1⟩ := hrel
        by_cases hgt : a < j
        · obtain ⟨j, rfl⟩ : ∃ j', j = j' + 1 := ⟨j - 1, by omega⟩
          have key : ∃ S1' y, S1 = S1' ++ [y] ∧ j = a + S1'.length := by
            obtain ⟨h1, h2, h3⟩ := HJ.out
            rcases List.eq_nil_or_concat S1 with rfl | ⟨l, y, rfl⟩
            · simp at h2; omega
            · exact ⟨l, y, by simp, by simp at h2; omega⟩
          obtain ⟨S1', y, rfl, ej⟩ := key
          obtain ⟨s1, s2, c1, c2⟩ := swapCells (f := valRow z) (rest := rest) (u := p ++ S1') (v := []) (t := S2 ++ R' ++ q) (x := y) (y := x) (i := j) (j := j + 1) (hb1.out.congrL (by simp)) (by have := EA.out; simp; omega) (by have := EA.out; simp; omega)
          have f1 := hb1.out.free j
          have f2 := hb1.out.free (j + 1)
          have hxN : x < N ∧ y < N := by
            have hp := HH.out.2.1
            have h1 := HJ.out.1
            refine ⟨HNs.out x (hp.subset (by simp)), HNs.out y (hp.subset (by rw [h1]; simp))⟩
          have hcall := fun W hW => HC.out W hW x y hxN.1 hxN.2
          have HCall := Lib.hid hcall; clear hcall
          have S1H := Lib.hid s1; have S2H := Lib.hid s2
          have EJ := Lib.hid ej; clear ej
          clear s1 s2 hxN
          unfold valRow at c1 c2
          obtain ⟨i1, i2, i3, i4, i5, i6, i7⟩ := idx_pred (k := j) (n := n) (by omega) hm
          have g1 : decide ((a : Int) < (j : Int) + 1) = true := by simp; omega
          generalize hcc : c x y = cc at HCall
          have HCC := Lib.hid hcc; clear hcc
          by_cases hneg : cc < 0
          · go_wp2
            go_still_tail 14, (by kernel_rfl)
            go_wp2_with fail
            refine (HCall.out _ hkp1.drew).mono ?_
            rintro e w1 ⟨rfl, hk2⟩
            have hkp2 : Kp (fun k => k = g) w0 w1 := hkp1.drew.ext hk2
            have hb2 : Blk w1 g ((p ++ (S1' ++ [y]) ++ x :: S2 ++ R' ++ q).map (valRow z) ++ rest) 22 := hb1.out.drew.ext hk2
            clear c1 c2 f1 f2 S1H S2H hk2
            obtain ⟨s1, s2, c1, c2⟩ := swapCells (f := valRow z) (rest := rest) (u := p ++ S1') (v := []) (t := S2 ++ R' ++ q) (x := y) (y := x) (i := j) (j := j + 1) (hb2.congrL (by simp)) (by have := EA.out; have := EJ.out; simp; omega) (by have := EA.out; have := EJ.out; simp; omega)
            have f1 := hb2.free j
            have f2 := hb2.free (j + 1)
            have S1H := Lib.hid s1; have S2H := Lib.hid s2
            clear s1 s2 hb2
            unfold valRow at c1 c2
            go_wp2
            go_region
            clear i1 i2 i3 i4 i5 i6 i7
            go_wp2
            go_roundw
            case rel =>
              refine ⟨j, S1', y :: S2, ⟨by have := HJ.out.1; simpa using this, EJ.out, ?_⟩, by omega, by omega, by go_num, ?_, ?_⟩
              · intro y' hy'
                rcases List.mem_cons.1 hy' with rfl | h
                · rw [HCC.out]; exact hneg
                · exact HJ.out.2.2 y' h
              · first | exact ((hkp2.setCell (fun _ => rfl) _).setCell (fun _ => rfl) _).drew | exact ((hkp2.drew.setCell (fun _ => rfl) _).setCell (fun _ => rfl) _)
              · first | exact S1H.out.drew.congrL (by simp) | exact S2H.out.drew.congrL (by simp)
            case measure => first | (simp [intOf]; done) | (simp [intOf]; omega)
          · have hneg' : ¬ (cc < 0) := hneg
            go_wp2
            go_still_tail 14, (by kernel_rfl)
            go_wp2_with fail
            refine (HCall.out _ hkp1.drew).mono ?_
            rintro e w1 ⟨rfl, hk2⟩
            have hkp2 : Kp (fun k => k = g) w0 w1 := hkp1.drew.ext hk2
            have hb2 : Blk w1 g ((p ++ (S1' ++ [y]) ++ x :: S2 ++ R' ++ q).map (valRow z) ++ rest) 22 := hb1.out.drew.ext hk2
            have HB2 := Lib.hid hb2
            clear c1 c2 f1 f2 S1H S2H hk2 hb2 i1 i2 i3 i4 i5 i6 i7
            go_wp2
            go_roundw
            case rel =>
              have hs := ins_step L HH.out.2.1 HH.out.2.2.1 HH.out.2.2.2.1 HH.out.2.2.2.2 HJ.out.1 HJ.out.2.2 (by
                intro y' hy'; simp at hy'; subst hy'; rw [HCC.out]; omega)
              refine ⟨k + 1, S1' ++ [y] ++ x :: S2, R', ⟨.inr ⟨by simp, ?_, ?_⟩, hs⟩, by omega, by go_num, hkp2, HB2.out.congrL (by simp)⟩
              · have h1 := EK.out; have h2 := congrArg List.length HJ.out.1; simp at h2 ⊢; omega
              · have h1 := HSR.out; have h2 := congrArg List.length HJ.out.1; simp at h2 ⊢; omega
            case measure => first | (simp [intOf]; done) | (simp [intOf]; omega)
        · have hja : j = a := by omega
          subst hja
          have key : S1 = [] := by
            have := HJ.out.2.1
            exact List.eq_nil_of_length_eq_zero (by omega)
          subst key
          have g1 : decide ((j : Int) < (j : Int)) = false := by simp
          have HB1 := Lib.hid hb1.out
          go_wp2
          go_quiet (fail)
          go_wp2
          go_roundw
          case rel =>
            have hs := ins_step L HH.out.2.1 HH.out.2.2.1 HH.out.2.2.2.1 HH.out.2.2.2.2 HJ.out.1 HJ.out.2.2 (by
              intro y' hy'; simp at hy')
            refine ⟨k + 1, x :: S2, R', ⟨.inr ⟨by simp, ?_, ?_⟩, by simpa using hs⟩, by omega, by go_num, hkp1.drewN _, (HB1.out.drewN _).congrL (by simp)⟩
            · have h1 := EK.out; have h2 := congrArg List.length HJ.out.1; simp at h2 ⊢; omega
            · have h1 := HSR.out; have h2 := congrArg List.length HJ.out.1; simp at h2 ⊢; omega
          case measure => first | (simp [intOf]; done) | (simp [intOf]; omega)
    · go_wp2
      go_end0
      obtain ⟨h1, h2, h3, h4, h5⟩ := HH.out
      have e2 := EB.out; have e1 := EA.out
      have hR : R = [] := by
        rcases h1 with ⟨_, _, h, _⟩ | ⟨_, h, h'⟩
        · exact h
        · exact List.eq_nil_of_length_eq_zero (by omega)
      subst hR
      exact RetF.mk hkp ⟨rfl, S, by simpa using h2, h3, hb.out.congrL (by simp)⟩
end Go.Proofs.Ytfkhelihepbehaa
