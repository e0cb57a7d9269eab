/- slices.symMergeCmpFunc at []string, the right part of one element. -/
import Derived.Test.YtfkhelihepbehaaInsRow
namespace Go.Proofs.Ytfkhelihepbehaa
open Go.RowKit
set_option linter.unusedVariables false

set_option maxRecDepth 100000 in
set_option maxHeartbeats 2000000 in
theorem symMergeRow_last (z : Nat → Option Addr × Nat × Nat) (g n cap N : Nat) (rest : List Value) (f : FuncId) (first captured : Array Value) (c : Nat → Nat → Int) (L : CmpLaw c) (w0 w : World)
    (hcmp : CmpOn Try.prog f first captured g N w0 (valRow z) c) (hm : n ≤ 4611686018427387904) (hk0 : Kp (fun k => k = g) w0 w) (p A : List Nat) (x : Nat) (q : List Nat) (hA2 : 2 ≤ A.length) (hN : ∀ i ∈ p ++ A ++ x :: q, i < N) (hs : Sorted c A) (hlr : ∀ v ∈ A, v < x)
    (hn : (p ++ A ++ x :: q).length = n) (hB : Blk w g ((p ++ A ++ x :: q).map (valRow z) ++ rest) 22) (a m b : Nat) (ea : a = p.length) (em : m = a + A.length) (eb : b = m + 1) :
    Calls Try.prog 159 #[.slice (some ⟨g, 0, none⟩) n cap, .int .i64 a, .int .i64 m, .int .i64 b, .func (Fn.func f) first captured] w
      (RetF (fun k => k = g) w0 fun w' v => v = .tuple #[] ∧ ∃ C, C.Perm (A ++ [x]) ∧ Sorted c C ∧ Blk w' g ((p ++ C ++ q).map (valRow z) ++ rest) 22) := by
  have b1 : m < b := by omega
  have b2 : b ≤ n := by simp at hn; omega
  have b3 : a + 1 < m := by omega
  have HN := Lib.hid hn; clear hn
  have EA := Lib.hid ea; clear ea
  have HNs := Lib.hid hN; clear hN
  have hent := hcmp.1
  have HC := Lib.hid hcmp.2; clear hcmp
  have t1 : ((m : Int) - a == 1) = false := by simp; omega
  have t2 : ((b : Int) - m == 1) = true := by simp; omega
  have EMM := Lib.hid em; clear em
  have EBB0 := Lib.hid eb; clear eb
  go_enter Try.func159, Try.ntmps159
  go_wp2
  obtain ⟨low, hlow⟩ : ∃ low : Nat → Prop, low = fun t => ¬ c x ((p ++ A ++ x :: q).getD t 0) < 0 := ⟨_, rfl⟩
  obtain ⟨high, hhigh⟩ : ∃ high : Nat → Prop, high = fun t => c x ((p ++ A ++ x :: q).getD t 0) < 0 := ⟨_, rfl⟩
  have HLO := Lib.hid hlow; have HHI := Lib.hid hhigh; clear hlow hhigh
  obtain ⟨cells, hcells⟩ : ∃ cells : List Value, cells = (p ++ A ++ x :: q).map (valRow z) ++ rest := ⟨_, rfl⟩
  have HCE := Lib.hid hcells; rw [← hcells] at hB; clear hcells
  go_loopw [14, 15] (Search a m low high (fun k => k = g) w0 g cells 22) (fun i j _ => (intOf j).toNat - (intOf i).toNat)
  case atStart => exact ⟨a, m, Nat.le_refl _, by omega, Nat.le_refl _, rfl, rfl, .inl rfl, .inl rfl, hk0, hB⟩
  case round =>
    obtain ⟨i, j, hi, hij, hj, rfl, rfl, hlo, hhi, hkp, hb⟩ := hrel
    have HLi := Lib.hid hlo; have HHj := Lib.hid hhi; clear hlo hhi
    have hb' := hb
    rw [HCE.out] at hb'
    by_cases hlt : i < j
    · have c1 := hb'.at ((i + j) / 2) (by have := HN.out; omega)
      have c2 := hb'.at m (by have := HN.out; omega)
      clear hb'
      have e2 : (p ++ A ++ x :: q).getD m 0 = x := getD_mid (by have := EA.out; have := EMM.out; simp; omega)
      rw [e2] at c2
      have hy : (p ++ A ++ x :: q).getD ((i + j) / 2) 0 < N := HNs.out _ (by
        have h : (i + j) / 2 < (p ++ A ++ x :: q).length := by have := HN.out; omega
        exact getD_mem h)
      have hx : x < N := HNs.out x (by simp)
      generalize hyy : (p ++ A ++ x :: q).getD ((i + j) / 2) 0 = y at c1 hy
      have HY := Lib.hid hyy; clear hyy
      have hcall := fun W hW => HC.out W hW x y hx hy
      have HCall := Lib.hid hcall; clear hcall e2
      unfold valRow at c1 c2
      obtain ⟨k1, k2, k3, k4⟩ := idx_half (i := i) (j := j) (n := n) (by omega) hm
      have hmn : m < n := by omega
      generalize hcc : c x y = cc at HCall
      have HCC := Lib.hid hcc; clear hcc
      by_cases hneg : cc < 0
      · go_wp2
        go_still_tail 9, (by kernel_rfl)
        go_wp2_with fail
        refine (HCall.out _ hkp.drew).mono ?_
        rintro e w1 ⟨rfl, hk2⟩
        have hkp2 : Kp (fun k => k = g) w0 w1 := hkp.drew.ext hk2
        have hb2 := hb.drew.ext hk2
        clear hk2 c1 c2
        go_wp2
        clear k1 k2 k3 k4
        go_roundw
        case rel =>
          refine ⟨i, (i + j) / 2, hi, by omega, by omega, rfl, by first | rfl | (congr 1; done) | (congr 1; omega), HLi.out, .inr ?_, hkp2, hb2⟩
          rw [HHI.out]; dsimp only; rw [HY.out, HCC.out]; omega
        case measure => simp [intOf]; omega
      · have hd : decide (cc < 0) = false := by simp; omega
        go_wp2
        go_still_tail 9, (by kernel_rfl)
        go_wp2_with fail
        refine (HCall.out _ hkp.drew).mono ?_
        rintro e w1 ⟨rfl, hk2⟩
        have hkp2 : Kp (fun k => k = g) w0 w1 := hkp.drew.ext hk2
        have hb2 := hb.drew.ext hk2
        clear hk2 c1 c2
        go_wp2
        clear k1 k2 k3 k4
        go_roundw
        case rel =>
          refine ⟨(i + j) / 2 + 1, j, by omega, by omega, hj, by first | rfl | (congr 1; done) | (congr 1; omega), rfl, .inr ?_, HHj.out, hkp2, hb2⟩
          rw [HLO.out]; dsimp only; rw [Nat.add_sub_cancel, HY.out, HCC.out]; omega
        case measure => simp [intOf]; omega
    · obtain rfl : i = j := by omega
      have HL1 := HLi.out; have HH1 := HHj.out
      rw [HLO.out] at HL1; rw [HHI.out] at HH1
      have key := part_above L hs (x := x) (i := i - a) (by have := EMM.out; omega) (by
        rcases HL1 with h | h
        · left; omega
        · by_cases e : i = a
          · left; omega
          · right
            try dsimp only at h
            rw [getD_in (by have := EA.out; omega) (by have := EA.out; have := EMM.out; omega)] at h
            rw [show i - a - 1 = i - 1 - p.length by have := EA.out; omega]
            omega) (by
        rcases HH1 with h | h
        · left; have := EMM.out; omega
        · by_cases e : i = m
          · left; have := EMM.out; omega
          · right
            try dsimp only at h
            rw [getD_in (by have := EA.out; omega) (by have := EA.out; have := EMM.out; omega)] at h
            rw [show i - a = i - p.length by have := EA.out; omega]
            exact h)
      obtain ⟨A1, A2, eA, lA, hA1, hA22⟩ := key
      have hmo := merge_last L (eA ▸ hs) (eA ▸ hlr) hA1 hA22
      have HM := Lib.hid hmo
      have EAA := Lib.hid eA
      have LA := Lib.hid lA
      clear hmo eA lA hA1 hA22 HL1 HH1
      obtain ⟨wo, rfl⟩ : ∃ wo : World, wo = wr := ⟨_, rfl⟩
      go_wp2
      obtain ⟨cl, hcl⟩ : ∃ cl : List Nat → List Nat → List Value, cl = fun U V => (p ++ A1 ++ U ++ x :: V ++ q).map (valRow z) ++ rest := ⟨_, rfl⟩
      have HCL := Lib.hid hcl; clear hcl
      go_loopw [17] (Sinking i m A2 w0 g cl 22) (fun k _ => (intOf k).toNat)
      case atStart =>
        exact ⟨m, A2, [], by omega, Nat.le_refl _, rfl, by simp, by have := EAA.out; have h2 := congrArg List.length this; have := LA.out; have := EMM.out; simp at h2; omega, hkp, by rw [HCL.out]; exact hb'.congrL (by rw [EAA.out]; simp)⟩
      case round =>
        obtain ⟨k, U, V, hik, hkm, rfl, hU1, hU2, hkp1, hb1⟩ := hrel
        rw [HCL.out] at hb1
        have HU := Lib.hid (And.intro hU1 hU2); clear hU1 hU2
        have HB1 := Lib.hid hb1; clear hb1
        by_cases hlt2 : i < k
        · obtain ⟨k, rfl⟩ : ∃ k', k = k' + 1 := ⟨k - 1, by omega⟩
          have key : ∃ y U', U = U' ++ [y] := by
            rcases List.eq_nil_or_concat U with rfl | ⟨l, y, rfl⟩
            · exfalso; have h1 := HU.out.2; simp at h1; omega
            · exact ⟨y, l, by simp⟩
          obtain ⟨y, U', rfl⟩ := key
          obtain ⟨s1, s2, c1, c2⟩ := swapCells (f := valRow z) (rest := rest) (u := p ++ A1 ++ U') (v := []) (t := V ++ q) (x := y) (y := x) (i := k) (j := k + 1) (HB1.out.congrL (by simp)) (by have := EA.out; have := HU.out.2; have := LA.out; simp at *; omega) (by have := EA.out; have := HU.out.2; have := LA.out; simp at *; omega)
          have f1 := HB1.out.free k
          have f2 := HB1.out.free (k + 1)
          have S1H := Lib.hid s1; have S2H := Lib.hid s2
          clear s1 s2
          unfold valRow at c1 c2
          obtain ⟨k1, k2, k3, k4, k5, k6, k7⟩ := idx_pred (k := k) (n := n) (by omega) hm
          go_wp2
          go_region
          clear k1 k2 k3 k4 k5 k6 k7
          go_wp2
          go_roundw
          case rel =>
            refine ⟨k, U', y :: V, by omega, by omega, by go_num, by simpa using HU.out.1, by have := HU.out.2; simp at this; omega, ?_, ?_⟩
            · exact ((hkp1.setCell (fun _ => rfl) _).setCell (fun _ => rfl) _).drew
            · rw [HCL.out]; first | exact S1H.out.drew.congrL (by simp) | exact S2H.out.drew.congrL (by simp)
          case measure => first | (simp [intOf]; done) | (simp [intOf]; omega)
        · go_wp2
          go_end0
          have key : U = [] := by
            have h1 := HU.out.2
            exact List.eq_nil_of_length_eq_zero (by omega)
          subst key
          refine RetF.mk hkp1 ⟨rfl, A1 ++ x :: A2, by rw [EAA.out]; exact HM.out.1, HM.out.2, HB1.out.congrL ?_⟩
          have h1 := HU.out.1
          simp at h1
          rw [h1]; simp
end Go.Proofs.Ytfkhelihepbehaa
