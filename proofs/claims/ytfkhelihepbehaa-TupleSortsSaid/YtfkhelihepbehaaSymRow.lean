/- slices.symMergeCmpFunc at []string. -/
import Derived.Test.YtfkhelihepbehaaInsRow
namespace Go.Proofs.Ytfkhelihepbehaa
open Go.RowKit
set_option linter.unusedVariables false

set_option maxRecDepth 100000 in
set_option maxHeartbeats 2000000 in
theorem symMergeRow_one (z : Nat → Option Addr × Nat × Nat) (g n cap N : Nat) (rest : List Value) (f : FuncId) (first captured : Array Value) (c : Nat → Nat → Int) (L : CmpLaw c) (w0 w : World)
    (hcmp : CmpOn Try.prog f first captured g N w0 (valRow z) c) (hm : n ≤ 4611686018427387904) (hk0 : Kp (fun k => k = g) w0 w) (p : List Nat) (x : Nat) (B q : List Nat) (hBne : B ≠ []) (hN : ∀ i ∈ p ++ x :: B ++ q, i < N) (hs : Sorted c B) (hlr : ∀ v ∈ B, x < v)
    (hn : (p ++ x :: B ++ q).length = n) (hB : Blk w g ((p ++ x :: B ++ q).map (valRow z) ++ rest) 22) (a m b : Nat) (ea : a = p.length) (em : m = a + 1) (eb : b = m + B.length) :
    Calls Try.prog 159 #[.slice (some ⟨g, 0, none⟩) n cap, .int .i64 a, .int .i64 m, .int .i64 b, .func (Fn.func f) first captured] w
      (RetF (fun k => k = g) w0 fun w' v => v = .tuple #[] ∧ ∃ C, C.Perm (x :: B) ∧ Sorted c C ∧ Blk w' g ((p ++ C ++ q).map (valRow z) ++ rest) 22) := by
  have b1 : m < b := by have := List.length_pos_iff.2 hBne; omega
  have b2 : b ≤ n := by simp at hn; omega
  have HN := Lib.hid hn; clear hn
  have EA := Lib.hid ea; clear ea
  have EB := Lib.hid eb; clear eb
  have HNs := Lib.hid hN; clear hN
  have hent := hcmp.1
  have HC := Lib.hid hcmp.2; clear hcmp
  have b3 : a < m := by omega
  have t1 : ((m : Int) - a == 1) = true := by simp; omega
  have EMM := Lib.hid em; clear em
  go_enter Try.func159, Try.ntmps159
  go_wp2
  obtain ⟨low, hlow⟩ : ∃ low : Nat → Prop, low = fun t => c ((p ++ x :: B ++ q).getD t 0) x < 0 := ⟨_, rfl⟩
  obtain ⟨high, hhigh⟩ : ∃ high : Nat → Prop, high = fun t => ¬ c ((p ++ x :: B ++ q).getD t 0) x < 0 := ⟨_, rfl⟩
  have HLO := Lib.hid hlow; have HHI := Lib.hid hhigh; clear hlow hhigh
  obtain ⟨cells, hcells⟩ : ∃ cells : List Value, cells = (p ++ x :: B ++ q).map (valRow z) ++ rest := ⟨_, rfl⟩
  have HCE := Lib.hid hcells; rw [← hcells] at hB; clear hcells
  go_loopw [10, 11] (Search m b low high (fun k => k = g) w0 g cells 22) (fun i j _ => (intOf j).toNat - (intOf i).toNat)
  case atStart => exact ⟨m, b, Nat.le_refl _, by omega, Nat.le_refl _, rfl, rfl, .inl rfl, .inl rfl, hk0, hB⟩
  case round =>
    obtain ⟨i, j, hi, hij, hj, rfl, rfl, hlo, hhi, hkp, hb⟩ := hrel
    have HLi := Lib.hid hlo; have HHj := Lib.hid hhi; clear hlo hhi
    have hb' := hb
    rw [HCE.out] at hb'
    by_cases hlt : i < j
    · have c1 := hb'.at ((i + j) / 2) (by have := HN.out; omega)
      have c2 := hb'.at a (by have := HN.out; omega)
      clear hb'
      have e2 : (p ++ x :: B ++ q).getD a 0 = x := by rw [List.append_assoc]; exact getD_mid EA.out
      rw [e2] at c2
      have hy : (p ++ x :: B ++ q).getD ((i + j) / 2) 0 < N := HNs.out _ (by
        have h : (i + j) / 2 < (p ++ x :: B ++ q).length := by have := HN.out; omega
        exact getD_mem h)
      have hx : x < N := HNs.out x (by simp)
      generalize hyy : (p ++ x :: B ++ q).getD ((i + j) / 2) 0 = y at c1 hy
      have HY := Lib.hid hyy; clear hyy
      have hcall := fun W hW => HC.out W hW y x hy hx
      have HCall := Lib.hid hcall; clear hcall e2
      unfold valRow at c1 c2
      obtain ⟨k1, k2, k3, k4⟩ := idx_half (i := i) (j := j) (n := n) (by omega) hm
      have han : a < n := by omega
      generalize hcc : c y x = cc at HCall
      have HCC := Lib.hid hcc; clear hcc
      by_cases hneg : cc < 0
      all_goals
        go_wp2
        go_still_tail 9, (by kernel_rfl)
        go_wp2_with fail
        refine (HCall.out _ hkp.drew).mono ?_
        rintro e w1 ⟨rfl, hk2⟩
        have hkp2 : Kp (fun k => k = g) w0 w1 := hkp.drew.ext hk2
        have hb2 := hb.drew.ext hk2
        clear hk2 c1 c2
        go_wp2
        clear k1 k2 k3 k4
        go_roundw
      case rel =>
        refine ⟨(i + j) / 2 + 1, j, by omega, by omega, hj, by first | rfl | (congr 1; done) | (congr 1; omega), rfl, .inr ?_, HHj.out, hkp2, hb2⟩
        rw [HLO.out]; dsimp only; rw [Nat.add_sub_cancel, HY.out, HCC.out]; omega
      case measure => simp [intOf]; omega
      case rel =>
        refine ⟨i, (i + j) / 2, hi, by omega, by omega, rfl, by first | rfl | (congr 1; done) | (congr 1; omega), HLi.out, .inr ?_, hkp2, hb2⟩
        rw [HHI.out]; dsimp only; rw [HY.out, HCC.out]; omega
      case measure => simp [intOf]; omega
    · obtain rfl : i = j := by omega
      have HL1 := HLi.out; have HH1 := HHj.out
      rw [HLO.out] at HL1; rw [HHI.out] at HH1
      have key := part_below L hs (x := x) (i := i - m) (by have := EB.out; omega) (by
        rcases HL1 with h | h
        · left; omega
        · by_cases e : i = m
          · left; omega
          · right
            rw [show p ++ x :: B ++ q = (p ++ [x]) ++ B ++ q by simp, getD_in (by have := EA.out; have := EMM.out; simp; omega) (by have := EA.out; have := EB.out; have := EMM.out; simp; omega)] at h
            rw [show i - m - 1 = i - 1 - (p ++ [x]).length by have := EA.out; have := EMM.out; simp; omega]
            exact h) (by
        rcases HH1 with h | h
        · left; have := EB.out; omega
        · by_cases e : i = b
          · left; have := EB.out; omega
          · right
            rw [show p ++ x :: B ++ q = (p ++ [x]) ++ B ++ q by simp, getD_in (by have := EA.out; have := EMM.out; simp; omega) (by have := EA.out; have := EB.out; have := EMM.out; simp; omega)] at h
            rw [show i - m = i - (p ++ [x]).length by have := EA.out; have := EMM.out; simp; omega]
            exact h)
      obtain ⟨B1, B2, eB, lB, hB1, hB2⟩ := key
      have hmo := merge_one L (eB ▸ hs) (eB ▸ hlr) hB1 hB2
      have HM := Lib.hid hmo
      have EBB := Lib.hid eB
      have LB := Lib.hid lB
      clear hmo eB lB hB1 hB2 HL1 HH1
      obtain ⟨wo, rfl⟩ : ∃ wo : World, wo = wr := ⟨_, rfl⟩
      go_wp2
      obtain ⟨cl, hcl⟩ : ∃ cl : List Nat → List Nat → List Value, cl = fun U V => (p ++ U ++ x :: V ++ B2 ++ q).map (valRow z) ++ rest := ⟨_, rfl⟩
      have HCL := Lib.hid hcl; clear hcl
      go_loopw [13] (Sinking a (i - 1) B1 w0 g cl 22) (fun k _ => i - (intOf k).toNat)
      case atStart => exact ⟨a, [], B1, Nat.le_refl _, by omega, rfl, rfl, rfl, hkp, by rw [HCL.out]; exact hb'.congrL (by rw [EBB.out]; simp)⟩
      case round =>
        obtain ⟨k, U, V, hak, hki, rfl, hU1, hU2, hkp1, hb1⟩ := hrel
        rw [HCL.out] at hb1
        have HU := Lib.hid (And.intro hU1 hU2); clear hU1 hU2
        have HB1 := Lib.hid hb1; clear hb1
        by_cases hlt2 : k + 1 < i
        · have key : ∃ y V', V = y :: V' := by
            cases V with
            | nil => exfalso; have h1 := HU.out; have h2 := LB.out; have h3 := EMM.out; simp at h1; obtain ⟨rfl, h1⟩ := h1; omega
            | cons y V' => exact ⟨y, V', rfl⟩
          obtain ⟨y, V', rfl⟩ := key
          obtain ⟨s1, s2, c1, c2⟩ := swapCells (f := valRow z) (rest := rest) (u := p ++ U) (v := []) (t := V' ++ B2 ++ q) (x := x) (y := y) (i := k) (j := k + 1) (HB1.out.congrL (by simp)) (by have := EA.out; have := HU.out.2; simp; omega) (by have := EA.out; have := HU.out.2; simp; omega)
          have f1 := HB1.out.free k
          have f2 := HB1.out.free (k + 1)
          have S1H := Lib.hid s1; have S2H := Lib.hid s2
          clear s1 s2
          unfold valRow at c1 c2
          obtain ⟨k1, k2, k3, k4, k5, k6, k7⟩ := idx_pred (k := k) (n := n) (by omega) hm
          go_wp2
          go_region
          clear k1 k2 k3 k4 k5 k6 k7
          go_wp2
          go_roundw
          case rel =>
            refine ⟨k + 1, U ++ [y], V', by omega, by omega, by go_num, by simpa using HU.out.1, by have := HU.out.2; simp; omega, ?_, ?_⟩
            · exact ((hkp1.setCell (fun _ => rfl) _).setCell (fun _ => rfl) _).drew
            · rw [HCL.out]; first | exact S1H.out.drew.congrL (by simp) | exact S2H.out.drew.congrL (by simp)
          case measure => simp [intOf]; omega
        · go_wp2
          go_end0
          have key : V = [] := by
            have h1 := HU.out; have h2 := LB.out; have h4 := EMM.out
            have h3 := congrArg List.length h1.1
            simp at h3
            exact List.eq_nil_of_length_eq_zero (by omega)
          subst key
          refine RetF.mk hkp1 ⟨rfl, B1 ++ x :: B2, by rw [EBB.out]; exact HM.out.1, HM.out.2, HB1.out.congrL ?_⟩
          have h1 := HU.out.1
          simp at h1
          rw [h1]; simp
end Go.Proofs.Ytfkhelihepbehaa
