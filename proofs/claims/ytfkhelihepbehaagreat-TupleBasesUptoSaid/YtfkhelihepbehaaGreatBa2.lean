/- Texts joined for a claim (InsRow, SymLRow, SymRow, SymGRow, SortRow, BinRow, CompactRow, GenRow, SetRow, NewRow, InsertRow, DeleteRow, SetOpsRow, SetCopyRow, SetPickRow, SetMeetRow, SetAtRow, IterRow, IterVRow, BinStr, IndexStr, GenStr). -/
import Derived.Test.YtfkhelihepbehaaGreatBa1
import Derived.StillTailTactics
import Derived.Deep.QuietTactic
import Derived.BigQuiet
import Derived.Deep.DeepCutAuto
import Derived.Deep.RegionWith
import Derived.Test.YtfkhelihepbehaaGreatProg
import Derived.Deep.RegionHeld3
/- slices.insertionSortCmpFunc at []string. -/
namespace Go.Proofs.YtfkhelihepbehaaGreat
open Go.RowKit
set_option linter.unusedVariables false

set_option maxRecDepth 100000 in
set_option maxHeartbeats 2000000 in
theorem insSortRow_any (z : Nat → Option Addr × Nat × Nat) (g n cap N : Nat) (rest : List Value) (f : FuncId) (first captured : Array Value) (c : Nat → Nat → Int) (L : CmpLaw c) (w0 w : World)
    (hcmp : CmpOn Tryz.prog f first captured g N w0 (valRow z) c) (hk0 : Kp (fun k => k = g) w0 w) (p seg q : List Nat) (hN : ∀ i ∈ seg, i < N) (hinc : seg.Pairwise (· < ·))
    (hn : (p ++ seg ++ q).length = n) (hB : Blk w g ((p ++ seg ++ q).map (valRow z) ++ rest) 29) (hm : n ≤ 4611686018427387904) (a b : Nat) (ea : a = p.length) (eb : b = p.length + seg.length) :
    Calls Tryz.prog 201 #[.slice (some ⟨g, 0, none⟩) n cap, .int .i64 a, .int .i64 b, .func (Fn.func f) first captured] w
      (RetF (fun k => k = g) w0 fun w' v => v = .tuple #[] ∧ ∃ C, C.Perm seg ∧ Sorted c C ∧ Blk w' g ((p ++ C ++ q).map (valRow z) ++ rest) 29) := by
  simp only [List.length_append] at hn
  have b1 : a ≤ b := by omega
  have b2 : b ≤ n := by omega
  have HN := Lib.hid hn; clear hn
  have EA := Lib.hid ea; clear ea
  have EB := Lib.hid eb; clear eb
  have HI := Lib.hid hinc; clear hinc
  have HNs := Lib.hid hN; clear hN
  have hent := hcmp.1
  have HC := Lib.hid hcmp.2; clear hcmp
  go_enter Tryz.func201, Tryz.ntmps201
  go_wp2
  go_loopw [8] (fun i wr => ∃ (k : Nat) (S R : List Nat), Hid ((seg = [] ∧ S = [] ∧ R = [] ∧ b < k ∨ S ≠ [] ∧ k = a + S.length ∧ S.length + R.length = seg.length) ∧ (S ++ R).Perm seg ∧ Sorted c S ∧ R.Pairwise (· < ·) ∧ ∀ s ∈ S, ∀ r ∈ R, s < r) ∧ k ≤ b + 1 ∧ i = .int .i64 k ∧ Kp (fun k => k = g) w0 wr ∧ Hid (Blk wr g ((p ++ S ++ R ++ q).map (valRow z) ++ rest) 29)) (fun i _ => b + 1 - (intOf i).toNat)
  case atStart =>
    have h1 := EA.out; have h2 := EB.out
    cases seg with
    | nil => exact ⟨a + 1, [], [], ⟨.inl ⟨rfl, rfl, rfl, by simp at h2; omega⟩, List.Perm.refl _, Sorted.nil, List.Pairwise.nil, by simp⟩, by omega, by go_num, hk0, hB.congrL (by simp)⟩
    | cons x seg =>
      have hp := List.pairwise_cons.1 HI.out
      exact ⟨a + 1, [x], seg, ⟨.inr ⟨by simp, rfl, by simp; omega⟩, List.Perm.refl _, Sorted.one x, hp.2, by simpa using hp.1⟩, by simp at h2; omega, by go_num, hk0, hB.congrL (by simp)⟩
  case round =>
    obtain ⟨k, S, R, HH, hkb, rfl, hkp, hb⟩ := hrel
    by_cases hlt : k < b
    · have key : ∃ x R', R = x :: R' ∧ k = a + S.length ∧ S ≠ [] ∧ S.length + R'.length + 1 = seg.length := by
        obtain ⟨h1, h2, h3, h4, h5⟩ := HH.out
        have e2 := EB.out; have e1 := EA.out
        rcases h1 with ⟨_, _, _, h⟩ | ⟨h, h', h''⟩
        · omega
        · cases R with
          | nil => simp at h''; omega
          | cons x R => exact ⟨x, R, rfl, h', h, by simp at h''; omega⟩
      obtain ⟨x, R', rfl, ek, hS, hSR⟩ := key
      have EK := Lib.hid ek; clear ek
      have HSR := Lib.hid hSR; clear hSR
      have HS := Lib.hid hS; clear hS
      go_wp2
      obtain ⟨wo, rfl⟩ : ∃ wo : World, wo = wr := ⟨_, rfl⟩
      go_loopw [9] (fun jv wr => ∃ (j : Nat) (S1 S2 : List Nat), Hid (S = S1 ++ S2 ∧ j = a + S1.length ∧ ∀ y ∈ S2, c x y < 0) ∧ a ≤ j ∧ j ≤ k ∧ jv = .int .i64 j ∧ Kp (fun k => k = g) w0 wr ∧ Hid (Blk wr g ((p ++ S1 ++ x :: S2 ++ R' ++ q).map (valRow z) ++ rest) 29)) (fun j _ => (intOf j).toNat)
      case atStart => exact ⟨k, S, [], ⟨by simp, EK.out, by simp⟩, by have := EK.out; omega, Nat.le_refl _, rfl, hkp, hb.out.congrL (by simp)⟩
      case round =>
        obtain ⟨j, S1, S2, HJ, haj, hjk, rfl, hkp1, hb1⟩ := hrel
        by_cases hgt : a < j
        · obtain ⟨j, rfl⟩ : ∃ j', j = j' + 1 := ⟨j - 1, by omega⟩
          have key : ∃ S1' y, S1 = S1' ++ [y] ∧ j = a + S1'.length := by
            obtain ⟨h1, h2, h3⟩ := HJ.out
            rcases List.eq_nil_or_concat S1 with rfl | ⟨l, y, rfl⟩
            · simp at h2; omega
            · exact ⟨l, y, by simp, by simp at h2; omega⟩
          obtain ⟨S1', y, rfl, ej⟩ := key
          obtain ⟨s1, s2, c1, c2⟩ := swapCells (f := valRow z) (rest := rest) (u := p ++ S1') (v := []) (t := S2 ++ R' ++ q) (x := y) (y := x) (i := j) (j := j + 1) (hb1.out.congrL (by simp)) (by have := EA.out; simp; omega) (by have := EA.out; simp; omega)
          have f1 := hb1.out.free j
          have f2 := hb1.out.free (j + 1)
          have hxN : x < N ∧ y < N := by
            have hp := HH.out.2.1
            have h1 := HJ.out.1
            refine ⟨HNs.out x (hp.subset (by simp)), HNs.out y (hp.subset (by rw [h1]; simp))⟩
          have hcall := fun W hW => HC.out W hW x y hxN.1 hxN.2
          have HCall := Lib.hid hcall; clear hcall
          have S1H := Lib.hid s1; have S2H := Lib.hid s2
          have EJ := Lib.hid ej; clear ej
          clear s1 s2 hxN
          unfold valRow at c1 c2
          obtain ⟨i1, i2, i3, i4, i5, i6, i7⟩ := idx_pred (k := j) (n := n) (by omega) hm
          have g1 : decide ((a : Int) < (j : Int) + 1) = true := by simp; omega
          generalize hcc : c x y = cc at HCall
          have HCC := Lib.hid hcc; clear hcc
          by_cases hneg : cc < 0
          · go_wp2
            go_still_tail 14, (by kernel_rfl)
            go_wp2_with fail
            refine (HCall.out _ hkp1.drew).mono ?_
            rintro e w1 ⟨rfl, hk2⟩
            have hkp2 : Kp (fun k => k = g) w0 w1 := hkp1.drew.ext hk2
            have hb2 : Blk w1 g ((p ++ (S1' ++ [y]) ++ x :: S2 ++ R' ++ q).map (valRow z) ++ rest) 29 := hb1.out.drew.ext hk2
            clear c1 c2 f1 f2 S1H S2H hk2
            obtain ⟨s1, s2, c1, c2⟩ := swapCells (f := valRow z) (rest := rest) (u := p ++ S1') (v := []) (t := S2 ++ R' ++ q) (x := y) (y := x) (i := j) (j := j + 1) (hb2.congrL (by simp)) (by have := EA.out; have := EJ.out; simp; omega) (by have := EA.out; have := EJ.out; simp; omega)
            have f1 := hb2.free j
            have f2 := hb2.free (j + 1)
            have S1H := Lib.hid s1; have S2H := Lib.hid s2
            clear s1 s2 hb2
            unfold valRow at c1 c2
            go_wp2
            go_region
            clear i1 i2 i3 i4 i5 i6 i7
            go_wp2
            go_roundw
            case rel =>
              refine ⟨j, S1', y :: S2, ⟨by have := HJ.out.1; simpa using this, EJ.out, ?_⟩, by omega, by omega, by go_num, ?_, ?_⟩
              · intro y' hy'
                rcases List.mem_cons.1 hy' with rfl | h
                · rw [HCC.out]; exact hneg
                · exact HJ.out.2.2 y' h
              · first | exact ((hkp2.setCell (fun _ => rfl) _).setCell (fun _ => rfl) _).drew | exact ((hkp2.drew.setCell (fun _ => rfl) _).setCell (fun _ => rfl) _)
              · first | exact S1H.out.drew.congrL (by simp) | exact S2H.out.drew.congrL (by simp)
            case measure => first | (simp [intOf]; done) | (simp [intOf]; omega)
          · have hneg' : ¬ (cc < 0) := hneg
            go_wp2
            go_still_tail 14, (by kernel_rfl)
            go_wp2_with fail
            refine (HCall.out _ hkp1.drew).mono ?_
            rintro e w1 ⟨rfl, hk2⟩
            have hkp2 : Kp (fun k => k = g) w0 w1 := hkp1.drew.ext hk2
            have hb2 : Blk w1 g ((p ++ (S1' ++ [y]) ++ x :: S2 ++ R' ++ q).map (valRow z) ++ rest) 29 := hb1.out.drew.ext hk2
            have HB2 := Lib.hid hb2
            clear c1 c2 f1 f2 S1H S2H hk2 hb2 i1 i2 i3 i4 i5 i6 i7
            go_wp2
            go_roundw
            case rel =>
              have hs := ins_step L HH.out.2.1 HH.out.2.2.1 HH.out.2.2.2.1 HH.out.2.2.2.2 HJ.out.1 HJ.out.2.2 (by
                intro y' hy'; simp at hy'; subst hy'; rw [HCC.out]; omega)
              refine ⟨k + 1, S1' ++ [y] ++ x :: S2, R', ⟨.inr ⟨by simp, ?_, ?_⟩, hs⟩, by omega, by go_num, hkp2, HB2.out.congrL (by simp)⟩
              · have h1 := EK.out; have h2 := congrArg List.length HJ.out.1; simp at h2 ⊢; omega
              · have h1 := HSR.out; have h2 := congrArg List.length HJ.out.1; simp at h2 ⊢; omega
            case measure => first | (simp [intOf]; done) | (simp [intOf]; omega)
        · have hja : j = a := by omega
          subst hja
          have key : S1 = [] := by
            have := HJ.out.2.1
            exact List.eq_nil_of_length_eq_zero (by omega)
          subst key
          have g1 : decide ((j : Int) < (j : Int)) = false := by simp
          have HB1 := Lib.hid hb1.out
          go_wp2
          go_quiet (fail)
          go_wp2
          go_roundw
          case rel =>
            have hs := ins_step L HH.out.2.1 HH.out.2.2.1 HH.out.2.2.2.1 HH.out.2.2.2.2 HJ.out.1 HJ.out.2.2 (by
              intro y' hy'; simp at hy')
            refine ⟨k + 1, x :: S2, R', ⟨.inr ⟨by simp, ?_, ?_⟩, by simpa using hs⟩, by omega, by go_num, hkp1.drewN _, (HB1.out.drewN _).congrL (by simp)⟩
            · have h1 := EK.out; have h2 := congrArg List.length HJ.out.1; simp at h2 ⊢; omega
            · have h1 := HSR.out; have h2 := congrArg List.length HJ.out.1; simp at h2 ⊢; omega
          case measure => first | (simp [intOf]; done) | (simp [intOf]; omega)
    · go_wp2
      go_end0
      obtain ⟨h1, h2, h3, h4, h5⟩ := HH.out
      have e2 := EB.out; have e1 := EA.out
      have hR : R = [] := by
        rcases h1 with ⟨_, _, h, _⟩ | ⟨_, h, h'⟩
        · exact h
        · exact List.eq_nil_of_length_eq_zero (by omega)
      subst hR
      exact RetF.mk hkp ⟨rfl, S, by simpa using h2, h3, hb.out.congrL (by simp)⟩
end Go.Proofs.YtfkhelihepbehaaGreat

/- slices.symMergeCmpFunc at []string, the right part of one element. -/
namespace Go.Proofs.YtfkhelihepbehaaGreat
open Go.RowKit
set_option linter.unusedVariables false

set_option maxRecDepth 100000 in
set_option maxHeartbeats 2000000 in
theorem symMergeRow_last (z : Nat → Option Addr × Nat × Nat) (g n cap N : Nat) (rest : List Value) (f : FuncId) (first captured : Array Value) (c : Nat → Nat → Int) (L : CmpLaw c) (w0 w : World)
    (hcmp : CmpOn Tryz.prog f first captured g N w0 (valRow z) c) (hm : n ≤ 4611686018427387904) (hk0 : Kp (fun k => k = g) w0 w) (p A : List Nat) (x : Nat) (q : List Nat) (hA2 : 2 ≤ A.length) (hN : ∀ i ∈ p ++ A ++ x :: q, i < N) (hs : Sorted c A) (hlr : ∀ v ∈ A, v < x)
    (hn : (p ++ A ++ x :: q).length = n) (hB : Blk w g ((p ++ A ++ x :: q).map (valRow z) ++ rest) 29) (a m b : Nat) (ea : a = p.length) (em : m = a + A.length) (eb : b = m + 1) :
    Calls Tryz.prog 202 #[.slice (some ⟨g, 0, none⟩) n cap, .int .i64 a, .int .i64 m, .int .i64 b, .func (Fn.func f) first captured] w
      (RetF (fun k => k = g) w0 fun w' v => v = .tuple #[] ∧ ∃ C, C.Perm (A ++ [x]) ∧ Sorted c C ∧ Blk w' g ((p ++ C ++ q).map (valRow z) ++ rest) 29) := by
  have b1 : m < b := by omega
  have b2 : b ≤ n := by simp at hn; omega
  have b3 : a + 1 < m := by omega
  have HN := Lib.hid hn; clear hn
  have EA := Lib.hid ea; clear ea
  have HNs := Lib.hid hN; clear hN
  have hent := hcmp.1
  have HC := Lib.hid hcmp.2; clear hcmp
  have t1 : ((m : Int) - a == 1) = false := by simp; omega
  have t2 : ((b : Int) - m == 1) = true := by simp; omega
  have EMM := Lib.hid em; clear em
  have EBB0 := Lib.hid eb; clear eb
  go_enter Tryz.func202, Tryz.ntmps202
  go_wp2
  obtain ⟨low, hlow⟩ : ∃ low : Nat → Prop, low = fun t => ¬ c x ((p ++ A ++ x :: q).getD t 0) < 0 := ⟨_, rfl⟩
  obtain ⟨high, hhigh⟩ : ∃ high : Nat → Prop, high = fun t => c x ((p ++ A ++ x :: q).getD t 0) < 0 := ⟨_, rfl⟩
  have HLO := Lib.hid hlow; have HHI := Lib.hid hhigh; clear hlow hhigh
  obtain ⟨cells, hcells⟩ : ∃ cells : List Value, cells = (p ++ A ++ x :: q).map (valRow z) ++ rest := ⟨_, rfl⟩
  have HCE := Lib.hid hcells; rw [← hcells] at hB; clear hcells
  go_loopw [14, 15] (Search a m low high (fun k => k = g) w0 g cells 29) (fun i j _ => (intOf j).toNat - (intOf i).toNat)
  case atStart => exact ⟨a, m, Nat.le_refl _, by omega, Nat.le_refl _, rfl, rfl, .inl rfl, .inl rfl, hk0, hB⟩
  case round =>
    obtain ⟨i, j, hi, hij, hj, rfl, rfl, hlo, hhi, hkp, hb⟩ := hrel
    have HLi := Lib.hid hlo; have HHj := Lib.hid hhi; clear hlo hhi
    have hb' := hb
    rw [HCE.out] at hb'
    by_cases hlt : i < j
    · have c1 := hb'.at ((i + j) / 2) (by have := HN.out; omega)
      have c2 := hb'.at m (by have := HN.out; omega)
      clear hb'
      have e2 : (p ++ A ++ x :: q).getD m 0 = x := getD_mid (by have := EA.out; have := EMM.out; simp; omega)
      rw [e2] at c2
      have hy : (p ++ A ++ x :: q).getD ((i + j) / 2) 0 < N := HNs.out _ (by
        have h : (i + j) / 2 < (p ++ A ++ x :: q).length := by have := HN.out; omega
        exact getD_mem h)
      have hx : x < N := HNs.out x (by simp)
      generalize hyy : (p ++ A ++ x :: q).getD ((i + j) / 2) 0 = y at c1 hy
      have HY := Lib.hid hyy; clear hyy
      have hcall := fun W hW => HC.out W hW x y hx hy
      have HCall := Lib.hid hcall; clear hcall e2
      unfold valRow at c1 c2
      obtain ⟨k1, k2, k3, k4⟩ := idx_half (i := i) (j := j) (n := n) (by omega) hm
      have hmn : m < n := by omega
      generalize hcc : c x y = cc at HCall
      have HCC := Lib.hid hcc; clear hcc
      by_cases hneg : cc < 0
      · go_wp2
        go_still_tail 9, (by kernel_rfl)
        go_wp2_with fail
        refine (HCall.out _ hkp.drew).mono ?_
        rintro e w1 ⟨rfl, hk2⟩
        have hkp2 : Kp (fun k => k = g) w0 w1 := hkp.drew.ext hk2
        have hb2 := hb.drew.ext hk2
        clear hk2 c1 c2
        go_wp2
        clear k1 k2 k3 k4
        go_roundw
        case rel =>
          refine ⟨i, (i + j) / 2, hi, by omega, by omega, rfl, by first | rfl | (congr 1; done) | (congr 1; omega), HLi.out, .inr ?_, hkp2, hb2⟩
          rw [HHI.out]; dsimp only; rw [HY.out, HCC.out]; omega
        case measure => simp [intOf]; omega
      · have hd : decide (cc < 0) = false := by simp; omega
        go_wp2
        go_still_tail 9, (by kernel_rfl)
        go_wp2_with fail
        refine (HCall.out _ hkp.drew).mono ?_
        rintro e w1 ⟨rfl, hk2⟩
        have hkp2 : Kp (fun k => k = g) w0 w1 := hkp.drew.ext hk2
        have hb2 := hb.drew.ext hk2
        clear hk2 c1 c2
        go_wp2
        clear k1 k2 k3 k4
        go_roundw
        case rel =>
          refine ⟨(i + j) / 2 + 1, j, by omega, by omega, hj, by first | rfl | (congr 1; done) | (congr 1; omega), rfl, .inr ?_, HHj.out, hkp2, hb2⟩
          rw [HLO.out]; dsimp only; rw [Nat.add_sub_cancel, HY.out, HCC.out]; omega
        case measure => simp [intOf]; omega
    · obtain rfl : i = j := by omega
      have HL1 := HLi.out; have HH1 := HHj.out
      rw [HLO.out] at HL1; rw [HHI.out] at HH1
      have key := part_above L hs (x := x) (i := i - a) (by have := EMM.out; omega) (by
        rcases HL1 with h | h
        · left; omega
        · by_cases e : i = a
          · left; omega
          · right
            try dsimp only at h
            rw [getD_in (by have := EA.out; omega) (by have := EA.out; have := EMM.out; omega)] at h
            rw [show i - a - 1 = i - 1 - p.length by have := EA.out; omega]
            omega) (by
        rcases HH1 with h | h
        · left; have := EMM.out; omega
        · by_cases e : i = m
          · left; have := EMM.out; omega
          · right
            try dsimp only at h
            rw [getD_in (by have := EA.out; omega) (by have := EA.out; have := EMM.out; omega)] at h
            rw [show i - a = i - p.length by have := EA.out; omega]
            exact h)
      obtain ⟨A1, A2, eA, lA, hA1, hA22⟩ := key
      have hmo := merge_last L (eA ▸ hs) (eA ▸ hlr) hA1 hA22
      have HM := Lib.hid hmo
      have EAA := Lib.hid eA
      have LA := Lib.hid lA
      clear hmo eA lA hA1 hA22 HL1 HH1
      obtain ⟨wo, rfl⟩ : ∃ wo : World, wo = wr := ⟨_, rfl⟩
      go_wp2
      obtain ⟨cl, hcl⟩ : ∃ cl : List Nat → List Nat → List Value, cl = fun U V => (p ++ A1 ++ U ++ x :: V ++ q).map (valRow z) ++ rest := ⟨_, rfl⟩
      have HCL := Lib.hid hcl; clear hcl
      go_loopw [17] (Sinking i m A2 w0 g cl 29) (fun k _ => (intOf k).toNat)
      case atStart =>
        exact ⟨m, A2, [], by omega, Nat.le_refl _, rfl, by simp, by have := EAA.out; have h2 := congrArg List.length this; have := LA.out; have := EMM.out; simp at h2; omega, hkp, by rw [HCL.out]; exact hb'.congrL (by rw [EAA.out]; simp)⟩
      case round =>
        obtain ⟨k, U, V, hik, hkm, rfl, hU1, hU2, hkp1, hb1⟩ := hrel
        rw [HCL.out] at hb1
        have HU := Lib.hid (And.intro hU1 hU2); clear hU1 hU2
        have HB1 := Lib.hid hb1; clear hb1
        by_cases hlt2 : i < k
        · obtain ⟨k, rfl⟩ : ∃ k', k = k' + 1 := ⟨k - 1, by omega⟩
          have key : ∃ y U', U = U' ++ [y] := by
            rcases List.eq_nil_or_concat U with rfl | ⟨l, y, rfl⟩
            · exfalso; have h1 := HU.out.2; simp at h1; omega
            · exact ⟨y, l, by simp⟩
          obtain ⟨y, U', rfl⟩ := key
          obtain ⟨s1, s2, c1, c2⟩ := swapCells (f := valRow z) (rest := rest) (u := p ++ A1 ++ U') (v := []) (t := V ++ q) (x := y) (y := x) (i := k) (j := k + 1) (HB1.out.congrL (by simp)) (by have := EA.out; have := HU.out.2; have := LA.out; simp at *; omega) (by have := EA.out; have := HU.out.2; have := LA.out; simp at *; omega)
          have f1 := HB1.out.free k
          have f2 := HB1.out.free (k + 1)
          have S1H := Lib.hid s1; have S2H := Lib.hid s2
          clear s1 s2
          unfold valRow at c1 c2
          obtain ⟨k1, k2, k3, k4, k5, k6, k7⟩ := idx_pred (k := k) (n := n) (by omega) hm
          go_wp2
          go_region
          clear k1 k2 k3 k4 k5 k6 k7
          go_wp2
          go_roundw
          case rel =>
            refine ⟨k, U', y :: V, by omega, by omega, by go_num, by simpa using HU.out.1, by have := HU.out.2; simp at this; omega, ?_, ?_⟩
            · exact ((hkp1.setCell (fun _ => rfl) _).setCell (fun _ => rfl) _).drew
            · rw [HCL.out]; first | exact S1H.out.drew.congrL (by simp) | exact S2H.out.drew.congrL (by simp)
          case measure => first | (simp [intOf]; done) | (simp [intOf]; omega)
        · go_wp2
          go_end0
          have key : U = [] := by
            have h1 := HU.out.2
            exact List.eq_nil_of_length_eq_zero (by omega)
          subst key
          refine RetF.mk hkp1 ⟨rfl, A1 ++ x :: A2, by rw [EAA.out]; exact HM.out.1, HM.out.2, HB1.out.congrL ?_⟩
          have h1 := HU.out.1
          simp at h1
          rw [h1]; simp
end Go.Proofs.YtfkhelihepbehaaGreat

/- slices.symMergeCmpFunc at []string. -/
namespace Go.Proofs.YtfkhelihepbehaaGreat
open Go.RowKit
set_option linter.unusedVariables false

set_option maxRecDepth 100000 in
set_option maxHeartbeats 2000000 in
theorem symMergeRow_one (z : Nat → Option Addr × Nat × Nat) (g n cap N : Nat) (rest : List Value) (f : FuncId) (first captured : Array Value) (c : Nat → Nat → Int) (L : CmpLaw c) (w0 w : World)
    (hcmp : CmpOn Tryz.prog f first captured g N w0 (valRow z) c) (hm : n ≤ 4611686018427387904) (hk0 : Kp (fun k => k = g) w0 w) (p : List Nat) (x : Nat) (B q : List Nat) (hBne : B ≠ []) (hN : ∀ i ∈ p ++ x :: B ++ q, i < N) (hs : Sorted c B) (hlr : ∀ v ∈ B, x < v)
    (hn : (p ++ x :: B ++ q).length = n) (hB : Blk w g ((p ++ x :: B ++ q).map (valRow z) ++ rest) 29) (a m b : Nat) (ea : a = p.length) (em : m = a + 1) (eb : b = m + B.length) :
    Calls Tryz.prog 202 #[.slice (some ⟨g, 0, none⟩) n cap, .int .i64 a, .int .i64 m, .int .i64 b, .func (Fn.func f) first captured] w
      (RetF (fun k => k = g) w0 fun w' v => v = .tuple #[] ∧ ∃ C, C.Perm (x :: B) ∧ Sorted c C ∧ Blk w' g ((p ++ C ++ q).map (valRow z) ++ rest) 29) := by
  have b1 : m < b := by have := List.length_pos_iff.2 hBne; omega
  have b2 : b ≤ n := by simp at hn; omega
  have HN := Lib.hid hn; clear hn
  have EA := Lib.hid ea; clear ea
  have EB := Lib.hid eb; clear eb
  have HNs := Lib.hid hN; clear hN
  have hent := hcmp.1
  have HC := Lib.hid hcmp.2; clear hcmp
  have b3 : a < m := by omega
  have t1 : ((m : Int) - a == 1) = true := by simp; omega
  have EMM := Lib.hid em; clear em
  go_enter Tryz.func202, Tryz.ntmps202
  go_wp2
  obtain ⟨low, hlow⟩ : ∃ low : Nat → Prop, low = fun t => c ((p ++ x :: B ++ q).getD t 0) x < 0 := ⟨_, rfl⟩
  obtain ⟨high, hhigh⟩ : ∃ high : Nat → Prop, high = fun t => ¬ c ((p ++ x :: B ++ q).getD t 0) x < 0 := ⟨_, rfl⟩
  have HLO := Lib.hid hlow; have HHI := Lib.hid hhigh; clear hlow hhigh
  obtain ⟨cells, hcells⟩ : ∃ cells : List Value, cells = (p ++ x :: B ++ q).map (valRow z) ++ rest := ⟨_, rfl⟩
  have HCE := Lib.hid hcells; rw [← hcells] at hB; clear hcells
  go_loopw [10, 11] (Search m b low high (fun k => k = g) w0 g cells 29) (fun i j _ => (intOf j).toNat - (intOf i).toNat)
  case atStart => exact ⟨m, b, Nat.le_refl _, by omega, Nat.le_refl _, rfl, rfl, .inl rfl, .inl rfl, hk0, hB⟩
  case round =>
    obtain ⟨i, j, hi, hij, hj, rfl, rfl, hlo, hhi, hkp, hb⟩ := hrel
    have HLi := Lib.hid hlo; have HHj := Lib.hid hhi; clear hlo hhi
    have hb' := hb
    rw [HCE.out] at hb'
    by_cases hlt : i < j
    · have c1 := hb'.at ((i + j) / 2) (by have := HN.out; omega)
      have c2 := hb'.at a (by have := HN.out; omega)
      clear hb'
      have e2 : (p ++ x :: B ++ q).getD a 0 = x := by rw [List.append_assoc]; exact getD_mid EA.out
      rw [e2] at c2
      have hy : (p ++ x :: B ++ q).getD ((i + j) / 2) 0 < N := HNs.out _ (by
        have h : (i + j) / 2 < (p ++ x :: B ++ q).length := by have := HN.out; omega
        exact getD_mem h)
      have hx : x < N := HNs.out x (by simp)
      generalize hyy : (p ++ x :: B ++ q).getD ((i + j) / 2) 0 = y at c1 hy
      have HY := Lib.hid hyy; clear hyy
      have hcall := fun W hW => HC.out W hW y x hy hx
      have HCall := Lib.hid hcall; clear hcall e2
      unfold valRow at c1 c2
      obtain ⟨k1, k2, k3, k4⟩ := idx_half (i := i) (j := j) (n := n) (by omega) hm
      have han : a < n := by omega
      generalize hcc : c y x = cc at HCall
      have HCC := Lib.hid hcc; clear hcc
      by_cases hneg : cc < 0
      all_goals
        go_wp2
        go_still_tail 9, (by kernel_rfl)
        go_wp2_with fail
        refine (HCall.out _ hkp.drew).mono ?_
        rintro e w1 ⟨rfl, hk2⟩
        have hkp2 : Kp (fun k => k = g) w0 w1 := hkp.drew.ext hk2
        have hb2 := hb.drew.ext hk2
        clear hk2 c1 c2
        go_wp2
        clear k1 k2 k3 k4
        go_roundw
      case rel =>
        refine ⟨(i + j) / 2 + 1, j, by omega, by omega, hj, by first | rfl | (congr 1; done) | (congr 1; omega), rfl, .inr ?_, HHj.out, hkp2, hb2⟩
        rw [HLO.out]; dsimp only; rw [Nat.add_sub_cancel, HY.out, HCC.out]; omega
      case measure => simp [intOf]; omega
      case rel =>
        refine ⟨i, (i + j) / 2, hi, by omega, by omega, rfl, by first | rfl | (congr 1; done) | (congr 1; omega), HLi.out, .inr ?_, hkp2, hb2⟩
        rw [HHI.out]; dsimp only; rw [HY.out, HCC.out]; omega
      case measure => simp [intOf]; omega
    · obtain rfl : i = j := by omega
      have HL1 := HLi.out; have HH1 := HHj.out
      rw [HLO.out] at HL1; rw [HHI.out] at HH1
      have key := part_below L hs (x := x) (i := i - m) (by have := EB.out; omega) (by
        rcases HL1 with h | h
        · left; omega
        · by_cases e : i = m
          · left; omega
          · right
            rw [show p ++ x :: B ++ q = (p ++ [x]) ++ B ++ q by simp, getD_in (by have := EA.out; have := EMM.out; simp; omega) (by have := EA.out; have := EB.out; have := EMM.out; simp; omega)] at h
            rw [show i - m - 1 = i - 1 - (p ++ [x]).length by have := EA.out; have := EMM.out; simp; omega]
            exact h) (by
        rcases HH1 with h | h
        · left; have := EB.out; omega
        · by_cases e : i = b
          · left; have := EB.out; omega
          · right
            rw [show p ++ x :: B ++ q = (p ++ [x]) ++ B ++ q by simp, getD_in (by have := EA.out; have := EMM.out; simp; omega) (by have := EA.out; have := EB.out; have := EMM.out; simp; omega)] at h
            rw [show i - m = i - (p ++ [x]).length by have := EA.out; have := EMM.out; simp; omega]
            exact h)
      obtain ⟨B1, B2, eB, lB, hB1, hB2⟩ := key
      have hmo := merge_one L (eB ▸ hs) (eB ▸ hlr) hB1 hB2
      have HM := Lib.hid hmo
      have EBB := Lib.hid eB
      have LB := Lib.hid lB
      clear hmo eB lB hB1 hB2 HL1 HH1
      obtain ⟨wo, rfl⟩ : ∃ wo : World, wo = wr := ⟨_, rfl⟩
      go_wp2
      obtain ⟨cl, hcl⟩ : ∃ cl : List Nat → List Nat → List Value, cl = fun U V => (p ++ U ++ x :: V ++ B2 ++ q).map (valRow z) ++ rest := ⟨_, rfl⟩
      have HCL := Lib.hid hcl; clear hcl
      go_loopw [13] (Sinking a (i - 1) B1 w0 g cl 29) (fun k _ => i - (intOf k).toNat)
      case atStart => exact ⟨a, [], B1, Nat.le_refl _, by omega, rfl, rfl, rfl, hkp, by rw [HCL.out]; exact hb'.congrL (by rw [EBB.out]; simp)⟩
      case round =>
        obtain ⟨k, U, V, hak, hki, rfl, hU1, hU2, hkp1, hb1⟩ := hrel
        rw [HCL.out] at hb1
        have HU := Lib.hid (And.intro hU1 hU2); clear hU1 hU2
        have HB1 := Lib.hid hb1; clear hb1
        by_cases hlt2 : k + 1 < i
        · have key : ∃ y V', V = y :: V' := by
            cases V with
            | nil => exfalso; have h1 := HU.out; have h2 := LB.out; have h3 := EMM.out; simp at h1; obtain ⟨rfl, h1⟩ := h1; omega
            | cons y V' => exact ⟨y, V', rfl⟩
          obtain ⟨y, V', rfl⟩ := key
          obtain ⟨s1, s2, c1, c2⟩ := swapCells (f := valRow z) (rest := rest) (u := p ++ U) (v := []) (t := V' ++ B2 ++ q) (x := x) (y := y) (i := k) (j := k + 1) (HB1.out.congrL (by simp)) (by have := EA.out; have := HU.out.2; simp; omega) (by have := EA.out; have := HU.out.2; simp; omega)
          have f1 := HB1.out.free k
          have f2 := HB1.out.free (k + 1)
          have S1H := Lib.hid s1; have S2H := Lib.hid s2
          clear s1 s2
          unfold valRow at c1 c2
          obtain ⟨k1, k2, k3, k4, k5, k6, k7⟩ := idx_pred (k := k) (n := n) (by omega) hm
          go_wp2
          go_region
          clear k1 k2 k3 k4 k5 k6 k7
          go_wp2
          go_roundw
          case rel =>
            refine ⟨k + 1, U ++ [y], V', by omega, by omega, by go_num, by simpa using HU.out.1, by have := HU.out.2; simp; omega, ?_, ?_⟩
            · exact ((hkp1.setCell (fun _ => rfl) _).setCell (fun _ => rfl) _).drew
            · rw [HCL.out]; first | exact S1H.out.drew.congrL (by simp) | exact S2H.out.drew.congrL (by simp)
          case measure => simp [intOf]; omega
        · go_wp2
          go_end0
          have key : V = [] := by
            have h1 := HU.out; have h2 := LB.out; have h4 := EMM.out
            have h3 := congrArg List.length h1.1
            simp at h3
            exact List.eq_nil_of_length_eq_zero (by omega)
          subst key
          refine RetF.mk hkp1 ⟨rfl, B1 ++ x :: B2, by rw [EBB.out]; exact HM.out.1, HM.out.2, HB1.out.congrL ?_⟩
          have h1 := HU.out.1
          simp at h1
          rw [h1]; simp
end Go.Proofs.YtfkhelihepbehaaGreat

/- slices.symMergeCmpFunc at []string, the great case. -/
namespace Go.Proofs.YtfkhelihepbehaaGreat
open Go.RowKit
set_option linter.unusedVariables false

/-- The search of the merge's cut, between two rounds. -/
def CutSearchRow (c : Nat → Nat → Int) (D : List Nat) (P lo hi : Nat) (w0 : World) (g : Nat) (cells : List Value) (e : TypeId) (iv jv : Value) (w : World) : Prop :=
  Search lo hi (fun t => ¬ c (D.getD (P - t) 0) (D.getD t 0) < 0) (fun t => c (D.getD (P - t) 0) (D.getD t 0) < 0) (fun k => k = g) w0 g cells e iv jv w
/-- What the merge of two sorted neighbours does. -/
def SymOKRow (P : Program) (z : Nat → Option Addr × Nat × Nat) (g n cap N : Nat) (rest : List Value) (f : FuncId) (first captured : Array Value) (c : Nat → Nat → Int) (w0 : World) (k : Nat) : Prop :=
  ∀ (w : World) (p A B q : List Nat), A.length + B.length ≤ k → A ≠ [] → B ≠ [] → Kp (fun k => k = g) w0 w → (∀ i ∈ p ++ A ++ B ++ q, i < N) → Sorted c A → Sorted c B → (∀ u ∈ A, ∀ v ∈ B, u < v) →
    (p ++ A ++ B ++ q).length = n → Blk w g ((p ++ A ++ B ++ q).map (valRow z) ++ rest) 29 → ∀ a m b : Nat, a = p.length → m = p.length + A.length → b = p.length + A.length + B.length →
    Calls P 202 #[.slice (some ⟨g, 0, none⟩) n cap, .int .i64 a, .int .i64 m, .int .i64 b, .func (Fn.func f) first captured] w
      (RetF (fun k => k = g) w0 fun w' v => v = .tuple #[] ∧ ∃ C, C.Perm (A ++ B) ∧ Sorted c C ∧ Blk w' g ((p ++ C ++ q).map (valRow z) ++ rest) 29)

set_option maxRecDepth 100000 in
set_option maxHeartbeats 4000000 in
theorem symMergeRow_great (z : Nat → Option Addr × Nat × Nat) (g n cap N : Nat) (rest : List Value) (f : FuncId) (first captured : Array Value) (c : Nat → Nat → Int) (L : CmpLaw c) (w0 w : World)
    (hcmp : CmpOn Tryz.prog f first captured g N w0 (valRow z) c) (hm : n ≤ 4611686018427387904) (hk0 : Kp (fun k => k = g) w0 w) (p A B q : List Nat) (hA2 : 2 ≤ A.length) (hB2 : 2 ≤ B.length)
    (ih : SymOKRow Tryz.prog z g n cap N rest f first captured c w0 (A.length + B.length - 1)) (hN : ∀ i ∈ p ++ A ++ B ++ q, i < N) (hsA : Sorted c A) (hsB : Sorted c B) (hlr : ∀ u ∈ A, ∀ v ∈ B, u < v)
    (hn : (p ++ A ++ B ++ q).length = n) (hB : Blk w g ((p ++ A ++ B ++ q).map (valRow z) ++ rest) 29) (a m b : Nat) (ea : a = p.length) (em : m = a + A.length) (eb : b = m + B.length) :
    Calls Tryz.prog 202 #[.slice (some ⟨g, 0, none⟩) n cap, .int .i64 a, .int .i64 m, .int .i64 b, .func (Fn.func f) first captured] w
      (RetF (fun k => k = g) w0 fun w' v => v = .tuple #[] ∧ ∃ C, C.Perm (A ++ B) ∧ Sorted c C ∧ Blk w' g ((p ++ C ++ q).map (valRow z) ++ rest) 29) := by
  have b1 : a + 1 < m := by omega
  have b2 : b ≤ n := by simp at hn; omega
  have b3 : m + 1 < b := by omega
  obtain ⟨mid, emid⟩ : ∃ mid, mid = (a + b) / 2 := ⟨_, rfl⟩
  obtain ⟨lo, hi, hc⟩ : ∃ lo hi, (mid < m ∧ lo = mid + m - b ∧ hi = mid) ∨ (m ≤ mid ∧ lo = a ∧ hi = m) := by
    by_cases h : mid < m
    · exact ⟨_, _, .inl ⟨h, rfl, rfl⟩⟩
    · exact ⟨_, _, .inr ⟨by omega, rfl, rfl⟩⟩
  have rmid : ((a : Int) + b) / 2 = (mid : Int) := by omega
  have hmb : mid < b := by omega
  have ham : a < mid := by omega
  have hlh : lo ≤ hi ∧ hi ≤ m ∧ a ≤ lo ∧ hi ≤ mid ∧ mid + m ≤ lo + b := by omega
  obtain ⟨P, eP⟩ : ∃ P, P + 1 = mid + m := ⟨mid + m - 1, by omega⟩
  have rP : (mid : Int) + m - 1 = (P : Int) := by omega
  have t1 : ((m : Int) - a == 1) = false := by simp; omega
  have t2 : ((b : Int) - m == 1) = false := by simp; omega
  have HN := Lib.hid hn; clear hn
  have EA := Lib.hid ea; clear ea
  have EM := Lib.hid em; clear em
  have EB := Lib.hid eb; clear eb
  have HNs := Lib.hid hN; clear hN
  have hent := hcmp.1
  have HC := Lib.hid hcmp.2; clear hcmp
  have HCC0 := Lib.hid hc
  have EMID := Lib.hid emid; clear emid
  have EP := Lib.hid eP; clear eP
  have IH := Lib.hid ih; clear ih
  go_enter Tryz.func202, Tryz.ntmps202
  go_upto_if 140 with (fail)
  go_cut [20, 21] (fun s r wx => s = .int .i64 lo ∧ r = .int .i64 hi ∧ w = wx)
  case first =>
    rcases hc with ⟨h1, h2, h3⟩ | ⟨h1, h2, h3⟩
    · have r1 : (mid : Int) + m - b = (lo : Int) := by omega
      have E1 := Lib.hid h2; have E2 := Lib.hid h3; clear h2 h3
      go_wp2_with fail
      go_meet
      exact ⟨rfl, by rw [E2.out], rfl⟩
    · have E1 := Lib.hid h2; have E2 := Lib.hid h3; clear h2 h3
      go_wp2_with fail
      go_meet
      exact ⟨by rw [E1.out], by rw [E2.out], rfl⟩
  case rest =>
    obtain ⟨rfl, rfl, rfl⟩ := hcut
    clear hc
    go_wp2
    obtain ⟨cells, hcells⟩ : ∃ cells : List Value, cells = (p ++ A ++ B ++ q).map (valRow z) ++ rest := ⟨_, rfl⟩
    have HCE := Lib.hid hcells; rw [← hcells] at hB; clear hcells
    obtain ⟨D, hD⟩ : ∃ D : List Nat, D = p ++ A ++ B ++ q := ⟨_, rfl⟩
    have HD := Lib.hid hD; clear hD
    go_loopw [20, 21] (CutSearchRow c D P lo hi w0 g cells 29) (fun i j _ => (intOf j).toNat - (intOf i).toNat)
    case atStart => exact ⟨lo, hi, Nat.le_refl _, by omega, Nat.le_refl _, rfl, rfl, .inl rfl, .inl rfl, hk0, hB⟩
    case round =>
      obtain ⟨i, j, hi1, hij, hj, rfl, rfl, hlo, hhi, hkp, hb⟩ := hrel
      have HLi := Lib.hid hlo; have HHj := Lib.hid hhi; clear hlo hhi
      have HB0 := Lib.hid hb
      by_cases hlt : i < j
      · obtain ⟨t, et⟩ : ∃ t, t = (i + j) / 2 := ⟨_, rfl⟩
        have ht1 : i ≤ t := by omega
        have ht2 : t < j := by omega
        have rt : ((i : Int) + j) / 2 = (t : Int) := by omega
        obtain ⟨d, ed⟩ : ∃ d, d + t = P := ⟨P - t, by have := EP.out; omega⟩
        have hd1 : m ≤ d ∧ d < b := by have := EP.out; omega
        have rd : (P : Int) - t = (d : Int) := by omega
        have rw1 : IntKind.i64.wrap ((P : Int) - t) = (d : Int) := by rw [rd]; exact IntWalk.i64_in _ (by omega)
        have rw2 : IntKind.i64.wrap (d : Int) = (d : Int) := IntWalk.i64_in _ (by omega)
        have htn : t < n := by omega
        have hdn : d < n := by omega
        clear et
        have ED := Lib.hid ed; clear ed
        have hb' := hb
        rw [HCE.out] at hb'
        have c1 := hb'.at t (by have := HN.out; omega)
        have c2 := hb'.at d (by have := HN.out; omega)
        clear hb'
        rw [← HD.out] at c1 c2
        have hx : D.getD t 0 < N := HNs.out _ (by rw [← HD.out]; exact getD_mem (by have := HN.out; rw [HD.out]; omega))
        have hy : D.getD d 0 < N := HNs.out _ (by rw [← HD.out]; exact getD_mem (by have := HN.out; rw [HD.out]; omega))
        generalize hxx : D.getD t 0 = x at c1 hx
        generalize hyy : D.getD d 0 = y at c2 hy
        have HX := Lib.hid hxx; have HY := Lib.hid hyy; clear hxx hyy
        have hcall := fun W hW => HC.out W hW y x hy hx
        have HCall := Lib.hid hcall; clear hcall
        unfold valRow at c1 c2
        generalize hcc : c y x = cc at HCall
        have HCC := Lib.hid hcc; clear hcc
        by_cases hneg : cc < 0
        · have hdc : decide (cc < 0) = true := by simpa using hneg
          go_wp2
          go_still_tail 11, (by kernel_rfl)
          go_wp2_with fail
          refine (HCall.out _ hkp.drew).mono ?_
          rintro e w1 ⟨rfl, hk2⟩
          have hkp2 : Kp (fun k => k = g) w0 w1 := hkp.drew.ext hk2
          have hb2 := hb.drew.ext hk2
          clear hk2 c1 c2 rw1 rw2
          go_wp2
          go_roundw
          case rel =>
            refine ⟨i, t, hi1, by omega, by omega, rfl, rfl, HLi.out.imp id (fun h => by dsimp only; omega), .inr ?_, hkp2, hb2⟩
            dsimp only
            rw [show P - t = d by have := ED.out; omega, HX.out, HY.out, HCC.out]; omega
          case measure => simp [intOf]; omega
        · have hdc : decide (cc < 0) = false := by simp; omega
          go_wp2
          go_still_tail 11, (by kernel_rfl)
          go_wp2_with fail
          refine (HCall.out _ hkp.drew).mono ?_
          rintro e w1 ⟨rfl, hk2⟩
          have hkp2 : Kp (fun k => k = g) w0 w1 := hkp.drew.ext hk2
          have hb2 := hb.drew.ext hk2
          clear hk2 c1 c2 rw1 rw2
          go_wp2
          go_roundw
          case rel =>
            refine ⟨t + 1, j, by omega, by omega, hj, by first | rfl | (congr 1; done) | (congr 1; omega), rfl, .inr ?_, HHj.out, hkp2, hb2⟩
            dsimp only
            rw [Nat.add_sub_cancel, show P - t = d by have := ED.out; omega, HX.out, HY.out, HCC.out]; omega
          case measure => simp [intOf]; omega
      · obtain rfl : i = j := by omega
        have h3 := HLi.out; have h4 := HHj.out
        rw [HD.out] at h3 h4
        rw [show P = mid + m - 1 by have := EP.out; omega] at h3 h4
        obtain ⟨A1, A2, B1, B2, eA, eB, lA, lB, hAh⟩ := merge_cut L EA.out EM.out EB.out EMID.out hsA hsB hlr (by omega) (by omega) HCC0.out hi1 hj h3 h4
        clear h3 h4
        obtain ⟨e, ee⟩ : ∃ e, e + i = mid + m := ⟨mid + m - i, by omega⟩
        have re : (mid : Int) + m - i = (e : Int) := by omega
        have hle : m ≤ e ∧ e ≤ b := by omega
        have HL := Lib.hid (And.intro eA (And.intro eB (And.intro lA (And.intro (show m + B1.length = e by omega) ee))))
        have HAh := Lib.hid hAh
        clear eA eB lA lB hAh ee
        have hsb : i ≤ m := by omega
        obtain ⟨wo, rfl⟩ : ∃ wo : World, wo = wr := ⟨_, rfl⟩
        have hb0 := HB0.out
        rw [HCE.out, HL.out.1, HL.out.2.1] at hb0
        have HB1 := Lib.hid hb0; clear hb0 hb
        have HNL : (p ++ (A1 ++ A2) ++ (B1 ++ B2) ++ q).length = n := by rw [← HL.out.1, ← HL.out.2.1]; exact HN.out
        have HNN := Lib.hid HNL; clear HNL
        have HNsL : ∀ x ∈ p ++ A1 ++ B1 ++ A2 ++ B2 ++ q, x < N := fun x hx => HNs.out x (by rw [HL.out.1, HL.out.2.1]; simp at hx ⊢; rcases hx with h | h | h | h | h | h <;> simp [h])
        have HNS := Lib.hid HNsL; clear HNsL
        have hlens : a + A1.length = i ∧ i + A2.length = m ∧ m + B1.length = e ∧ e + B2.length = b ∧ e + i = mid + m := by
          have h := HL.out; have h1 := EM.out; have h2 := EB.out
          have h3 := congrArg List.length h.1; have h4 := congrArg List.length h.2.1
          simp at h3 h4; omega
        have HLE := Lib.hid hlens
        by_cases h1 : i < m <;> by_cases h2 : m < e <;> by_cases h3 : a < i <;> by_cases h4 : e < b <;> try (exfalso; omega)
        all_goals
          have h5 : i < mid ∨ mid ≤ i := by omega
          have h6 : mid < e ∨ e ≤ mid := by omega
          clear hlens
          rcases h5 with h5 | h5 <;> rcases h6 with h6 | h6 <;> try (exfalso; have := HLE.out; omega)
        all_goals
          go_wp2_with fail
          first
            | (go_at_call 203
               refine (rotateRow_any z g n cap rest _ w0 _ hkp (p ++ A1) A2 B1 (B2 ++ q) (by rintro rfl; have := HLE.out; simp at this; omega) (by rintro rfl; have := HLE.out; simp at this; omega) (by have := HNN.out; simpa using this) (HB1.out.congrL (by simp)) hm _ _ _ (by have := HLE.out; have := EA.out; simp; omega) (by have := HLE.out; have := EA.out; simp; omega) (by have := HLE.out; have := EA.out; simp; omega)).mono ?_
               rintro e1 w1 ⟨v, rfl, hk1, rfl, hb1⟩
               have hb1' : Blk w1 g ((p ++ A1 ++ B1 ++ A2 ++ B2 ++ q).map (valRow z) ++ rest) 29 := hb1.congrL (by simp)
               have HB2 := Lib.hid hb1'
               clear hb1 hb1'
               go_wp2_with fail)
            | (obtain ⟨w1, rfl⟩ : ∃ w1 : World, w1 = wo := ⟨_, rfl⟩
               have hk1 := hkp
               have hb1' : Blk w1 g ((p ++ A1 ++ B1 ++ A2 ++ B2 ++ q).map (valRow z) ++ rest) 29 := by
                 have h7 : A2 = [] ∨ B1 = [] := by
                   have := HLE.out
                   by_cases h8 : A2 = []
                   · exact .inl h8
                   · right
                     have := List.length_pos_iff.2 h8
                     exact List.eq_nil_of_length_eq_zero (by omega)
                 rcases h7 with rfl | rfl
                 · exact HB1.out.congrL (by simp)
                 · exact HB1.out.congrL (by simp)
               have HB2 := Lib.hid hb1'
               clear hb1')
          first
            | (go_at_call_of 202 (Value.int IntKind.i64 (a : Int))
               refine (IH.out w1 p A1 B1 (A2 ++ B2 ++ q) (by have := HLE.out; have := HL.out; rw [this.1, this.2.1]; simp; omega) (by rintro rfl; have := HLE.out; simp at this; omega) (by rintro rfl; have := HLE.out; simp at this; omega) hk1 (fun x hx => HNS.out x (by simpa using hx)) (Sorted.append.1 (HL.out.1 ▸ hsA)).1 (Sorted.append.1 (HL.out.2.1 ▸ hsB)).1 (fun u hu v hv => hlr u (by rw [HL.out.1]; simp [hu]) v (by rw [HL.out.2.1]; simp [hv])) (by have := HNN.out; simp at this ⊢; omega) (HB2.out.congrL (by simp)) _ _ _ (by have := EA.out; omega) (by have := HLE.out; have := EA.out; omega) (by have := HLE.out; have := EA.out; omega)).mono ?_
               rintro e1 w2 ⟨v, rfl, hk2, rfl, C1, hp1, hs1, hb2⟩
               have HC1 := Lib.hid (And.intro hp1 (And.intro hs1 hb2))
               clear hp1 hs1 hb2
               go_wp2_with fail)
            | (obtain ⟨w2, rfl⟩ : ∃ w2 : World, w2 = w1 := ⟨_, rfl⟩
               have hk2 := hk1
               have HC1 : Hid (∃ C1, C1.Perm (A1 ++ B1) ∧ Sorted c C1 ∧ Blk w2 g ((p ++ C1 ++ (A2 ++ B2 ++ q)).map (valRow z) ++ rest) 29) := by
                 refine ⟨A1 ++ B1, List.Perm.refl _, ?_, HB2.out.congrL (by simp)⟩
                 have h7 : A1 = [] ∨ B1 = [] := by
                   have := HLE.out
                   by_cases h8 : A1 = []
                   · exact .inl h8
                   · right
                     have := List.length_pos_iff.2 h8
                     exact List.eq_nil_of_length_eq_zero (by omega)
                 rcases h7 with h7 | h7
                 · rw [h7]; exact (Sorted.append.1 (HL.out.2.1 ▸ hsB)).1
                 · rw [h7, List.append_nil]; exact (Sorted.append.1 (HL.out.1 ▸ hsA)).1
               obtain ⟨C1, HC1⟩ := HC1)
          have HC1' : Hid (C1.Perm (A1 ++ B1) ∧ Sorted c C1 ∧ Blk w2 g ((p ++ C1 ++ (A2 ++ B2 ++ q)).map (valRow z) ++ rest) 29) := HC1
          have hl1 : C1.length = A1.length + B1.length := by have := HC1'.out.1.length_eq; simpa using this
          have HL1 := Lib.hid hl1; clear hl1 HC1
          first
            | (go_at_call_of 202 (Value.int IntKind.i64 (b : Int))
               refine (IH.out w2 (p ++ C1) A2 B2 q (by have := HLE.out; have := HL.out; rw [this.1, this.2.1]; simp; omega) (by rintro rfl; have := HLE.out; simp at this; omega) (by rintro rfl; have := HLE.out; simp at this; omega) hk2 (fun x hx => HNS.out x (by
                   simp at hx ⊢
                   rcases hx with h | h | h | h | h
                   · simp [h]
                   · have := HC1'.out.1.subset h; simp at this; rcases this with h | h <;> simp [h]
                   · simp [h]
                   · simp [h]
                   · simp [h])) (Sorted.append.1 (HL.out.1 ▸ hsA)).2.1 (Sorted.append.1 (HL.out.2.1 ▸ hsB)).2.1 (fun u hu v hv => hlr u (by rw [HL.out.1]; simp [hu]) v (by rw [HL.out.2.1]; simp [hv])) (by have := HNN.out; have := HL1.out; simp at *; omega) (HC1'.out.2.2.congrL (by simp)) _ _ _ (by have := HLE.out; have := EA.out; have := HL1.out; simp; omega) (by have := HLE.out; have := EA.out; have := HL1.out; simp; omega) (by have := HLE.out; have := EA.out; have := HL1.out; simp; omega)).mono ?_
               rintro e1 w3 ⟨v, rfl, hk3, rfl, C2, hp2, hs2, hb3⟩
               have HC2 := Lib.hid (And.intro hp2 (And.intro hs2 hb3))
               clear hp2 hs2 hb3
               go_wp2_with fail)
            | (obtain ⟨w3, rfl⟩ : ∃ w3 : World, w3 = w2 := ⟨_, rfl⟩
               have hk3 := hk2
               have HC2 : Hid (∃ C2, C2.Perm (A2 ++ B2) ∧ Sorted c C2 ∧ Blk w3 g ((p ++ C1 ++ C2 ++ q).map (valRow z) ++ rest) 29) := by
                 refine ⟨A2 ++ B2, List.Perm.refl _, ?_, HC1'.out.2.2.congrL (by simp)⟩
                 have h7 : A2 = [] ∨ B2 = [] := by
                   have := HLE.out
                   by_cases h8 : A2 = []
                   · exact .inl h8
                   · right
                     have := List.length_pos_iff.2 h8
                     exact List.eq_nil_of_length_eq_zero (by omega)
                 rcases h7 with h7 | h7
                 · rw [h7]; exact (Sorted.append.1 (HL.out.2.1 ▸ hsB)).2.1
                 · rw [h7, List.append_nil]; exact (Sorted.append.1 (HL.out.1 ▸ hsA)).2.1
               obtain ⟨C2, HC2⟩ := HC2)
          have HC2' : Hid (C2.Perm (A2 ++ B2) ∧ Sorted c C2 ∧ Blk w3 g ((p ++ C1 ++ C2 ++ q).map (valRow z) ++ rest) 29) := HC2
          go_end0
          have hmb := merge_both HAh.out HC1'.out.1 HC1'.out.2.1 HC2'.out.1 HC2'.out.2.1
          refine RetF.mk hk3 ⟨rfl, C1 ++ C2, by rw [HL.out.1, HL.out.2.1]; exact hmb.1, hmb.2, HC2'.out.2.2.congrL (by simp)⟩
end Go.Proofs.YtfkhelihepbehaaGreat

/- slices.stableCmpFunc and slices.SortStableFunc at []string. -/
namespace Go.Proofs.YtfkhelihepbehaaGreat
open Go.RowKit
set_option linter.unusedVariables false

theorem symMergeRow_any (z : Nat → Option Addr × Nat × Nat) (g n cap N : Nat) (rest : List Value) (f : FuncId) (first captured : Array Value) (c : Nat → Nat → Int) (L : CmpLaw c) (w0 : World)
    (hcmp : CmpOn Tryz.prog f first captured g N w0 (valRow z) c) (hm : n ≤ 4611686018427387904) : ∀ k, SymOKRow Tryz.prog z g n cap N rest f first captured c w0 k := by
  intro k
  induction k with
  | zero => intro w p A B q hk hA; have := List.length_pos_iff.2 hA; omega
  | succ k ih =>
    intro w p A B q hk hA hB hkp hN hsA hsB hlr hn hb a m b ea em eb
    have lA := List.length_pos_iff.2 hA
    have lB := List.length_pos_iff.2 hB
    by_cases h1 : A.length = 1
    · obtain ⟨x, rfl⟩ := List.length_eq_one_iff.1 h1
      refine (symMergeRow_one z g n cap N rest f first captured c L w0 w hcmp hm hkp p x B q hB (fun i hi => hN i (by simpa using hi)) hsB (fun v hv => hlr x (by simp) v hv) (by simpa using hn) (hb.congrL (by simp)) a m b ea (by simp at em; omega) (by simp at em eb; omega)).mono ?_
      rintro e w' ⟨v, rfl, h, hv, C, hp, hs, hb'⟩
      exact ⟨v, rfl, h, hv, C, by simpa using hp, hs, hb'⟩
    · by_cases h2 : B.length = 1
      · obtain ⟨x, rfl⟩ := List.length_eq_one_iff.1 h2
        refine (symMergeRow_last z g n cap N rest f first captured c L w0 w hcmp hm hkp p A x q (by omega) (fun i hi => hN i (by simpa using hi)) hsA (fun v hv => hlr v hv x (by simp)) (by simpa using hn) (hb.congrL (by simp)) a m b ea (by omega) (by simp at eb; omega)).mono ?_
        rintro e w' ⟨v, rfl, h, hv, C, hp, hs, hb'⟩
        exact ⟨v, rfl, h, hv, C, hp, hs, hb'⟩
      · refine (symMergeRow_great z g n cap N rest f first captured c L w0 w hcmp hm hkp p A B q (by omega) (by omega) (fun w p' A' B' q' h => ih w p' A' B' q' (by omega)) hN hsA hsB hlr hn hb a m b ea (by omega) (by omega)).mono ?_
        rintro e w' ⟨v, rfl, h, hv, C, hp, hs, hb'⟩
        exact ⟨v, rfl, h, hv, C, hp, hs, hb'⟩

theorem symMergeRow_int (z : Nat → Option Addr × Nat × Nat) (g n cap N : Nat) (rest : List Value) (f : FuncId) (first captured : Array Value) (c : Nat → Nat → Int) (L : CmpLaw c) (w0 : World)
    (hcmp : CmpOn Tryz.prog f first captured g N w0 (valRow z) c) (hm : n ≤ 4611686018427387904) (w : World) (p A B q : List Nat) (hA : A ≠ []) (hB : B ≠ []) (hkp : Kp (fun k => k = g) w0 w) (hN : ∀ i ∈ p ++ A ++ B ++ q, i < N) (hsA : Sorted c A) (hsB : Sorted c B) (hlr : ∀ u ∈ A, ∀ v ∈ B, u < v)
    (hn : (p ++ A ++ B ++ q).length = n) (hb : Blk w g ((p ++ A ++ B ++ q).map (valRow z) ++ rest) 29) (a m b : Int) (ea : a = (p.length : Nat)) (em : m = ((p.length + A.length : Nat) : Int)) (eb : b = ((p.length + A.length + B.length : Nat) : Int)) :
    Calls Tryz.prog 202 #[.slice (some ⟨g, 0, none⟩) n cap, .int .i64 a, .int .i64 m, .int .i64 b, .func (Fn.func f) first captured] w
      (RetF (fun k => k = g) w0 fun w' v => v = .tuple #[] ∧ ∃ C, C.Perm (A ++ B) ∧ Sorted c C ∧ Blk w' g ((p ++ C ++ q).map (valRow z) ++ rest) 29) := by
  subst ea em eb
  exact symMergeRow_any z g n cap N rest f first captured c L w0 hcmp hm _ w p A B q (Nat.le_refl _) hA hB hkp hN hsA hsB hlr hn hb _ _ _ rfl rfl rfl

set_option maxRecDepth 100000 in
set_option maxHeartbeats 8000000 in
theorem stableCmpRow_any (z : Nat → Option Addr × Nat × Nat) (g n cap : Nat) (rest : List Value) (f : FuncId) (first captured : Array Value) (c : Nat → Nat → Int) (L : CmpLaw c) (w : World)
    (hcmp : CmpOn Tryz.prog f first captured g n w (valRow z) c) (hm : n ≤ 1152921504606846976) (hB : Blk w g ((List.range n).map (valRow z) ++ rest) 29) :
    Calls Tryz.prog 198 #[.slice (some ⟨g, 0, none⟩) n cap, .int .i64 n, .func (Fn.func f) first captured] w
      (RetF (fun k => k = g) w fun w' v => v = .tuple #[] ∧ ∃ C, C.Perm (List.range n) ∧ Sorted c C ∧ Blk w' g (C.map (valRow z) ++ rest) 29) := by
  have hm' : n ≤ 4611686018427387904 := by omega
  have HCm := Lib.hid hcmp; clear hcmp
  have HBr : Blk w g ((List.range' 0 n).map (valRow z) ++ rest) 29 := by rw [← List.range_eq_range']; exact hB
  have HBr' := Lib.hid HBr; clear HBr hB
  go_enter Tryz.func198, Tryz.ntmps198
  go_wp2
  go_loopw [7, 8] (Stable1 c n w g (valRow z) rest 29) (fun a _ _ => n - (intOf a).toNat)
  case atStart => exact ⟨[], by simp, trivial, by simp, rfl, rfl, Kp.refl _, by simpa using HBr'.out⟩
  case round =>
    obtain ⟨dn, hd, hgood, hle, rfl, rfl, hkp, hb⟩ := hrel
    generalize hda : dn.flatten.length = a at *
    have HDA := Lib.hid hda; clear hda
    have HD := Lib.hid (And.intro hd hgood); clear hd hgood
    have HB1 := Lib.hid hb; clear hb
    by_cases hlt : a + 20 ≤ n
    · go_wp2_with fail
      refine (insSortRow_any z g n cap n rest f first captured c L w wr HCm.out hkp dn.flatten (List.range' a 20) (List.range' (a + 20) (n - (a + 20))) (fun i hi => by rw [List.mem_range'_1] at hi; omega) List.pairwise_lt_range' (by have := HDA.out; simp only [List.length_append, List.length_cons, List.length_nil, List.length_range', List.flatten_append, List.flatten_cons, List.flatten_nil, List.append_nil, List.nil_append]; omega) (HB1.out.congrL (by
          have e : List.range' a 20 ++ List.range' (a + 20) (n - (a + 20)) = List.range' a (n - a) := by rw [List.range'_append_1]; congr 1; omega
          rw [List.append_assoc, e])) hm' _ _ HDA.out.symm (by have := HDA.out; simp only [List.length_append, List.length_cons, List.length_nil, List.length_range', List.flatten_append, List.flatten_cons, List.flatten_nil, List.append_nil, List.nil_append]; omega)).mono ?_
      rintro e w1 ⟨v, rfl, hk1, rfl, C, hp, hs, hb1⟩
      have HC1 := Lib.hid (And.intro hp (And.intro hs hb1)); clear hp hs hb1
      go_wp2
      go_roundw
      case rel =>
        obtain ⟨hp, hs, hb1⟩ := HC1.out
        have hl : C.length = 20 := by have := hp.length_eq; simpa using this
        have hfl : (dn ++ [C]).flatten.length = a + 20 := by have := HDA.out; simp only [List.length_append, List.length_cons, List.length_nil, List.length_range', List.flatten_append, List.flatten_cons, List.flatten_nil, List.append_nil, List.nil_append]; omega
        refine ⟨dn ++ [C], ?_, Good.append.2 ⟨HD.out.2, ?_⟩, by omega, by rw [hfl]; go_num, by rw [hfl]; go_num, hk1, ?_⟩
        · intro A hA
          rcases List.mem_append.1 hA with hA | hA
          · exact HD.out.1 A hA
          · simp at hA; subst hA; exact hl
        · have := HDA.out; simp only [List.length_flatten] at this
          refine ⟨?_, hs, trivial⟩
          rw [hl, Nat.zero_add, HDA.out]; exact hp
        · rw [hfl]; exact hb1.congrL (by simp)
      case measure => simp [intOf]; omega
    · have hN : n - a < 20 := by omega
      go_wp2_with fail
      refine (insSortRow_any z g n cap n rest f first captured c L w wr HCm.out hkp dn.flatten (List.range' a (n - a)) [] (fun i hi => by rw [List.mem_range'_1] at hi; omega) List.pairwise_lt_range' (by have := HDA.out; simp only [List.length_append, List.length_cons, List.length_nil, List.length_range', List.flatten_append, List.flatten_cons, List.flatten_nil, List.append_nil, List.nil_append]; omega) (HB1.out.congrL (by simp)) hm' _ _ HDA.out.symm (by have := HDA.out; simp only [List.length_append, List.length_cons, List.length_nil, List.length_range', List.flatten_append, List.flatten_cons, List.flatten_nil, List.append_nil, List.nil_append]; omega)).mono ?_
      rintro e w1 ⟨v, rfl, hk1, rfl, C, hp, hs, hb1⟩
      have key : ∃ Cs, Full 20 Cs ∧ Good c 0 Cs ∧ Cs.flatten = dn.flatten ++ C := by
        have hl : C.length = n - a := by have := hp.length_eq; simpa using this
        by_cases h0 : C.length = 0
        · obtain rfl := List.eq_nil_of_length_eq_zero h0
          exact ⟨dn, Full.all' (by decide) HD.out.1, HD.out.2, by simp⟩
        · refine ⟨dn ++ [C], Full.all HD.out.1 (by omega) (by omega), Good.append.2 ⟨HD.out.2, ?_, hs, trivial⟩, by simp⟩
          rw [hl, Nat.zero_add, HDA.out]; exact hp
      obtain ⟨Cs, hf, hg2, he⟩ := key
      have hl : Cs.flatten.length = n := by
        rw [he]
        have h1 := hp.length_eq
        have := HDA.out
        simp only [List.length_range'] at h1
        simp only [List.length_append, List.length_cons, List.length_nil, List.length_range', List.flatten_append, List.flatten_cons, List.flatten_nil, List.append_nil, List.nil_append]; omega
      have hb2 : Blk w1 g (Cs.flatten.map (valRow z) ++ rest) 29 := by rw [he]; exact hb1.congrL (by simp)
      have HS := Lib.hid (And.intro hf (And.intro hg2 (And.intro hl hb2)))
      clear hp hs hb1 hf hg2 he hl hb2
      go_wp2
      go_loopw [6, 7, 8] (fun sv _ _ wx => Stable2 c n w g (valRow z) rest 29 sv wx) (fun s _ _ _ => n - (intOf s).toNat)
      case atStart =>
        obtain ⟨h1, h2, h3, h4⟩ := HS.out
        exact ⟨20, Cs, by decide, rfl, h1, h2, h3, by omega, hk1, h4⟩
      case round =>
        obtain ⟨bs, Cs2, hbs, rfl, hf, hg2, hl, hle2, hkp2, hb2⟩ := hrel
        have HF := Lib.hid (And.intro hf (And.intro hg2 (And.intro hl hb2)))
        clear hf hg2 hl hb2
        by_cases hlt2 : bs < n
        · obtain ⟨wo, rfl⟩ : ∃ wo : World, wo = wr := ⟨_, rfl⟩
          go_wp2
          go_loopw [7, 8] (Stable3 c n bs w g (valRow z) rest 29) (fun a _ _ => n - (intOf a).toNat)
          case atStart =>
            obtain ⟨h1, h2, h3, h4⟩ := HF.out
            exact ⟨[], Cs2, by simp, h1, h2, h3, rfl, by simp, hkp2, h4⟩
          case round =>
            obtain ⟨dn2, td, hd2, hft, hg3, hl3, rfl, rfl, hkp3, hb3⟩ := hrel
            have hle3 : dn2.flatten.length + td.flatten.length = n := by simpa only [List.flatten_append, List.length_append] using hl3
            generalize hda2 : dn2.flatten.length = a2 at *
            have HDA2 := Lib.hid hda2; clear hda2
            have HG := Lib.hid (And.intro hd2 (And.intro hft (And.intro hg3 (And.intro hl3 (And.intro hle3 hb3)))))
            clear hd2 hft hg3 hl3 hb3
            have ha2n : a2 ≤ n := by omega
            clear hle3
            by_cases hlt3 : a2 + 2 * bs ≤ n
            · obtain ⟨A, B, r, rfl, lA, lB, hfr⟩ := Full.two hbs HG.out.2.1 (by have := HG.out.2.2.2.2.1; omega)
              obtain ⟨q1, q2, q3, q4, q5, q6⟩ := HG.out
              have hgd := Good.append.1 q3
              obtain ⟨g1, g2, g4, g5, g6⟩ := hgd.2
              rw [HDA2.out, lA, Nat.zero_add] at g1
              rw [HDA2.out, lA, lB, Nat.zero_add] at g4
              rw [HDA2.out, lA, lB, Nat.zero_add] at g6
              have HQ := Lib.hid (And.intro q1 (And.intro q4 (And.intro q6 (And.intro hgd.1 (And.intro g1 (And.intro g2 (And.intro g4 (And.intro g5 (And.intro g6 (And.intro lA (And.intro lB hfr)))))))))))
              clear q1 q2 q3 q4 q5 q6 hgd g1 g2 g4 g5 g6 lA lB hfr
              go_wp2_with fail
              have lens : dn2.flatten.length = a2 ∧ A.length = bs ∧ B.length = bs ∧ a2 + (bs + (bs + r.flatten.length)) = n := by
                obtain ⟨q1, q4, q6, gd, g1, g2, g4, g5, g6, lA, lB, hfr⟩ := HQ.out
                have h := HDA2.out
                simp only [List.flatten_append, List.flatten_cons, List.length_append, lA, lB, h] at q4
                exact ⟨h, lA, lB, q4⟩
              have HLL := Lib.hid lens; clear lens
              have mem : ∀ i ∈ (dn2 ++ A :: B :: r).flatten, i < n := by
                obtain ⟨q1, q4, q6, gd, g1, g2, g4, g5, g6, lA, lB, hfr⟩ := HQ.out
                intro i hi
                have hall : Good c 0 (dn2 ++ A :: B :: r) := Good.append.2 ⟨gd, by rw [HDA2.out, lA, Nat.zero_add]; exact g1, g2, by rw [HDA2.out, lA, lB, Nat.zero_add]; exact g4, g5, by rw [HDA2.out, lA, lB, Nat.zero_add]; exact g6⟩
                have := Good.mem hall hi
                omega
              have HME := Lib.hid mem; clear mem
              refine (symMergeRow_int z g n cap n rest f first captured c L w HCm.out hm' wr dn2.flatten A B r.flatten (by have := HLL.out; rintro rfl; first | (simp at this; done) | (simp at this; omega)) (by have := HLL.out; rintro rfl; first | (simp at this; done) | (simp at this; omega)) hkp3 (fun i hi => HME.out i (by simpa using hi)) HQ.out.2.2.2.2.2.1 HQ.out.2.2.2.2.2.2.2.1 ?hLR (by have := HLL.out; simp only [List.length_append, List.length_cons, List.length_nil, List.length_range', List.flatten_append, List.flatten_cons, List.flatten_nil, List.append_nil, List.nil_append]; omega) (HQ.out.2.2.1.congrL (by simp)) _ _ _ (by rw [HDA2.out]) (by have := HLL.out; omega) (by have := HLL.out; omega)).mono ?_
              case hLR =>
                intro u hu v hv
                have h1 := range'_mem_lt HQ.out.2.2.2.2.1 hu
                have h2 := range'_mem_lt HQ.out.2.2.2.2.2.2.1 hv
                omega
              rintro e w1 ⟨v, rfl, hk1, rfl, C, hp, hs, hb1⟩
              have HC1 := Lib.hid (And.intro hp (And.intro hs hb1)); clear hp hs hb1
              go_wp2
              go_roundw
              case rel =>
                obtain ⟨q1, q4, q6, gd, g1, g2, g4, g5, g6, lA, lB, hfr⟩ := HQ.out
                obtain ⟨hp, hs, hb1⟩ := HC1.out
                obtain ⟨e1, e2, e3, e4⟩ := HLL.out
                have lC : C.length = 2 * bs := by have := hp.length_eq; simp only [List.length_append] at this; omega
                have pC := merge_range g1 g4 hp
                refine ⟨dn2 ++ [C], r, ?_, hfr, ?_, ?_, ?_, ?_, hk1, hb1.congrL (by simp)⟩
                · intro X hX
                  rcases List.mem_append.1 hX with hX | hX
                  · exact q1 X hX
                  · simp at hX; subst hX; exact lC
                · refine Good.append.2 ⟨Good.append.2 ⟨gd, ?_, hs, trivial⟩, ?_⟩
                  · rw [e1, lC, Nat.zero_add, show 2 * bs = bs + bs by omega]; exact pC
                  · rw [show 0 + (dn2 ++ [C]).flatten.length = a2 + bs + bs by simp only [List.length_append, List.length_cons, List.length_nil, List.length_range', List.flatten_append, List.flatten_cons, List.flatten_nil, List.append_nil, List.nil_append]; omega]; exact g6
                · simp only [List.length_append, List.length_cons, List.length_nil, List.length_range', List.flatten_append, List.flatten_cons, List.flatten_nil, List.append_nil, List.nil_append]; omega
                · rw [show (dn2 ++ [C]).flatten.length = a2 + 2 * bs by simp only [List.length_append, List.length_cons, List.length_nil, List.length_range', List.flatten_append, List.flatten_cons, List.flatten_nil, List.append_nil, List.nil_append]; omega]; go_num
                · rw [show (dn2 ++ [C]).flatten.length = a2 + 2 * bs by simp only [List.length_append, List.length_cons, List.length_nil, List.length_range', List.flatten_append, List.flatten_cons, List.flatten_nil, List.append_nil, List.nil_append]; omega]; go_num
              case measure => simp [intOf]; omega
            · have hrest := Full.rest hbs HG.out.2.1 (by have := HG.out.2.2.2.2.1; omega)
              by_cases hmn : a2 + bs < n
              · have h2 : ∃ A B, td = [A, B] ∧ A.length = bs ∧ 0 < B.length ∧ B.length < bs := by
                  have h5 := HG.out.2.2.2.2.1
                  rcases hrest with (rfl | ⟨A, rfl, h3, h4⟩) | h
                  · simp at h5; omega
                  · simp at h5; omega
                  · exact h
                obtain ⟨A, B, rfl, lA, lB, lB2⟩ := h2
                clear hrest
                obtain ⟨q1, q2, q3, q4, q5, q6⟩ := HG.out
                have hgd := Good.append.1 q3
                obtain ⟨g1, g2, g4, g5, _⟩ := hgd.2
                rw [HDA2.out, lA, Nat.zero_add] at g1
                rw [HDA2.out, lA, Nat.zero_add] at g4
                have mem : ∀ i ∈ (dn2 ++ [A, B]).flatten, i < n := fun i hi => by have := Good.mem q3 hi; omega
                have lens : dn2.flatten.length = a2 ∧ A.length = bs ∧ 0 < B.length ∧ B.length < bs ∧ a2 + (bs + B.length) = n := by
                  have h := HDA2.out
                  have q4' := q4
                  simp only [List.flatten_append, List.flatten_cons, List.flatten_nil, List.length_append, List.length_nil, lA, h] at q4'
                  exact ⟨h, lA, lB, lB2, q4'⟩
                have HQ := Lib.hid (And.intro q1 (And.intro q6 (And.intro hgd.1 (And.intro g1 (And.intro g2 (And.intro g4 (And.intro g5 mem)))))))
                have HLL := Lib.hid lens
                clear q1 q2 q3 q4 q5 q6 hgd g1 g2 g4 g5 mem lens lA lB lB2
                go_wp2_with fail
                refine (symMergeRow_int z g n cap n rest f first captured c L w HCm.out hm' wr dn2.flatten A B [] (by have := HLL.out; rintro rfl; first | (simp at this; done) | (simp at this; omega)) (by have := HLL.out; rintro rfl; first | (simp at this; done) | (simp at this; omega)) hkp3 (fun i hi => HQ.out.2.2.2.2.2.2.2 i (by simpa using hi)) HQ.out.2.2.2.2.1 HQ.out.2.2.2.2.2.2.1 ?hLR (by have := HLL.out; simp only [List.length_append, List.length_cons, List.length_nil, List.length_range', List.flatten_append, List.flatten_cons, List.flatten_nil, List.append_nil, List.nil_append]; omega) (HQ.out.2.1.congrL (by simp)) _ _ _ (by rw [HDA2.out]) (by have := HLL.out; omega) (by have := HLL.out; omega)).mono ?_
                case hLR =>
                  intro u hu v hv
                  have h1 := range'_mem_lt HQ.out.2.2.2.1 hu
                  have h2 := range'_mem_lt HQ.out.2.2.2.2.2.1 hv
                  omega
                rintro e w1 ⟨v, rfl, hk1, rfl, C, hp, hs, hb1⟩
                have HC1 := Lib.hid (And.intro hp (And.intro hs hb1)); clear hp hs hb1
                go_wp2
                go_roundw
                case rel =>
                  obtain ⟨q1, q6, gd, g1, g2, g4, g5, _⟩ := HQ.out
                  obtain ⟨hp, hs, hb1⟩ := HC1.out
                  obtain ⟨e1, e2, e3, e4, e5⟩ := HLL.out
                  have lC : C.length = bs + B.length := by have := hp.length_eq; simp only [List.length_append] at this; omega
                  have pC := merge_range g1 g4 hp
                  refine ⟨2 * bs, dn2 ++ [C], by omega, by go_num, Full.all q1 (by omega) (by omega), Good.append.2 ⟨gd, ?_, hs, trivial⟩, by simp only [List.length_append, List.length_cons, List.length_nil, List.length_range', List.flatten_append, List.flatten_cons, List.flatten_nil, List.append_nil, List.nil_append]; omega, by omega, hk1, hb1.congrL (by simp)⟩
                  rw [e1, lC, Nat.zero_add]; exact pC
                case measure => simp [intOf]; omega
              · have h2 : td = [] ∨ ∃ A, td = [A] ∧ 0 < A.length ∧ A.length ≤ bs := by
                  have h5 := HG.out.2.2.2.2.1
                  rcases hrest with h | ⟨A, B, rfl, h3, h4, h6⟩
                  · exact h
                  · simp at h5; omega
                have HTD := Lib.hid h2
                clear hrest h2
                go_wp2
                go_roundw
                case rel =>
                  obtain ⟨q1, q2, q3, q4, q5, q6⟩ := HG.out
                  refine ⟨2 * bs, dn2 ++ td, by omega, by go_num, ?_, q3, q4, by omega, hkp3, q6⟩
                  rcases HTD.out with rfl | ⟨A, rfl, h3, h4⟩
                  · rw [List.append_nil]; exact Full.all' (by omega) q1
                  · exact Full.all q1 h3 (by omega)
                case measure => simp [intOf]; omega
        · go_wp2
          go_end0
          obtain ⟨h1, h2, h3, h4⟩ := HF.out
          refine RetF.mk hkp2 ⟨rfl, ?_⟩
          rcases Full.one hbs h1 h3 (by omega) with rfl | ⟨A, rfl⟩
          · simp at h3; subst h3
            exact ⟨[], by simp, Sorted.nil, by simpa using h4⟩
          · simp at h3
            obtain ⟨q1, q2, _⟩ := h2
            refine ⟨A, by rw [List.range_eq_range', ← h3]; exact q1, q2, by simpa using h4⟩
theorem sortStableRow_any (z : Nat → Option Addr × Nat × Nat) (g n cap : Nat) (rest : List Value) (f : FuncId) (first captured : Array Value) (c : Nat → Nat → Int) (L : CmpLaw c) (w : World)
    (hcmp : CmpOn Tryz.prog f first captured g n w (valRow z) c) (hm : n ≤ 1152921504606846976) (hB : Blk w g ((List.range n).map (valRow z) ++ rest) 29) :
    Calls Tryz.prog 188 #[.slice (some ⟨g, 0, none⟩) n cap, .func (Fn.func f) first captured] w
      (RetF (fun k => k = g) w fun w' v => v = .tuple #[] ∧ ∃ C, C.Perm (List.range n) ∧ Sorted c C ∧ Blk w' g (C.map (valRow z) ++ rest) 29) := by
  go_enter Tryz.func188, Tryz.ntmps188
  go_wp2_with fail
  refine (stableCmpRow_any z g n cap rest f first captured c L w hcmp hm hB).mono ?_
  rintro e w1 ⟨v, rfl, hk, rfl, hC⟩
  have HC := Lib.hid hC; clear hC
  go_wp2
  go_end0
  exact RetF.mk hk ⟨rfl, HC.out⟩

/-- An empty slice, wherever it leads. -/
theorem insSortRow_nil (ao : Option Addr) (cap : Nat) (fv : Value) (w : World) :
    Calls Tryz.prog 201 #[.slice ao 0 cap, .int .i64 0, .int .i64 0, fv] w (Ret (.tuple #[]) w) := by
  go_enter Tryz.func201, Tryz.ntmps201
  go_wp2
  go_loop [8] (fun i => i = .int .i64 1) (fun _ => 0)
  case atStart => rfl
  case round =>
    subst hrel
    go_wp2
    go_end0
    exact Ret.mk rfl

theorem stableCmpRow_nil (ao : Option Addr) (cap : Nat) (fv : Value) (w : World) :
    Calls Tryz.prog 198 #[.slice ao 0 cap, .int .i64 0, fv] w (Ret (.tuple #[]) w) := by
  go_enter Tryz.func198, Tryz.ntmps198
  go_wp2
  go_loop [7, 8] (fun a b => a = .int .i64 0 ∧ b = .int .i64 20) (fun _ _ => 0)
  case atStart => exact ⟨rfl, rfl⟩
  case round =>
    obtain ⟨rfl, rfl⟩ := hrel
    go_wp2_with (go_at_call 201; (with_reducible refine (insSortRow_nil _ _ _ _).mono ?_); rintro e w' ⟨rfl, rfl⟩)
    go_loop [6] (fun s => s = .int .i64 20) (fun _ => 0)
    case atStart => rfl
    case round =>
      subst hrel
      go_wp2
      go_end0
      exact Ret.mk rfl

theorem sortStableRow_nil (ao : Option Addr) (cap : Nat) (fv : Value) (w : World) :
    Calls Tryz.prog 188 #[.slice ao 0 cap, fv] w (Ret (.tuple #[]) w) := by
  go_enter Tryz.func188, Tryz.ntmps188
  go_wp2_with (go_at_call 198; (with_reducible refine (stableCmpRow_nil _ _ _ _).mono ?_); rintro e w' ⟨rfl, rfl⟩)
  go_end0
  exact Ret.mk rfl
end Go.Proofs.YtfkhelihepbehaaGreat

/- slices.BinarySearchFunc at []string, slices.Clone, slices.EqualFunc. -/
namespace Go.Proofs.YtfkhelihepbehaaGreat
open Go.RowKit
set_option linter.unusedVariables false

theorem elemRow : ElemT Tryz.prog 22 29 1 24 (.slice none 0 0) := ⟨by kernel_rfl, by kernel_rfl, rfl, by decide⟩

/-- A comparison with one value: of any of a list's values, in every world in which all old blocks are as they were. -/
def CmpToRow (P : Program) (f : FuncId) (first captured : Array Value) (w0 : World) (vs : List Value) (t : Value) (c : Nat → Int) : Prop :=
  (∀ args w, (callFunc f args).run P w = .ok (Next.enter f args) w) ∧ ∀ w, Ext w0 w → ∀ i v, vs[i]? = some v → Calls P f (first ++ (#[v, t] ++ captured)) w fun e w' => e = .returned (.int .i64 (c i)) ∧ Ext w w'

/-- The search, between two rounds. -/
def BinAtRow (n : Nat) (c : Nat → Int) (w0 : World) (iv jv : Value) (w : World) : Prop :=
  ∃ i j : Nat, i ≤ j ∧ j ≤ n ∧ iv = .int .i64 i ∧ jv = .int .i64 j ∧ (i = 0 ∨ c (i - 1) < 0) ∧ (j = n ∨ 0 ≤ c j) ∧ Ext w0 w

set_option maxRecDepth 100000 in
set_option maxHeartbeats 2000000 in
theorem binSearchRow_any (zs : List (Option Addr × Nat × Nat)) (z : Nat → Option Addr × Nat × Nat) (ao : Option Addr) (cap : Nat) (t : Value) (f : FuncId) (first captured : Array Value) (c : Nat → Int) (w : World) (n : Nat)
    (hc : CellsAt w ao ((List.range n).map fun i => (Value.slice (z (i)).1 (z (i)).2.1 (z (i)).2.2))) (hcmp : CmpToRow Tryz.prog f first captured w ((List.range n).map fun i => (Value.slice (z (i)).1 (z (i)).2.1 (z (i)).2.2)) t c) (hm : n ≤ 4611686018427387904) :
    Calls Tryz.prog 173 #[.slice ao n cap, t, .func (Fn.func f) first captured] w
      (RetF (fun _ => False) w fun w' v => ∃ i : Nat, i ≤ n ∧ (i = 0 ∨ c (i - 1) < 0) ∧ (i = n ∨ 0 ≤ c i) ∧ v = .tuple #[.int .i64 i, .bool (decide (i < n ∧ c i = 0))]) := by
  have hent := hcmp.1
  have HC := Lib.hid hcmp.2; clear hcmp
  have cell : ∀ W : World, Ext w W → ∀ i, i < n → ∃ b off, ao = some ⟨b, off, none⟩ ∧ W.cell? ⟨b, off + i, none⟩ = some ((Value.slice (z (i)).1 (z (i)).2.1 (z (i)).2.2)) := fun W hW i hi => by
    have := hc.ext hW
    exact this i _ (by simp [hi])
  have HCELL := Lib.hid cell; clear cell
  go_enter Tryz.func173, Tryz.ntmps173
  go_wp2
  go_loopw [9, 10] (BinAtRow n c w) (fun i j _ => (intOf j).toNat - (intOf i).toNat)
  case atStart => exact ⟨0, n, Nat.zero_le _, Nat.le_refl _, rfl, rfl, .inl rfl, .inl rfl, Kp.refl _⟩
  case round =>
    obtain ⟨i, j, hij, hj, rfl, rfl, hlo, hhi, hkp⟩ := hrel
    have HL := Lib.hid (And.intro hlo hhi); clear hlo hhi
    by_cases hlt : i < j
    · obtain ⟨h, eh⟩ : ∃ h, h = (i + j) / 2 := ⟨_, rfl⟩
      have rh : ((i : Int) + j) / 2 = (h : Int) := by omega
      have hhn : h < n := by omega
      have h1 : i ≤ h := by omega
      have h2 : h < j := by omega
      clear eh
      obtain ⟨b, off, rfl, c1⟩ := HCELL.out _ hkp h hhn
      have hcall := fun W hW => HC.out W hW h ((Value.slice (z (h)).1 (z (h)).2.1 (z (h)).2.2)) (by simp [hhn])
      have HCall := Lib.hid hcall; clear hcall
      generalize hcc : c h = cc at HCall
      have HCC := Lib.hid hcc; clear hcc
      by_cases hneg : cc < 0
      · go_wp2_with fail
        refine (HCall.out _ hkp).mono ?_
        rintro e w1 ⟨rfl, hk2⟩
        have hkp2 := hkp.ext hk2
        clear hk2 c1
        go_wp2
        go_roundw
        case rel => exact ⟨h + 1, j, by omega, hj, by first | rfl | (congr 1; done) | (congr 1; omega), rfl, .inr (by rw [Nat.add_sub_cancel, HCC.out]; omega), HL.out.2, hkp2⟩
        case measure => simp [intOf]; omega
      · go_wp2_with fail
        refine (HCall.out _ hkp).mono ?_
        rintro e w1 ⟨rfl, hk2⟩
        have hkp2 := hkp.ext hk2
        clear hk2 c1
        go_wp2
        go_roundw
        case rel => exact ⟨i, h, by omega, by omega, rfl, by first | rfl | (congr 1; done) | (congr 1; omega), HL.out.1, .inr (by rw [HCC.out]; omega), hkp2⟩
        case measure => simp [intOf]; omega
    · obtain rfl : i = j := by omega
      by_cases hin : i < n
      · obtain ⟨b, off, rfl, c1⟩ := HCELL.out _ hkp i hin
        have hcall := fun W hW => HC.out W hW i ((Value.slice (z (i)).1 (z (i)).2.1 (z (i)).2.2)) (by simp [hin])
        have HCall := Lib.hid hcall; clear hcall
        generalize hcc : c i = cc at HCall
        have HCC := Lib.hid hcc; clear hcc
        have key : decide (i < n ∧ c i = 0) = (cc == 0) := by rw [HCC.out]; simp [hin]; rfl
        have HK := Lib.hid key; clear key
        generalize hbb : (cc == 0) = bb at HK
        go_wp2_with fail
        refine (HCall.out _ hkp).mono ?_
        rintro e w1 ⟨rfl, hk2⟩
        have hkp2 := hkp.ext hk2
        clear hk2 c1
        go_wp2
        go_ret2
        exact RetF.mk hkp2 ⟨i, by omega, HL.out.1, HL.out.2, tup_ib HK.out⟩
      · have key : decide (i < n ∧ c i = 0) = false := by simp; omega
        have HK := Lib.hid key; clear key
        go_wp2
        go_ret2
        exact RetF.mk hkp ⟨i, by omega, HL.out.1, HL.out.2, tup_ib HK.out⟩
end Go.Proofs.YtfkhelihepbehaaGreat

/- slices.CompactFunc at []string. -/
namespace Go.Proofs.YtfkhelihepbehaaGreat
open Go.RowKit
set_option linter.unusedVariables false

set_option maxRecDepth 100000 in
set_option maxHeartbeats 4000000 in
theorem compactRow_any (z : Nat → Option Addr × Nat × Nat) (C : List Nat) (g n cap N : Nat) (rest : List Value) (f : FuncId) (first captured : Array Value) (q : Nat → Nat → Bool) (w : World)
    (hcmp : LikeOn Tryz.prog f first captured g N w (valRow z) q) (hn : n = C.length) (hC : ∀ i ∈ C, i < N) (hm : n ≤ 4611686018427387904) (hB : Blk w g (C.map (valRow z) ++ rest) 29) (hlen : (C.map (valRow z) ++ rest).length = cap) (hcm : cap ≤ maxLen) :
    Calls Tryz.prog 189 #[.slice (some ⟨g, 0, none⟩) n cap, .func (Fn.func f) first captured] w
      (RetF (fun k => k = g) w fun w' v => ∃ rest', v = .slice (some ⟨g, 0, none⟩) (keepTo q C n).length cap ∧ Blk w' g ((keepTo q C n).map (valRow z) ++ rest') 29 ∧ ((keepTo q C n).map (valRow z) ++ rest').length = cap) := by
  have hent := hcmp.1
  have HC := Lib.hid hcmp.2; clear hcmp
  have HN := Lib.hid (And.intro hn (And.intro hC hlen)); clear hn hC
  have hcap : n ≤ cap := by have := HN.out.1; simp at hlen; omega
  clear hlen
  have cell : ∀ W : World, Blk W g (C.map (valRow z) ++ rest) 29 → ∀ i, i < n → W.cell? ⟨g, i, none⟩ = some (valRow z (C.getD i 0)) := fun W h i hi => h.at i (by have := HN.out.1; omega)
  have HB := Lib.hid hB; clear hB
  by_cases hlt2 : n < 2
  · go_enter Tryz.func189, Tryz.ntmps189
    go_wp2
    go_ret
    have e : keepTo q C n = C := by
      rw [keepTo_all (by have := HN.out.1; omega) (fun j h1 h2 => by omega), List.take_of_length_le (by have := HN.out.1; omega)]
    refine RetF.mk (Kp.refl _) ⟨rest, ?_, by rw [e]; exact HB.out, by rw [e]; exact HN.out.2.2⟩
    rw [e, ← HN.out.1]; rfl
  · go_enter Tryz.func189, Tryz.ntmps189
    go_wp2
    go_loopw [5] (Compact1 n q C (fun k => False) w) (fun k _ => n - (intOf k).toNat)
    case atStart => exact ⟨1, Nat.le_refl _, by omega, rfl, fun j h1 h2 => by omega, Kp.refl _⟩
    case round =>
      obtain ⟨k, hk1, hkn, rfl, hq, hkp⟩ := hrel
      have HQ := Lib.hid hq; clear hq
      have hext : Kp (fun i => i = g) w wr := Ext.kp hkp
      by_cases hkl : k < n
      · have HBw : Blk wr g (C.map (valRow z) ++ rest) 29 := HB.out.ext hkp
        obtain ⟨p, rfl⟩ : ∃ p, k = p + 1 := ⟨k - 1, by omega⟩
        have c1 := cell wr HBw (p + 1) hkl
        have c2 := cell wr HBw p (by omega)
        have HBW := Lib.hid HBw; clear HBw
        have hx : C.getD (p + 1) 0 < N := HN.out.2.1 _ (getD_mem (by have := HN.out.1; omega))
        have hy : C.getD p 0 < N := HN.out.2.1 _ (getD_mem (by have := HN.out.1; omega))
        have hcall := fun W hW => HC.out W hW _ _ hx hy
        have HCall := Lib.hid hcall; clear hcall
        obtain ⟨x, ex⟩ : ∃ x, x = C.getD (p + 1) 0 := ⟨_, rfl⟩
        obtain ⟨y, ey⟩ : ∃ y, y = C.getD p 0 := ⟨_, rfl⟩
        rw [← ex, ← ey] at HCall
        rw [← ex] at c1
        rw [← ey] at c2
        have HE := Lib.hid (And.intro ex ey); clear ex ey hx hy
        unfold valRow at c1 c2
        obtain ⟨i1, i2, i3, i4, i5, i6, i7⟩ := idx_pred (k := p) (n := n) (by omega) hm
        cases hqk : q x y
        · rw [hqk] at HCall
          have HK := Lib.hid hqk; clear hqk
          go_wp2
          go_still_tail 10, (by kernel_rfl)
          go_wp2_with fail
          refine (HCall.out _ hext.drew).mono ?_
          rintro e w1 ⟨rfl, hk2⟩
          have hkp2 : Ext w w1 := hkp.drew.ext hk2
          clear hk2 c1 c2
          go_wp2
          go_roundw
          case rel =>
            refine ⟨p + 2, by omega, by omega, by first | rfl | (congr 1; done) | (congr 1; omega), fun j h1 h2 => ?_, hkp2⟩
            by_cases e : j = p + 1
            · subst e
              rw [← HE.out.1, Nat.add_sub_cancel, ← HE.out.2]; exact HK.out
            · exact HQ.out j h1 (by omega)
          case measure => simp [intOf]; omega
        · rw [hqk] at HCall
          have HK := Lib.hid hqk; clear hqk
          have start : Blk wr g ((keepTo q C (p + 1 + 1)).map (valRow z) ++ (C.map (valRow z) ++ rest).drop (p + 1)) 29 ∧ (keepTo q C (p + 1 + 1)).length = p + 1 := by
            have hn := HN.out.1
            have e : keepTo q C (p + 1 + 1) = C.take (p + 1) := by
              rw [keepTo_yes (by omega) (by rw [← HE.out.1, Nat.add_sub_cancel, ← HE.out.2]; exact HK.out), keepTo_all (by omega) HQ.out]
            rw [e]
            refine ⟨HBW.out.congrL ?_, by simp; omega⟩
            rw [List.drop_append_of_le_length (by simp; omega), ← List.append_assoc, ← List.map_drop, ← List.map_append, List.take_append_drop]
          have HS := Lib.hid start; clear start
          have hpc : (p : Int) + 1 ≤ (cap : Int) := by omega
          have hpn : (p : Int) + 1 ≤ (n : Int) := by omega
          go_wp2
          go_still_tail 10, (by kernel_rfl)
          go_wp2_with fail
          refine (HCall.out _ hext.drew).mono ?_
          rintro e w1 ⟨rfl, hk2⟩
          have hkp2 : Ext w w1 := hkp.drew.ext hk2
          have HS1 : Blk w1 g ((keepTo q C (p + 1 + 1)).map (valRow z) ++ (C.map (valRow z) ++ rest).drop (p + 1)) 29 := HS.out.1.drew.ext hk2
          have HS2 := Lib.hid (And.intro HS1 HS.out.2); clear HS1
          clear hk2 c1 c2
          obtain ⟨m, em⟩ : ∃ m, n - (p + 1) = m := ⟨_, rfl⟩
          have hcapk : ¬ cap = p + 1 := by omega
          go_wp2
          go_loopw [5, 7] (Compact2 n (p + 1) q C w g (valRow z) rest 29) (fun k j _ => n - (intOf j).toNat)
          case atStart => exact ⟨p + 1, 1, Nat.le_refl _, hkl, by go_num, rfl, Nat.le_refl _, by omega, HS2.out.2, Ext.kp hkp2, HS2.out.1⟩
          case round =>
            obtain ⟨k, j, hj1, hjn, rfl, rfl, hk0, hkj, hkl2, hkp3, hb3⟩ := hrel
            have f1 := hb3.free k
            have HB3 := Lib.hid (And.intro hkl2 hb3); clear hkl2
            by_cases hjm : j < m
            · obtain ⟨t, rfl⟩ : ∃ t, j = t + 1 := ⟨j - 1, by omega⟩
              have hCl := HN.out.1
              have c1 : wr.cell? ⟨g, p + 1 + (t + 1), none⟩ = some (valRow z (C.getD (p + 1 + (t + 1)) 0)) := by
                rw [hb3.cell']; exact compact_cell HB3.out.1 (by omega) (by omega)
              have c2 : wr.cell? ⟨g, p + 1 + t, none⟩ = some (valRow z (C.getD (p + 1 + t) 0)) := by
                rw [hb3.cell']; exact compact_cell HB3.out.1 (by omega) (by omega)
              have hx : C.getD (p + 1 + (t + 1)) 0 < N := HN.out.2.1 _ (getD_mem (by omega))
              have hy : C.getD (p + 1 + t) 0 < N := HN.out.2.1 _ (getD_mem (by omega))
              clear hCl hb3
              have hcall := fun W hW => HC.out W hW _ _ hx hy
              have HCall := Lib.hid hcall; clear hcall
              obtain ⟨x, ex⟩ : ∃ x, x = C.getD (p + 1 + (t + 1)) 0 := ⟨_, rfl⟩
              obtain ⟨y, ey⟩ : ∃ y, y = C.getD (p + 1 + t) 0 := ⟨_, rfl⟩
              rw [← ex, ← ey] at HCall
              rw [← ex] at c1
              rw [← ey] at c2
              have HE := Lib.hid (And.intro ex ey); clear ex ey hx hy
              unfold valRow at c1 c2
              obtain ⟨i1, i2, i3, i4, i5, i6, i7⟩ := idx_pred (k := t) (n := m) (by omega) (by omega)
              have hkn2 : k < n := by omega
              cases hqk : q x y
              · rw [hqk] at HCall
                have HK := Lib.hid hqk; clear hqk
                go_wp2
                go_still_tail 10, (by kernel_rfl)
                go_wp2_with fail
                refine (HCall.out _ hkp3.drew).mono ?_
                rintro e w2 ⟨rfl, hk2⟩
                have hkp4 : Kp (fun i => i = g) w w2 := hkp3.drew.ext hk2
                have d1 := hk2.cell c1 id
                have HB4 : Blk w2 g ((keepTo q C (p + 1 + (t + 1))).map (valRow z) ++ (C.map (valRow z) ++ rest).drop k) 29 := HB3.out.2.drew.ext hk2
                have f2 := HB4.free k
                have d2 : ∃ u, w2.cell? ⟨g, k, none⟩ = some u := ⟨_, HB4.cell k (by have h2 := HN.out.2.2; have h1 := HN.out.1; have h3 := HB3.out.1; simp at h2 ⊢; omega)⟩
                obtain ⟨u, d2⟩ := d2
                have HB5 := Lib.hid HB4; clear HB4
                clear hk2 c1 c2 f1
                go_wp2
                go_roundw
                case rel =>
                  have e : keepTo q C (p + 1 + (t + 2)) = keepTo q C (p + 1 + (t + 1)) ++ [x] := by
                    have := keepTo_no (q := q) (C := C) (k := p + 1 + (t + 1)) (by rw [← HE.out.1, show p + 1 + (t + 1) - 1 = p + 1 + t by omega, ← HE.out.2]; exact HK.out)
                    rw [HE.out.1, ← this]; rfl
                  refine ⟨k + 1, t + 2, by omega, by omega, by first | rfl | (congr 1; done) | (congr 1; omega), by first | rfl | (congr 1; done) | (congr 1; omega), by omega, by omega, by rw [e, List.length_append, HB3.out.1]; rfl, ?_, ?_⟩
                  · exact hkp4.setCell (fun _ => rfl) _
                  · rw [e]; exact (HB5.out.set k _).congrL (compact_set HB3.out.1 (by have := HN.out.1; omega))
                case measure => simp [intOf]; omega
              · rw [hqk] at HCall
                have HK := Lib.hid hqk; clear hqk
                go_wp2
                go_still_tail 10, (by kernel_rfl)
                go_wp2_with fail
                refine (HCall.out _ hkp3.drew).mono ?_
                rintro e w2 ⟨rfl, hk2⟩
                have hkp4 : Kp (fun i => i = g) w w2 := hkp3.drew.ext hk2
                have HB4 : Blk w2 g ((keepTo q C (p + 1 + (t + 1))).map (valRow z) ++ (C.map (valRow z) ++ rest).drop k) 29 := HB3.out.2.drew.ext hk2
                have HB5 := Lib.hid HB4; clear HB4
                clear hk2 c1 c2 f1
                go_wp2
                go_roundw
                case rel =>
                  have e : keepTo q C (p + 1 + (t + 2)) = keepTo q C (p + 1 + (t + 1)) := by
                    have := keepTo_yes (q := q) (C := C) (k := p + 1 + (t + 1)) (by omega) (by rw [← HE.out.1, show p + 1 + (t + 1) - 1 = p + 1 + t by omega, ← HE.out.2]; exact HK.out)
                    rw [← this]; rfl
                  exact ⟨k, t + 2, by omega, by omega, rfl, by first | rfl | (congr 1; done) | (congr 1; omega), hk0, by omega, by rw [e]; exact HB3.out.1, hkp4, by rw [e]; exact HB5.out⟩
                case measure => simp [intOf]; omega
            · have hjn' : p + 1 + j = n := by omega
              rw [hjn'] at HB3
              obtain ⟨w3, hrun, hk3, hb4⟩ := run_clearB elemRow rfl (fun w => by kernel_rfl) HB3.out.2 (off := k) (n := n - k) (c := cap - k) (sp := some ⟨g, k, none⟩) (fun _ => rfl) (by have := HB3.out.1; have h2 := HN.out.2.2; have h1 := HN.out.1; simp at h2 ⊢; omega)
              have HB4 := Lib.hid hb4; clear hb4 hb3
              have HK3 := Lib.hid hk3; clear hk3
              have hkc : ¬ cap = k := by omega
              have hkc2 : (k : Int) ≤ (cap : Int) := by omega
              have hkn2 : (k : Int) ≤ (n : Int) := by omega
              have hjj : j = m := by omega
              clear hjn'
              go_wp2
              go_ret
              have h2 := HN.out.2.2; have h1 := HN.out.1
              have hk := HB3.out.1
              refine RetF.mk (hkp3.trans HK3.out) ⟨List.replicate (n - k) (.slice none 0 0) ++ ((C.map (valRow z) ++ rest).drop k).drop (n - k), ?_, ?_, ?_⟩
              · rw [hk]; rfl
              · refine HB4.out.congrL ?_
                unfold splice
                rw [List.take_append_of_le_length (by simp; omega), List.take_of_length_le (by simp; omega), List.drop_append, List.drop_of_length_le (by simp; omega), List.length_map, hk, List.length_replicate, List.nil_append, Nat.add_sub_cancel_left]
              · simp at h2 ⊢; omega
      · go_wp2
        go_ret
        have e : keepTo q C n = C := by
          rw [keepTo_all (by have := HN.out.1; omega) (fun j h1 h2 => HQ.out j h1 (by omega)), List.take_of_length_le (by have := HN.out.1; omega)]
        refine RetF.mk hext ⟨rest, ?_, by rw [e]; exact HB.out.ext hkp, by rw [e]; exact HN.out.2.2⟩
        rw [e, ← HN.out.1]; rfl
end Go.Proofs.YtfkhelihepbehaaGreat

/- slices.Clone, EqualFunc, Grow, Concat at []string. -/
namespace Go.Proofs.YtfkhelihepbehaaGreat
open Go.RowKit
set_option linter.unusedVariables false

theorem cloneRow_any (vs : List Value) (ao : Option Addr) (cap : Nat) (w : World) (n : Nat) (hn : n = vs.length) (hc : CellsAt w ao vs) (h1 : ∀ u ∈ vs, u.oneCell' = true) (hm : n * 24 ≤ 140737488355328) :
    Calls Tryz.prog 168 #[.slice ao n cap] w (RetN w fun w' v => Row w' 29 1 v n vs (New w)) := by
  have hq : ∀ w : World, (binOp .eql 22 (.slice ao n cap) (.slice none 0 0)).run Tryz.prog w = .ok (.bool ao.isNone) w := fun w => Lib.run_eql_slice_nil w _ _ _ _ _ _ _ Tryz.underlying22
  have HNN := Lib.hid hn; clear hn
  have hl : n ≤ maxLen := by unfold maxLen; omega
  cases ao with
  | none =>
    have hv : vs = [] := by
      cases vs with
      | nil => rfl
      | cons x vs => obtain ⟨b, o, h, _⟩ := hc.off (by simp); cases h
    subst hv
    have h0 : n = 0 := HNN.out
    subst h0
    go_enter Tryz.func168, Tryz.ntmps168
    go_wp2
    go_ret
    exact RetN.mk (Kp.refl _) (Row.nil _ _ _ _)
  | some a =>
    go_enter Tryz.func168, Tryz.ntmps168
    go_wp2_with (first | (at_builtin; refine Halted.out ?_))
    refine Halted.mk (wp_appN elemRow rfl _ _ rfl ((Kp.refl (F := fun _ => False) w).alloc _) rfl (Row.empty w 29 1 (New w) (Nat.le_refl _)) rfl (hc.alloc _) (by rw [HNN.out, Nat.mul_one]) h1 (by omega) (by omega) ?_)
    intro v1 w1 hr1 hk1 _ _
    have HR := Lib.hid hr1; clear hr1
    go_wp2
    go_ret
    exact RetN.mk hk1 (by simpa using HR.out)

def EqEachRow (P : Program) (f : FuncId) (first captured : Array Value) (w0 : World) (us vs : List Value) (q : Nat → Bool) : Prop :=
  (∀ args w, (callFunc f args).run P w = .ok (Next.enter f args) w) ∧ ∀ w, Ext w0 w → ∀ i u v, us[i]? = some u → vs[i]? = some v → Calls P f (first ++ (#[u, v] ++ captured)) w fun e w' => e = .returned (.bool (q i)) ∧ Ext w w'
def EqAtRow (n : Nat) (q : Nat → Bool) (w0 : World) (iv : Value) (w : World) : Prop :=
  ∃ i : Nat, i ≤ n ∧ iv = .int .i64 i ∧ (∀ j, j < i → q j = true) ∧ Ext w0 w

set_option maxRecDepth 100000 in
set_option maxHeartbeats 2000000 in
theorem equalFuncRow_any (us vs : List Value) (ao bo : Option Addr) (c d : Nat) (f : FuncId) (first captured : Array Value) (q : Nat → Bool) (w : World) (n m : Nat) (hn : n = us.length) (hm : m = vs.length)
    (ha : CellsAt w ao us) (hb : CellsAt w bo vs) (hcmp : EqEachRow Tryz.prog f first captured w us vs q) (hbig : n ≤ 4611686018427387904) (hbig2 : m ≤ 4611686018427387904) :
    Calls Tryz.prog 148 #[.slice ao n c, .slice bo m d, .func (Fn.func f) first captured] w
      (RetF (fun _ => False) w fun w' v => ∃ r : Bool, v = .bool r ∧ (r = true ↔ n = m ∧ ∀ i, i < n → q i = true)) := by
  by_cases hnm : n = m
  · subst hnm
    have hent := hcmp.1
    have HC := Lib.hid hcmp.2; clear hcmp
    have HA := Lib.hid ha; have HB := Lib.hid hb; clear ha hb
    have HN := Lib.hid hn; have HM := Lib.hid hm; clear hn hm
    have hne : ((n : Int) != (n : Int)) = false := by simp
    go_enter Tryz.func148, Tryz.ntmps148
    go_wp2
    go_loopw [17] (EqAtRow n q w) (fun i _ => n - (intOf i).toNat)
    case atStart => exact ⟨0, Nat.zero_le _, rfl, by simp, Kp.refl _⟩
    case round =>
      obtain ⟨i, hi, rfl, hq, hkp⟩ := hrel
      have HQ := Lib.hid hq; clear hq
      by_cases hlt : i < n
      · have g1 : us[i]? = some (us[i]'(by have := HN.out; omega)) := List.getElem?_eq_getElem _
        have g2 : vs[i]? = some (vs[i]'(by have := HM.out; omega)) := List.getElem?_eq_getElem _
        obtain ⟨b1, o1, rfl, c1⟩ := (HA.out.ext hkp) i _ g1
        obtain ⟨b2, o2, rfl, c2⟩ := (HB.out.ext hkp) i _ g2
        have hcall := fun W hW => HC.out W hW i _ _ g1 g2
        have HCall := Lib.hid hcall; clear hcall
        have HG := Lib.hid (And.intro g1 g2); clear g1 g2
        generalize us[i]'(by have := HN.out; omega) = u at *
        generalize vs[i]'(by have := HM.out; omega) = v at *
        cases hqi : q i
        · rw [hqi] at HCall
          have HI := Lib.hid hqi; clear hqi
          go_wp2_with fail
          refine (HCall.out _ hkp).mono ?_
          rintro e w1 ⟨rfl, hk2⟩
          have hkp2 := hkp.ext hk2
          clear hk2 c1 c2
          go_wp2
          go_ret
          refine RetF.mk hkp2 ⟨false, rfl, by simp, fun h => ?_⟩
          have := h.2 i hlt; rw [HI.out] at this; cases this
        · rw [hqi] at HCall
          have HI := Lib.hid hqi; clear hqi
          go_wp2_with fail
          refine (HCall.out _ hkp).mono ?_
          rintro e w1 ⟨rfl, hk2⟩
          have hkp2 := hkp.ext hk2
          clear hk2 c1 c2
          go_wp2
          go_roundw
          case rel =>
            refine ⟨i + 1, by omega, by first | rfl | (congr 1; done) | (congr 1; omega), fun j hj => ?_, hkp2⟩
            by_cases e : j = i
            · subst e; exact HI.out
            · exact HQ.out j (by omega)
          case measure => simp [intOf]; omega
      · go_wp2
        go_ret
        exact RetF.mk hkp ⟨true, rfl, by simp only [true_iff]; exact ⟨trivial, fun i hi => HQ.out i (by omega)⟩⟩
  · have hne : ((n : Int) != (m : Int)) = true := by rw [bne_iff_ne]; omega
    clear hcmp hn hm ha hb
    go_enter Tryz.func148, Tryz.ntmps148
    go_wp2
    go_ret
    exact RetF.mk (Kp.refl _) ⟨false, rfl, by simp; omega⟩

theorem growRow_nil (k : Nat) (w : World) (hm : k * 24 ≤ 140737488355328) :
    Calls Tryz.prog 190 #[.slice none 0 0, .int .i64 k] w (RetN w fun w' v => Row w' 29 1 v 0 [] (New w)) := by
  have hl : k ≤ maxLen := by unfold maxLen; omega
  by_cases h0 : k = 0
  · subst h0
    go_enter Tryz.func190, Tryz.ntmps190
    go_wp2
    go_ret
    exact RetN.mk (Kp.refl _) (Row.nil _ _ _ _)
  · obtain ⟨w', G, hrun, hG, hGm, hext, hsz, hB⟩ := run_app_zeros (w := w) elemRow rfl Tryz.underlying3 (ao := none) (n := 0) (cap := 0) (olds := []) (CellsAt.nil _ _) rfl (k := k) (by omega) (by omega) (by omega) (by omega)
    simp only [Nat.zero_add, List.nil_append, Nat.sub_zero] at hrun hG hB
    have hG0 : ¬ G = 0 := by omega
    have HB := Lib.hid hB
    have HE := Lib.hid hext
    clear hB hext hsz
    unfold maxLen at hl hGm
    go_enter Tryz.func190, Tryz.ntmps190
    go_wp2_with (first | (at_builtin; refine Halted.out ?_))
    refine Halted.mk (wp_appRun rfl _ _ rfl rfl rfl hrun ?_)
    clear hrun
    go_wp2
    go_ret
    exact RetN.mk HE.out ⟨by simp, .inr ⟨_, G, List.replicate G (.slice none 0 0), rfl, Nat.le_refl _, HB.out.congrL (by simp), by simp, Nat.zero_le _, by unfold maxLen; omega⟩⟩

/-- A list of slices as a call is handed it. -/
def partsRow (ps : List (Option Addr × Nat × List Value)) : List Value := ps.map fun p => .slice p.1 p.2.2.length p.2.1
def totalRow (ps : List (Option Addr × Nat × List Value)) : Nat := (ps.map fun p => p.2.2.length).sum
theorem total_snocRow (ps : List (Option Addr × Nat × List Value)) (p : Option Addr × Nat × List Value) : totalRow (ps ++ [p]) = totalRow ps + p.2.2.length := by simp [totalRow]
theorem total_takeRow (ps : List (Option Addr × Nat × List Value)) (i : Nat) : totalRow (ps.take i) ≤ totalRow ps := by
  have : totalRow ps = totalRow (ps.take i) + totalRow (ps.drop i) := by
    conv => lhs; rw [← List.take_append_drop i ps]
    simp only [totalRow, List.map_append, List.sum_append]
  omega
def ConcatARow (ps : List (Option Addr × Nat × List Value)) (iv sv : Value) : Prop := ∃ i : Nat, i ≤ ps.length ∧ iv = .int .i64 i ∧ sv = .int .i64 (totalRow (ps.take i))
def ConcatBRow (ps : List (Option Addr × Nat × List Value)) (w0 : World) (e : TypeId) (iv sv : Value) (w : World) : Prop :=
  ∃ i : Nat, i ≤ ps.length ∧ iv = .int .i64 i ∧ Ext w0 w ∧ Row w e 1 sv (totalRow (ps.take i)) ((ps.take i).flatMap fun p => p.2.2) (New w0)

set_option maxRecDepth 100000 in
set_option maxHeartbeats 2000000 in
theorem concatRow_any (ps : List (Option Addr × Nat × List Value)) (oa : Option Addr) (oc : Nat) (w : World) (k : Nat) (hk : k = ps.length) (ho : CellsAt w oa (partsRow ps)) (hps : ∀ p ∈ ps, CellsAt w p.1 p.2.2 ∧ ∀ u ∈ p.2.2, u.oneCell' = true)
    (hm : totalRow ps * 24 ≤ 140737488355328) (hk2 : k ≤ 4611686018427387904) :
    Calls Tryz.prog 172 #[.slice oa k oc] w (RetN w fun w' v => Row w' 29 1 v (totalRow ps) (ps.flatMap fun p => p.2.2) (New w)) := by
  have hbig : totalRow ps ≤ 4611686018427387904 := by omega
  have HK := Lib.hid hk; clear hk
  have HO := Lib.hid ho; clear ho
  have HP := Lib.hid hps; clear hps
  have tt := total_takeRow ps
  go_enter Tryz.func172, Tryz.ntmps172
  go_wp2
  go_loop [11, 3] (ConcatARow ps) (fun i _ => k - (intOf i).toNat)
  case atStart => exact ⟨0, Nat.zero_le _, rfl, rfl⟩
  case round =>
    obtain ⟨i, hi, rfl, rfl⟩ := hrel
    by_cases hlt : i < k
    · have hi' : i < ps.length := by have := HK.out; omega
      obtain ⟨b, off, rfl, c1⟩ := HO.out i (.slice ps[i].1 ps[i].2.2.length ps[i].2.1) (by simp [partsRow, hi'])
      have t1 := tt i
      have t2 := tt (i + 1)
      have e2 : totalRow (ps.take (i + 1)) = totalRow (ps.take i) + ps[i].2.2.length := by rw [List.take_succ_eq_append_getElem hi', total_snocRow]
      have E2 := Lib.hid e2; rw [e2] at t2; clear e2
      generalize hT : totalRow (ps.take i) = T at *
      generalize ps[i].2.2.length = m at *
      have HT := Lib.hid hT; clear hT tt
      have hT0 : ¬ ((T : Int) + m < 0) := by omega
      go_wp2
      go_round
      case rel => exact ⟨i + 1, by omega, by first | rfl | (congr 1; done) | (congr 1; omega), by rw [E2.out]; go_num⟩
      case measure => simp [intOf]; omega
    · have hik : i = ps.length := by have := HK.out; omega
      subst hik
      rw [List.take_length] 
      clear tt
      go_wp2_with fail
      refine (growRow_nil (totalRow ps) w hm).mono ?_
      rintro e w1 ⟨v, rfl, hk1, hr1⟩
      have tt := total_takeRow ps
      go_wp2
      go_loopw [27, 6] (ConcatBRow ps w 29) (fun i _ _ => ps.length - (intOf i).toNat)
      case atStart => exact ⟨0, Nat.zero_le _, rfl, hk1, by simpa [totalRow] using hr1⟩
      case round =>
        obtain ⟨i, hi2, rfl, hkp, hr⟩ := hrel
        by_cases hlt2 : i < ps.length
        · have hlt3 : i < k := by have := HK.out; omega
          obtain ⟨b, off, rfl, c1⟩ := (HO.out.ext hkp) i (.slice ps[i].1 ps[i].2.2.length ps[i].2.1) (by simp [partsRow, hlt2])
          obtain ⟨hs, h1⟩ := HP.out ps[i] (List.getElem_mem hlt2)
          have hs' := hs.ext hkp
          have t2 := tt (i + 1)
          have e2 : totalRow (ps.take (i + 1)) = totalRow (ps.take i) + ps[i].2.2.length := by rw [List.take_succ_eq_append_getElem hlt2, total_snocRow]
          have E2 := Lib.hid e2; rw [e2] at t2; clear e2
          have e3 : (ps.take (i + 1)).flatMap (fun p => p.2.2) = (ps.take i).flatMap (fun p => p.2.2) ++ ps[i].2.2 := by rw [List.take_succ_eq_append_getElem hlt2, List.flatMap_append, List.flatMap_singleton]
          have E3 := Lib.hid e3; clear e3
          have H1 := Lib.hid h1
          clear h1 hs
          generalize hT : totalRow (ps.take i) = T at *
          have HT := Lib.hid hT; clear hT tt
          generalize (ps.take i).flatMap (fun p => p.2.2) = X at *
          generalize hY : ps[i].2.2 = Y at *
          have HY := Lib.hid hY; clear hY
          generalize ps[i].1 = ya at *
          generalize ps[i].2.1 = yc at *
          go_wp2_with (first | (at_builtin; refine Halted.out ?_))
          refine Halted.mk (wp_appN elemRow rfl _ _ rfl hkp rfl hr rfl hs' (by rw [Nat.mul_one]) H1.out (by omega) (by unfold maxLen; omega) ?_)
          intro v2 w2 hr2 hk2' _ _
          have HR2 := Lib.hid hr2; clear hr2 hr hs' c1
          go_wp2
          go_roundw
          case rel => exact ⟨i + 1, by omega, by first | rfl | (congr 1; done) | (congr 1; omega), hk2', by rw [E2.out, E3.out]; exact HR2.out⟩
          case measure => simp [intOf]; omega
        · have hik : i = ps.length := by omega
          have hlt3 : ¬ i < k := by have := HK.out; omega
          subst hik
          rw [List.take_length] at hr
          have HR := Lib.hid hr; clear hr
          go_wp2
          go_ret
          exact RetN.mk hkp HR.out
end Go.Proofs.YtfkhelihepbehaaGreat

/- tuple.Set at []string: what a set is in memory; cmp, alike, Len, Items, find. -/
namespace Go.Proofs.YtfkhelihepbehaaGreat
open Go.RowKit
set_option linter.unusedVariables false

/-- A value that a set may have for its order: nil where all are alike, or a function that holds two of D against each other, in every world in which the blocks of S are as they were. -/
def OrdVRow (P : Program) (S : Nat → Prop) (w0 : World) (ov : Value) (D : Option Addr × Nat × Nat → Prop) (c : Option Addr × Nat × Nat → Option Addr × Nat × Nat → Int) : Prop :=
  (ov = .nilFunc ∧ ∀ x y, D x → D y → c x y = 0) ∨ ∃ f first cap, ov = .func (Fn.func f) first cap ∧ (∀ args w, (callFunc f args).run P w = .ok (Next.enter f args) w) ∧
    ∀ w, Same S w0 w → ∀ x y, D x → D y → Calls P f (first ++ (#[(Value.slice (x).1 (x).2.1 (x).2.2), (Value.slice (y).1 (y).2.1 (y).2.2)] ++ cap)) w fun e w' => e = .returned (.int .i64 (c x y)) ∧ Ext w w'

theorem OrdVRow.same {P : Program} {S : Nat → Prop} {w0 w1 : World} {ov : Value} {D : Option Addr × Nat × Nat → Prop} {c : Option Addr × Nat × Nat → Option Addr × Nat × Nat → Int} (h : OrdVRow P S w0 ov D c) (hs : Same S w0 w1) : OrdVRow P S w1 ov D c := by
  rcases h with h | ⟨f, first, cap, e, he, h⟩
  · exact .inl h
  · exact .inr ⟨f, first, cap, e, he, fun w hw => h w (hs.trans hw)⟩
/-- A set in memory: its order, its row, what lies behind them in the same struct. -/
structure SetAtRow (P : Program) (S : Nat → Prop) (w : World) (b : Nat) (ov iv : Value) (tail : List Value) (te : TypeId) (D : Option Addr × Nat × Nat → Prop) (c : Option Addr × Nat × Nat → Option Addr × Nat × Nat → Int) (zs : List (Option Addr × Nat × Nat)) : Prop where
  blk : Blk w b (ov :: iv :: tail) te
  row : Row w 29 1 iv zs.length (zs.map fun x => (Value.slice (x).1 (x).2.1 (x).2.2)) (fun k => iv.ownBlock = some k)
  apart : iv.ownBlock ≠ some b
  inS : ∀ k, S k → k < w.heap.size
  notS : ∀ k, Owns b iv k → ¬ S k
  ord : OrdVRow P S w ov D c
  all : ∀ x ∈ zs, D x
  len : zs.length ≤ 1048576 * 1048576

section
variable {P : Program} {S : Nat → Prop} {w w' : World} {b : Nat} {ov iv : Value} {tail : List Value} {te : TypeId} {D : Option Addr × Nat × Nat → Prop} {c : Option Addr × Nat × Nat → Option Addr × Nat × Nat → Int} {zs : List (Option Addr × Nat × Nat)}
theorem SetAtRow.kp {F : Nat → Prop} (h : SetAtRow P S w b ov iv tail te D c zs) (hk : Kp F w w') (hF : ∀ k, F k → ¬ Owns b iv k) (hS : ∀ k, F k → ¬ S k) : SetAtRow P S w' b ov iv tail te D c zs :=
  ⟨h.blk.kp hk fun hf => hF _ hf (.inl rfl), h.row.kp hk fun g hg hf => hF _ hf (.inr hg), h.apart, fun k hk' => Nat.lt_of_lt_of_le (h.inS k hk') hk.size, h.notS, h.ord.same (hk.same h.inS fun k hk' hf => hS k hf hk'), h.all, h.len⟩
theorem SetAtRow.ext (h : SetAtRow P S w b ov iv tail te D c zs) (hk : Ext w w') : SetAtRow P S w' b ov iv tail te D c zs := h.kp hk (fun _ x => x.elim) (fun _ x => x.elim)
theorem SetAtRow.cells (h : SetAtRow P S w b ov iv tail te D c zs) : w.cell? ⟨b, 0, none⟩ = some ov ∧ w.cell? ⟨b, 1, none⟩ = some iv := ⟨by rw [h.blk.cell']; rfl, by rw [h.blk.cell']; rfl⟩
end

set_option maxRecDepth 100000 in
theorem setCmpRow_any (S : Nat → Prop) (w : World) (b : Nat) (ov : Value) (cs : List Value) (te : TypeId) (D : Option Addr × Nat × Nat → Prop) (c : Option Addr × Nat × Nat → Option Addr × Nat × Nat → Int) (x y : Option Addr × Nat × Nat) (hx : D x) (hy : D y) (hB : Blk w b (ov :: cs) te)
    (hS : ∀ k, S k → k < w.heap.size) (ho : OrdVRow Tryz.prog S w ov D c) :
    Calls Tryz.prog 169 #[.pointer (some ⟨b, 0, none⟩), (Value.slice (x).1 (x).2.1 (x).2.2), (Value.slice (y).1 (y).2.1 (y).2.2)] w (fun e w' => e = .returned (.int .i64 (c x y)) ∧ Ext w w') := by
  have c1 : w.cell? ⟨b, 0, none⟩ = some ov := by rw [hB.cell']; rfl
  clear hB
  rcases ho with ⟨rfl, h0⟩ | ⟨f, first, cap, rfl, hent, hc⟩
  · have h00 := Lib.hid (h0 x y hx hy); clear h0
    have hq : ∀ w : World, (binOp .eql 79 .nilFunc .nilFunc).run Tryz.prog w = .ok (.bool true) w := fun _ => by kernel_rfl
    go_enter Tryz.func169, Tryz.ntmps169
    go_wp2
    go_ret
    exact ⟨by rw [h00.out]; rfl, Kp.refl _⟩
  · have HC := Lib.hid hc; clear hc
    have hq : ∀ w : World, (binOp .eql 79 (.func (Fn.func f) first cap) .nilFunc).run Tryz.prog w = .ok (.bool false) w := fun _ => by kernel_rfl
    go_enter Tryz.func169, Tryz.ntmps169
    go_wp2_with fail
    refine (HC.out w (Same.refl hS) x y hx hy).mono ?_
    rintro e w1 ⟨rfl, hk⟩
    have HK := Lib.hid hk; clear hk
    go_wp2
    go_ret
    exact ⟨rfl, HK.out⟩

set_option maxRecDepth 100000 in
theorem setAlikeRow_any (S : Nat → Prop) (w : World) (b : Nat) (ov : Value) (cs : List Value) (te : TypeId) (D : Option Addr × Nat × Nat → Prop) (c : Option Addr × Nat × Nat → Option Addr × Nat × Nat → Int) (x y : Option Addr × Nat × Nat) (hx : D x) (hy : D y) (hB : Blk w b (ov :: cs) te)
    (hS : ∀ k, S k → k < w.heap.size) (ho : OrdVRow Tryz.prog S w ov D c) :
    Calls Tryz.prog 149 #[.pointer (some ⟨b, 0, none⟩), (Value.slice (x).1 (x).2.1 (x).2.2), (Value.slice (y).1 (y).2.1 (y).2.2)] w (fun e w' => e = .returned (.bool (decide (c x y = 0))) ∧ Ext w w') := by
  go_enter Tryz.func149, Tryz.ntmps149
  go_wp2_with fail
  refine (setCmpRow_any S w b ov cs te D c x y hx hy hB hS ho).mono ?_
  rintro e w1 ⟨rfl, hk⟩
  have HK := Lib.hid hk; clear hk hB ho
  go_wp2
  go_ret
  exact ⟨rfl, HK.out⟩

set_option maxRecDepth 100000 in
theorem setLenRow_any {S : Nat → Prop} {w : World} {b : Nat} {ov iv : Value} {tail : List Value} {te : TypeId} {D : Option Addr × Nat × Nat → Prop} {c : Option Addr × Nat × Nat → Option Addr × Nat × Nat → Int} {zs : List (Option Addr × Nat × Nat)} (h : SetAtRow Tryz.prog S w b ov iv tail te D c zs) :
    Calls Tryz.prog 147 #[.pointer (some ⟨b, 0, none⟩)] w (Ret (.int .i64 (zs.length : Nat)) w) := by
  obtain ⟨c1, c2⟩ := h.cells
  obtain ⟨ao, cap, rfl, _, _⟩ := h.row.shape
  clear h
  go_enter Tryz.func147, Tryz.ntmps147
  go_wp2
  go_ret
  exact Ret.mk rfl
theorem setLenRow_nil (w : World) : Calls Tryz.prog 147 #[.pointer none] w (Ret (.int .i64 0) w) := by
  go_enter Tryz.func147, Tryz.ntmps147
  go_wp2
  go_ret
  exact Ret.mk rfl
set_option maxRecDepth 100000 in
theorem setItemsRow_any {S : Nat → Prop} {w : World} {b : Nat} {ov iv : Value} {tail : List Value} {te : TypeId} {D : Option Addr × Nat × Nat → Prop} {c : Option Addr × Nat × Nat → Option Addr × Nat × Nat → Int} {zs : List (Option Addr × Nat × Nat)} (h : SetAtRow Tryz.prog S w b ov iv tail te D c zs) :
    Calls Tryz.prog 146 #[.pointer (some ⟨b, 0, none⟩)] w (RetN w fun w' v => Row w' 29 1 v zs.length (zs.map fun x => (Value.slice (x).1 (x).2.1 (x).2.2)) (New w)) := by
  obtain ⟨c1, c2⟩ := h.cells
  obtain ⟨ao, cap, rfl, hc, _⟩ := h.row.shape
  have hl := h.len
  have HC := Lib.hid hc; clear h hc
  go_enter Tryz.func146, Tryz.ntmps146
  go_wp2_with fail
  refine (cloneRow_any (zs.map fun x => (Value.slice (x).1 (x).2.1 (x).2.2)) ao cap w zs.length (by simp) HC.out (by intro u hu; obtain ⟨x, _, rfl⟩ := List.mem_map.1 hu; rfl) (by omega)).mono ?_
  rintro e w1 ⟨v, rfl, hk, hr⟩
  have HR := Lib.hid (And.intro hk hr); clear hk hr
  go_wp2
  go_ret
  exact RetN.mk HR.out.1 HR.out.2
theorem setItemsRow_nil (w : World) : Calls Tryz.prog 146 #[.pointer none] w (Ret (.slice none 0 0) w) := by
  go_enter Tryz.func146, Tryz.ntmps146
  go_wp2
  go_ret
  exact Ret.mk rfl

set_option maxRecDepth 100000 in
set_option maxHeartbeats 1000000 in
theorem setFindRow_any {S : Nat → Prop} {w : World} {b : Nat} {ov iv : Value} {tail : List Value} {te : TypeId} {D : Option Addr × Nat × Nat → Prop} {c : Option Addr × Nat × Nat → Option Addr × Nat × Nat → Int} {zs : List (Option Addr × Nat × Nat)} (O : OrdLaw c) (x : Option Addr × Nat × Nat) (hx : D x) (hs : Strict c zs) (h : SetAtRow Tryz.prog S w b ov iv tail te D c zs) :
    Calls Tryz.prog 156 #[.pointer (some ⟨b, 0, none⟩), (Value.slice (x).1 (x).2.1 (x).2.2)] w
      (RetF (fun _ => False) w fun w' v => v = .tuple #[.int .i64 (below c zs x : Nat), .bool (isIn c zs x)]) := by
  obtain ⟨c1, c2⟩ := h.cells
  obtain ⟨ao, cap, eiv, hc, _⟩ := h.row.shape
  subst eiv
  have hl := h.len
  obtain ⟨n, en⟩ : ∃ n, n = zs.length := ⟨_, rfl⟩
  have get : ∀ i (hi : i < n), zs.getD i x = zs[i]'(by omega) := fun i hi => by simp [List.getD, show i < zs.length by omega]
  have evals : (List.range n).map (fun i => (Value.slice (zs.getD i x).1 (zs.getD i x).2.1 (zs.getD i x).2.2)) = zs.map fun x => (Value.slice (x).1 (x).2.1 (x).2.2) := by
    refine List.ext_getElem (by simp [en]) fun i h1 h2 => ?_
    simp only [List.getElem_map, List.getElem_range]
    rw [get i (by simpa using h1)]
  have hent : ∀ args w, (callFunc 169 args).run Tryz.prog w = .ok (.enter 169 args) w := enters_of Tryz.func169 (by kernel_rfl) rfl
  have hcmp : CmpToRow Tryz.prog 169 #[.pointer (some ⟨b, 0, none⟩)] #[] w ((List.range n).map fun i => (Value.slice (zs.getD i x).1 (zs.getD i x).2.1 (zs.getD i x).2.2)) ((Value.slice (x).1 (x).2.1 (x).2.2)) (fun i => c (zs.getD i x) x) := by
    refine ⟨hent, fun w' hw i v hv => ?_⟩
    have hi : i < n := by simpa using (List.getElem?_eq_some_iff.1 hv).1
    have ev : v = (Value.slice (zs.getD i x).1 (zs.getD i x).2.1 (zs.getD i x).2.2) := by simp [hi] at hv; rw [← hv, List.getD_eq_getElem?_getD]
    subst ev
    have h' := h.ext hw
    exact setCmpRow_any S w' b ov _ te D c (zs.getD i x) x (by rw [get i hi]; exact h.all _ (List.getElem_mem _)) hx h'.blk h'.inS h'.ord
  have hbin := binSearchRow_any zs (fun i => zs.getD i x) ao cap ((Value.slice (x).1 (x).2.1 (x).2.2)) 169 #[.pointer (some ⟨b, 0, none⟩)] #[] (fun i => c (zs.getD i x) x) w n (by rw [evals]; exact hc) hcmp (by omega)
  rw [en] at hbin
  have HB := Lib.hid hbin
  have HH := Lib.hid (And.intro en get)
  clear hbin hcmp hc evals hent h get
  go_enter Tryz.func156, Tryz.ntmps156
  go_wp2_with fail
  refine HB.out.mono ?_
  rintro e w1 ⟨v, rfl, hk, i, hi, h1, h2, rfl⟩
  have ei : i = below c zs x := by
    refine hs.place O hi (fun y hp hy => ?_) (fun y hy => ?_)
    · have e := (List.getElem?_eq_some_iff.1 hy).2
      rcases h1 with h1 | h1
      · omega
      · rw [HH.out.2 _ (by rw [HH.out.1]; omega), e] at h1; exact h1
    · obtain ⟨hl', e⟩ := List.getElem?_eq_some_iff.1 hy
      rcases h2 with h2 | h2
      · omega
      · rw [HH.out.2 _ (by rw [HH.out.1]; omega), e] at h2; exact h2
  have eb : decide (i < zs.length ∧ c (zs.getD i x) x = 0) = isIn c zs x := by
    rw [Bool.eq_iff_iff, decide_eq_true_iff, hs.there O x, ← ei]
    constructor
    · rintro ⟨a1, a2⟩
      exact ⟨zs[i], List.getElem?_eq_getElem a1, by rw [HH.out.2 _ (by rw [HH.out.1]; omega)] at a2; exact a2⟩
    · rintro ⟨y, hy, hz⟩
      obtain ⟨hl', e⟩ := List.getElem?_eq_some_iff.1 hy
      exact ⟨hl', by rw [HH.out.2 _ (by rw [HH.out.1]; omega), e]; exact hz⟩
  rw [eb, ei]
  have HK := Lib.hid hk
  clear hk h1 h2 eb ei hi
  go_wp2
  go_ret2
  exact RetF.mk HK.out (tup_ib rfl)
end Go.Proofs.YtfkhelihepbehaaGreat

/- tuple.NewSet at []string. -/
namespace Go.Proofs.YtfkhelihepbehaaGreat
open Go.RowKit
set_option linter.unusedVariables false

theorem compactRow_nil (fv : Value) (w : World) : Calls Tryz.prog 189 #[.slice none 0 0, fv] w (Ret (.slice none 0 0) w) := by
  go_enter Tryz.func189, Tryz.ntmps189
  go_wp2
  go_ret
  exact Ret.mk rfl

/-- A new row laid into a set's struct. -/
theorem setAtRow_store {P : Program} {S : Nat → Prop} {w : World} {b : Nat} {ov iv0 iv : Value} {tail : List Value} {te : TypeId} {D : Option Addr × Nat × Nat → Prop} {c : Option Addr × Nat × Nat → Option Addr × Nat × Nat → Int} {zs : List (Option Addr × Nat × Nat)} {M : Nat → Prop}
    (hB : Blk w b (ov :: iv0 :: tail) te) (hr : Row w 29 1 iv zs.length (zs.map fun x => (Value.slice (x).1 (x).2.1 (x).2.2)) M) (hap : iv.ownBlock ≠ some b) (hS : ∀ k, S k → k < w.heap.size) (hn : ∀ k, Owns b iv k → ¬ S k)
    (ho : OrdVRow P S w ov D c) (hD : ∀ x ∈ zs, D x) (hl : zs.length ≤ 1048576 * 1048576) : SetAtRow P S (w.setCell ⟨b, 1, none⟩ iv) b ov iv tail te D c zs := by
  have hk : Kp (fun k => k = b) w (w.setCell ⟨b, 1, none⟩ iv) := Kp.setCell (F := fun k => k = b) (Kp.refl w) (fun _ => rfl) iv
  exact ⟨hB.set 1 iv, hr.own.kp hk fun g hg e => hap (by rw [hg, e]), hap, fun k h => Nat.lt_of_lt_of_le (hS k h) hk.size, hn, ho.same (hk.same hS fun k h e => hn k (.inl e) h), hD, hl⟩

theorem newWRow {P : Program} {S : Nat → Prop} {w w1 : World} {ov : Value} {D : Option Addr × Nat × Nat → Prop} {c : Option Addr × Nat × Nat → Option Addr × Nat × Nat → Int} {g : Nat} {cs : List Value} {e : TypeId} (ho : OrdVRow P S w ov D c) (hk : Ext w w1) (hS : ∀ k, S k → k < w.heap.size) (hB : Blk w1 g cs e) (iv : Value) (te : TypeId) :
    ∃ w2, w1.alloc (.cells #[ov, iv] te) = w2 ∧ Ext w w2 ∧ Blk w2 w1.heap.size [ov, iv] te ∧ Blk w2 g cs e ∧ OrdVRow P S w2 ov D c ∧ ∀ k, S k → k < w2.heap.size :=
  ⟨_, rfl, hk.alloc _, Blk.new w1 [ov, iv] te, hB.alloc _, ho.same ((hk.alloc _).same hS fun _ _ => id), fun k h => Nat.lt_of_lt_of_le (hS k h) (hk.alloc _).size⟩

set_option maxRecDepth 100000 in
set_option maxHeartbeats 2000000 in
theorem newSetRow_any (S : Nat → Prop) (w : World) (ov : Value) (ao : Option Addr) (n cap : Nat) (D : Option Addr × Nat × Nat → Prop) (c : Option Addr × Nat × Nat → Option Addr × Nat × Nat → Int) (O : OrdLaw c) (zs : List (Option Addr × Nat × Nat)) (hn : n = zs.length) (hc : CellsAt w ao (zs.map fun x => (Value.slice (x).1 (x).2.1 (x).2.2)))
    (hS : ∀ k, S k → k < w.heap.size) (ho : OrdVRow Tryz.prog S w ov D c) (hD : ∀ x ∈ zs, D x) (hl : n ≤ 1048576 * 1048576) :
    Calls Tryz.prog 171 #[ov, .slice ao n cap] w
      (RetN w fun w' v => ∃ b iv, v = .pointer (some ⟨b, 0, none⟩) ∧ w.heap.size ≤ b ∧ (∀ k, iv.ownBlock = some k → w.heap.size ≤ k) ∧ SetAtRow Tryz.prog S w' b ov iv [] 96 D c (newS c zs)) := by
  have hform : ov = .nilFunc ∨ ∃ f first cap, ov = .func f first cap := by
    rcases ho with ⟨h, _⟩ | ⟨f, first, cap, h, _⟩
    · exact .inl h
    · exact .inr ⟨_, _, _, h⟩
  have HO := Lib.hid ho; clear ho
  have HN := Lib.hid (And.intro hn hD); clear hn hD
  have HC := Lib.hid hc; clear hc
  rcases hform with rfl | ⟨f1, first1, cap2, rfl⟩
  all_goals
    go_enter Tryz.func171, Tryz.ntmps171
    go_wp2_with fail
    refine (cloneRow_any (zs.map fun x => (Value.slice (x).1 (x).2.1 (x).2.2)) ao cap w n (by rw [HN.out.1, List.length_map]) HC.out (by intro u hu; obtain ⟨x, _, rfl⟩ := List.mem_map.1 hu; rfl) (by omega)).mono ?_
    rintro e w1 ⟨v, rfl, hk, hr⟩
    have HK := Lib.hid hk; clear hk
    obtain ⟨h1, ⟨rfl, h0⟩ | ⟨g, cap1, rest, rfl, hg, hB, hlen, hnc, hcm⟩⟩ := hr
    · have HZ := Lib.hid h0; clear h0 h1
      go_wp2_with fail
      refine (sortStableRow_nil none 0 _ _).mono ?_
      rintro e w' ⟨rfl, rfl⟩
      go_wp2_with fail
      refine (compactRow_nil _ _).mono ?_
      rintro e w' ⟨rfl, rfl⟩
      go_wp2
      go_ret
      have hz : zs = [] := List.eq_nil_of_length_eq_zero (by rw [← HN.out.1]; exact HZ.out)
      subst hz
      have hk1 := HK.out
      refine RetN.mk (hk1.alloc _) ⟨w1.heap.size, .slice none 0 0, rfl, hk1.size, (fun k hk => by cases hk), ?_⟩
      refine ⟨Blk.new w1 [_, _] _, Row.nil _ _ _ _, (fun h => by cases h), (fun k h => Nat.lt_of_lt_of_le (hS k h) (hk1.alloc _).size), (fun k h hs => ?_), HO.out.same ((hk1.alloc _).same hS fun _ _ => id), by simp [newS], by simp [newS]⟩
      have := hS k hs; have := hk1.size
      rcases h with h | h
      · omega
      · cases h
    · have HB := Lib.hid hB; clear hB
      have HG := Lib.hid hg; clear hg
      have hLN := Lib.hid hlen; clear hlen
      obtain ⟨b, eb⟩ : ∃ b, b = w1.heap.size := ⟨_, rfl⟩
      have hgb : g < b := by rw [eb]; exact HB.out.lt
      have hentc : ∀ args w, (callFunc 169 args).run Tryz.prog w = .ok (.enter 169 args) w := enters_of Tryz.func169 (by kernel_rfl) rfl
      have henta : ∀ args w, (callFunc 149 args).run Tryz.prog w = .ok (.enter 149 args) w := enters_of Tryz.func149 (by kernel_rfl) rfl
      have HE := Lib.hid (And.intro hentc henta); clear hentc henta
      have get : ∀ i, i < n → ∃ h : i < zs.length, zs.getD i default = zs[i] := fun i hi => ⟨by rw [← HN.out.1]; exact hi, by simp [List.getD, show i < zs.length by rw [← HN.out.1]; exact hi]⟩
      have inD : ∀ i, i < n → D (zs.getD i default) := fun i hi => by obtain ⟨h, e⟩ := get i hi; rw [e]; exact HN.out.2 _ (List.getElem_mem _)
      have evals : zs.map (fun x => (Value.slice (x).1 (x).2.1 (x).2.2)) = (List.range n).map (valRow fun i => zs.getD i default) := by
        refine List.ext_getElem (by simp [HN.out.1]) fun i h1 h2 => ?_
        simp only [List.getElem_map, List.getElem_range]
        obtain ⟨h, e⟩ := get i (by simpa using h2)
        show (Value.slice (zs[i]).1 (zs[i]).2.1 (zs[i]).2.2) = (Value.slice (zs.getD i default).1 (zs.getD i default).2.1 (zs.getD i default).2.2)
        rw [e]
      have ezs : (List.range n).map (fun i => zs.getD i default) = zs := by
        refine List.ext_getElem (by simp [HN.out.1]) fun i h1 h2 => ?_
        simp only [List.getElem_map, List.getElem_range]
        exact (get i (by simpa using h1)).2
      have HV := Lib.hid (And.intro evals ezs)
      have HI := Lib.hid inD
      clear evals ezs inD get
      have OL := (O.idx fun i : Nat => zs.getD i default)
      go_wp2_with fail
      obtain ⟨w2, hw2, hk2, hB2, hG2, ho2, hS2⟩ := newWRow HO.out HK.out hS HB.out (.slice (some ⟨g, 0, none⟩) n cap1) 96
      rw [← eb] at hB2
      rw [HV.out.1] at hG2
      have hsz : w.heap.size ≤ b := by rw [eb]; exact HK.out.size
      rw [← eb, hw2]
      clear hw2 eb
      have hSg : ∀ k, S k → ¬ k = g := fun k h e => by have := hS k h; have := HG.out; simp only [New] at this; omega
      have hSb : ∀ k, S k → ¬ k = b := fun k h e => by have := hS k h; omega
      have hcmp : CmpOn Tryz.prog 169 #[.pointer (some ⟨b, 0, none⟩)] #[] g n w2 (valRow fun i => zs.getD i default) (fun i j => c (zs.getD i default) (zs.getD j default)) :=
        ⟨HE.out.1, fun w' hw i j hi hj => setCmpRow_any S w' b _ _ _ D c _ _ (HI.out i hi) (HI.out j hj) (hB2.kp hw (by omega)) (fun k h => Nat.lt_of_lt_of_le (hS2 k h) hw.size) (ho2.same (hw.same hS2 hSg))⟩
      refine (sortStableRow_any (fun i => zs.getD i default) g n cap1 rest 169 #[.pointer (some ⟨b, 0, none⟩)] #[] (fun i j => c (zs.getD i default) (zs.getD j default)) OL.nat w2 hcmp (by omega) hG2).mono ?_
      clear hcmp
      rintro e w3 ⟨v, rfl, hk3, rfl, C, hp, hs, hG3⟩
      have hB3 := hB2.kp hk3 (by omega)
      have ho3 := ho2.same (hk3.same hS2 hSg)
      have hS3 : ∀ k, S k → k < w3.heap.size := fun k h => Nat.lt_of_lt_of_le (hS2 k h) hk3.size
      have hCl : C.length = n := by simpa using hp.length_eq
      have c1 : w3.cell? ⟨b, 1, none⟩ = some (.slice (some ⟨g, 0, none⟩) n cap1) := by rw [hB3.cell']; rfl
      have hlike : LikeOn Tryz.prog 149 #[.pointer (some ⟨b, 0, none⟩)] #[] g n w3 (valRow fun i => zs.getD i default) (fun i j => decide (c (zs.getD i default) (zs.getD j default) = 0)) :=
        ⟨HE.out.2, fun w' hw i j hi hj => setAlikeRow_any S w' b _ _ _ D c _ _ (HI.out i hi) (HI.out j hj) (hB3.kp hw (by omega)) (fun k h => Nat.lt_of_lt_of_le (hS3 k h) hw.size) (ho3.same (hw.same hS3 hSg))⟩
      have hcomp := compactRow_any (fun i => zs.getD i default) C g n cap1 n rest 149 #[.pointer (some ⟨b, 0, none⟩)] #[] _ w3 hlike hCl.symm (fun i hi => List.mem_range.1 (hp.subset hi)) (by omega) hG3 (by have := hLN.out; simp only [List.length_append, List.length_map, hCl] at this ⊢; rw [← HN.out.1] at this; omega) hcm
      have hkeep := keep_new OL hp hs
      rw [hkeep] at hcomp
      have HCOMP := Lib.hid hcomp
      have HCM := Lib.hid hcm
      have HP := Lib.hid (And.intro hk2 (And.intro hk3 (And.intro hB3 (And.intro ho3 hS3))))
      clear hlike hcomp hkeep hk2 hk3 hB3 ho3 hS3 hp hs hG3 hB2 hG2 ho2 hS2 hcm
      go_wp2_with fail
      refine HCOMP.out.mono ?_
      rintro e w4 ⟨v, rfl, hk4, rest', rfl, hG4, hl4⟩
      obtain ⟨hk2, hk3, hB3, ho3, hS3⟩ := HP.out
      have hB4 := hB3.kp hk4 (by omega)
      have ho4 := ho3.same (hk4.same hS3 hSg)
      have hS4 : ∀ k, S k → k < w4.heap.size := fun k h => Nat.lt_of_lt_of_le (hS3 k h) hk4.size
      have d0 : w4.cell? ⟨b, 1, none⟩ = some (.slice (some ⟨g, 0, none⟩) n cap1) := by rw [hB4.cell']; rfl
      have f0 := hB4.free 1
      have hkk : Kp (fun k => k = g) w w4 := (hk2.kp.trans hk3).trans hk4
      have HQ := Lib.hid (And.intro hB4 (And.intro ho4 (And.intro hS4 (And.intro hG4 (And.intro hl4 hkk)))))
      clear hk2 hk3 hB3 ho3 hS3 hk4 hG4 hl4 hB4 ho4 hS4 hkk c1
      go_wp2
      go_ret
      obtain ⟨hB4, ho4, hS4, hG4, hl4, hkk⟩ := HQ.out
      have eN : (newS (fun i j => c (zs.getD i default) (zs.getD j default)) (List.range n)).map (fun i => zs.getD i default) = newS c zs := by rw [← newS_map, HV.out.2]
      have eL : (newS (fun i j => c (zs.getD i default) (zs.getD j default)) (List.range n)).length = (newS c zs).length := by rw [← eN, List.length_map]
      have eV : (newS (fun i j => c (zs.getD i default) (zs.getD j default)) (List.range n)).map (valRow fun i => zs.getD i default) = (newS c zs).map fun x => (Value.slice (x).1 (x).2.1 (x).2.2) := by
        rw [← eN, List.map_map]; rfl
      rw [eV] at hG4 hl4
      have hgw : w.heap.size ≤ g := HG.out
      have hex : Ext w w4 := hkk.mono fun k hk e => by omega
      refine RetN.mk (hex.setCell (fun h => absurd hsz (Nat.not_le.2 h)) _) ⟨b, .slice (some ⟨g, 0, none⟩) (newS (fun i j => c (zs.getD i default) (zs.getD j default)) (List.range n)).length cap1, rfl, hsz, (fun k hk => by have e : g = k := Option.some.inj hk; omega), ?_⟩
      have hlen := newS_len (c := c) zs
      refine setAtRow_store hB4 (M := fun _ => True) ⟨by simp, .inr ⟨g, cap1, rest', congrArg (fun t => Value.slice (some ⟨g, 0, none⟩) t cap1) eL, trivial, hG4, by rw [hl4, Nat.mul_one], by rw [← hl4]; simp, HCM.out⟩⟩ (fun h => by have e : g = b := Option.some.inj h; omega) hS4 (fun k h hs => ?_) ho4 (fun x hx => HN.out.2 x (newS_mem hx)) (by rw [← HN.out.1] at hlen; omega)
      rcases h with h | h
      · exact hSb k hs h
      · have e : g = k := Option.some.inj h
        exact hSg _ hs e.symm
end Go.Proofs.YtfkhelihepbehaaGreat

/- slices.Insert of one element at []string. -/
namespace Go.Proofs.YtfkhelihepbehaaGreat
open Go.RowKit
set_option linter.unusedVariables false

set_option maxRecDepth 100000 in
set_option maxHeartbeats 4000000 in
theorem insertRow_any (xs : List Value) (iv : Value) (M : Nat → Prop) (n i : Nat) (x : Value) (vb : Nat) (ve : TypeId) (w : World) (hn : n = xs.length) (hr : Row w 29 1 iv n xs M) (hi : i ≤ n) (hx : x.oneCell' = true) (hxs : ∀ u ∈ xs, u.oneCell' = true)
    (hv : Blk w vb [x] ve) (hne : iv.ownBlock ≠ some vb) (hb : (n + 1) * 24 ≤ 140737488355328) :
    Calls Tryz.prog 157 #[iv, .int .i64 i, .slice (some ⟨vb, 0, none⟩) 1 1] w
      (RetF (fun g => iv.ownBlock = some g) w fun w' v => Row w' 29 1 v (n + 1) (xs.take i ++ x :: xs.drop i) (fun g => iv.ownBlock = some g ∨ w.heap.size ≤ g)) := by
  have hsrc : CellsAt w (some ⟨vb, 0, none⟩) [x] := CellsAt.pre (rest := []) hv
  have hl : n + 1 ≤ 9223372036854775807 := by omega
  obtain ⟨ao, cap, rfl, hcells, hcap⟩ := hr.shape
  by_cases hin : i = n
  · subst hin
    have HNN := Lib.hid hn; clear hn
    have hrM : Row w 29 1 (.slice ao i cap) i xs (fun g => (Value.slice ao i cap).ownBlock = some g ∨ w.heap.size ≤ g) := hr.own.mono fun g h => .inl h
    clear hr
    by_cases hci : cap = i
    all_goals
      first | (subst hci) | skip
      go_enter Tryz.func157, Tryz.ntmps157
      go_wp2_with (first | (at_builtin; refine Halted.out ?_))
      refine Halted.mk (wp_app elemRow rfl _ _ rfl (Kp.refl (F := fun g => (Value.slice ao _ _).ownBlock = some g) w) (M := fun g => (Value.slice ao _ _).ownBlock = some g ∨ w.heap.size ≤ g) (fun g h h' => by rcases h with h | h; exact h; omega) (fun g h => .inr h) rfl hrM rfl rfl hsrc (by simpa using hx) hb (by unfold maxLen; omega) ?_)
      intro v1 w1 hr1 hk1 _ _
      have HR := Lib.hid hr1; clear hr1 hcells hrM
      go_wp2
      go_ret
      refine RetF.mk hk1 ?_
      have := HNN.out
      rw [List.take_of_length_le (by omega), List.drop_of_length_le (by omega)]
      exact HR.out
  · have hlt : i < n := by omega
    obtain ⟨h1, ⟨h2, h3⟩ | ⟨g, cap', rest, h2, hM, hB, hlen, hnc, hcm⟩⟩ := hr
    · omega
    cases h2
    have hgv : g ≠ vb := fun e => hne (by simp [Value.ownBlock, e])
    have hfree := hv.free
    have hov : ∀ (W : World), Blk W vb [x] ve → (∀ cs, Blk w g cs 29 → True) → ∀ off lb cb (kB : Nat) (eB : TypeId), W.shape? g = some (eB, kB) → kB ≠ 0 →
        (callFunc 174 #[.slice (some ⟨vb, 0, none⟩) 1 1, .slice (some ⟨g, off, none⟩) lb cb]).run Tryz.prog W = .ok (.value (.bool false)) W := fun W hW _ off lb cb kB eB hs hk => by
      rw [run_callFunc_extern Tryz.func174 (by kernel_rfl) (by kernel_rfl) (by kernel_rfl) (e := Extern.SlicesOverlaps.overlaps #[22, 22] #[4]) (by kernel_rfl),
        Lib.run_overlaps_apart W 22 4 29 Tryz.underlying22 1 (fun w => by kernel_rfl) ⟨vb, 0, none⟩ ⟨g, off, none⟩ 1 1 lb cb (fun e => hgv e.symm) ve eB 1 kB hW.shape hs hk (hW.free 0) (hW.free 1)]
      rfl
    by_cases hroom : n + 1 ≤ cap
    · have hrest : ∃ y rest', rest = y :: rest' := by
        cases rest with
        | nil => simp at hlen h1; omega
        | cons y r => exact ⟨y, r, rfl⟩
      obtain ⟨y, rest', rfl⟩ := hrest
      have hov1 := fun off lb cb => hov w hv (fun _ _ => trivial) off lb cb _ _ hB.shape (by simp)
      have ncap : ¬ cap = i + 1 := by omega
      have ncap2 : ¬ cap = i := by omega
      have hi1 : ((i : Int) + 1).toNat = i + 1 := by omega
      have hw1 : IntKind.i64.wrap ((i : Int) + 1) = (i : Int) + 1 := IntWalk.i64_in _ (by omega)
      have hp1 : (0 : Int) ≤ (i : Int) + 1 := by omega
      have hp2 : (i : Int) ≤ (n : Int) + 1 := by omega
      have HNN := Lib.hid hn; clear hn
      have HB := Lib.hid hB; clear hB
      have HS := Lib.hid hsrc; clear hsrc
      have HV := Lib.hid hv; clear hv hov hfree
      have HXS := Lib.hid hxs; clear hxs
      have HC := Lib.hid hcells; clear hcells
      have HLN := Lib.hid (And.intro h1 hlen); clear h1 hlen
      have hcm' := hcm
      clear hM hcm hne
      unfold maxLen at hcm'
      go_enter Tryz.func157, Tryz.ntmps157
      go_wp2_with (simp only [hov1])
      go_still_tail 8, (by kernel_rfl)
      refine wp_copyB elemRow rfl _ _ rfl (w := w.drew) (HB.out.drew) (g := g) (off := i + 1) rfl rfl (cs := xs.drop i) (by have := HNN.out; simp [Nat.min_def]; first | omega | (split <;> omega)) (fun _ => rfl) (fun j u hu => ⟨g, i, rfl, by
          have hb := HB.out
          rw [hb.drew.cell']
          rw [List.getElem?_drop] at hu
          rw [List.getElem?_append_left (List.getElem?_eq_some_iff.1 hu).1]; exact hu⟩) (by have := HNN.out; simp; omega) (fun u hu => HXS.out u (List.mem_of_mem_drop hu)) ?_
      intro w2 hk2 hB2
      have hsv := (HS.out.drewN 1).kp hk2 (fun a ha e => by cases ha; exact hgv e.symm)
      obtain ⟨w3, hrun3, hk3, hB3⟩ := run_copyB elemRow (w := w2) hB2 (g := g) (off := i) (dp := some ⟨g, i, none⟩) (dLen := n + 1 - i) (dCap := cap - i) (sp := some ⟨vb, 0, none⟩) (sLen := 1) (sCap := 1) (cs := [x]) (by simp [Nat.min_def]; omega) (fun _ => rfl) hsv (by have := HNN.out; simp [splice]; omega) (by simpa using hx)
      have HK2 := Lib.hid hk2; have HK3 := Lib.hid hk3; have HB3 := Lib.hid hB3
      clear hk2 hk3 hB3 hB2 hsv hw1 hi1 hp1
      go_wp2
      go_ret
      have hk23 : Kp (fun k => k = g) w w3 := (((Kp.refl w).drew).trans (HK2.out)).trans HK3.out
      refine RetF.mk (hk23.mono fun k _ e => by rw [e]; rfl) ⟨?_, .inr ⟨g, cap, rest', rfl, .inl rfl, ?_, ?_, hroom, by unfold maxLen; omega⟩⟩
      · have := HNN.out; simp; omega
      · have := splice_ins xs rest' x y i (by have := HNN.out; omega)
        rw [← this]; exact HB3.out
      · have := HLN.out.2; have := HNN.out; simp at *; omega
    · have hcap' : n = cap := by omega
      subst hcap'
      have hk0 : 0 < n + 1 - i := by omega
      obtain ⟨w1, G, hrun1, hG, hGm, hext1, hsz1, hB1⟩ := run_app_zeros (w := w) elemRow rfl Tryz.underlying3 (ao := some ⟨g, 0, none⟩) (n := i) (cap := n) (olds := xs.take i) (fun j u hu => by
          rw [List.getElem?_take] at hu
          split at hu
          · exact hcells j u hu
          · cases hu) (by simp; omega) (k := n + 1 - i) hk0 (by omega) (by rw [show i + (n + 1 - i) = n + 1 by omega]; exact hb) (by unfold maxLen; omega)
      rw [show i + (n + 1 - i) = n + 1 by omega] at hrun1 hG
      have rk : (n : Int) + 1 - i = ((n + 1 - i : Nat) : Int) := by omega
      rw [← rk] at hrun1
      clear rk
      have hv1 := hsrc.ext hext1
      have hgh : g < w.heap.size := hB.lt
      obtain ⟨w2, hrun2, hk2, hB2⟩ := run_copyB elemRow (w := w1) hB1 (off := i) (dp := some ⟨w.heap.size, i, none⟩) (dLen := n + 1 - i) (dCap := G - i) (sp := some ⟨vb, 0, none⟩) (sLen := 1) (sCap := 1) (cs := [x]) (by simp [Nat.min_def]; omega) (fun _ => rfl) hv1 (by simp; omega) (by simpa using hx)
      have hB' : Blk w2 g (xs ++ rest) 29 := (hB.ext hext1).kp hk2 (by omega)
      have HB' := Lib.hid hB'; have HB2 := Lib.hid hB2; have HK2 := Lib.hid hk2; have HE1 := Lib.hid hext1
      have HNN := Lib.hid hn
      have HXS := Lib.hid hxs
      have HLN := Lib.hid (And.intro h1 hlen)
      have ncG : ¬ G = i := by omega
      have ncG1 : ¬ G = i + 1 := by omega
      have nci : ¬ n = i := by omega
      have hi1 : ((i : Int) + 1).toNat = i + 1 := by omega
      have hw1 : IntKind.i64.wrap ((i : Int) + 1) = (i : Int) + 1 := IntWalk.i64_in _ (by omega)
      have hp1 : (0 : Int) ≤ (i : Int) + 1 := by omega
      have hp2 : (i : Int) ≤ (n : Int) + 1 := by omega
      have hp3 : (i : Int) ≤ (n : Int) := by omega
      clear hB hB' hB2 hk2 hext1 hn hxs h1 hlen hv1 hB1 hM hcm hne hv hov hfree hsrc hcells
      unfold maxLen at hGm
      go_enter Tryz.func157, Tryz.ntmps157
      go_wp2_with (first | (at_builtin; refine Halted.out ?_))
      refine Halted.mk (wp_appRun rfl _ _ rfl rfl rfl hrun1 ?_)
      clear hrun1
      go_wp2
      go_still_tail 8, (by kernel_rfl)
      refine wp_copyB elemRow rfl _ _ rfl (w := w2.drew) (HB2.out.drew) (g := w.heap.size) (off := i + 1) rfl rfl (cs := xs.drop i) (by have := HNN.out; simp [Nat.min_def]; first | omega | (split <;> omega)) (fun _ => rfl) (fun j u hu => ⟨g, i, rfl, by
          have hb := HB'.out
          rw [hb.drew.cell']
          rw [List.getElem?_drop] at hu
          rw [List.getElem?_append_left (List.getElem?_eq_some_iff.1 hu).1]; exact hu⟩) (by have := HNN.out; simp [splice]; omega) (fun u hu => HXS.out u (List.mem_of_mem_drop hu)) ?_
      intro w3 hk3 hB3
      have HK3 := Lib.hid hk3; have HB3 := Lib.hid hB3
      clear hk3 hB3 hw1 hi1 hp1 hp2 hp3
      go_wp2
      go_ret
      have hext2 : Ext w w2 := HE1.out.trans' HK2.out (fun k hk e => by omega)
      have hext3 : Ext w w3 := (hext2.drew).trans' HK3.out (fun k hk e => by omega)
      refine RetF.mk hext3.kp ⟨?_, .inr ⟨w.heap.size, G, List.replicate (G - (n + 1)) (.slice none 0 0), rfl, .inr (Nat.le_refl _), ?_, ?_, hG, by unfold maxLen; omega⟩⟩
      · have := HNN.out; simp; omega
      · have h := splice_ins2 xs x (.slice none 0 0) i G (by have := HNN.out; omega) (by have := HNN.out; omega)
        have := HB3.out
        rw [h] at this
        exact this.congrL (by rw [HNN.out])
      · have := HNN.out; simp; omega
end Go.Proofs.YtfkhelihepbehaaGreat

/- slices.Delete of one element at []string. -/
namespace Go.Proofs.YtfkhelihepbehaaGreat
open Go.RowKit
set_option linter.unusedVariables false

set_option maxRecDepth 100000 in
set_option maxHeartbeats 4000000 in
theorem deleteRow_any (xs : List Value) (iv : Value) (M : Nat → Prop) (n i : Nat) (w : World) (hn : n = xs.length) (hr : Row w 29 1 iv n xs M) (hi : i < n) (hxs : ∀ u ∈ xs, u.oneCell' = true) (hb : n ≤ 4611686018427387904) :
    Calls Tryz.prog 170 #[iv, .int .i64 i, .int .i64 ((i : Int) + 1)] w
      (RetF (fun g => iv.ownBlock = some g) w fun w' v => v.ownBlock = iv.ownBlock ∧ Row w' 29 1 v (n - 1) (xs.take i ++ xs.drop (i + 1)) (fun g => iv.ownBlock = some g)) := by
  obtain ⟨h1, ⟨h2, h3⟩ | ⟨g, cap, rest, rfl, hM, hB, hlen, hnc, hcm⟩⟩ := hr
  · omega
  obtain ⟨n, rfl⟩ : ∃ n', n = n' + 1 := ⟨n - 1, by omega⟩
  have hl1 : (xs.drop (i + 1)).length = n - i := by simp; omega
  have hsrc : CellsAt w.drew (if cap = i + 1 then some ⟨g, 0, none⟩ else some ⟨g, i + 1, none⟩) (xs.drop (i + 1)) := by
    intro j u hu
    have hlt := (List.getElem?_eq_some_iff.1 hu).1
    by_cases hc : cap = i + 1
    · rw [hl1] at hlt; omega
    · rw [if_neg hc]
      refine ⟨g, i + 1, rfl, ?_⟩
      rw [hB.drew.cell', List.getElem?_append_left (by rw [hl1] at hlt; omega), ← List.getElem?_drop]; exact hu
  obtain ⟨w1, hrun1, hk1, hB1⟩ := run_app_room (w := w.drew) elemRow hB.drew (k := i) (cap := cap) (c := cap - (i + 1)) hl1 hsrc (fun u hu => hxs u (List.mem_of_mem_drop hu)) (by omega) (by simp; omega)
  rw [show i + (n - i) = n by omega] at hrun1
  have hlen1 : (splice (xs ++ rest) i (xs.drop (i + 1))).length = cap := by
    have := hlen; simp [splice] at this ⊢; omega
  obtain ⟨w2, hrun2, hk2, hB2⟩ := run_clearB (w := w1) elemRow rfl (fun w => by kernel_rfl) hB1 (off := n) (n := 1) (c := cap - n) (sp := some ⟨g, n, none⟩) (fun _ => rfl) (by rw [hlen1]; omega)
  have HB2 := Lib.hid hB2
  have HK := Lib.hid (And.intro hk1 hk2)
  have HN := Lib.hid (And.intro hn (And.intro h1 hlen))
  clear hB1 hB2 hk1 hk2 hn h1 hlen hlen1 hsrc hl1 hB hxs hM
  have hne : ((i : Int) == (i : Int) + 1) = false := by simp; omega
  have nc1 : ¬ cap = i := by omega
  have nc2 : ¬ cap = n := by omega
  have hcm' := hcm
  unfold maxLen at hcm'
  have hi1 : ((i : Int) + 1).toNat = i + 1 := by omega
  have hp1 : (0 : Int) ≤ (i : Int) + 1 := by omega
  have hp2 : (i : Int) ≤ (cap : Int) := by omega
  have hp3 : (i : Int) ≤ (n : Int) := by omega
  have hs1 : n + 1 - (i + 1) = n - i := by omega
  have hs2 : n + 1 - n = 1 := by omega
  by_cases hci : cap = i + 1
  · have hni : n = i := by omega
    subst hni
    subst hci
    simp only [if_pos, Nat.sub_self] at hrun1
    simp only [hs2] at hrun2
    have hp4 : (n : Int) ≤ (n : Int) + 1 := by omega
    have hp5 : n ≤ n + 1 := by omega
    go_enter Tryz.func170, Tryz.ntmps170
    go_wp2
    go_still_tail 6, (by kernel_rfl)
    refine wp_appRun rfl _ _ rfl rfl rfl hrun1 ?_
    clear hrun1
    go_wp2
    go_ret
    have hk12 : Kp (fun k => k = g) w w2 := ((Kp.refl w).drew.trans HK.out.1).trans HK.out.2
    obtain ⟨q1, q2, q3⟩ := HN.out
    refine RetF.mk (hk12.mono fun k _ e => by rw [e]; rfl) ⟨rfl, ?_, .inr ⟨g, _, (.slice none 0 0) :: rest, rfl, rfl, HB2.out.congrL ?_, ?_, by omega, hcm⟩⟩
    · simp; omega
    · have e1 : xs = xs.take n ++ [xs[n]'(by omega)] ++ xs.drop (n + 1) := by
        rw [List.append_assoc, List.singleton_append, ← List.drop_eq_getElem_cons (by omega), List.take_append_drop]
      have l1 : (xs.take n).length = n := by simp; omega
      have l2 : (xs.drop (n + 1)).length = n - n := by simp; omega
      have e2 : splice (xs ++ rest) n (xs.drop (n + 1)) = xs.take n ++ xs.drop (n + 1) ++ (xs ++ rest).drop n := by
        unfold splice
        rw [List.take_append_of_le_length (by omega), l2, show n + (n - n) = n by omega, List.append_assoc]
      have e3 : (xs ++ rest).drop n = [xs[n]'(by omega)] ++ rest := by
        rw [List.drop_append_of_le_length (by omega), List.drop_eq_getElem_cons (by omega), List.drop_of_length_le (by omega)] <;> rfl
      rw [e2, e3, ← List.append_assoc, splice_at _ _ _ _ _ (by simp; omega) (by simp)]
      simp
    · simp at q3 ⊢; omega
  · simp only [if_neg hci] at hrun1
    go_enter Tryz.func170, Tryz.ntmps170
    go_wp2
    go_still_tail 6, (by kernel_rfl)
    refine wp_appRun rfl _ _ rfl rfl rfl hrun1 ?_
    clear hrun1
    go_wp2
    go_ret
    have hk12 : Kp (fun k => k = g) w w2 := ((Kp.refl w).drew.trans HK.out.1).trans HK.out.2
    obtain ⟨q1, q2, q3⟩ := HN.out
    refine RetF.mk (hk12.mono fun k _ e => by rw [e]; rfl) ⟨rfl, ?_, .inr ⟨g, _, (.slice none 0 0) :: rest, rfl, rfl, HB2.out.congrL ?_, ?_, by omega, hcm⟩⟩
    · simp; omega
    · have e1 : xs = xs.take i ++ [xs[i]'(by omega)] ++ xs.drop (i + 1) := by
        rw [List.append_assoc, List.singleton_append, ← List.drop_eq_getElem_cons (by omega), List.take_append_drop]
      have l1 : (xs.take i).length = i := by simp; omega
      have l2 : (xs.drop (i + 1)).length = n - i := by simp; omega
      have e2 : splice (xs ++ rest) i (xs.drop (i + 1)) = xs.take i ++ xs.drop (i + 1) ++ (xs ++ rest).drop n := by
        unfold splice
        rw [List.take_append_of_le_length (by omega), l2, show i + (n - i) = n by omega, List.append_assoc]
      have e3 : (xs ++ rest).drop n = [xs[n]'(by omega)] ++ rest := by
        rw [List.drop_append_of_le_length (by omega), List.drop_eq_getElem_cons (by omega), List.drop_of_length_le (by omega)] <;> rfl
      rw [e2, e3, ← List.append_assoc, splice_at _ _ _ _ _ (by first | (simp; done) | (simp; omega)) (by simp)]
      simp
    · simp at q3 ⊢; omega
end Go.Proofs.YtfkhelihepbehaaGreat

/- tuple.Set at []string: Has, Below, At, Add, Drop, Copy. -/
namespace Go.Proofs.YtfkhelihepbehaaGreat
open Go.RowKit
set_option linter.unusedVariables false

section
variable {S : Nat → Prop} {w : World} {b : Nat} {ov iv : Value} {tail : List Value} {te : TypeId} {D : Option Addr × Nat × Nat → Prop} {c : Option Addr × Nat × Nat → Option Addr × Nat × Nat → Int} {zs : List (Option Addr × Nat × Nat)}

theorem setHasRow_nil (x : Value) (w : World) : Calls Tryz.prog 137 #[.pointer none, x] w (Ret (.bool false) w) := by
  go_enter Tryz.func137, Tryz.ntmps137
  go_wp2
  go_ret
  exact Ret.mk rfl
set_option maxRecDepth 100000 in
theorem setHasRow_any (O : OrdLaw c) (x : Option Addr × Nat × Nat) (hx : D x) (hs : Strict c zs) (h : SetAtRow Tryz.prog S w b ov iv tail te D c zs) :
    Calls Tryz.prog 137 #[.pointer (some ⟨b, 0, none⟩), (Value.slice (x).1 (x).2.1 (x).2.2)] w (RetF (fun _ => False) w fun w' v => v = .bool (isIn c zs x)) := by
  have HF := Lib.hid (setFindRow_any O x hx hs h); clear h
  go_enter Tryz.func137, Tryz.ntmps137
  go_wp2_with fail
  refine HF.out.mono ?_
  rintro e w1 ⟨v, rfl, hk, rfl⟩
  have HK := Lib.hid hk; clear hk
  go_wp2
  go_ret
  exact RetF.mk HK.out rfl
set_option maxRecDepth 100000 in
set_option maxHeartbeats 1000000 in
theorem setAddRow_any (O : OrdLaw c) (x : Option Addr × Nat × Nat) (hx : D x) (hs : Strict c zs) (h : SetAtRow Tryz.prog S w b ov iv tail te D c zs) (hl : zs.length + 1 ≤ 1048576 * 1048576) :
    Calls Tryz.prog 129 #[.pointer (some ⟨b, 0, none⟩), (Value.slice (x).1 (x).2.1 (x).2.2)] w
      (RetF (Owns b iv) w fun w' v => v = .bool (!isIn c zs x) ∧ ∃ iv', SetAtRow Tryz.prog S w' b ov iv' tail te D c (addS c zs x) ∧ ∀ k, iv'.ownBlock = some k → iv.ownBlock = some k ∨ w.heap.size ≤ k) := by
  have HF := Lib.hid (setFindRow_any O x hx hs h)
  have HH := Lib.hid h; clear h
  go_enter Tryz.func129, Tryz.ntmps129
  go_wp2_with fail
  refine HF.out.mono ?_
  rintro e w1 ⟨v, rfl, hk, rfl⟩
  have h1 := HH.out.ext hk
  have HK := Lib.hid hk; clear hk
  cases hin : isIn c zs x
  · obtain ⟨c1, c2⟩ := h1.cells
    have H1 := Lib.hid h1; clear h1
    go_wp2_with fail
    have hb := below_le (c := c) zs x
    have hbw : b < w1.heap.size := H1.out.blk.lt
    refine (insertRow_any (zs.map fun x => (Value.slice (x).1 (x).2.1 (x).2.2)) iv _ zs.length (below c zs x) ((Value.slice (x).1 (x).2.1 (x).2.2)) w1.heap.size 29 _ (by simp) (H1.out.row.alloc _) hb rfl (by intro u hu; obtain ⟨y, _, rfl⟩ := List.mem_map.1 hu; rfl) (Blk.new w1 [(Value.slice (x).1 (x).2.1 (x).2.2)] 29) (fun e => by
        have := H1.out.row
        obtain ⟨q1, ⟨q2, _⟩ | ⟨g, cap, rest, q2, _, q3, _⟩⟩ := this
        · rw [q2] at e; cases e
        · rw [q2] at e; have e' : g = w1.heap.size := Option.some.inj e
          have := q3.lt; omega) (by omega)).mono ?_
    rintro e w2 ⟨iv', rfl, hk2, hr⟩
    obtain ⟨ao', cap', eiv, _, _⟩ := hr.shape
    subst eiv
    have hk02 := ((Kp.refl (F := fun k => iv.ownBlock = some k) w1).alloc (.cells #[(Value.slice (x).1 (x).2.1 (x).2.2)] 29)).trans hk2
    have hB2 := H1.out.blk.kp hk02 H1.out.apart
    have f1 := hB2.free 1
    have d1 : w2.cell? ⟨b, 1, none⟩ = some iv := by rw [hB2.cell']; rfl
    have HR := Lib.hid (And.intro hk02 (And.intro hB2 hr))
    clear hk02 hB2 hr hk2 c1 c2
    go_wp2
    go_ret
    obtain ⟨hk02, hB2, hr⟩ := HR.out
    have h1 := H1.out
    have hz : addS c zs x = zs.take (below c zs x) ++ x :: zs.drop (below c zs x) := by unfold addS; rw [hin]; rfl
    have hlz : (addS c zs x).length = zs.length + 1 := by rw [addS_len, hin]; rfl
    have hown : ∀ k, (Value.slice ao' (zs.length + 1) cap').ownBlock = some k → iv.ownBlock = some k ∨ w.heap.size ≤ k := fun k hk => by
      rcases hr.block k hk with hh | hh
      · exact .inl hh
      · have := HK.out.size; simp only [alloc_size] at hh; exact .inr (by omega)
    have hownb : (Value.slice ao' (zs.length + 1) cap').ownBlock ≠ some b := fun hk => by
      rcases hr.block b hk with hh | hh
      · exact h1.apart hh
      · simp only [alloc_size] at hh; omega
    have hK : Kp (Owns b iv) w w2 := ((Ext.kp HK.out).trans (hk02.mono fun k _ hk => .inr hk))
    refine RetF.mk (hK.setCell (fun _ => .inl rfl) _) ⟨by rw [hin]; rfl, .slice ao' (zs.length + 1) cap', ?_, hown⟩
    refine setAtRow_store hB2 (M := fun _ => True) ?_ hownb (fun k hk => Nat.lt_of_lt_of_le (h1.inS k hk) hk02.size) (fun k hk hS => ?_) (h1.ord.same (hk02.same h1.inS fun k hk hk' => h1.notS k (.inr hk') hk)) (fun y hy => ?_) (by rw [hlz]; exact hl)
    · rw [hlz, hz]
      have := hr.mono (M' := fun _ => True) fun _ _ => trivial
      simpa using this
    · rcases hk with hk | hk
      · exact h1.notS k (.inl hk) hS
      · rcases hr.block k hk with hh | hh
        · exact h1.notS k (.inr hh) hS
        · have := h1.inS k hS; simp only [alloc_size] at hh; omega
    · rcases mem_addS.1 hy with hy | ⟨rfl, _⟩
      · exact h1.all y hy
      · exact hx
  · have H1 := Lib.hid h1; clear h1
    go_wp2
    go_ret
    have hz : addS c zs x = zs := by unfold addS; rw [hin]; rfl
    refine RetF.mk (Ext.kp HK.out) ⟨by rw [hin]; rfl, iv, ?_, fun k hk => .inl hk⟩
    rw [hz]; exact H1.out
set_option maxRecDepth 100000 in
set_option maxHeartbeats 1000000 in
theorem setDropRow_any (O : OrdLaw c) (x : Option Addr × Nat × Nat) (hx : D x) (hs : Strict c zs) (h : SetAtRow Tryz.prog S w b ov iv tail te D c zs) :
    Calls Tryz.prog 152 #[.pointer (some ⟨b, 0, none⟩), (Value.slice (x).1 (x).2.1 (x).2.2)] w
      (RetF (Owns b iv) w fun w' v => v = .bool (isIn c zs x) ∧ ∃ iv', SetAtRow Tryz.prog S w' b ov iv' tail te D c (dropS c zs x) ∧ iv'.ownBlock = iv.ownBlock) := by
  have HF := Lib.hid (setFindRow_any O x hx hs h)
  have HH := Lib.hid h; clear h
  go_enter Tryz.func152, Tryz.ntmps152
  go_wp2_with fail
  refine HF.out.mono ?_
  rintro e w1 ⟨v, rfl, hk, rfl⟩
  have h1 := HH.out.ext hk
  have HK := Lib.hid hk; clear hk
  cases hin : isIn c zs x
  · have H1 := Lib.hid h1; clear h1
    go_wp2
    go_ret
    have hz : dropS c zs x = zs := by unfold dropS; rw [hin]; rfl
    refine RetF.mk (Ext.kp HK.out) ⟨by rw [hin]; rfl, iv, ?_, rfl⟩
    rw [hz]; exact H1.out
  · obtain ⟨c1, c2⟩ := h1.cells
    have H1 := Lib.hid h1; clear h1
    have hb : below c zs x < zs.length := by
      obtain ⟨y, hy, _⟩ := (hs.there O x).1 hin
      exact (List.getElem?_eq_some_iff.1 hy).1
    have hlen := H1.out.len
    have hw1 : IntKind.i64.wrap (((below c zs x : Nat) : Int) + 1) = ((below c zs x : Nat) : Int) + 1 := IntWalk.i64_in _ (by omega)
    go_wp2_with fail
    refine (deleteRow_any (zs.map fun x => (Value.slice (x).1 (x).2.1 (x).2.2)) iv _ zs.length (below c zs x) w1 (by simp) H1.out.row hb (by intro u hu; obtain ⟨y, _, rfl⟩ := List.mem_map.1 hu; rfl) (by omega)).mono ?_
    rintro e w2 ⟨iv', rfl, hk2, hov, hr⟩
    obtain ⟨ao', cap', eiv, _, _⟩ := hr.shape
    subst eiv
    have hB2 := H1.out.blk.kp hk2 H1.out.apart
    have f1 := hB2.free 1
    have d1 : w2.cell? ⟨b, 1, none⟩ = some iv := by rw [hB2.cell']; rfl
    have HR := Lib.hid (And.intro hk2 (And.intro hB2 (And.intro hov hr)))
    clear hB2 hr hk2 hov c1 c2
    go_wp2
    go_ret
    obtain ⟨hk2, hB2, hov, hr⟩ := HR.out
    have h1 := H1.out
    have hz : dropS c zs x = zs.take (below c zs x) ++ zs.drop (below c zs x + 1) := by unfold dropS; rw [hin]; rfl
    have hlz : (dropS c zs x).length = zs.length - 1 := by rw [hz]; simp; omega
    have hK : Kp (Owns b iv) w w2 := (Ext.kp HK.out).trans (hk2.mono fun k _ hk => .inr hk)
    refine RetF.mk (hK.setCell (fun _ => .inl rfl) _) ⟨by rw [hin]; rfl, .slice ao' (zs.length - 1) cap', ?_, hov⟩
    refine setAtRow_store hB2 (M := fun _ => True) ?_ (by rw [hov]; exact h1.apart) (fun k hk => Nat.lt_of_lt_of_le (h1.inS k hk) hk2.size) (fun k hk hS => ?_) (h1.ord.same (hk2.same h1.inS fun k hk hk' => h1.notS k (.inr hk') hk)) (fun y hy => ?_) (by rw [hlz]; omega)
    · rw [hlz, hz]
      have := hr.mono (M' := fun _ => True) fun _ _ => trivial
      simpa using this
    · rcases hk with hk | hk
      · exact h1.notS k (.inl hk) hS
      · rw [hov] at hk; exact h1.notS k (.inr hk) hS
    · rw [hz] at hy
      rcases List.mem_append.1 hy with hy | hy
      · exact h1.all y (List.mem_of_mem_take hy)
      · exact h1.all y (List.mem_of_mem_drop hy)
end
end Go.Proofs.YtfkhelihepbehaaGreat

/- tuple.Set at []string: Copy, At, under: what makes sets out of sets. -/
namespace Go.Proofs.YtfkhelihepbehaaGreat
open Go.RowKit
set_option linter.unusedVariables false

/-- A set that a pointer names; nil: no items. -/
def PtrSetRow (P : Program) (S : Nat → Prop) (w : World) (v : Value) (zs : List (Option Addr × Nat × Nat)) : Prop :=
  (v = .pointer none ∧ zs = []) ∨ ∃ b ov iv tail te D c, v = .pointer (some ⟨b, 0, none⟩) ∧ SetAtRow P S w b ov iv tail te D c zs
theorem PtrSetRow.ext {P : Program} {S : Nat → Prop} {w w' : World} {v : Value} {zs : List (Option Addr × Nat × Nat)} (h : PtrSetRow P S w v zs) (hk : Ext w w') : PtrSetRow P S w' v zs := by
  rcases h with h | ⟨b, ov, iv, tail, te, D, c, h1, h2⟩
  · exact .inl h
  · exact .inr ⟨b, ov, iv, tail, te, D, c, h1, h2.ext hk⟩
theorem PtrSetRow.len {P : Program} {S : Nat → Prop} {w : World} {v : Value} {zs : List (Option Addr × Nat × Nat)} (h : PtrSetRow P S w v zs) : zs.length ≤ 1048576 * 1048576 := by
  rcases h with ⟨_, rfl⟩ | ⟨b, ov, iv, tail, te, D, c, h1, h2⟩
  · simp
  · exact h2.len

theorem setItemsRow_ptr {S : Nat → Prop} {w : World} {v : Value} {zs : List (Option Addr × Nat × Nat)} (h : PtrSetRow Tryz.prog S w v zs) :
    Calls Tryz.prog 146 #[v] w (RetN w fun w' r => Row w' 29 1 r zs.length (zs.map fun x => (Value.slice (x).1 (x).2.1 (x).2.2)) (New w)) := by
  rcases h with ⟨rfl, rfl⟩ | ⟨b, ov, iv, tail, te, D, c, rfl, h2⟩
  · refine (setItemsRow_nil w).mono ?_
    rintro e w' ⟨rfl, rfl⟩
    exact RetN.mk (Kp.refl _) (Row.nil _ _ _ _)
  · exact setItemsRow_any h2

theorem OrdVRow.form {P : Program} {S : Nat → Prop} {w0 : World} {ov : Value} {D : Option Addr × Nat × Nat → Prop} {c : Option Addr × Nat × Nat → Option Addr × Nat × Nat → Int} (h : OrdVRow P S w0 ov D c) : ov = .nilFunc ∨ ∃ f first cap, ov = .func f first cap := by
  rcases h with ⟨h, _⟩ | ⟨f, first, cap, h, _⟩
  · exact .inl h
  · exact .inr ⟨_, _, _, h⟩

theorem setAtRow_new {P : Program} {S : Nat → Prop} {w w1 : World} {ov iv : Value} {D : Option Addr × Nat × Nat → Prop} {c : Option Addr × Nat × Nat → Option Addr × Nat × Nat → Int} {zs : List (Option Addr × Nat × Nat)} {M : Nat → Prop} (ho : OrdVRow P S w ov D c) (hS : ∀ k, S k → k < w.heap.size) (hex : Ext w w1)
    (hr : Row w1 29 1 iv zs.length (zs.map fun x => (Value.slice (x).1 (x).2.1 (x).2.2)) M) (hD : ∀ x ∈ zs, D x) (hl : zs.length ≤ 1048576 * 1048576) (te : TypeId) (hM : ∀ k, M k → w.heap.size ≤ k := by exact fun k h => h) :
    SetAtRow P S (w1.alloc (.cells #[ov, iv] te)) w1.heap.size ov iv [] te D c zs := by
  refine ⟨Blk.new w1 [ov, iv] te, (hr.own).alloc _, fun h => by have := hr.lt _ h; omega, fun k h => Nat.lt_of_lt_of_le (hS k h) (hex.alloc _).size, fun k h hs => ?_, ho.same ((hex.alloc _).same hS fun _ _ => id), hD, hl⟩
  have h1 := hS k hs
  have h2 := hex.size
  rcases h with h | h
  · omega
  · have := hM k (hr.block k h); omega

section
variable {S : Nat → Prop} {w : World} {b : Nat} {ov iv : Value} {tail : List Value} {te : TypeId} {D : Option Addr × Nat × Nat → Prop} {c : Option Addr × Nat × Nat → Option Addr × Nat × Nat → Int} {zs : List (Option Addr × Nat × Nat)}

set_option maxRecDepth 100000 in
set_option maxHeartbeats 2000000 in
theorem setCopyRow_any (h : SetAtRow Tryz.prog S w b ov iv tail te D c zs) :
    Calls Tryz.prog 153 #[.pointer (some ⟨b, 0, none⟩)] w
      (RetN w fun w' v => ∃ b' iv', v = .pointer (some ⟨b', 0, none⟩) ∧ w.heap.size ≤ b' ∧ (∀ k, iv'.ownBlock = some k → w.heap.size ≤ k) ∧ SetAtRow Tryz.prog S w' b' ov iv' [] 96 D c zs) := by
  obtain ⟨c1, c2⟩ := h.cells
  obtain ⟨ao, cap, rfl, hc, _⟩ := h.row.shape
  have hform := h.ord.form
  have hl := h.len
  have HC := Lib.hid hc; clear hc
  have HH := Lib.hid h; clear h
  rcases hform with rfl | ⟨f1, first1, cap1, rfl⟩
  · go_enter Tryz.func153, Tryz.ntmps153
    go_wp2
    go_region_held3 (fun w' => w'.cell? ⟨b, 0, none⟩ = some .nilFunc ∧ w'.cell? ⟨b, 1, none⟩ = some (.slice ao zs.length cap)) (first | exact ⟨by assumption, by assumption⟩ | go_keep)
      (first | (go_at_call 168; refine (cloneRow_any (zs.map fun x => (Value.slice (x).1 (x).2.1 (x).2.2)) ao cap _ zs.length (by simp) (HC.out.drewN 1) (by intro u hu; obtain ⟨x, _, rfl⟩ := List.mem_map.1 hu; rfl) (by omega)).mono ?_; rintro e w1 ⟨v, rfl, hk, hr⟩; obtain ⟨ao1, cap2, ev, _, _⟩ := hr.shape; subst ev; have d1 := hk.cell c1 id; have d2 := hk.cell c2 id))
    go_wp2
    go_ret
    have hex : Ext w w1 := (Kp.refl w).drew.trans hk
    exact RetN.mk (hex.alloc _) ⟨w1.heap.size, .slice ao1 zs.length cap2, rfl, hex.size, (fun k hk' => hr.block k hk'), setAtRow_new HH.out.ord HH.out.inS hex hr HH.out.all hl _⟩
  · go_enter Tryz.func153, Tryz.ntmps153
    go_wp2
    go_region_held3 (fun w' => w'.cell? ⟨b, 0, none⟩ = some (.func f1 first1 cap1) ∧ w'.cell? ⟨b, 1, none⟩ = some (.slice ao zs.length cap)) (first | exact ⟨by assumption, by assumption⟩ | go_keep)
      (first | (go_at_call 168; refine (cloneRow_any (zs.map fun x => (Value.slice (x).1 (x).2.1 (x).2.2)) ao cap _ zs.length (by simp) (HC.out.drewN 1) (by intro u hu; obtain ⟨x, _, rfl⟩ := List.mem_map.1 hu; rfl) (by omega)).mono ?_; rintro e w1 ⟨v, rfl, hk, hr⟩; obtain ⟨ao1, cap2, ev, _, _⟩ := hr.shape; subst ev; have d1 := hk.cell c1 id; have d2 := hk.cell c2 id))
    go_wp2
    go_ret
    have hex : Ext w w1 := (Kp.refl w).drew.trans hk
    exact RetN.mk (hex.alloc _) ⟨w1.heap.size, .slice ao1 zs.length cap2, rfl, hex.size, (fun k hk' => hr.block k hk'), setAtRow_new HH.out.ord HH.out.inS hex hr HH.out.all hl _⟩

end
end Go.Proofs.YtfkhelihepbehaaGreat

/- tuple.Set at []string: pick, Minus, Meet, Same. -/
namespace Go.Proofs.YtfkhelihepbehaaGreat
open Go.RowKit
set_option linter.unusedVariables false

section
variable {S : Nat → Prop} {w : World} {b : Nat} {ov iv : Value} {tail : List Value} {te : TypeId} {D : Option Addr × Nat × Nat → Prop} {c : Option Addr × Nat × Nat → Option Addr × Nat × Nat → Int} {zs : List (Option Addr × Nat × Nat)}

end
end Go.Proofs.YtfkhelihepbehaaGreat

/- tuple.Set at []string: Minus, Meet, Same, Union. -/
namespace Go.Proofs.YtfkhelihepbehaaGreat
open Go.RowKit
set_option linter.unusedVariables false

section
variable {S : Nat → Prop} {w : World} {b : Nat} {ov iv : Value} {tail : List Value} {te : TypeId} {D : Option Addr × Nat × Nat → Prop} {c : Option Addr × Nat × Nat → Option Addr × Nat × Nat → Int} {zs : List (Option Addr × Nat × Nat)}

set_option maxRecDepth 100000 in
set_option maxHeartbeats 2000000 in
theorem setSameRow_any {vo : Value} {zs2 : List (Option Addr × Nat × Nat)} (h : SetAtRow Tryz.prog S w b ov iv tail te D c zs) (h2 : PtrSetRow Tryz.prog S w vo zs2) (hD : ∀ x ∈ zs2, D x) :
    Calls Tryz.prog 112 #[.pointer (some ⟨b, 0, none⟩), vo] w
      (RetF (fun _ => False) w fun w' v => ∃ r : Bool, v = .bool r ∧ (r = true ↔ zs.length = zs2.length ∧ ∀ (i : Nat) x y, zs[i]? = some x → zs2[i]? = some y → c x y = 0)) := by
  obtain ⟨c1, c2⟩ := h.cells
  obtain ⟨ao, cap, rfl, hc, _⟩ := h.row.shape
  have hl := h.len
  have hl2 := h2.len
  have hent : ∀ args w, (callFunc 149 args).run Tryz.prog w = .ok (.enter 149 args) w := enters_of Tryz.func149 (by kernel_rfl) rfl
  have HE := Lib.hid hent; clear hent
  have HC := Lib.hid hc; clear hc
  have HH := Lib.hid h; clear h
  have H2 := Lib.hid h2; clear h2
  have heq : ∀ w1, Ext w w1 → EqEachRow Tryz.prog 149 #[.pointer (some ⟨b, 0, none⟩)] #[] w1 (zs.map fun x => (Value.slice (x).1 (x).2.1 (x).2.2)) (zs2.map fun x => (Value.slice (x).1 (x).2.1 (x).2.2)) (fun i => decide (c (zs.getD i default) (zs2.getD i default) = 0)) := by
    intro w1 h1
    refine ⟨HE.out, fun w2 hw2 i u v hu hv => ?_⟩
    rw [List.getElem?_map] at hu hv
    cases hx : zs[i]? with
    | none => rw [hx] at hu; cases hu
    | some x =>
      cases hy : zs2[i]? with
      | none => rw [hy] at hv; cases hv
      | some y =>
        rw [hx] at hu; rw [hy] at hv
        have eu : u = (Value.slice (x).1 (x).2.1 (x).2.2) := by have := Option.some.inj hu; exact this.symm
        have ev : v = (Value.slice (y).1 (y).2.1 (y).2.2) := by have := Option.some.inj hv; exact this.symm
        subst eu ev
        have hh := HH.out.ext (h1.trans hw2)
        have e1 : zs.getD i default = x := by simp [List.getD, hx]
        have e2 : zs2.getD i default = y := by simp [List.getD, hy]
        simp only [e1, e2]
        exact setAlikeRow_any S w2 b ov _ te D c x y (HH.out.all x (List.mem_of_getElem? hx)) (hD y (List.mem_of_getElem? hy)) hh.blk hh.inS hh.ord
  have HEQ := Lib.hid heq; clear heq
  go_enter Tryz.func112, Tryz.ntmps112
  go_wp2
  go_region_held3 (fun w' => w'.cell? ⟨b, 1, none⟩ = some (.slice ao zs.length cap)) (first | assumption | go_keep)
    (first
      | (go_at_call 146; refine (setItemsRow_ptr (H2.out.ext (Kp.refl w).drew)).mono ?_; rintro e w1 ⟨v, rfl, hk, hr⟩; obtain ⟨ao1, cap2, ev, hcc, _⟩ := hr.shape; subst ev; have d1 := hk.cell c2 id; have hex : Ext w w1 := (Kp.refl w).drew.trans hk)
      | (go_at_call 148; refine (equalFuncRow_any (zs.map fun x => (Value.slice (x).1 (x).2.1 (x).2.2)) (zs2.map fun x => (Value.slice (x).1 (x).2.1 (x).2.2)) ao ao1 cap cap2 _ _ _ _ _ zs.length zs2.length (by simp) (by simp) (HC.out.ext hex) hcc (HEQ.out _ hex) (by omega) (by omega)).mono ?_; rintro e w2 ⟨v2, rfl, hk2, r, rfl, hr2⟩; have d2 := hk2.cell d1 id))
  all_goals
    go_wp2
    go_ret
    refine RetF.mk (hex.trans hk2) ⟨r, rfl, ?_⟩
    rw [hr2]
    refine and_congr_right fun hlen => ⟨fun H i x y hx hy => ?_, fun H i hi => ?_⟩
    · have hi := (List.getElem?_eq_some_iff.1 hx).1
      have := of_decide_eq_true (H i hi)
      rw [show zs.getD i default = x by simp [List.getD, hx], show zs2.getD i default = y by simp [List.getD, hy]] at this
      exact this
    · have g1 : zs[i]? = some (zs[i]'hi) := List.getElem?_eq_getElem _
      have g2 : zs2[i]? = some (zs2[i]'(by omega)) := List.getElem?_eq_getElem _
      have := H i _ _ g1 g2
      rw [show zs.getD i default = zs[i] by simp [List.getD, g1], show zs2.getD i default = zs2[i]'(by omega) by simp [List.getD, g2]]
      exact decide_eq_true this
set_option maxRecDepth 100000 in
set_option maxHeartbeats 2000000 in
theorem setUnionRow_any (O : OrdLaw c) {vo : Value} {zs2 : List (Option Addr × Nat × Nat)} (h : SetAtRow Tryz.prog S w b ov iv tail te D c zs) (h2 : PtrSetRow Tryz.prog S w vo zs2) (hD : ∀ x ∈ zs2, D x) (hll : zs.length + zs2.length ≤ 1048576 * 1048576) :
    Calls Tryz.prog 155 #[.pointer (some ⟨b, 0, none⟩), vo] w
      (RetN w fun w' v => ∃ b' iv', v = .pointer (some ⟨b', 0, none⟩) ∧ w.heap.size ≤ b' ∧ (∀ k, iv'.ownBlock = some k → w.heap.size ≤ k) ∧ SetAtRow Tryz.prog S w' b' ov iv' [] 96 D c (newS c (zs ++ zs2))) := by
  obtain ⟨c1, c2⟩ := h.cells
  obtain ⟨ao, cap, rfl, hc, _⟩ := h.row.shape
  have HC := Lib.hid hc; clear hc
  have HH := Lib.hid h; clear h
  have H2 := Lib.hid h2; clear h2
  have one : ∀ (l : List (Option Addr × Nat × Nat)), ∀ u ∈ l.map (fun x => (Value.slice (x).1 (x).2.1 (x).2.2)), u.oneCell' = true := by intro l u hu; obtain ⟨x, _, rfl⟩ := List.mem_map.1 hu; rfl
  have ONE := Lib.hid one; clear one
  have conc : ∀ (w1 : World) (ao1 : Option Addr) (cap2 : Nat), Ext w w1 → CellsAt w1 ao1 (zs2.map fun x => (Value.slice (x).1 (x).2.1 (x).2.2)) →
      Calls Tryz.prog 172 #[.slice (some ⟨w1.heap.size, 0, none⟩) 2 2] (w1.alloc (.cells #[.slice ao zs.length cap, .slice ao1 zs2.length cap2] 22))
        (RetN (w1.alloc (.cells #[.slice ao zs.length cap, .slice ao1 zs2.length cap2] 22)) fun w' v => ∃ ao3 cap3, v = .slice ao3 (zs.length + zs2.length) cap3 ∧ CellsAt w' ao3 ((zs ++ zs2).map fun x => (Value.slice (x).1 (x).2.1 (x).2.2))) := by
    intro w1 ao1 cap2 h1 hc1
    have hcs : CellsAt (w1.alloc (.cells #[.slice ao zs.length cap, .slice ao1 zs2.length cap2] 22)) (some ⟨w1.heap.size, 0, none⟩) (partsRow [(ao, cap, zs.map fun x => (Value.slice (x).1 (x).2.1 (x).2.2)), (ao1, cap2, zs2.map fun x => (Value.slice (x).1 (x).2.1 (x).2.2))]) := by
      have := CellsAt.two w1 (.slice ao zs.length cap) (.slice ao1 zs2.length cap2) 22
      simpa [partsRow] using this
    have ht : totalRow [(ao, cap, zs.map fun x => (Value.slice (x).1 (x).2.1 (x).2.2)), (ao1, cap2, zs2.map fun x => (Value.slice (x).1 (x).2.1 (x).2.2))] = zs.length + zs2.length := by simp [totalRow]
    refine (concatRow_any [(ao, cap, zs.map fun x => (Value.slice (x).1 (x).2.1 (x).2.2)), (ao1, cap2, zs2.map fun x => (Value.slice (x).1 (x).2.1 (x).2.2))] _ 2 _ 2 rfl hcs ?_ (by rw [ht]; omega) (by omega)).mono ?_
    · intro q hq
      rcases List.mem_cons.1 hq with rfl | hq
      · exact ⟨(HC.out.ext h1).alloc _, ONE.out zs⟩
      · rcases List.mem_cons.1 hq with rfl | hq
        · exact ⟨hc1.alloc _, ONE.out zs2⟩
        · cases hq
    · rintro e w2 ⟨v, rfl, hk, hr⟩
      obtain ⟨ao3, cap3, ev, hcc, _⟩ := hr.shape
      refine RetN.mk hk ⟨ao3, cap3, by rw [ev, ht], ?_⟩
      simpa using hcc
  have HCONC := Lib.hid conc; clear conc
  go_enter Tryz.func155, Tryz.ntmps155
  go_wp2
  go_region_held3 (fun w' => w'.cell? ⟨b, 0, none⟩ = some ov ∧ w'.cell? ⟨b, 1, none⟩ = some (.slice ao zs.length cap)) (first | exact ⟨by assumption, by assumption⟩ | go_keep)
    (first
      | (go_at_call 146; refine (setItemsRow_ptr (H2.out.ext (Kp.refl w).drew)).mono ?_; rintro e w1 ⟨v, rfl, hk, hr⟩; obtain ⟨ao1, cap2, ev, hcc, _⟩ := hr.shape; subst ev; have d1 := hk.cell c1 id; have d2 := hk.cell c2 id; have hex : Ext w w1 := (Kp.refl w).drew.trans hk)
      | (go_at_call 172; refine (HCONC.out w1 ao1 cap2 hex hcc).mono ?_; rintro e w2 ⟨v2, rfl, hk2, ao3, cap3, rfl, hcc3⟩; have hex2 := (hex.alloc (.cells #[.slice ao zs.length cap, .slice ao1 zs2.length cap2] 22)).trans hk2; have e1 := hex2.cell c1 id; have e2 := hex2.cell c2 id)
      | (go_at_call 171; refine (newSetRow_any S _ ov ao3 (zs.length + zs2.length) cap3 D c O (zs ++ zs2) (by simp) hcc3 (fun k hk => Nat.lt_of_lt_of_le (HH.out.inS k hk) hex2.size) (HH.out.ord.same (hex2.same HH.out.inS fun _ _ => id)) (by intro x hx; rcases List.mem_append.1 hx with hx | hx; exact HH.out.all x hx; exact hD x hx) hll).mono ?_; rintro e w3 ⟨v3, rfl, hk3, b', iv', rfl, hb', hiv', hset⟩; have g1 := hk3.cell e1 id; have g2 := hk3.cell e2 id))
  all_goals
    go_wp2
    go_ret
    exact RetN.mk (hex2.trans hk3) ⟨b', iv', rfl, Nat.le_trans hex2.size hb', fun k h => Nat.le_trans hex2.size (hiv' k h), hset⟩
end
end Go.Proofs.YtfkhelihepbehaaGreat

/- tuple.Set at []string: At, Each. -/
namespace Go.Proofs.YtfkhelihepbehaaGreat
open Go.RowKit
set_option linter.unusedVariables false

section
variable {S : Nat → Prop} {w : World} {b : Nat} {ov iv : Value} {tail : List Value} {te : TypeId} {D : Option Addr × Nat × Nat → Prop} {c : Option Addr × Nat × Nat → Option Addr × Nat × Nat → Int} {zs : List (Option Addr × Nat × Nat)}

end
end Go.Proofs.YtfkhelihepbehaaGreat

/- slices.Values at [][]string: the iterator keeps its contract; tuple.Set's Each. -/
namespace Go.Proofs.YtfkhelihepbehaaGreat
open Go.RowKit Go.Shelf
set_option linter.unusedVariables false
attribute [local go_sem] Oper.semAt_some

set_option maxHeartbeats 1000000 in
theorem valuesRow_any (ao : Option Addr) (len cap : Nat) (w : World) :
    Calls Tryz.prog 145 #[.slice ao len cap] w (RetN w fun w' v => v = .func (.func 167) #[] #[.pointer (some ⟨w.heap.size, 0, none⟩)] ∧ w' = w.alloc (.cells #[.slice ao len cap] 22)) := by
  go_enter Tryz.func145, Tryz.ntmps145
  go_wp2
  go_ret
  exact RetN.mk ((Kp.refl w).alloc _) ⟨rfl, rfl⟩

/-- An iterator over these items: a box that holds a slice of them, both since M. -/
def IterRow (w : World) (v : Value) (zs : List (Option Addr × Nat × Nat)) (lo : Nat) : Prop :=
  ∃ Bs ao cap, v = .func (.func 167) #[] #[.pointer (some ⟨Bs, 0, none⟩)] ∧ lo ≤ Bs ∧ (∀ a, ao = some a → lo ≤ a.block ∧ a.block < w.heap.size) ∧ w.cell? ⟨Bs, 0, none⟩ = some (.slice ao zs.length cap) ∧ CellsAt w ao (zs.map fun x => (Value.slice (x).1 (x).2.1 (x).2.2)) ∧ zs.length ≤ 1048576 * 1048576
set_option maxRecDepth 100000 in
set_option maxHeartbeats 1000000 in
theorem setEachRow_ptr {S : Nat → Prop} {w : World} {v : Value} {zs : List (Option Addr × Nat × Nat)} (h : PtrSetRow Tryz.prog S w v zs) :
    Calls Tryz.prog 111 #[v] w (RetN w fun w' r => IterRow w' r zs w.heap.size) := by
  have hl := h.len
  have HI := Lib.hid (setItemsRow_ptr h); clear h
  go_enter Tryz.func111, Tryz.ntmps111
  go_wp2_with fail
  refine HI.out.mono ?_
  rintro e w1 ⟨v1, rfl, hk, hr⟩
  have hb1 := hr.block
  have hlt := hr.lt
  obtain ⟨ao, cap, ev, hc, _⟩ := hr.shape
  subst ev
  have HK := Lib.hid (And.intro hk hc); clear hk hr hc
  go_wp2_with fail
  refine (valuesRow_any ao zs.length cap w1).mono ?_
  rintro e w2 ⟨v2, rfl, hk2, rfl, ew⟩
  have HK2 := Lib.hid (And.intro hk2 ew); clear hk2 ew
  go_wp2
  go_ret
  have hsz := HK.out.1.size
  refine RetN.mk (HK.out.1.trans HK2.out.1) ⟨w1.heap.size, ao, cap, rfl, hsz, fun a e => ?_, ?_, HK.out.2.ext HK2.out.1, hl⟩
  · subst e
    have h1 := hb1 a.block rfl
    have h2 := hlt a.block rfl
    exact ⟨h1, Nat.lt_of_lt_of_le h2 HK2.out.1.size⟩
  · rw [HK2.out.2]; exact (Blk.new w1 [Value.slice ao zs.length cap] 22).cell' 0
end Go.Proofs.YtfkhelihepbehaaGreat

/- slices.Values at [][]string, for elements of any type that stand for values: the iterator keeps its contract. -/
namespace Go.Proofs.YtfkhelihepbehaaGreat
open Go.RowKit Go.Shelf
set_option linter.unusedVariables false
attribute [local go_sem] Oper.semAt_some

set_option maxRecDepth 100000 in
set_option maxHeartbeats 2000000 in
theorem values1VRow_in {α : Type} (f : α → Value) (F : Fence) (n : Nat) (h7 : F.fn 167) (hro : F.round = none) (hn : 1 ≤ n) (S : Nat → Prop) (l Bs : Nat) (ao : Option Addr) (m cap : Nat) (zs : List α) (hm : m = zs.length) (hreach : m ≤ 1048576 * 1048576) (J Jx : List α → World → Prop)
    (hY : ∀ pre x W, J pre W → pre.length < zs.length → YieldAt F (n - 1) Tryz.prog l #[f x] W fun e W' =>
      (e = .returned (.bool true) ∧ J (pre ++ [x]) W' ∧ SameOn S W W') ∨ (e = .returned (.bool false) ∧ Jx (pre ++ [x]) W'))
    (W : World) (hSB : S Bs) (hSa : ∀ a, ao = some a → S a.block) (hBs : W.cell? ⟨Bs, 0, none⟩ = some (.slice ao m cap)) (hc : CellsAt W ao (zs.map fun x => f x)) (h0 : J [] W) :
    CallsIn F n Tryz.prog 167 #[.func (.yield l) #[] #[], .pointer (some ⟨Bs, 0, none⟩)] W fun e W' => (∃ v, e = .returned v) ∧
      ((∃ ys, ys = zs ∧ J ys W') ∨ (∃ pre, pre <+: zs ∧ Jx pre W')) := by
  have HC := Lib.hid hc; have HM := Lib.hid hm; clear hc hm
  refine callsIn_of_wp Tryz.func167 rfl h7 ?_ hro
  simp only [Tryz.ntmps167, List.size_toArray, List.length_cons, List.length_nil, Nat.reduceAdd, Nat.reduceSub, Array.replicate_succ, Array.replicate_zero, List.push_toArray, List.append_toArray, List.nil_append, List.cons_append]
  gi_wp2
  gi_loopw [7] (fun i wr => ∃ k : Nat, k ≤ m ∧ i = .int .i64 k ∧ J (zs.take k) wr ∧ SameOn S W wr)
    (fun i _ => m - (intOf i).toNat)
  case atStart => exact ⟨0, Nat.zero_le _, rfl, h0, SameOn.refl _ _⟩
  case round =>
    obtain ⟨k, hk, rfl, hJs, hnx⟩ := hrel
    by_cases hlt : k < m
    · have hkl : k < zs.length := by rw [← HM.out]; exact hlt
      obtain ⟨x, hx⟩ : ∃ x, zs[k]? = some x := ⟨_, List.getElem?_eq_getElem hkl⟩
      obtain ⟨g, o, eao, c3⟩ := HC.out k (f x) (by rw [List.getElem?_map, hx]; rfl)
      have c3' := (hnx.cell (o := o + k) (hSa _ eao)).trans c3
      have et : zs.take (k + 1) = zs.take k ++ [x] := by rw [List.take_add_one, hx]; rfl
      have ET := Lib.hid et
      have hy0 := hY _ x wr hJs (by rw [List.length_take]; omega)
      have HX := Lib.hid (And.intro hx hkl)
      clear hx hkl et c3
      subst eao
      obtain ⟨fn, tmps, assign, body, hy, hR⟩ := hy0
      gi_wp2
      refine hR.mono ?_
      rintro e W3 (⟨rfl, hJ3, hk3⟩ | ⟨rfl, hJx3⟩)
      · gi_wp2
        go_roundw
        case rel => exact ⟨k + 1, by omega, by simp, by rw [ET.out]; exact hJ3, hnx.trans hk3⟩
        case measure => first | (simp [intOf]; done) | (simp [intOf]; omega)
      · gi_wp2
        refine bodyPost_ret (results_none rfl _ _ _) rfl ?_
        exact ⟨⟨_, rfl⟩, .inr ⟨_, by rw [← ET.out]; exact List.take_prefix _ _, hJx3⟩⟩
    · obtain rfl : k = m := by omega
      gi_wp2
      go_end0
      exact ⟨⟨_, rfl⟩, .inl ⟨_, by rw [HM.out, List.take_length], hJs⟩⟩

/-- An iterator over these items: a box that holds a slice of them, both since M. -/
def IterVRow (w : World) (v : Value) {α : Type} (f : α → Value) (zs : List α) (lo : Nat) : Prop :=
  ∃ Bs ao cap, v = .func (.func 167) #[] #[.pointer (some ⟨Bs, 0, none⟩)] ∧ lo ≤ Bs ∧ (∀ a, ao = some a → lo ≤ a.block ∧ a.block < w.heap.size) ∧ w.cell? ⟨Bs, 0, none⟩ = some (.slice ao zs.length cap) ∧ CellsAt w ao (zs.map fun x => f x) ∧ zs.length ≤ 1048576 * 1048576
/-- The iterator keeps its contract: all the items, in order; or a beginning of them. -/
theorem IterVRow.stops {w : World} {v : Value} {α : Type} {f : α → Value} {zs : List α} {lo : Nat} (h : IterVRow w v f zs lo) (F : Fence) (n : Nat) (h7 : F.fn 167) (hro : F.round = none) (hn : 1 ≤ n) :
    ∃ Bs, v = .func (.func 167) #[] #[.pointer (some ⟨Bs, 0, none⟩)] ∧ SeqStopsK F n Tryz.prog 167 #[.pointer (some ⟨Bs, 0, none⟩)] (fun x => #[f x]) (SameOn fun k => lo ≤ k ∧ k < w.heap.size) (fun ys => ys = zs) (fun pre => pre <+: zs) zs.length w := by
  obtain ⟨Bs, ao, cap, h1, h2, h3, h4, h5, h6⟩ := h
  refine ⟨Bs, h1, fun l J Jx W hW _ _ hY h0 => ?_⟩
  have hb := World.block_lt_of_cell? _ _ h4
  exact values1VRow_in f F n h7 hro hn _ l Bs ao zs.length cap zs rfl h6 J Jx hY W ⟨h2, hb⟩ (fun a e => h3 a e) ((Kp.of_below hW).cell h4 id) (h5.ext (Kp.of_below hW)) h0

/-- The same items, each with what is known of it. -/
theorem IterRow.sub {w : World} {v : Value} {zs : List (Option Addr × Nat × Nat)} {lo : Nat} (h : IterRow w v zs lo) : IterVRow w v (fun x : { x // x ∈ zs } => (Value.slice (x.1).1 (x.1).2.1 (x.1).2.2)) zs.attach lo := by
  obtain ⟨Bs, ao, cap, h1, h2, h3, h4, h5, h6⟩ := h
  refine ⟨Bs, ao, cap, h1, h2, h3, by rw [List.length_attach]; exact h4, ?_, by rw [List.length_attach]; exact h6⟩
  have e : (zs.attach.map fun x : { x // x ∈ zs } => (Value.slice (x.1).1 (x.1).2.1 (x.1).2.2)) = zs.map fun x => (Value.slice (x).1 (x).2.1 (x).2.2) := by
    have h : (zs.attach.map fun x : { x // x ∈ zs } => (Value.slice (x.1).1 (x.1).2.1 (x.1).2.2)) = (zs.attach.map Subtype.val).map fun x => (Value.slice (x).1 (x).2.1 (x).2.2) := by rw [List.map_map]; rfl
    rw [h, List.attach_map_subtype_val]
  rw [e]; exact h5
end Go.Proofs.YtfkhelihepbehaaGreat

/- slices.BinarySearchFunc at string, slices.Clone, slices.EqualFunc. -/
namespace Go.Proofs.YtfkhelihepbehaaGreat
open Go.RowKit
set_option linter.unusedVariables false

theorem elemStr : ElemT Tryz.prog 29 9 1 16 (.string ⟨#[]⟩) := ⟨by kernel_rfl, by kernel_rfl, rfl, by decide⟩

end Go.Proofs.YtfkhelihepbehaaGreat

/- slices.IndexFunc, ContainsFunc at string. -/
namespace Go.Proofs.YtfkhelihepbehaaGreat
open Go.RowKit
set_option linter.unusedVariables false

/-- A function that tells of each element. -/
def TellEachStr (P : Program) (f : FuncId) (first captured : Array Value) (w0 : World) (vs : List Value) (q : Nat → Bool) : Prop :=
  (∀ args w, (callFunc f args).run P w = .ok (Next.enter f args) w) ∧ ∀ w, Ext w0 w → ∀ i u, vs[i]? = some u → Calls P f (first.push u ++ captured) w fun e w' => e = .returned (.bool (q i)) ∧ Ext w w'
/-- Between two rounds: none so far. -/
def NoneAtStr (n : Nat) (q : Nat → Bool) (w0 : World) (iv : Value) (w : World) : Prop :=
  ∃ i : Nat, i ≤ n ∧ iv = .int .i64 i ∧ (∀ j, j < i → q j = false) ∧ Ext w0 w
/-- The first place at which it holds; none: -1. -/
def FirstIsStr (n : Nat) (q : Nat → Bool) (v : Value) : Prop := (∃ i : Nat, i < n ∧ v = .int .i64 i ∧ q i = true ∧ ∀ j, j < i → q j = false) ∨ (v = .int .i64 (-1) ∧ ∀ j, j < n → q j = false)

set_option maxRecDepth 100000 in
set_option maxHeartbeats 2000000 in
theorem indexFuncStr_any (vs : List Value) (ao : Option Addr) (c : Nat) (f : FuncId) (first captured : Array Value) (q : Nat → Bool) (w : World) (n : Nat) (hn : n = vs.length)
    (ha : CellsAt w ao vs) (hcmp : TellEachStr Tryz.prog f first captured w vs q) (hbig : n ≤ 4611686018427387904) :
    Calls Tryz.prog 161 #[.slice ao n c, .func (Fn.func f) first captured] w (RetN w fun w' v => FirstIsStr n q v) := by
  have hent := hcmp.1
  have HC := Lib.hid hcmp.2; clear hcmp
  have HA := Lib.hid ha; clear ha
  have HN := Lib.hid hn; clear hn
  go_enter Tryz.func161, Tryz.ntmps161
  go_wp2
  go_loopw [8] (NoneAtStr n q w) (fun i _ => n - (intOf i).toNat)
  case atStart => exact ⟨0, Nat.zero_le _, rfl, by simp, Kp.refl _⟩
  case round =>
    obtain ⟨i, hi, rfl, hq, hkp⟩ := hrel
    have HQ := Lib.hid hq; clear hq
    by_cases hlt : i < n
    · have g1 : vs[i]? = some (vs[i]'(by have := HN.out; omega)) := List.getElem?_eq_getElem _
      obtain ⟨b1, o1, eao, c1⟩ := (HA.out.ext hkp) i _ g1
      have hcall := fun W hW => HC.out W hW i _ g1
      have HCall := Lib.hid hcall; clear hcall
      clear g1
      generalize vs[i]'(by have := HN.out; omega) = u at *
      subst eao
      cases hqi : q i
      · rw [hqi] at HCall
        have HI := Lib.hid hqi; clear hqi
        go_wp2_with fail
        refine (HCall.out _ hkp).mono ?_
        rintro e w1 ⟨rfl, hk2⟩
        have hkp2 := hkp.ext hk2
        clear hk2 c1
        go_wp2
        go_roundw
        case rel =>
          refine ⟨i + 1, by omega, by first | rfl | (congr 1; done) | (congr 1; omega), fun j hj => ?_, hkp2⟩
          by_cases e : j = i
          · subst e; exact HI.out
          · exact HQ.out j (by omega)
        case measure => first | (simp [intOf]; done) | (simp [intOf]; omega)
      · rw [hqi] at HCall
        have HI := Lib.hid hqi; clear hqi
        go_wp2_with fail
        refine (HCall.out _ hkp).mono ?_
        rintro e w1 ⟨rfl, hk2⟩
        have hkp2 := hkp.ext hk2
        clear hk2 c1
        go_wp2
        go_ret
        exact RetN.mk hkp2 (.inl ⟨i, hlt, rfl, HI.out, HQ.out⟩)
    · have e : n = i := by omega
      subst e
      clear hlt hi
      go_wp2
      go_ret
      exact RetN.mk hkp (.inr ⟨rfl, HQ.out⟩)

theorem containsFuncStr_any (vs : List Value) (ao : Option Addr) (c : Nat) (f : FuncId) (first captured : Array Value) (q : Nat → Bool) (w : World) (n : Nat) (hn : n = vs.length)
    (ha : CellsAt w ao vs) (hcmp : TellEachStr Tryz.prog f first captured w vs q) (hbig : n ≤ 4611686018427387904) :
    Calls Tryz.prog 135 #[.slice ao n c, .func (Fn.func f) first captured] w (RetN w fun w' v => v = .bool ((List.range n).any q)) := by
  have HI := Lib.hid (indexFuncStr_any vs ao c f first captured q w n hn ha hcmp hbig); clear ha hcmp hn
  go_enter Tryz.func135, Tryz.ntmps135
  go_wp2_with fail
  refine HI.out.mono ?_
  rintro e w1 ⟨v, rfl, hk, ⟨i, hi, rfl, hq, _⟩ | ⟨rfl, hq⟩⟩
  · have t : (List.range n).any q = true := List.any_eq_true.2 ⟨i, List.mem_range.2 hi, hq⟩
    have HK := Lib.hid (And.intro hk t); clear hk hq t
    go_wp2
    go_ret
    exact RetN.mk HK.out.1 (by rw [HK.out.2]; first | rfl | simp)
  · have t : (List.range n).any q = false := by
      rw [List.any_eq_false]
      intro i hi
      simp [hq i (List.mem_range.1 hi)]
    have HK := Lib.hid (And.intro hk t); clear hk hq t
    go_wp2
    go_ret
    exact RetN.mk HK.out.1 (by rw [HK.out.2]; first | rfl | simp)
end Go.Proofs.YtfkhelihepbehaaGreat

/- slices.Clone, EqualFunc, Grow, Concat at string. -/
namespace Go.Proofs.YtfkhelihepbehaaGreat
open Go.RowKit
set_option linter.unusedVariables false

theorem cloneStr_any (vs : List Value) (ao : Option Addr) (cap : Nat) (w : World) (n : Nat) (hn : n = vs.length) (hc : CellsAt w ao vs) (h1 : ∀ u ∈ vs, u.oneCell' = true) (hm : n * 16 ≤ 140737488355328) :
    Calls Tryz.prog 49 #[.slice ao n cap] w (RetN w fun w' v => Row w' 9 1 v n vs (New w)) := by
  have hq : ∀ w : World, (binOp .eql 29 (.slice ao n cap) (.slice none 0 0)).run Tryz.prog w = .ok (.bool ao.isNone) w := fun w => Lib.run_eql_slice_nil w _ _ _ _ _ _ _ Tryz.underlying29
  have HNN := Lib.hid hn; clear hn
  have hl : n ≤ maxLen := by unfold maxLen; omega
  cases ao with
  | none =>
    have hv : vs = [] := by
      cases vs with
      | nil => rfl
      | cons x vs => obtain ⟨b, o, h, _⟩ := hc.off (by simp); cases h
    subst hv
    have h0 : n = 0 := HNN.out
    subst h0
    go_enter Tryz.func49, Tryz.ntmps49
    go_wp2
    go_ret
    exact RetN.mk (Kp.refl _) (Row.nil _ _ _ _)
  | some a =>
    go_enter Tryz.func49, Tryz.ntmps49
    go_wp2_with (first | (at_builtin; refine Halted.out ?_))
    refine Halted.mk (wp_appN elemStr rfl _ _ rfl ((Kp.refl (F := fun _ => False) w).alloc _) rfl (Row.empty w 9 1 (New w) (Nat.le_refl _)) rfl (hc.alloc _) (by rw [HNN.out, Nat.mul_one]) h1 (by omega) (by omega) ?_)
    intro v1 w1 hr1 hk1 _ _
    have HR := Lib.hid hr1; clear hr1
    go_wp2
    go_ret
    exact RetN.mk hk1 (by simpa using HR.out)

end Go.Proofs.YtfkhelihepbehaaGreat
