/- slices.symMergeCmpFunc at int, the great case. -/
import Derived.Test.YtfkhelihepbehaaSymLInt
import Derived.Test.YtfkhelihepbehaaSymInt
import Derived.Deep.DeepCutAuto
import Derived.Deep.RegionWith
namespace Go.Proofs.Ytfkhelihepbehaa
open Go.RowKit
set_option linter.unusedVariables false

/-- The search of the merge's cut, between two rounds. -/
def CutSearchInt (c : Nat → Nat → Int) (D : List Nat) (P lo hi : Nat) (w0 : World) (g : Nat) (cells : List Value) (e : TypeId) (iv jv : Value) (w : World) : Prop :=
  Search lo hi (fun t => ¬ c (D.getD (P - t) 0) (D.getD t 0) < 0) (fun t => c (D.getD (P - t) 0) (D.getD t 0) < 0) (fun k => k = g) w0 g cells e iv jv w
/-- What a row's block holds, the rest as it was. -/
def RowIsInt (w0 : World) (g : Nat) (e : TypeId) (cells : List Value) (w : World) : Prop := Kp (fun k => k = g) w0 w ∧ Blk w g cells e

/-- A stretch of the row has been put in its order. -/
def PartIsInt (c : Nat → Nat → Int) (w0 : World) (g : Nat) (e : TypeId) (S : List Nat) (cells : List Nat → List Value) (w : World) : Prop := ∃ C, C.Perm S ∧ Sorted c C ∧ RowIsInt w0 g e (cells C) w

/-- What the merge of two sorted neighbours does. -/
def SymOKInt (P : Program) (z : Nat → Int) (g n cap N : Nat) (rest : List Value) (f : FuncId) (first captured : Array Value) (c : Nat → Nat → Int) (w0 : World) (k : Nat) : Prop :=
  ∀ (w : World) (p A B q : List Nat), A.length + B.length ≤ k → A ≠ [] → B ≠ [] → Kp (fun k => k = g) w0 w → (∀ i ∈ p ++ A ++ B ++ q, i < N) → Sorted c A → Sorted c B → (∀ u ∈ A, ∀ v ∈ B, u < v) →
    (p ++ A ++ B ++ q).length = n → Blk w g ((p ++ A ++ B ++ q).map (valInt z) ++ rest) 3 → ∀ a m b : Nat, a = p.length → m = p.length + A.length → b = p.length + A.length + B.length →
    Calls P 122 #[.slice (some ⟨g, 0, none⟩) n cap, .int .i64 a, .int .i64 m, .int .i64 b, .func (Fn.func f) first captured] w
      (RetF (fun k => k = g) w0 fun w' v => v = .tuple #[] ∧ ∃ C, C.Perm (A ++ B) ∧ Sorted c C ∧ Blk w' g ((p ++ C ++ q).map (valInt z) ++ rest) 3)

set_option maxRecDepth 100000 in
set_option maxHeartbeats 4000000 in
theorem symMergeInt_great (z : Nat → Int) (g n cap N : Nat) (rest : List Value) (f : FuncId) (first captured : Array Value) (c : Nat → Nat → Int) (L : CmpLaw c) (w0 w : World)
    (hcmp : CmpOn Try.prog f first captured g N w0 (valInt z) c) (hm : n ≤ 4611686018427387904) (hk0 : Kp (fun k => k = g) w0 w) (p A B q : List Nat) (hA2 : 2 ≤ A.length) (hB2 : 2 ≤ B.length)
    (ih : SymOKInt Try.prog z g n cap N rest f first captured c w0 (A.length + B.length - 1)) (hN : ∀ i ∈ p ++ A ++ B ++ q, i < N) (hsA : Sorted c A) (hsB : Sorted c B) (hlr : ∀ u ∈ A, ∀ v ∈ B, u < v)
    (hn : (p ++ A ++ B ++ q).length = n) (hB : Blk w g ((p ++ A ++ B ++ q).map (valInt z) ++ rest) 3) (a m b : Nat) (ea : a = p.length) (em : m = a + A.length) (eb : b = m + B.length) :
    Calls Try.prog 122 #[.slice (some ⟨g, 0, none⟩) n cap, .int .i64 a, .int .i64 m, .int .i64 b, .func (Fn.func f) first captured] w
      (RetF (fun k => k = g) w0 fun w' v => v = .tuple #[] ∧ ∃ C, C.Perm (A ++ B) ∧ Sorted c C ∧ Blk w' g ((p ++ C ++ q).map (valInt z) ++ rest) 3) := by
  have b1 : a + 1 < m := by omega
  have b2 : b ≤ n := by simp at hn; omega
  have b3 : m + 1 < b := by omega
  obtain ⟨mid, emid⟩ : ∃ mid, mid = (a + b) / 2 := ⟨_, rfl⟩
  obtain ⟨lo, hi, hc⟩ : ∃ lo hi, (mid < m ∧ lo = mid + m - b ∧ hi = mid) ∨ (m ≤ mid ∧ lo = a ∧ hi = m) := by
    by_cases h : mid < m
    · exact ⟨_, _, .inl ⟨h, rfl, rfl⟩⟩
    · exact ⟨_, _, .inr ⟨by omega, rfl, rfl⟩⟩
  have rmid : ((a : Int) + b) / 2 = (mid : Int) := by omega
  have hmb : mid < b := by omega
  have ham : a < mid := by omega
  have hlh : lo ≤ hi ∧ hi ≤ m ∧ a ≤ lo ∧ hi ≤ mid ∧ mid + m ≤ lo + b := by omega
  obtain ⟨P, eP⟩ : ∃ P, P + 1 = mid + m := ⟨mid + m - 1, by omega⟩
  have rP : (mid : Int) + m - 1 = (P : Int) := by omega
  have t1 : ((m : Int) - a == 1) = false := by simp; omega
  have t2 : ((b : Int) - m == 1) = false := by simp; omega
  have HN := Lib.hid hn; clear hn
  have EA := Lib.hid ea; clear ea
  have EM := Lib.hid em; clear em
  have EB := Lib.hid eb; clear eb
  have HNs := Lib.hid hN; clear hN
  have hent := hcmp.1
  have HC := Lib.hid hcmp.2; clear hcmp
  have HCC0 := Lib.hid hc
  have EMID := Lib.hid emid; clear emid
  have EP := Lib.hid eP; clear eP
  have IH := Lib.hid ih; clear ih
  go_enter Try.func122, Try.ntmps122
  go_upto_if 140 with (fail)
  go_cut [20, 21] (fun s r wx => s = .int .i64 lo ∧ r = .int .i64 hi ∧ w = wx)
  case first =>
    rcases hc with ⟨h1, h2, h3⟩ | ⟨h1, h2, h3⟩
    · have r1 : (mid : Int) + m - b = (lo : Int) := by omega
      have E1 := Lib.hid h2; have E2 := Lib.hid h3; clear h2 h3
      go_wp2_with fail
      go_meet
      exact ⟨rfl, by rw [E2.out], rfl⟩
    · have E1 := Lib.hid h2; have E2 := Lib.hid h3; clear h2 h3
      go_wp2_with fail
      go_meet
      exact ⟨by rw [E1.out], by rw [E2.out], rfl⟩
  case rest =>
    obtain ⟨rfl, rfl, rfl⟩ := hcut
    clear hc
    go_wp2
    obtain ⟨cells, hcells⟩ : ∃ cells : List Value, cells = (p ++ A ++ B ++ q).map (valInt z) ++ rest := ⟨_, rfl⟩
    have HCE := Lib.hid hcells; rw [← hcells] at hB; clear hcells
    obtain ⟨D, hD⟩ : ∃ D : List Nat, D = p ++ A ++ B ++ q := ⟨_, rfl⟩
    have HD := Lib.hid hD; clear hD
    go_loopw [20, 21] (CutSearchInt c D P lo hi w0 g cells 3) (fun i j _ => (intOf j).toNat - (intOf i).toNat)
    case atStart => exact ⟨lo, hi, Nat.le_refl _, by omega, Nat.le_refl _, rfl, rfl, .inl rfl, .inl rfl, hk0, hB⟩
    case round =>
      obtain ⟨i, j, hi1, hij, hj, rfl, rfl, hlo, hhi, hkp, hb⟩ := hrel
      have HLi := Lib.hid hlo; have HHj := Lib.hid hhi; clear hlo hhi
      have HB0 := Lib.hid hb
      by_cases hlt : i < j
      · obtain ⟨t, et⟩ : ∃ t, t = (i + j) / 2 := ⟨_, rfl⟩
        have ht1 : i ≤ t := by omega
        have ht2 : t < j := by omega
        have rt : ((i : Int) + j) / 2 = (t : Int) := by omega
        obtain ⟨d, ed⟩ : ∃ d, d + t = P := ⟨P - t, by have := EP.out; omega⟩
        have hd1 : m ≤ d ∧ d < b := by have := EP.out; omega
        have rd : (P : Int) - t = (d : Int) := by omega
        have rw1 : IntKind.i64.wrap ((P : Int) - t) = (d : Int) := by rw [rd]; exact IntWalk.i64_in _ (by omega)
        have rw2 : IntKind.i64.wrap (d : Int) = (d : Int) := IntWalk.i64_in _ (by omega)
        have htn : t < n := by omega
        have hdn : d < n := by omega
        clear et
        have ED := Lib.hid ed; clear ed
        have hb' := hb
        rw [HCE.out] at hb'
        have c1 := hb'.at t (by have := HN.out; omega)
        have c2 := hb'.at d (by have := HN.out; omega)
        clear hb'
        rw [← HD.out] at c1 c2
        have hx : D.getD t 0 < N := HNs.out _ (by rw [← HD.out]; exact getD_mem (by have := HN.out; rw [HD.out]; omega))
        have hy : D.getD d 0 < N := HNs.out _ (by rw [← HD.out]; exact getD_mem (by have := HN.out; rw [HD.out]; omega))
        generalize hxx : D.getD t 0 = x at c1 hx
        generalize hyy : D.getD d 0 = y at c2 hy
        have HX := Lib.hid hxx; have HY := Lib.hid hyy; clear hxx hyy
        have hcall := fun W hW => HC.out W hW y x hy hx
        have HCall := Lib.hid hcall; clear hcall
        unfold valInt at c1 c2
        generalize hcc : c y x = cc at HCall
        have HCC := Lib.hid hcc; clear hcc
        by_cases hneg : cc < 0
        · have hdc : decide (cc < 0) = true := by simpa using hneg
          go_wp2
          go_still_tail 11, (by kernel_rfl)
          go_wp2_with fail
          refine (HCall.out _ hkp.drew).mono ?_
          rintro e w1 ⟨rfl, hk2⟩
          have hkp2 : Kp (fun k => k = g) w0 w1 := hkp.drew.ext hk2
          have hb2 := hb.drew.ext hk2
          clear hk2 c1 c2 rw1 rw2
          go_wp2
          go_roundw
          case rel =>
            refine ⟨i, t, hi1, by omega, by omega, rfl, rfl, HLi.out.imp id (fun h => by dsimp only; omega), .inr ?_, hkp2, hb2⟩
            dsimp only
            rw [show P - t = d by have := ED.out; omega, HX.out, HY.out, HCC.out]; omega
          case measure => simp [intOf]; omega
        · have hdc : decide (cc < 0) = false := by simp; omega
          go_wp2
          go_still_tail 11, (by kernel_rfl)
          go_wp2_with fail
          refine (HCall.out _ hkp.drew).mono ?_
          rintro e w1 ⟨rfl, hk2⟩
          have hkp2 : Kp (fun k => k = g) w0 w1 := hkp.drew.ext hk2
          have hb2 := hb.drew.ext hk2
          clear hk2 c1 c2 rw1 rw2
          go_wp2
          go_roundw
          case rel =>
            refine ⟨t + 1, j, by omega, by omega, hj, by first | rfl | (congr 1; done) | (congr 1; omega), rfl, .inr ?_, HHj.out, hkp2, hb2⟩
            dsimp only
            rw [Nat.add_sub_cancel, show P - t = d by have := ED.out; omega, HX.out, HY.out, HCC.out]; omega
          case measure => simp [intOf]; omega
      · obtain rfl : i = j := by omega
        have h3 := HLi.out; have h4 := HHj.out
        rw [HD.out] at h3 h4
        rw [show P = mid + m - 1 by have := EP.out; omega] at h3 h4
        obtain ⟨A1, A2, B1, B2, eA, eB, lA, lB, hAh⟩ := merge_cut L EA.out EM.out EB.out EMID.out hsA hsB hlr (by omega) (by omega) HCC0.out hi1 hj h3 h4
        clear h3 h4
        obtain ⟨e, ee⟩ : ∃ e, e + i = mid + m := ⟨mid + m - i, by omega⟩
        have re : (mid : Int) + m - i = (e : Int) := by omega
        have hle : m ≤ e ∧ e ≤ b := by omega
        have HL := Lib.hid (And.intro eA (And.intro eB (And.intro lA (And.intro (show m + B1.length = e by omega) ee))))
        have HAh := Lib.hid hAh
        clear eA eB lA lB hAh ee
        have hsb : i ≤ m := by omega
        obtain ⟨wo, rfl⟩ : ∃ wo : World, wo = wr := ⟨_, rfl⟩
        have hb0 := HB0.out
        rw [HCE.out, HL.out.1, HL.out.2.1] at hb0
        have HB1 := Lib.hid hb0; clear hb0 hb
        have HNL : (p ++ (A1 ++ A2) ++ (B1 ++ B2) ++ q).length = n := by rw [← HL.out.1, ← HL.out.2.1]; exact HN.out
        have HNN := Lib.hid HNL; clear HNL
        have HNsL : ∀ x ∈ p ++ A1 ++ B1 ++ A2 ++ B2 ++ q, x < N := fun x hx => HNs.out x (by rw [HL.out.1, HL.out.2.1]; simp at hx ⊢; rcases hx with h | h | h | h | h | h <;> simp [h])
        have HNS := Lib.hid HNsL; clear HNsL
        have hlens : a + A1.length = i ∧ i + A2.length = m ∧ m + B1.length = e ∧ e + B2.length = b ∧ e + i = mid + m := by
          have h := HL.out; have h1 := EM.out; have h2 := EB.out
          have h3 := congrArg List.length h.1; have h4 := congrArg List.length h.2.1
          simp at h3 h4; omega
        have HLE := Lib.hid hlens
        by_cases h1 : i < m <;> by_cases h2 : m < e <;> by_cases h3 : a < i <;> by_cases h4 : e < b <;> try (exfalso; omega)
        all_goals
          have h5 : i < mid ∨ mid ≤ i := by omega
          have h6 : mid < e ∨ e ≤ mid := by omega
          clear hlens
          rcases h5 with h5 | h5 <;> rcases h6 with h6 | h6 <;> try (exfalso; have := HLE.out; omega)
        all_goals
          go_wp2_with fail
          first
            | (go_at_call 143
               refine (rotateInt_any z g n cap rest _ w0 _ hkp (p ++ A1) A2 B1 (B2 ++ q) (by rintro rfl; have := HLE.out; simp at this; omega) (by rintro rfl; have := HLE.out; simp at this; omega) (by have := HNN.out; simpa using this) (HB1.out.congrL (by simp)) hm _ _ _ (by have := HLE.out; have := EA.out; simp; omega) (by have := HLE.out; have := EA.out; simp; omega) (by have := HLE.out; have := EA.out; simp; omega)).mono ?_
               rintro e1 w1 ⟨v, rfl, hk1, rfl, hb1⟩
               have hb1' : Blk w1 g ((p ++ A1 ++ B1 ++ A2 ++ B2 ++ q).map (valInt z) ++ rest) 3 := hb1.congrL (by simp)
               have HB2 := Lib.hid hb1'
               clear hb1 hb1'
               go_wp2_with fail)
            | (obtain ⟨w1, rfl⟩ : ∃ w1 : World, w1 = wo := ⟨_, rfl⟩
               have hk1 := hkp
               have hb1' : Blk w1 g ((p ++ A1 ++ B1 ++ A2 ++ B2 ++ q).map (valInt z) ++ rest) 3 := by
                 have h7 : A2 = [] ∨ B1 = [] := by
                   have := HLE.out
                   by_cases h8 : A2 = []
                   · exact .inl h8
                   · right
                     have := List.length_pos_iff.2 h8
                     exact List.eq_nil_of_length_eq_zero (by omega)
                 rcases h7 with rfl | rfl
                 · exact HB1.out.congrL (by simp)
                 · exact HB1.out.congrL (by simp)
               have HB2 := Lib.hid hb1'
               clear hb1')
          first
            | (go_at_call_of 122 (Value.int IntKind.i64 (a : Int))
               refine (IH.out w1 p A1 B1 (A2 ++ B2 ++ q) (by have := HLE.out; have := HL.out; rw [this.1, this.2.1]; simp; omega) (by rintro rfl; have := HLE.out; simp at this; omega) (by rintro rfl; have := HLE.out; simp at this; omega) hk1 (fun x hx => HNS.out x (by simpa using hx)) (Sorted.append.1 (HL.out.1 ▸ hsA)).1 (Sorted.append.1 (HL.out.2.1 ▸ hsB)).1 (fun u hu v hv => hlr u (by rw [HL.out.1]; simp [hu]) v (by rw [HL.out.2.1]; simp [hv])) (by have := HNN.out; simp at this ⊢; omega) (HB2.out.congrL (by simp)) _ _ _ (by have := EA.out; omega) (by have := HLE.out; have := EA.out; omega) (by have := HLE.out; have := EA.out; omega)).mono ?_
               rintro e1 w2 ⟨v, rfl, hk2, rfl, C1, hp1, hs1, hb2⟩
               have HC1 := Lib.hid (And.intro hp1 (And.intro hs1 hb2))
               clear hp1 hs1 hb2
               go_wp2_with fail)
            | (obtain ⟨w2, rfl⟩ : ∃ w2 : World, w2 = w1 := ⟨_, rfl⟩
               have hk2 := hk1
               have HC1 : Hid (∃ C1, C1.Perm (A1 ++ B1) ∧ Sorted c C1 ∧ Blk w2 g ((p ++ C1 ++ (A2 ++ B2 ++ q)).map (valInt z) ++ rest) 3) := by
                 refine ⟨A1 ++ B1, List.Perm.refl _, ?_, HB2.out.congrL (by simp)⟩
                 have h7 : A1 = [] ∨ B1 = [] := by
                   have := HLE.out
                   by_cases h8 : A1 = []
                   · exact .inl h8
                   · right
                     have := List.length_pos_iff.2 h8
                     exact List.eq_nil_of_length_eq_zero (by omega)
                 rcases h7 with h7 | h7
                 · rw [h7]; exact (Sorted.append.1 (HL.out.2.1 ▸ hsB)).1
                 · rw [h7, List.append_nil]; exact (Sorted.append.1 (HL.out.1 ▸ hsA)).1
               obtain ⟨C1, HC1⟩ := HC1)
          have HC1' : Hid (C1.Perm (A1 ++ B1) ∧ Sorted c C1 ∧ Blk w2 g ((p ++ C1 ++ (A2 ++ B2 ++ q)).map (valInt z) ++ rest) 3) := HC1
          have hl1 : C1.length = A1.length + B1.length := by have := HC1'.out.1.length_eq; simpa using this
          have HL1 := Lib.hid hl1; clear hl1 HC1
          first
            | (go_at_call_of 122 (Value.int IntKind.i64 (b : Int))
               refine (IH.out w2 (p ++ C1) A2 B2 q (by have := HLE.out; have := HL.out; rw [this.1, this.2.1]; simp; omega) (by rintro rfl; have := HLE.out; simp at this; omega) (by rintro rfl; have := HLE.out; simp at this; omega) hk2 (fun x hx => HNS.out x (by
                   simp at hx ⊢
                   rcases hx with h | h | h | h | h
                   · simp [h]
                   · have := HC1'.out.1.subset h; simp at this; rcases this with h | h <;> simp [h]
                   · simp [h]
                   · simp [h]
                   · simp [h])) (Sorted.append.1 (HL.out.1 ▸ hsA)).2.1 (Sorted.append.1 (HL.out.2.1 ▸ hsB)).2.1 (fun u hu v hv => hlr u (by rw [HL.out.1]; simp [hu]) v (by rw [HL.out.2.1]; simp [hv])) (by have := HNN.out; have := HL1.out; simp at *; omega) (HC1'.out.2.2.congrL (by simp)) _ _ _ (by have := HLE.out; have := EA.out; have := HL1.out; simp; omega) (by have := HLE.out; have := EA.out; have := HL1.out; simp; omega) (by have := HLE.out; have := EA.out; have := HL1.out; simp; omega)).mono ?_
               rintro e1 w3 ⟨v, rfl, hk3, rfl, C2, hp2, hs2, hb3⟩
               have HC2 := Lib.hid (And.intro hp2 (And.intro hs2 hb3))
               clear hp2 hs2 hb3
               go_wp2_with fail)
            | (obtain ⟨w3, rfl⟩ : ∃ w3 : World, w3 = w2 := ⟨_, rfl⟩
               have hk3 := hk2
               have HC2 : Hid (∃ C2, C2.Perm (A2 ++ B2) ∧ Sorted c C2 ∧ Blk w3 g ((p ++ C1 ++ C2 ++ q).map (valInt z) ++ rest) 3) := by
                 refine ⟨A2 ++ B2, List.Perm.refl _, ?_, HC1'.out.2.2.congrL (by simp)⟩
                 have h7 : A2 = [] ∨ B2 = [] := by
                   have := HLE.out
                   by_cases h8 : A2 = []
                   · exact .inl h8
                   · right
                     have := List.length_pos_iff.2 h8
                     exact List.eq_nil_of_length_eq_zero (by omega)
                 rcases h7 with h7 | h7
                 · rw [h7]; exact (Sorted.append.1 (HL.out.2.1 ▸ hsB)).2.1
                 · rw [h7, List.append_nil]; exact (Sorted.append.1 (HL.out.1 ▸ hsA)).2.1
               obtain ⟨C2, HC2⟩ := HC2)
          have HC2' : Hid (C2.Perm (A2 ++ B2) ∧ Sorted c C2 ∧ Blk w3 g ((p ++ C1 ++ C2 ++ q).map (valInt z) ++ rest) 3) := HC2
          go_end0
          have hmb := merge_both HAh.out HC1'.out.1 HC1'.out.2.1 HC2'.out.1 HC2'.out.2.1
          refine RetF.mk hk3 ⟨rfl, C1 ++ C2, by rw [HL.out.1, HL.out.2.1]; exact hmb.1, hmb.2, HC2'.out.2.2.congrL (by simp)⟩
end Go.Proofs.Ytfkhelihepbehaa
