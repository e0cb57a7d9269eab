/- slices.stableCmpFunc and slices.SortStableFunc at int. -/
import Derived.Test.YtfkhelihepbehaaSymGInt
import Derived.Test.YtfkhelihepbehaaArr2
namespace Go.Proofs.Ytfkhelihepbehaa
open Go.RowKit
set_option linter.unusedVariables false

theorem symMergeInt_any (z : Nat → Int) (g n cap N : Nat) (rest : List Value) (f : FuncId) (first captured : Array Value) (c : Nat → Nat → Int) (L : CmpLaw c) (w0 : World)
    (hcmp : CmpOn Try.prog f first captured g N w0 (valInt z) c) (hm : n ≤ 4611686018427387904) : ∀ k, SymOKInt Try.prog z g n cap N rest f first captured c w0 k := by
  intro k
  induction k with
  | zero => intro w p A B q hk hA; have := List.length_pos_iff.2 hA; omega
  | succ k ih =>
    intro w p A B q hk hA hB hkp hN hsA hsB hlr hn hb a m b ea em eb
    have lA := List.length_pos_iff.2 hA
    have lB := List.length_pos_iff.2 hB
    by_cases h1 : A.length = 1
    · obtain ⟨x, rfl⟩ := List.length_eq_one_iff.1 h1
      refine (symMergeInt_one z g n cap N rest f first captured c L w0 w hcmp hm hkp p x B q hB (fun i hi => hN i (by simpa using hi)) hsB (fun v hv => hlr x (by simp) v hv) (by simpa using hn) (hb.congrL (by simp)) a m b ea (by simp at em; omega) (by simp at em eb; omega)).mono ?_
      rintro e w' ⟨v, rfl, h, hv, C, hp, hs, hb'⟩
      exact ⟨v, rfl, h, hv, C, by simpa using hp, hs, hb'⟩
    · by_cases h2 : B.length = 1
      · obtain ⟨x, rfl⟩ := List.length_eq_one_iff.1 h2
        refine (symMergeInt_last z g n cap N rest f first captured c L w0 w hcmp hm hkp p A x q (by omega) (fun i hi => hN i (by simpa using hi)) hsA (fun v hv => hlr v hv x (by simp)) (by simpa using hn) (hb.congrL (by simp)) a m b ea (by omega) (by simp at eb; omega)).mono ?_
        rintro e w' ⟨v, rfl, h, hv, C, hp, hs, hb'⟩
        exact ⟨v, rfl, h, hv, C, hp, hs, hb'⟩
      · refine (symMergeInt_great z g n cap N rest f first captured c L w0 w hcmp hm hkp p A B q (by omega) (by omega) (fun w p' A' B' q' h => ih w p' A' B' q' (by omega)) hN hsA hsB hlr hn hb a m b ea (by omega) (by omega)).mono ?_
        rintro e w' ⟨v, rfl, h, hv, C, hp, hs, hb'⟩
        exact ⟨v, rfl, h, hv, C, hp, hs, hb'⟩

theorem symMergeInt_int (z : Nat → Int) (g n cap N : Nat) (rest : List Value) (f : FuncId) (first captured : Array Value) (c : Nat → Nat → Int) (L : CmpLaw c) (w0 : World)
    (hcmp : CmpOn Try.prog f first captured g N w0 (valInt z) c) (hm : n ≤ 4611686018427387904) (w : World) (p A B q : List Nat) (hA : A ≠ []) (hB : B ≠ []) (hkp : Kp (fun k => k = g) w0 w) (hN : ∀ i ∈ p ++ A ++ B ++ q, i < N) (hsA : Sorted c A) (hsB : Sorted c B) (hlr : ∀ u ∈ A, ∀ v ∈ B, u < v)
    (hn : (p ++ A ++ B ++ q).length = n) (hb : Blk w g ((p ++ A ++ B ++ q).map (valInt z) ++ rest) 3) (a m b : Int) (ea : a = (p.length : Nat)) (em : m = ((p.length + A.length : Nat) : Int)) (eb : b = ((p.length + A.length + B.length : Nat) : Int)) :
    Calls Try.prog 122 #[.slice (some ⟨g, 0, none⟩) n cap, .int .i64 a, .int .i64 m, .int .i64 b, .func (Fn.func f) first captured] w
      (RetF (fun k => k = g) w0 fun w' v => v = .tuple #[] ∧ ∃ C, C.Perm (A ++ B) ∧ Sorted c C ∧ Blk w' g ((p ++ C ++ q).map (valInt z) ++ rest) 3) := by
  subst ea em eb
  exact symMergeInt_any z g n cap N rest f first captured c L w0 hcmp hm _ w p A B q (Nat.le_refl _) hA hB hkp hN hsA hsB hlr hn hb _ _ _ rfl rfl rfl

set_option maxRecDepth 100000 in
set_option maxHeartbeats 8000000 in
theorem stableCmpInt_any (z : Nat → Int) (g n cap : Nat) (rest : List Value) (f : FuncId) (first captured : Array Value) (c : Nat → Nat → Int) (L : CmpLaw c) (w : World)
    (hcmp : CmpOn Try.prog f first captured g n w (valInt z) c) (hm : n ≤ 1152921504606846976) (hB : Blk w g ((List.range n).map (valInt z) ++ rest) 3) :
    Calls Try.prog 85 #[.slice (some ⟨g, 0, none⟩) n cap, .int .i64 n, .func (Fn.func f) first captured] w
      (RetF (fun k => k = g) w fun w' v => v = .tuple #[] ∧ ∃ C, C.Perm (List.range n) ∧ Sorted c C ∧ Blk w' g (C.map (valInt z) ++ rest) 3) := by
  have hm' : n ≤ 4611686018427387904 := by omega
  have HCm := Lib.hid hcmp; clear hcmp
  have HBr : Blk w g ((List.range' 0 n).map (valInt z) ++ rest) 3 := by rw [← List.range_eq_range']; exact hB
  have HBr' := Lib.hid HBr; clear HBr hB
  go_enter Try.func85, Try.ntmps85
  go_wp2
  go_loopw [7, 8] (Stable1 c n w g (valInt z) rest 3) (fun a _ _ => n - (intOf a).toNat)
  case atStart => exact ⟨[], by simp, trivial, by simp, rfl, rfl, Kp.refl _, by simpa using HBr'.out⟩
  case round =>
    obtain ⟨dn, hd, hgood, hle, rfl, rfl, hkp, hb⟩ := hrel
    generalize hda : dn.flatten.length = a at *
    have HDA := Lib.hid hda; clear hda
    have HD := Lib.hid (And.intro hd hgood); clear hd hgood
    have HB1 := Lib.hid hb; clear hb
    by_cases hlt : a + 20 ≤ n
    · go_wp2_with fail
      refine (insSortInt_any z g n cap n rest f first captured c L w wr HCm.out hkp dn.flatten (List.range' a 20) (List.range' (a + 20) (n - (a + 20))) (fun i hi => by rw [List.mem_range'_1] at hi; omega) List.pairwise_lt_range' (by have := HDA.out; simp only [List.length_append, List.length_cons, List.length_nil, List.length_range', List.flatten_append, List.flatten_cons, List.flatten_nil, List.append_nil, List.nil_append]; omega) (HB1.out.congrL (by
          have e : List.range' a 20 ++ List.range' (a + 20) (n - (a + 20)) = List.range' a (n - a) := by rw [List.range'_append_1]; congr 1; omega
          rw [List.append_assoc, e])) hm' _ _ HDA.out.symm (by have := HDA.out; simp only [List.length_append, List.length_cons, List.length_nil, List.length_range', List.flatten_append, List.flatten_cons, List.flatten_nil, List.append_nil, List.nil_append]; omega)).mono ?_
      rintro e w1 ⟨v, rfl, hk1, rfl, C, hp, hs, hb1⟩
      have HC1 := Lib.hid (And.intro hp (And.intro hs hb1)); clear hp hs hb1
      go_wp2
      go_roundw
      case rel =>
        obtain ⟨hp, hs, hb1⟩ := HC1.out
        have hl : C.length = 20 := by have := hp.length_eq; simpa using this
        have hfl : (dn ++ [C]).flatten.length = a + 20 := by have := HDA.out; simp only [List.length_append, List.length_cons, List.length_nil, List.length_range', List.flatten_append, List.flatten_cons, List.flatten_nil, List.append_nil, List.nil_append]; omega
        refine ⟨dn ++ [C], ?_, Good.append.2 ⟨HD.out.2, ?_⟩, by omega, by rw [hfl]; go_num, by rw [hfl]; go_num, hk1, ?_⟩
        · intro A hA
          rcases List.mem_append.1 hA with hA | hA
          · exact HD.out.1 A hA
          · simp at hA; subst hA; exact hl
        · have := HDA.out; simp only [List.length_flatten] at this
          refine ⟨?_, hs, trivial⟩
          rw [hl, Nat.zero_add, HDA.out]; exact hp
        · rw [hfl]; exact hb1.congrL (by simp)
      case measure => simp [intOf]; omega
    · have hN : n - a < 20 := by omega
      go_wp2_with fail
      refine (insSortInt_any z g n cap n rest f first captured c L w wr HCm.out hkp dn.flatten (List.range' a (n - a)) [] (fun i hi => by rw [List.mem_range'_1] at hi; omega) List.pairwise_lt_range' (by have := HDA.out; simp only [List.length_append, List.length_cons, List.length_nil, List.length_range', List.flatten_append, List.flatten_cons, List.flatten_nil, List.append_nil, List.nil_append]; omega) (HB1.out.congrL (by simp)) hm' _ _ HDA.out.symm (by have := HDA.out; simp only [List.length_append, List.length_cons, List.length_nil, List.length_range', List.flatten_append, List.flatten_cons, List.flatten_nil, List.append_nil, List.nil_append]; omega)).mono ?_
      rintro e w1 ⟨v, rfl, hk1, rfl, C, hp, hs, hb1⟩
      have key : ∃ Cs, Full 20 Cs ∧ Good c 0 Cs ∧ Cs.flatten = dn.flatten ++ C := by
        have hl : C.length = n - a := by have := hp.length_eq; simpa using this
        by_cases h0 : C.length = 0
        · obtain rfl := List.eq_nil_of_length_eq_zero h0
          exact ⟨dn, Full.all' (by decide) HD.out.1, HD.out.2, by simp⟩
        · refine ⟨dn ++ [C], Full.all HD.out.1 (by omega) (by omega), Good.append.2 ⟨HD.out.2, ?_, hs, trivial⟩, by simp⟩
          rw [hl, Nat.zero_add, HDA.out]; exact hp
      obtain ⟨Cs, hf, hg2, he⟩ := key
      have hl : Cs.flatten.length = n := by
        rw [he]
        have h1 := hp.length_eq
        have := HDA.out
        simp only [List.length_range'] at h1
        simp only [List.length_append, List.length_cons, List.length_nil, List.length_range', List.flatten_append, List.flatten_cons, List.flatten_nil, List.append_nil, List.nil_append]; omega
      have hb2 : Blk w1 g (Cs.flatten.map (valInt z) ++ rest) 3 := by rw [he]; exact hb1.congrL (by simp)
      have HS := Lib.hid (And.intro hf (And.intro hg2 (And.intro hl hb2)))
      clear hp hs hb1 hf hg2 he hl hb2
      go_wp2
      go_loopw [6, 7, 8] (fun sv _ _ wx => Stable2 c n w g (valInt z) rest 3 sv wx) (fun s _ _ _ => n - (intOf s).toNat)
      case atStart =>
        obtain ⟨h1, h2, h3, h4⟩ := HS.out
        exact ⟨20, Cs, by decide, rfl, h1, h2, h3, by omega, hk1, h4⟩
      case round =>
        obtain ⟨bs, Cs2, hbs, rfl, hf, hg2, hl, hle2, hkp2, hb2⟩ := hrel
        have HF := Lib.hid (And.intro hf (And.intro hg2 (And.intro hl hb2)))
        clear hf hg2 hl hb2
        by_cases hlt2 : bs < n
        · obtain ⟨wo, rfl⟩ : ∃ wo : World, wo = wr := ⟨_, rfl⟩
          go_wp2
          go_loopw [7, 8] (Stable3 c n bs w g (valInt z) rest 3) (fun a _ _ => n - (intOf a).toNat)
          case atStart =>
            obtain ⟨h1, h2, h3, h4⟩ := HF.out
            exact ⟨[], Cs2, by simp, h1, h2, h3, rfl, by simp, hkp2, h4⟩
          case round =>
            obtain ⟨dn2, td, hd2, hft, hg3, hl3, rfl, rfl, hkp3, hb3⟩ := hrel
            have hle3 : dn2.flatten.length + td.flatten.length = n := by simpa only [List.flatten_append, List.length_append] using hl3
            generalize hda2 : dn2.flatten.length = a2 at *
            have HDA2 := Lib.hid hda2; clear hda2
            have HG := Lib.hid (And.intro hd2 (And.intro hft (And.intro hg3 (And.intro hl3 (And.intro hle3 hb3)))))
            clear hd2 hft hg3 hl3 hb3
            have ha2n : a2 ≤ n := by omega
            clear hle3
            by_cases hlt3 : a2 + 2 * bs ≤ n
            · obtain ⟨A, B, r, rfl, lA, lB, hfr⟩ := Full.two hbs HG.out.2.1 (by have := HG.out.2.2.2.2.1; omega)
              obtain ⟨q1, q2, q3, q4, q5, q6⟩ := HG.out
              have hgd := Good.append.1 q3
              obtain ⟨g1, g2, g4, g5, g6⟩ := hgd.2
              rw [HDA2.out, lA, Nat.zero_add] at g1
              rw [HDA2.out, lA, lB, Nat.zero_add] at g4
              rw [HDA2.out, lA, lB, Nat.zero_add] at g6
              have HQ := Lib.hid (And.intro q1 (And.intro q4 (And.intro q6 (And.intro hgd.1 (And.intro g1 (And.intro g2 (And.intro g4 (And.intro g5 (And.intro g6 (And.intro lA (And.intro lB hfr)))))))))))
              clear q1 q2 q3 q4 q5 q6 hgd g1 g2 g4 g5 g6 lA lB hfr
              go_wp2_with fail
              have lens : dn2.flatten.length = a2 ∧ A.length = bs ∧ B.length = bs ∧ a2 + (bs + (bs + r.flatten.length)) = n := by
                obtain ⟨q1, q4, q6, gd, g1, g2, g4, g5, g6, lA, lB, hfr⟩ := HQ.out
                have h := HDA2.out
                simp only [List.flatten_append, List.flatten_cons, List.length_append, lA, lB, h] at q4
                exact ⟨h, lA, lB, q4⟩
              have HLL := Lib.hid lens; clear lens
              have mem : ∀ i ∈ (dn2 ++ A :: B :: r).flatten, i < n := by
                obtain ⟨q1, q4, q6, gd, g1, g2, g4, g5, g6, lA, lB, hfr⟩ := HQ.out
                intro i hi
                have hall : Good c 0 (dn2 ++ A :: B :: r) := Good.append.2 ⟨gd, by rw [HDA2.out, lA, Nat.zero_add]; exact g1, g2, by rw [HDA2.out, lA, lB, Nat.zero_add]; exact g4, g5, by rw [HDA2.out, lA, lB, Nat.zero_add]; exact g6⟩
                have := Good.mem hall hi
                omega
              have HME := Lib.hid mem; clear mem
              refine (symMergeInt_int z g n cap n rest f first captured c L w HCm.out hm' wr dn2.flatten A B r.flatten (by have := HLL.out; rintro rfl; first | (simp at this; done) | (simp at this; omega)) (by have := HLL.out; rintro rfl; first | (simp at this; done) | (simp at this; omega)) hkp3 (fun i hi => HME.out i (by simpa using hi)) HQ.out.2.2.2.2.2.1 HQ.out.2.2.2.2.2.2.2.1 ?hLR (by have := HLL.out; simp only [List.length_append, List.length_cons, List.length_nil, List.length_range', List.flatten_append, List.flatten_cons, List.flatten_nil, List.append_nil, List.nil_append]; omega) (HQ.out.2.2.1.congrL (by simp)) _ _ _ (by rw [HDA2.out]) (by have := HLL.out; omega) (by have := HLL.out; omega)).mono ?_
              case hLR =>
                intro u hu v hv
                have h1 := range'_mem_lt HQ.out.2.2.2.2.1 hu
                have h2 := range'_mem_lt HQ.out.2.2.2.2.2.2.1 hv
                omega
              rintro e w1 ⟨v, rfl, hk1, rfl, C, hp, hs, hb1⟩
              have HC1 := Lib.hid (And.intro hp (And.intro hs hb1)); clear hp hs hb1
              go_wp2
              go_roundw
              case rel =>
                obtain ⟨q1, q4, q6, gd, g1, g2, g4, g5, g6, lA, lB, hfr⟩ := HQ.out
                obtain ⟨hp, hs, hb1⟩ := HC1.out
                obtain ⟨e1, e2, e3, e4⟩ := HLL.out
                have lC : C.length = 2 * bs := by have := hp.length_eq; simp only [List.length_append] at this; omega
                have pC := merge_range g1 g4 hp
                refine ⟨dn2 ++ [C], r, ?_, hfr, ?_, ?_, ?_, ?_, hk1, hb1.congrL (by simp)⟩
                · intro X hX
                  rcases List.mem_append.1 hX with hX | hX
                  · exact q1 X hX
                  · simp at hX; subst hX; exact lC
                · refine Good.append.2 ⟨Good.append.2 ⟨gd, ?_, hs, trivial⟩, ?_⟩
                  · rw [e1, lC, Nat.zero_add, show 2 * bs = bs + bs by omega]; exact pC
                  · rw [show 0 + (dn2 ++ [C]).flatten.length = a2 + bs + bs by simp only [List.length_append, List.length_cons, List.length_nil, List.length_range', List.flatten_append, List.flatten_cons, List.flatten_nil, List.append_nil, List.nil_append]; omega]; exact g6
                · simp only [List.length_append, List.length_cons, List.length_nil, List.length_range', List.flatten_append, List.flatten_cons, List.flatten_nil, List.append_nil, List.nil_append]; omega
                · rw [show (dn2 ++ [C]).flatten.length = a2 + 2 * bs by simp only [List.length_append, List.length_cons, List.length_nil, List.length_range', List.flatten_append, List.flatten_cons, List.flatten_nil, List.append_nil, List.nil_append]; omega]; go_num
                · rw [show (dn2 ++ [C]).flatten.length = a2 + 2 * bs by simp only [List.length_append, List.length_cons, List.length_nil, List.length_range', List.flatten_append, List.flatten_cons, List.flatten_nil, List.append_nil, List.nil_append]; omega]; go_num
              case measure => simp [intOf]; omega
            · have hrest := Full.rest hbs HG.out.2.1 (by have := HG.out.2.2.2.2.1; omega)
              by_cases hmn : a2 + bs < n
              · have h2 : ∃ A B, td = [A, B] ∧ A.length = bs ∧ 0 < B.length ∧ B.length < bs := by
                  have h5 := HG.out.2.2.2.2.1
                  rcases hrest with (rfl | ⟨A, rfl, h3, h4⟩) | h
                  · simp at h5; omega
                  · simp at h5; omega
                  · exact h
                obtain ⟨A, B, rfl, lA, lB, lB2⟩ := h2
                clear hrest
                obtain ⟨q1, q2, q3, q4, q5, q6⟩ := HG.out
                have hgd := Good.append.1 q3
                obtain ⟨g1, g2, g4, g5, _⟩ := hgd.2
                rw [HDA2.out, lA, Nat.zero_add] at g1
                rw [HDA2.out, lA, Nat.zero_add] at g4
                have mem : ∀ i ∈ (dn2 ++ [A, B]).flatten, i < n := fun i hi => by have := Good.mem q3 hi; omega
                have lens : dn2.flatten.length = a2 ∧ A.length = bs ∧ 0 < B.length ∧ B.length < bs ∧ a2 + (bs + B.length) = n := by
                  have h := HDA2.out
                  have q4' := q4
                  simp only [List.flatten_append, List.flatten_cons, List.flatten_nil, List.length_append, List.length_nil, lA, h] at q4'
                  exact ⟨h, lA, lB, lB2, q4'⟩
                have HQ := Lib.hid (And.intro q1 (And.intro q6 (And.intro hgd.1 (And.intro g1 (And.intro g2 (And.intro g4 (And.intro g5 mem)))))))
                have HLL := Lib.hid lens
                clear q1 q2 q3 q4 q5 q6 hgd g1 g2 g4 g5 mem lens lA lB lB2
                go_wp2_with fail
                refine (symMergeInt_int z g n cap n rest f first captured c L w HCm.out hm' wr dn2.flatten A B [] (by have := HLL.out; rintro rfl; first | (simp at this; done) | (simp at this; omega)) (by have := HLL.out; rintro rfl; first | (simp at this; done) | (simp at this; omega)) hkp3 (fun i hi => HQ.out.2.2.2.2.2.2.2 i (by simpa using hi)) HQ.out.2.2.2.2.1 HQ.out.2.2.2.2.2.2.1 ?hLR (by have := HLL.out; simp only [List.length_append, List.length_cons, List.length_nil, List.length_range', List.flatten_append, List.flatten_cons, List.flatten_nil, List.append_nil, List.nil_append]; omega) (HQ.out.2.1.congrL (by simp)) _ _ _ (by rw [HDA2.out]) (by have := HLL.out; omega) (by have := HLL.out; omega)).mono ?_
                case hLR =>
                  intro u hu v hv
                  have h1 := range'_mem_lt HQ.out.2.2.2.1 hu
                  have h2 := range'_mem_lt HQ.out.2.2.2.2.2.1 hv
                  omega
                rintro e w1 ⟨v, rfl, hk1, rfl, C, hp, hs, hb1⟩
                have HC1 := Lib.hid (And.intro hp (And.intro hs hb1)); clear hp hs hb1
                go_wp2
                go_roundw
                case rel =>
                  obtain ⟨q1, q6, gd, g1, g2, g4, g5, _⟩ := HQ.out
                  obtain ⟨hp, hs, hb1⟩ := HC1.out
                  obtain ⟨e1, e2, e3, e4, e5⟩ := HLL.out
                  have lC : C.length = bs + B.length := by have := hp.length_eq; simp only [List.length_append] at this; omega
                  have pC := merge_range g1 g4 hp
                  refine ⟨2 * bs, dn2 ++ [C], by omega, by go_num, Full.all q1 (by omega) (by omega), Good.append.2 ⟨gd, ?_, hs, trivial⟩, by simp only [List.length_append, List.length_cons, List.length_nil, List.length_range', List.flatten_append, List.flatten_cons, List.flatten_nil, List.append_nil, List.nil_append]; omega, by omega, hk1, hb1.congrL (by simp)⟩
                  rw [e1, lC, Nat.zero_add]; exact pC
                case measure => simp [intOf]; omega
              · have h2 : td = [] ∨ ∃ A, td = [A] ∧ 0 < A.length ∧ A.length ≤ bs := by
                  have h5 := HG.out.2.2.2.2.1
                  rcases hrest with h | ⟨A, B, rfl, h3, h4, h6⟩
                  · exact h
                  · simp at h5; omega
                have HTD := Lib.hid h2
                clear hrest h2
                go_wp2
                go_roundw
                case rel =>
                  obtain ⟨q1, q2, q3, q4, q5, q6⟩ := HG.out
                  refine ⟨2 * bs, dn2 ++ td, by omega, by go_num, ?_, q3, q4, by omega, hkp3, q6⟩
                  rcases HTD.out with rfl | ⟨A, rfl, h3, h4⟩
                  · rw [List.append_nil]; exact Full.all' (by omega) q1
                  · exact Full.all q1 h3 (by omega)
                case measure => simp [intOf]; omega
        · go_wp2
          go_end0
          obtain ⟨h1, h2, h3, h4⟩ := HF.out
          refine RetF.mk hkp2 ⟨rfl, ?_⟩
          rcases Full.one hbs h1 h3 (by omega) with rfl | ⟨A, rfl⟩
          · simp at h3; subst h3
            exact ⟨[], by simp, Sorted.nil, by simpa using h4⟩
          · simp at h3
            obtain ⟨q1, q2, _⟩ := h2
            refine ⟨A, by rw [List.range_eq_range', ← h3]; exact q1, q2, by simpa using h4⟩
theorem sortStableInt_any (z : Nat → Int) (g n cap : Nat) (rest : List Value) (f : FuncId) (first captured : Array Value) (c : Nat → Nat → Int) (L : CmpLaw c) (w : World)
    (hcmp : CmpOn Try.prog f first captured g n w (valInt z) c) (hm : n ≤ 1152921504606846976) (hB : Blk w g ((List.range n).map (valInt z) ++ rest) 3) :
    Calls Try.prog 28 #[.slice (some ⟨g, 0, none⟩) n cap, .func (Fn.func f) first captured] w
      (RetF (fun k => k = g) w fun w' v => v = .tuple #[] ∧ ∃ C, C.Perm (List.range n) ∧ Sorted c C ∧ Blk w' g (C.map (valInt z) ++ rest) 3) := by
  go_enter Try.func28, Try.ntmps28
  go_wp2_with fail
  refine (stableCmpInt_any z g n cap rest f first captured c L w hcmp hm hB).mono ?_
  rintro e w1 ⟨v, rfl, hk, rfl, hC⟩
  have HC := Lib.hid hC; clear hC
  go_wp2
  go_end0
  exact RetF.mk hk ⟨rfl, HC.out⟩

/-- An empty slice, wherever it leads. -/
theorem insSortInt_nil (ao : Option Addr) (cap : Nat) (fv : Value) (w : World) :
    Calls Try.prog 121 #[.slice ao 0 cap, .int .i64 0, .int .i64 0, fv] w (Ret (.tuple #[]) w) := by
  go_enter Try.func121, Try.ntmps121
  go_wp2
  go_loop [8] (fun i => i = .int .i64 1) (fun _ => 0)
  case atStart => rfl
  case round =>
    subst hrel
    go_wp2
    go_end0
    exact Ret.mk rfl

theorem stableCmpInt_nil (ao : Option Addr) (cap : Nat) (fv : Value) (w : World) :
    Calls Try.prog 85 #[.slice ao 0 cap, .int .i64 0, fv] w (Ret (.tuple #[]) w) := by
  go_enter Try.func85, Try.ntmps85
  go_wp2
  go_loop [7, 8] (fun a b => a = .int .i64 0 ∧ b = .int .i64 20) (fun _ _ => 0)
  case atStart => exact ⟨rfl, rfl⟩
  case round =>
    obtain ⟨rfl, rfl⟩ := hrel
    go_wp2_with (go_at_call 121; (with_reducible refine (insSortInt_nil _ _ _ _).mono ?_); rintro e w' ⟨rfl, rfl⟩)
    go_loop [6] (fun s => s = .int .i64 20) (fun _ => 0)
    case atStart => rfl
    case round =>
      subst hrel
      go_wp2
      go_end0
      exact Ret.mk rfl

theorem sortStableInt_nil (ao : Option Addr) (cap : Nat) (fv : Value) (w : World) :
    Calls Try.prog 28 #[.slice ao 0 cap, fv] w (Ret (.tuple #[]) w) := by
  go_enter Try.func28, Try.ntmps28
  go_wp2_with (go_at_call 85; (with_reducible refine (stableCmpInt_nil _ _ _ _).mono ?_); rintro e w' ⟨rfl, rfl⟩)
  go_end0
  exact Ret.mk rfl
end Go.Proofs.Ytfkhelihepbehaa
