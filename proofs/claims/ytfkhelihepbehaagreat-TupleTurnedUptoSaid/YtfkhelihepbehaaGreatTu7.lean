/- Proved here: the statement TupleTurnedUptoSaid: the law returns true for every input of the bound that the row names and leaves its arguments as they were. No condition of its own. -/
import Derived.Test.YtfkhelihepbehaaGreatTu6
import Derived.Test.YtfkhelihepbehaaGreatProg
import Derived.Test.YtfkhelihepbehaaGreatRows
import Derived.Deep.CondSized
/- slices.stableCmpFunc and slices.SortStableFunc at int. -/
namespace Go.Proofs.YtfkhelihepbehaaGreat
open Go.RowKit
set_option linter.unusedVariables false

theorem symMergeInt_any (z : Nat → Int) (g n cap N : Nat) (rest : List Value) (f : FuncId) (first captured : Array Value) (c : Nat → Nat → Int) (L : CmpLaw c) (w0 : World)
    (hcmp : CmpOn Tryz.prog f first captured g N w0 (valInt z) c) (hm : n ≤ 4611686018427387904) : ∀ k, SymOKInt Tryz.prog z g n cap N rest f first captured c w0 k := by
  intro k
  induction k with
  | zero => intro w p A B q hk hA; have := List.length_pos_iff.2 hA; omega
  | succ k ih =>
    intro w p A B q hk hA hB hkp hN hsA hsB hlr hn hb a m b ea em eb
    have lA := List.length_pos_iff.2 hA
    have lB := List.length_pos_iff.2 hB
    by_cases h1 : A.length = 1
    · obtain ⟨x, rfl⟩ := List.length_eq_one_iff.1 h1
      refine (symMergeInt_one z g n cap N rest f first captured c L w0 w hcmp hm hkp p x B q hB (fun i hi => hN i (by simpa using hi)) hsB (fun v hv => hlr x (by simp) v hv) (by simpa using hn) (hb.congrL (by simp)) a m b ea (by simp at em; omega) (by simp at em eb; omega)).mono ?_
      rintro e w' ⟨v, rfl, h, hv, C, hp, hs, hb'⟩
      exact ⟨v, rfl, h, hv, C, by simpa using hp, hs, hb'⟩
    · by_cases h2 : B.length = 1
      · obtain ⟨x, rfl⟩ := List.length_eq_one_iff.1 h2
        refine (symMergeInt_last z g n cap N rest f first captured c L w0 w hcmp hm hkp p A x q (by omega) (fun i hi => hN i (by simpa using hi)) hsA (fun v hv => hlr v hv x (by simp)) (by simpa using hn) (hb.congrL (by simp)) a m b ea (by omega) (by simp at eb; omega)).mono ?_
        rintro e w' ⟨v, rfl, h, hv, C, hp, hs, hb'⟩
        exact ⟨v, rfl, h, hv, C, hp, hs, hb'⟩
      · refine (symMergeInt_great z g n cap N rest f first captured c L w0 w hcmp hm hkp p A B q (by omega) (by omega) (fun w p' A' B' q' h => ih w p' A' B' q' (by omega)) hN hsA hsB hlr hn hb a m b ea (by omega) (by omega)).mono ?_
        rintro e w' ⟨v, rfl, h, hv, C, hp, hs, hb'⟩
        exact ⟨v, rfl, h, hv, C, hp, hs, hb'⟩

theorem symMergeInt_int (z : Nat → Int) (g n cap N : Nat) (rest : List Value) (f : FuncId) (first captured : Array Value) (c : Nat → Nat → Int) (L : CmpLaw c) (w0 : World)
    (hcmp : CmpOn Tryz.prog f first captured g N w0 (valInt z) c) (hm : n ≤ 4611686018427387904) (w : World) (p A B q : List Nat) (hA : A ≠ []) (hB : B ≠ []) (hkp : Kp (fun k => k = g) w0 w) (hN : ∀ i ∈ p ++ A ++ B ++ q, i < N) (hsA : Sorted c A) (hsB : Sorted c B) (hlr : ∀ u ∈ A, ∀ v ∈ B, u < v)
    (hn : (p ++ A ++ B ++ q).length = n) (hb : Blk w g ((p ++ A ++ B ++ q).map (valInt z) ++ rest) 3) (a m b : Int) (ea : a = (p.length : Nat)) (em : m = ((p.length + A.length : Nat) : Int)) (eb : b = ((p.length + A.length + B.length : Nat) : Int)) :
    Calls Tryz.prog 159 #[.slice (some ⟨g, 0, none⟩) n cap, .int .i64 a, .int .i64 m, .int .i64 b, .func (Fn.func f) first captured] w
      (RetF (fun k => k = g) w0 fun w' v => v = .tuple #[] ∧ ∃ C, C.Perm (A ++ B) ∧ Sorted c C ∧ Blk w' g ((p ++ C ++ q).map (valInt z) ++ rest) 3) := by
  subst ea em eb
  exact symMergeInt_any z g n cap N rest f first captured c L w0 hcmp hm _ w p A B q (Nat.le_refl _) hA hB hkp hN hsA hsB hlr hn hb _ _ _ rfl rfl rfl

set_option maxRecDepth 100000 in
set_option maxHeartbeats 8000000 in
theorem stableCmpInt_any (z : Nat → Int) (g n cap : Nat) (rest : List Value) (f : FuncId) (first captured : Array Value) (c : Nat → Nat → Int) (L : CmpLaw c) (w : World)
    (hcmp : CmpOn Tryz.prog f first captured g n w (valInt z) c) (hm : n ≤ 1152921504606846976) (hB : Blk w g ((List.range n).map (valInt z) ++ rest) 3) :
    Calls Tryz.prog 131 #[.slice (some ⟨g, 0, none⟩) n cap, .int .i64 n, .func (Fn.func f) first captured] w
      (RetF (fun k => k = g) w fun w' v => v = .tuple #[] ∧ ∃ C, C.Perm (List.range n) ∧ Sorted c C ∧ Blk w' g (C.map (valInt z) ++ rest) 3) := by
  have hm' : n ≤ 4611686018427387904 := by omega
  have HCm := Lib.hid hcmp; clear hcmp
  have HBr : Blk w g ((List.range' 0 n).map (valInt z) ++ rest) 3 := by rw [← List.range_eq_range']; exact hB
  have HBr' := Lib.hid HBr; clear HBr hB
  go_enter Tryz.func131, Tryz.ntmps131
  go_wp2
  go_loopw [7, 8] (Stable1 c n w g (valInt z) rest 3) (fun a _ _ => n - (intOf a).toNat)
  case atStart => exact ⟨[], by simp, trivial, by simp, rfl, rfl, Kp.refl _, by simpa using HBr'.out⟩
  case round =>
    obtain ⟨dn, hd, hgood, hle, rfl, rfl, hkp, hb⟩ := hrel
    generalize hda : dn.flatten.length = a at *
    have HDA := Lib.hid hda; clear hda
    have HD := Lib.hid (And.intro hd hgood); clear hd hgood
    have HB1 := Lib.hid hb; clear hb
    by_cases hlt : a + 20 ≤ n
    · go_wp2_with fail
      refine (insSortInt_any z g n cap n rest f first captured c L w wr HCm.out hkp dn.flatten (List.range' a 20) (List.range' (a + 20) (n - (a + 20))) (fun i hi => by rw [List.mem_range'_1] at hi; omega) List.pairwise_lt_range' (by have := HDA.out; simp only [List.length_append, List.length_cons, List.length_nil, List.length_range', List.flatten_append, List.flatten_cons, List.flatten_nil, List.append_nil, List.nil_append]; omega) (HB1.out.congrL (by
          have e : List.range' a 20 ++ List.range' (a + 20) (n - (a + 20)) = List.range' a (n - a) := by rw [List.range'_append_1]; congr 1; omega
          rw [List.append_assoc, e])) hm' _ _ HDA.out.symm (by have := HDA.out; simp only [List.length_append, List.length_cons, List.length_nil, List.length_range', List.flatten_append, List.flatten_cons, List.flatten_nil, List.append_nil, List.nil_append]; omega)).mono ?_
      rintro e w1 ⟨v, rfl, hk1, rfl, C, hp, hs, hb1⟩
      have HC1 := Lib.hid (And.intro hp (And.intro hs hb1)); clear hp hs hb1
      go_wp2
      go_roundw
      case rel =>
        obtain ⟨hp, hs, hb1⟩ := HC1.out
        have hl : C.length = 20 := by have := hp.length_eq; simpa using this
        have hfl : (dn ++ [C]).flatten.length = a + 20 := by have := HDA.out; simp only [List.length_append, List.length_cons, List.length_nil, List.length_range', List.flatten_append, List.flatten_cons, List.flatten_nil, List.append_nil, List.nil_append]; omega
        refine ⟨dn ++ [C], ?_, Good.append.2 ⟨HD.out.2, ?_⟩, by omega, by rw [hfl]; go_num, by rw [hfl]; go_num, hk1, ?_⟩
        · intro A hA
          rcases List.mem_append.1 hA with hA | hA
          · exact HD.out.1 A hA
          · simp at hA; subst hA; exact hl
        · have := HDA.out; simp only [List.length_flatten] at this
          refine ⟨?_, hs, trivial⟩
          rw [hl, Nat.zero_add, HDA.out]; exact hp
        · rw [hfl]; exact hb1.congrL (by simp)
      case measure => simp [intOf]; omega
    · have hN : n - a < 20 := by omega
      go_wp2_with fail
      refine (insSortInt_any z g n cap n rest f first captured c L w wr HCm.out hkp dn.flatten (List.range' a (n - a)) [] (fun i hi => by rw [List.mem_range'_1] at hi; omega) List.pairwise_lt_range' (by have := HDA.out; simp only [List.length_append, List.length_cons, List.length_nil, List.length_range', List.flatten_append, List.flatten_cons, List.flatten_nil, List.append_nil, List.nil_append]; omega) (HB1.out.congrL (by simp)) hm' _ _ HDA.out.symm (by have := HDA.out; simp only [List.length_append, List.length_cons, List.length_nil, List.length_range', List.flatten_append, List.flatten_cons, List.flatten_nil, List.append_nil, List.nil_append]; omega)).mono ?_
      rintro e w1 ⟨v, rfl, hk1, rfl, C, hp, hs, hb1⟩
      have key : ∃ Cs, Full 20 Cs ∧ Good c 0 Cs ∧ Cs.flatten = dn.flatten ++ C := by
        have hl : C.length = n - a := by have := hp.length_eq; simpa using this
        by_cases h0 : C.length = 0
        · obtain rfl := List.eq_nil_of_length_eq_zero h0
          exact ⟨dn, Full.all' (by decide) HD.out.1, HD.out.2, by simp⟩
        · refine ⟨dn ++ [C], Full.all HD.out.1 (by omega) (by omega), Good.append.2 ⟨HD.out.2, ?_, hs, trivial⟩, by simp⟩
          rw [hl, Nat.zero_add, HDA.out]; exact hp
      obtain ⟨Cs, hf, hg2, he⟩ := key
      have hl : Cs.flatten.length = n := by
        rw [he]
        have h1 := hp.length_eq
        have := HDA.out
        simp only [List.length_range'] at h1
        simp only [List.length_append, List.length_cons, List.length_nil, List.length_range', List.flatten_append, List.flatten_cons, List.flatten_nil, List.append_nil, List.nil_append]; omega
      have hb2 : Blk w1 g (Cs.flatten.map (valInt z) ++ rest) 3 := by rw [he]; exact hb1.congrL (by simp)
      have HS := Lib.hid (And.intro hf (And.intro hg2 (And.intro hl hb2)))
      clear hp hs hb1 hf hg2 he hl hb2
      go_wp2
      go_loopw [6, 7, 8] (fun sv _ _ wx => Stable2 c n w g (valInt z) rest 3 sv wx) (fun s _ _ _ => n - (intOf s).toNat)
      case atStart =>
        obtain ⟨h1, h2, h3, h4⟩ := HS.out
        exact ⟨20, Cs, by decide, rfl, h1, h2, h3, by omega, hk1, h4⟩
      case round =>
        obtain ⟨bs, Cs2, hbs, rfl, hf, hg2, hl, hle2, hkp2, hb2⟩ := hrel
        have HF := Lib.hid (And.intro hf (And.intro hg2 (And.intro hl hb2)))
        clear hf hg2 hl hb2
        by_cases hlt2 : bs < n
        · obtain ⟨wo, rfl⟩ : ∃ wo : World, wo = wr := ⟨_, rfl⟩
          go_wp2
          go_loopw [7, 8] (Stable3 c n bs w g (valInt z) rest 3) (fun a _ _ => n - (intOf a).toNat)
          case atStart =>
            obtain ⟨h1, h2, h3, h4⟩ := HF.out
            exact ⟨[], Cs2, by simp, h1, h2, h3, rfl, by simp, hkp2, h4⟩
          case round =>
            obtain ⟨dn2, td, hd2, hft, hg3, hl3, rfl, rfl, hkp3, hb3⟩ := hrel
            have hle3 : dn2.flatten.length + td.flatten.length = n := by simpa only [List.flatten_append, List.length_append] using hl3
            generalize hda2 : dn2.flatten.length = a2 at *
            have HDA2 := Lib.hid hda2; clear hda2
            have HG := Lib.hid (And.intro hd2 (And.intro hft (And.intro hg3 (And.intro hl3 (And.intro hle3 hb3)))))
            clear hd2 hft hg3 hl3 hb3
            have ha2n : a2 ≤ n := by omega
            clear hle3
            by_cases hlt3 : a2 + 2 * bs ≤ n
            · obtain ⟨A, B, r, rfl, lA, lB, hfr⟩ := Full.two hbs HG.out.2.1 (by have := HG.out.2.2.2.2.1; omega)
              obtain ⟨q1, q2, q3, q4, q5, q6⟩ := HG.out
              have hgd := Good.append.1 q3
              obtain ⟨g1, g2, g4, g5, g6⟩ := hgd.2
              rw [HDA2.out, lA, Nat.zero_add] at g1
              rw [HDA2.out, lA, lB, Nat.zero_add] at g4
              rw [HDA2.out, lA, lB, Nat.zero_add] at g6
              have HQ := Lib.hid (And.intro q1 (And.intro q4 (And.intro q6 (And.intro hgd.1 (And.intro g1 (And.intro g2 (And.intro g4 (And.intro g5 (And.intro g6 (And.intro lA (And.intro lB hfr)))))))))))
              clear q1 q2 q3 q4 q5 q6 hgd g1 g2 g4 g5 g6 lA lB hfr
              go_wp2_with fail
              have lens : dn2.flatten.length = a2 ∧ A.length = bs ∧ B.length = bs ∧ a2 + (bs + (bs + r.flatten.length)) = n := by
                obtain ⟨q1, q4, q6, gd, g1, g2, g4, g5, g6, lA, lB, hfr⟩ := HQ.out
                have h := HDA2.out
                simp only [List.flatten_append, List.flatten_cons, List.length_append, lA, lB, h] at q4
                exact ⟨h, lA, lB, q4⟩
              have HLL := Lib.hid lens; clear lens
              have mem : ∀ i ∈ (dn2 ++ A :: B :: r).flatten, i < n := by
                obtain ⟨q1, q4, q6, gd, g1, g2, g4, g5, g6, lA, lB, hfr⟩ := HQ.out
                intro i hi
                have hall : Good c 0 (dn2 ++ A :: B :: r) := Good.append.2 ⟨gd, by rw [HDA2.out, lA, Nat.zero_add]; exact g1, g2, by rw [HDA2.out, lA, lB, Nat.zero_add]; exact g4, g5, by rw [HDA2.out, lA, lB, Nat.zero_add]; exact g6⟩
                have := Good.mem hall hi
                omega
              have HME := Lib.hid mem; clear mem
              refine (symMergeInt_int z g n cap n rest f first captured c L w HCm.out hm' wr dn2.flatten A B r.flatten (by have := HLL.out; rintro rfl; first | (simp at this; done) | (simp at this; omega)) (by have := HLL.out; rintro rfl; first | (simp at this; done) | (simp at this; omega)) hkp3 (fun i hi => HME.out i (by simpa using hi)) HQ.out.2.2.2.2.2.1 HQ.out.2.2.2.2.2.2.2.1 ?hLR (by have := HLL.out; simp only [List.length_append, List.length_cons, List.length_nil, List.length_range', List.flatten_append, List.flatten_cons, List.flatten_nil, List.append_nil, List.nil_append]; omega) (HQ.out.2.2.1.congrL (by simp)) _ _ _ (by rw [HDA2.out]) (by have := HLL.out; omega) (by have := HLL.out; omega)).mono ?_
              case hLR =>
                intro u hu v hv
                have h1 := range'_mem_lt HQ.out.2.2.2.2.1 hu
                have h2 := range'_mem_lt HQ.out.2.2.2.2.2.2.1 hv
                omega
              rintro e w1 ⟨v, rfl, hk1, rfl, C, hp, hs, hb1⟩
              have HC1 := Lib.hid (And.intro hp (And.intro hs hb1)); clear hp hs hb1
              go_wp2
              go_roundw
              case rel =>
                obtain ⟨q1, q4, q6, gd, g1, g2, g4, g5, g6, lA, lB, hfr⟩ := HQ.out
                obtain ⟨hp, hs, hb1⟩ := HC1.out
                obtain ⟨e1, e2, e3, e4⟩ := HLL.out
                have lC : C.length = 2 * bs := by have := hp.length_eq; simp only [List.length_append] at this; omega
                have pC := merge_range g1 g4 hp
                refine ⟨dn2 ++ [C], r, ?_, hfr, ?_, ?_, ?_, ?_, hk1, hb1.congrL (by simp)⟩
                · intro X hX
                  rcases List.mem_append.1 hX with hX | hX
                  · exact q1 X hX
                  · simp at hX; subst hX; exact lC
                · refine Good.append.2 ⟨Good.append.2 ⟨gd, ?_, hs, trivial⟩, ?_⟩
                  · rw [e1, lC, Nat.zero_add, show 2 * bs = bs + bs by omega]; exact pC
                  · rw [show 0 + (dn2 ++ [C]).flatten.length = a2 + bs + bs by simp only [List.length_append, List.length_cons, List.length_nil, List.length_range', List.flatten_append, List.flatten_cons, List.flatten_nil, List.append_nil, List.nil_append]; omega]; exact g6
                · simp only [List.length_append, List.length_cons, List.length_nil, List.length_range', List.flatten_append, List.flatten_cons, List.flatten_nil, List.append_nil, List.nil_append]; omega
                · rw [show (dn2 ++ [C]).flatten.length = a2 + 2 * bs by simp only [List.length_append, List.length_cons, List.length_nil, List.length_range', List.flatten_append, List.flatten_cons, List.flatten_nil, List.append_nil, List.nil_append]; omega]; go_num
                · rw [show (dn2 ++ [C]).flatten.length = a2 + 2 * bs by simp only [List.length_append, List.length_cons, List.length_nil, List.length_range', List.flatten_append, List.flatten_cons, List.flatten_nil, List.append_nil, List.nil_append]; omega]; go_num
              case measure => simp [intOf]; omega
            · have hrest := Full.rest hbs HG.out.2.1 (by have := HG.out.2.2.2.2.1; omega)
              by_cases hmn : a2 + bs < n
              · have h2 : ∃ A B, td = [A, B] ∧ A.length = bs ∧ 0 < B.length ∧ B.length < bs := by
                  have h5 := HG.out.2.2.2.2.1
                  rcases hrest with (rfl | ⟨A, rfl, h3, h4⟩) | h
                  · simp at h5; omega
                  · simp at h5; omega
                  · exact h
                obtain ⟨A, B, rfl, lA, lB, lB2⟩ := h2
                clear hrest
                obtain ⟨q1, q2, q3, q4, q5, q6⟩ := HG.out
                have hgd := Good.append.1 q3
                obtain ⟨g1, g2, g4, g5, _⟩ := hgd.2
                rw [HDA2.out, lA, Nat.zero_add] at g1
                rw [HDA2.out, lA, Nat.zero_add] at g4
                have mem : ∀ i ∈ (dn2 ++ [A, B]).flatten, i < n := fun i hi => by have := Good.mem q3 hi; omega
                have lens : dn2.flatten.length = a2 ∧ A.length = bs ∧ 0 < B.length ∧ B.length < bs ∧ a2 + (bs + B.length) = n := by
                  have h := HDA2.out
                  have q4' := q4
                  simp only [List.flatten_append, List.flatten_cons, List.flatten_nil, List.length_append, List.length_nil, lA, h] at q4'
                  exact ⟨h, lA, lB, lB2, q4'⟩
                have HQ := Lib.hid (And.intro q1 (And.intro q6 (And.intro hgd.1 (And.intro g1 (And.intro g2 (And.intro g4 (And.intro g5 mem)))))))
                have HLL := Lib.hid lens
                clear q1 q2 q3 q4 q5 q6 hgd g1 g2 g4 g5 mem lens lA lB lB2
                go_wp2_with fail
                refine (symMergeInt_int z g n cap n rest f first captured c L w HCm.out hm' wr dn2.flatten A B [] (by have := HLL.out; rintro rfl; first | (simp at this; done) | (simp at this; omega)) (by have := HLL.out; rintro rfl; first | (simp at this; done) | (simp at this; omega)) hkp3 (fun i hi => HQ.out.2.2.2.2.2.2.2 i (by simpa using hi)) HQ.out.2.2.2.2.1 HQ.out.2.2.2.2.2.2.1 ?hLR (by have := HLL.out; simp only [List.length_append, List.length_cons, List.length_nil, List.length_range', List.flatten_append, List.flatten_cons, List.flatten_nil, List.append_nil, List.nil_append]; omega) (HQ.out.2.1.congrL (by simp)) _ _ _ (by rw [HDA2.out]) (by have := HLL.out; omega) (by have := HLL.out; omega)).mono ?_
                case hLR =>
                  intro u hu v hv
                  have h1 := range'_mem_lt HQ.out.2.2.2.1 hu
                  have h2 := range'_mem_lt HQ.out.2.2.2.2.2.1 hv
                  omega
                rintro e w1 ⟨v, rfl, hk1, rfl, C, hp, hs, hb1⟩
                have HC1 := Lib.hid (And.intro hp (And.intro hs hb1)); clear hp hs hb1
                go_wp2
                go_roundw
                case rel =>
                  obtain ⟨q1, q6, gd, g1, g2, g4, g5, _⟩ := HQ.out
                  obtain ⟨hp, hs, hb1⟩ := HC1.out
                  obtain ⟨e1, e2, e3, e4, e5⟩ := HLL.out
                  have lC : C.length = bs + B.length := by have := hp.length_eq; simp only [List.length_append] at this; omega
                  have pC := merge_range g1 g4 hp
                  refine ⟨2 * bs, dn2 ++ [C], by omega, by go_num, Full.all q1 (by omega) (by omega), Good.append.2 ⟨gd, ?_, hs, trivial⟩, by simp only [List.length_append, List.length_cons, List.length_nil, List.length_range', List.flatten_append, List.flatten_cons, List.flatten_nil, List.append_nil, List.nil_append]; omega, by omega, hk1, hb1.congrL (by simp)⟩
                  rw [e1, lC, Nat.zero_add]; exact pC
                case measure => simp [intOf]; omega
              · have h2 : td = [] ∨ ∃ A, td = [A] ∧ 0 < A.length ∧ A.length ≤ bs := by
                  have h5 := HG.out.2.2.2.2.1
                  rcases hrest with h | ⟨A, B, rfl, h3, h4, h6⟩
                  · exact h
                  · simp at h5; omega
                have HTD := Lib.hid h2
                clear hrest h2
                go_wp2
                go_roundw
                case rel =>
                  obtain ⟨q1, q2, q3, q4, q5, q6⟩ := HG.out
                  refine ⟨2 * bs, dn2 ++ td, by omega, by go_num, ?_, q3, q4, by omega, hkp3, q6⟩
                  rcases HTD.out with rfl | ⟨A, rfl, h3, h4⟩
                  · rw [List.append_nil]; exact Full.all' (by omega) q1
                  · exact Full.all q1 h3 (by omega)
                case measure => simp [intOf]; omega
        · go_wp2
          go_end0
          obtain ⟨h1, h2, h3, h4⟩ := HF.out
          refine RetF.mk hkp2 ⟨rfl, ?_⟩
          rcases Full.one hbs h1 h3 (by omega) with rfl | ⟨A, rfl⟩
          · simp at h3; subst h3
            exact ⟨[], by simp, Sorted.nil, by simpa using h4⟩
          · simp at h3
            obtain ⟨q1, q2, _⟩ := h2
            refine ⟨A, by rw [List.range_eq_range', ← h3]; exact q1, q2, by simpa using h4⟩
theorem sortStableInt_any (z : Nat → Int) (g n cap : Nat) (rest : List Value) (f : FuncId) (first captured : Array Value) (c : Nat → Nat → Int) (L : CmpLaw c) (w : World)
    (hcmp : CmpOn Tryz.prog f first captured g n w (valInt z) c) (hm : n ≤ 1152921504606846976) (hB : Blk w g ((List.range n).map (valInt z) ++ rest) 3) :
    Calls Tryz.prog 90 #[.slice (some ⟨g, 0, none⟩) n cap, .func (Fn.func f) first captured] w
      (RetF (fun k => k = g) w fun w' v => v = .tuple #[] ∧ ∃ C, C.Perm (List.range n) ∧ Sorted c C ∧ Blk w' g (C.map (valInt z) ++ rest) 3) := by
  go_enter Tryz.func90, Tryz.ntmps90
  go_wp2_with fail
  refine (stableCmpInt_any z g n cap rest f first captured c L w hcmp hm hB).mono ?_
  rintro e w1 ⟨v, rfl, hk, rfl, hC⟩
  have HC := Lib.hid hC; clear hC
  go_wp2
  go_end0
  exact RetF.mk hk ⟨rfl, HC.out⟩

/-- An empty slice, wherever it leads. -/
theorem insSortInt_nil (ao : Option Addr) (cap : Nat) (fv : Value) (w : World) :
    Calls Tryz.prog 158 #[.slice ao 0 cap, .int .i64 0, .int .i64 0, fv] w (Ret (.tuple #[]) w) := by
  go_enter Tryz.func158, Tryz.ntmps158
  go_wp2
  go_loop [8] (fun i => i = .int .i64 1) (fun _ => 0)
  case atStart => rfl
  case round =>
    subst hrel
    go_wp2
    go_end0
    exact Ret.mk rfl

theorem stableCmpInt_nil (ao : Option Addr) (cap : Nat) (fv : Value) (w : World) :
    Calls Tryz.prog 131 #[.slice ao 0 cap, .int .i64 0, fv] w (Ret (.tuple #[]) w) := by
  go_enter Tryz.func131, Tryz.ntmps131
  go_wp2
  go_loop [7, 8] (fun a b => a = .int .i64 0 ∧ b = .int .i64 20) (fun _ _ => 0)
  case atStart => exact ⟨rfl, rfl⟩
  case round =>
    obtain ⟨rfl, rfl⟩ := hrel
    go_wp2_with (go_at_call 158; (with_reducible refine (insSortInt_nil _ _ _ _).mono ?_); rintro e w' ⟨rfl, rfl⟩)
    go_loop [6] (fun s => s = .int .i64 20) (fun _ => 0)
    case atStart => rfl
    case round =>
      subst hrel
      go_wp2
      go_end0
      exact Ret.mk rfl

theorem sortStableInt_nil (ao : Option Addr) (cap : Nat) (fv : Value) (w : World) :
    Calls Tryz.prog 90 #[.slice ao 0 cap, fv] w (Ret (.tuple #[]) w) := by
  go_enter Tryz.func90, Tryz.ntmps90
  go_wp2_with (go_at_call 131; (with_reducible refine (stableCmpInt_nil _ _ _ _).mono ?_); rintro e w' ⟨rfl, rfl⟩)
  go_end0
  exact Ret.mk rfl
end Go.Proofs.YtfkhelihepbehaaGreat

/- slices.BinarySearchFunc at int, slices.Clone, slices.EqualFunc. -/
namespace Go.Proofs.YtfkhelihepbehaaGreat
open Go.RowKit
set_option linter.unusedVariables false

theorem elemInt : ElemT Tryz.prog 40 3 1 8 (.int .i64 0) := ⟨by kernel_rfl, by kernel_rfl, rfl, by decide⟩

/-- A comparison with one value: of any of a list's values, in every world in which all old blocks are as they were. -/
def CmpToInt (P : Program) (f : FuncId) (first captured : Array Value) (w0 : World) (vs : List Value) (t : Value) (c : Nat → Int) : Prop :=
  (∀ args w, (callFunc f args).run P w = .ok (Next.enter f args) w) ∧ ∀ w, Ext w0 w → ∀ i v, vs[i]? = some v → Calls P f (first ++ (#[v, t] ++ captured)) w fun e w' => e = .returned (.int .i64 (c i)) ∧ Ext w w'

/-- The search, between two rounds. -/
def BinAtInt (n : Nat) (c : Nat → Int) (w0 : World) (iv jv : Value) (w : World) : Prop :=
  ∃ i j : Nat, i ≤ j ∧ j ≤ n ∧ iv = .int .i64 i ∧ jv = .int .i64 j ∧ (i = 0 ∨ c (i - 1) < 0) ∧ (j = n ∨ 0 ≤ c j) ∧ Ext w0 w

set_option maxRecDepth 100000 in
set_option maxHeartbeats 2000000 in
theorem binSearchInt_any (zs : List (Int)) (z : Nat → Int) (ao : Option Addr) (cap : Nat) (t : Value) (f : FuncId) (first captured : Array Value) (c : Nat → Int) (w : World) (n : Nat)
    (hc : CellsAt w ao ((List.range n).map fun i => (Value.int .i64 (z (i))))) (hcmp : CmpToInt Tryz.prog f first captured w ((List.range n).map fun i => (Value.int .i64 (z (i)))) t c) (hm : n ≤ 4611686018427387904) :
    Calls Tryz.prog 132 #[.slice ao n cap, t, .func (Fn.func f) first captured] w
      (RetF (fun _ => False) w fun w' v => ∃ i : Nat, i ≤ n ∧ (i = 0 ∨ c (i - 1) < 0) ∧ (i = n ∨ 0 ≤ c i) ∧ v = .tuple #[.int .i64 i, .bool (decide (i < n ∧ c i = 0))]) := by
  have hent := hcmp.1
  have HC := Lib.hid hcmp.2; clear hcmp
  have cell : ∀ W : World, Ext w W → ∀ i, i < n → ∃ b off, ao = some ⟨b, off, none⟩ ∧ W.cell? ⟨b, off + i, none⟩ = some ((Value.int .i64 (z (i)))) := fun W hW i hi => by
    have := hc.ext hW
    exact this i _ (by simp [hi])
  have HCELL := Lib.hid cell; clear cell
  go_enter Tryz.func132, Tryz.ntmps132
  go_wp2
  go_loopw [9, 10] (BinAtInt n c w) (fun i j _ => (intOf j).toNat - (intOf i).toNat)
  case atStart => exact ⟨0, n, Nat.zero_le _, Nat.le_refl _, rfl, rfl, .inl rfl, .inl rfl, Kp.refl _⟩
  case round =>
    obtain ⟨i, j, hij, hj, rfl, rfl, hlo, hhi, hkp⟩ := hrel
    have HL := Lib.hid (And.intro hlo hhi); clear hlo hhi
    by_cases hlt : i < j
    · obtain ⟨h, eh⟩ : ∃ h, h = (i + j) / 2 := ⟨_, rfl⟩
      have rh : ((i : Int) + j) / 2 = (h : Int) := by omega
      have hhn : h < n := by omega
      have h1 : i ≤ h := by omega
      have h2 : h < j := by omega
      clear eh
      obtain ⟨b, off, rfl, c1⟩ := HCELL.out _ hkp h hhn
      have hcall := fun W hW => HC.out W hW h ((Value.int .i64 (z (h)))) (by simp [hhn])
      have HCall := Lib.hid hcall; clear hcall
      generalize hcc : c h = cc at HCall
      have HCC := Lib.hid hcc; clear hcc
      by_cases hneg : cc < 0
      · go_wp2_with fail
        refine (HCall.out _ hkp).mono ?_
        rintro e w1 ⟨rfl, hk2⟩
        have hkp2 := hkp.ext hk2
        clear hk2 c1
        go_wp2
        go_roundw
        case rel => exact ⟨h + 1, j, by omega, hj, by first | rfl | (congr 1; done) | (congr 1; omega), rfl, .inr (by rw [Nat.add_sub_cancel, HCC.out]; omega), HL.out.2, hkp2⟩
        case measure => simp [intOf]; omega
      · go_wp2_with fail
        refine (HCall.out _ hkp).mono ?_
        rintro e w1 ⟨rfl, hk2⟩
        have hkp2 := hkp.ext hk2
        clear hk2 c1
        go_wp2
        go_roundw
        case rel => exact ⟨i, h, by omega, by omega, rfl, by first | rfl | (congr 1; done) | (congr 1; omega), HL.out.1, .inr (by rw [HCC.out]; omega), hkp2⟩
        case measure => simp [intOf]; omega
    · obtain rfl : i = j := by omega
      by_cases hin : i < n
      · obtain ⟨b, off, rfl, c1⟩ := HCELL.out _ hkp i hin
        have hcall := fun W hW => HC.out W hW i ((Value.int .i64 (z (i)))) (by simp [hin])
        have HCall := Lib.hid hcall; clear hcall
        generalize hcc : c i = cc at HCall
        have HCC := Lib.hid hcc; clear hcc
        have key : decide (i < n ∧ c i = 0) = (cc == 0) := by rw [HCC.out]; simp [hin]; rfl
        have HK := Lib.hid key; clear key
        generalize hbb : (cc == 0) = bb at HK
        go_wp2_with fail
        refine (HCall.out _ hkp).mono ?_
        rintro e w1 ⟨rfl, hk2⟩
        have hkp2 := hkp.ext hk2
        clear hk2 c1
        go_wp2
        go_ret2
        exact RetF.mk hkp2 ⟨i, by omega, HL.out.1, HL.out.2, tup_ib HK.out⟩
      · have key : decide (i < n ∧ c i = 0) = false := by simp; omega
        have HK := Lib.hid key; clear key
        go_wp2
        go_ret2
        exact RetF.mk hkp ⟨i, by omega, HL.out.1, HL.out.2, tup_ib HK.out⟩
end Go.Proofs.YtfkhelihepbehaaGreat

/- slices.CompactFunc at int. -/
namespace Go.Proofs.YtfkhelihepbehaaGreat
open Go.RowKit
set_option linter.unusedVariables false

set_option maxRecDepth 100000 in
set_option maxHeartbeats 4000000 in
theorem compactInt_any (z : Nat → Int) (C : List Nat) (g n cap N : Nat) (rest : List Value) (f : FuncId) (first captured : Array Value) (q : Nat → Nat → Bool) (w : World)
    (hcmp : LikeOn Tryz.prog f first captured g N w (valInt z) q) (hn : n = C.length) (hC : ∀ i ∈ C, i < N) (hm : n ≤ 4611686018427387904) (hB : Blk w g (C.map (valInt z) ++ rest) 3) (hlen : (C.map (valInt z) ++ rest).length = cap) (hcm : cap ≤ maxLen) :
    Calls Tryz.prog 92 #[.slice (some ⟨g, 0, none⟩) n cap, .func (Fn.func f) first captured] w
      (RetF (fun k => k = g) w fun w' v => ∃ rest', v = .slice (some ⟨g, 0, none⟩) (keepTo q C n).length cap ∧ Blk w' g ((keepTo q C n).map (valInt z) ++ rest') 3 ∧ ((keepTo q C n).map (valInt z) ++ rest').length = cap) := by
  have hent := hcmp.1
  have HC := Lib.hid hcmp.2; clear hcmp
  have HN := Lib.hid (And.intro hn (And.intro hC hlen)); clear hn hC
  have hcap : n ≤ cap := by have := HN.out.1; simp at hlen; omega
  clear hlen
  have cell : ∀ W : World, Blk W g (C.map (valInt z) ++ rest) 3 → ∀ i, i < n → W.cell? ⟨g, i, none⟩ = some (valInt z (C.getD i 0)) := fun W h i hi => h.at i (by have := HN.out.1; omega)
  have HB := Lib.hid hB; clear hB
  by_cases hlt2 : n < 2
  · go_enter Tryz.func92, Tryz.ntmps92
    go_wp2
    go_ret
    have e : keepTo q C n = C := by
      rw [keepTo_all (by have := HN.out.1; omega) (fun j h1 h2 => by omega), List.take_of_length_le (by have := HN.out.1; omega)]
    refine RetF.mk (Kp.refl _) ⟨rest, ?_, by rw [e]; exact HB.out, by rw [e]; exact HN.out.2.2⟩
    rw [e, ← HN.out.1]; rfl
  · go_enter Tryz.func92, Tryz.ntmps92
    go_wp2
    go_loopw [5] (Compact1 n q C (fun k => False) w) (fun k _ => n - (intOf k).toNat)
    case atStart => exact ⟨1, Nat.le_refl _, by omega, rfl, fun j h1 h2 => by omega, Kp.refl _⟩
    case round =>
      obtain ⟨k, hk1, hkn, rfl, hq, hkp⟩ := hrel
      have HQ := Lib.hid hq; clear hq
      have hext : Kp (fun i => i = g) w wr := Ext.kp hkp
      by_cases hkl : k < n
      · have HBw : Blk wr g (C.map (valInt z) ++ rest) 3 := HB.out.ext hkp
        obtain ⟨p, rfl⟩ : ∃ p, k = p + 1 := ⟨k - 1, by omega⟩
        have c1 := cell wr HBw (p + 1) hkl
        have c2 := cell wr HBw p (by omega)
        have HBW := Lib.hid HBw; clear HBw
        have hx : C.getD (p + 1) 0 < N := HN.out.2.1 _ (getD_mem (by have := HN.out.1; omega))
        have hy : C.getD p 0 < N := HN.out.2.1 _ (getD_mem (by have := HN.out.1; omega))
        have hcall := fun W hW => HC.out W hW _ _ hx hy
        have HCall := Lib.hid hcall; clear hcall
        obtain ⟨x, ex⟩ : ∃ x, x = C.getD (p + 1) 0 := ⟨_, rfl⟩
        obtain ⟨y, ey⟩ : ∃ y, y = C.getD p 0 := ⟨_, rfl⟩
        rw [← ex, ← ey] at HCall
        rw [← ex] at c1
        rw [← ey] at c2
        have HE := Lib.hid (And.intro ex ey); clear ex ey hx hy
        unfold valInt at c1 c2
        obtain ⟨i1, i2, i3, i4, i5, i6, i7⟩ := idx_pred (k := p) (n := n) (by omega) hm
        cases hqk : q x y
        · rw [hqk] at HCall
          have HK := Lib.hid hqk; clear hqk
          go_wp2
          go_still_tail 10, (by kernel_rfl)
          go_wp2_with fail
          refine (HCall.out _ hext.drew).mono ?_
          rintro e w1 ⟨rfl, hk2⟩
          have hkp2 : Ext w w1 := hkp.drew.ext hk2
          clear hk2 c1 c2
          go_wp2
          go_roundw
          case rel =>
            refine ⟨p + 2, by omega, by omega, by first | rfl | (congr 1; done) | (congr 1; omega), fun j h1 h2 => ?_, hkp2⟩
            by_cases e : j = p + 1
            · subst e
              rw [← HE.out.1, Nat.add_sub_cancel, ← HE.out.2]; exact HK.out
            · exact HQ.out j h1 (by omega)
          case measure => simp [intOf]; omega
        · rw [hqk] at HCall
          have HK := Lib.hid hqk; clear hqk
          have start : Blk wr g ((keepTo q C (p + 1 + 1)).map (valInt z) ++ (C.map (valInt z) ++ rest).drop (p + 1)) 3 ∧ (keepTo q C (p + 1 + 1)).length = p + 1 := by
            have hn := HN.out.1
            have e : keepTo q C (p + 1 + 1) = C.take (p + 1) := by
              rw [keepTo_yes (by omega) (by rw [← HE.out.1, Nat.add_sub_cancel, ← HE.out.2]; exact HK.out), keepTo_all (by omega) HQ.out]
            rw [e]
            refine ⟨HBW.out.congrL ?_, by simp; omega⟩
            rw [List.drop_append_of_le_length (by simp; omega), ← List.append_assoc, ← List.map_drop, ← List.map_append, List.take_append_drop]
          have HS := Lib.hid start; clear start
          have hpc : (p : Int) + 1 ≤ (cap : Int) := by omega
          have hpn : (p : Int) + 1 ≤ (n : Int) := by omega
          go_wp2
          go_still_tail 10, (by kernel_rfl)
          go_wp2_with fail
          refine (HCall.out _ hext.drew).mono ?_
          rintro e w1 ⟨rfl, hk2⟩
          have hkp2 : Ext w w1 := hkp.drew.ext hk2
          have HS1 : Blk w1 g ((keepTo q C (p + 1 + 1)).map (valInt z) ++ (C.map (valInt z) ++ rest).drop (p + 1)) 3 := HS.out.1.drew.ext hk2
          have HS2 := Lib.hid (And.intro HS1 HS.out.2); clear HS1
          clear hk2 c1 c2
          obtain ⟨m, em⟩ : ∃ m, n - (p + 1) = m := ⟨_, rfl⟩
          have hcapk : ¬ cap = p + 1 := by omega
          go_wp2
          go_loopw [5, 7] (Compact2 n (p + 1) q C w g (valInt z) rest 3) (fun k j _ => n - (intOf j).toNat)
          case atStart => exact ⟨p + 1, 1, Nat.le_refl _, hkl, by go_num, rfl, Nat.le_refl _, by omega, HS2.out.2, Ext.kp hkp2, HS2.out.1⟩
          case round =>
            obtain ⟨k, j, hj1, hjn, rfl, rfl, hk0, hkj, hkl2, hkp3, hb3⟩ := hrel
            have f1 := hb3.free k
            have HB3 := Lib.hid (And.intro hkl2 hb3); clear hkl2
            by_cases hjm : j < m
            · obtain ⟨t, rfl⟩ : ∃ t, j = t + 1 := ⟨j - 1, by omega⟩
              have hCl := HN.out.1
              have c1 : wr.cell? ⟨g, p + 1 + (t + 1), none⟩ = some (valInt z (C.getD (p + 1 + (t + 1)) 0)) := by
                rw [hb3.cell']; exact compact_cell HB3.out.1 (by omega) (by omega)
              have c2 : wr.cell? ⟨g, p + 1 + t, none⟩ = some (valInt z (C.getD (p + 1 + t) 0)) := by
                rw [hb3.cell']; exact compact_cell HB3.out.1 (by omega) (by omega)
              have hx : C.getD (p + 1 + (t + 1)) 0 < N := HN.out.2.1 _ (getD_mem (by omega))
              have hy : C.getD (p + 1 + t) 0 < N := HN.out.2.1 _ (getD_mem (by omega))
              clear hCl hb3
              have hcall := fun W hW => HC.out W hW _ _ hx hy
              have HCall := Lib.hid hcall; clear hcall
              obtain ⟨x, ex⟩ : ∃ x, x = C.getD (p + 1 + (t + 1)) 0 := ⟨_, rfl⟩
              obtain ⟨y, ey⟩ : ∃ y, y = C.getD (p + 1 + t) 0 := ⟨_, rfl⟩
              rw [← ex, ← ey] at HCall
              rw [← ex] at c1
              rw [← ey] at c2
              have HE := Lib.hid (And.intro ex ey); clear ex ey hx hy
              unfold valInt at c1 c2
              obtain ⟨i1, i2, i3, i4, i5, i6, i7⟩ := idx_pred (k := t) (n := m) (by omega) (by omega)
              have hkn2 : k < n := by omega
              cases hqk : q x y
              · rw [hqk] at HCall
                have HK := Lib.hid hqk; clear hqk
                go_wp2
                go_still_tail 10, (by kernel_rfl)
                go_wp2_with fail
                refine (HCall.out _ hkp3.drew).mono ?_
                rintro e w2 ⟨rfl, hk2⟩
                have hkp4 : Kp (fun i => i = g) w w2 := hkp3.drew.ext hk2
                have d1 := hk2.cell c1 id
                have HB4 : Blk w2 g ((keepTo q C (p + 1 + (t + 1))).map (valInt z) ++ (C.map (valInt z) ++ rest).drop k) 3 := HB3.out.2.drew.ext hk2
                have f2 := HB4.free k
                have d2 : ∃ u, w2.cell? ⟨g, k, none⟩ = some u := ⟨_, HB4.cell k (by have h2 := HN.out.2.2; have h1 := HN.out.1; have h3 := HB3.out.1; simp at h2 ⊢; omega)⟩
                obtain ⟨u, d2⟩ := d2
                have HB5 := Lib.hid HB4; clear HB4
                clear hk2 c1 c2 f1
                go_wp2
                go_roundw
                case rel =>
                  have e : keepTo q C (p + 1 + (t + 2)) = keepTo q C (p + 1 + (t + 1)) ++ [x] := by
                    have := keepTo_no (q := q) (C := C) (k := p + 1 + (t + 1)) (by rw [← HE.out.1, show p + 1 + (t + 1) - 1 = p + 1 + t by omega, ← HE.out.2]; exact HK.out)
                    rw [HE.out.1, ← this]; rfl
                  refine ⟨k + 1, t + 2, by omega, by omega, by first | rfl | (congr 1; done) | (congr 1; omega), by first | rfl | (congr 1; done) | (congr 1; omega), by omega, by omega, by rw [e, List.length_append, HB3.out.1]; rfl, ?_, ?_⟩
                  · exact hkp4.setCell (fun _ => rfl) _
                  · rw [e]; exact (HB5.out.set k _).congrL (compact_set HB3.out.1 (by have := HN.out.1; omega))
                case measure => simp [intOf]; omega
              · rw [hqk] at HCall
                have HK := Lib.hid hqk; clear hqk
                go_wp2
                go_still_tail 10, (by kernel_rfl)
                go_wp2_with fail
                refine (HCall.out _ hkp3.drew).mono ?_
                rintro e w2 ⟨rfl, hk2⟩
                have hkp4 : Kp (fun i => i = g) w w2 := hkp3.drew.ext hk2
                have HB4 : Blk w2 g ((keepTo q C (p + 1 + (t + 1))).map (valInt z) ++ (C.map (valInt z) ++ rest).drop k) 3 := HB3.out.2.drew.ext hk2
                have HB5 := Lib.hid HB4; clear HB4
                clear hk2 c1 c2 f1
                go_wp2
                go_roundw
                case rel =>
                  have e : keepTo q C (p + 1 + (t + 2)) = keepTo q C (p + 1 + (t + 1)) := by
                    have := keepTo_yes (q := q) (C := C) (k := p + 1 + (t + 1)) (by omega) (by rw [← HE.out.1, show p + 1 + (t + 1) - 1 = p + 1 + t by omega, ← HE.out.2]; exact HK.out)
                    rw [← this]; rfl
                  exact ⟨k, t + 2, by omega, by omega, rfl, by first | rfl | (congr 1; done) | (congr 1; omega), hk0, by omega, by rw [e]; exact HB3.out.1, hkp4, by rw [e]; exact HB5.out⟩
                case measure => simp [intOf]; omega
            · have hjn' : p + 1 + j = n := by omega
              rw [hjn'] at HB3
              obtain ⟨w3, hrun, hk3, hb4⟩ := run_clearB elemInt rfl (fun w => by kernel_rfl) HB3.out.2 (off := k) (n := n - k) (c := cap - k) (sp := some ⟨g, k, none⟩) (fun _ => rfl) (by have := HB3.out.1; have h2 := HN.out.2.2; have h1 := HN.out.1; simp at h2 ⊢; omega)
              have HB4 := Lib.hid hb4; clear hb4 hb3
              have HK3 := Lib.hid hk3; clear hk3
              have hkc : ¬ cap = k := by omega
              have hkc2 : (k : Int) ≤ (cap : Int) := by omega
              have hkn2 : (k : Int) ≤ (n : Int) := by omega
              have hjj : j = m := by omega
              clear hjn'
              go_wp2
              go_ret
              have h2 := HN.out.2.2; have h1 := HN.out.1
              have hk := HB3.out.1
              refine RetF.mk (hkp3.trans HK3.out) ⟨List.replicate (n - k) (.int .i64 0) ++ ((C.map (valInt z) ++ rest).drop k).drop (n - k), ?_, ?_, ?_⟩
              · rw [hk]; rfl
              · refine HB4.out.congrL ?_
                unfold splice
                rw [List.take_append_of_le_length (by simp; omega), List.take_of_length_le (by simp; omega), List.drop_append, List.drop_of_length_le (by simp; omega), List.length_map, hk, List.length_replicate, List.nil_append, Nat.add_sub_cancel_left]
              · simp at h2 ⊢; omega
      · go_wp2
        go_ret
        have e : keepTo q C n = C := by
          rw [keepTo_all (by have := HN.out.1; omega) (fun j h1 h2 => HQ.out j h1 (by omega)), List.take_of_length_le (by have := HN.out.1; omega)]
        refine RetF.mk hext ⟨rest, ?_, by rw [e]; exact HB.out.ext hkp, by rw [e]; exact HN.out.2.2⟩
        rw [e, ← HN.out.1]; rfl
end Go.Proofs.YtfkhelihepbehaaGreat

/- slices.Clone, EqualFunc, Grow, Concat at int. -/
namespace Go.Proofs.YtfkhelihepbehaaGreat
open Go.RowKit
set_option linter.unusedVariables false

theorem cloneInt_any (vs : List Value) (ao : Option Addr) (cap : Nat) (w : World) (n : Nat) (hn : n = vs.length) (hc : CellsAt w ao vs) (h1 : ∀ u ∈ vs, u.oneCell' = true) (hm : n * 8 ≤ 140737488355328) :
    Calls Tryz.prog 89 #[.slice ao n cap] w (RetN w fun w' v => Row w' 3 1 v n vs (New w)) := by
  have hq : ∀ w : World, (binOp .eql 40 (.slice ao n cap) (.slice none 0 0)).run Tryz.prog w = .ok (.bool ao.isNone) w := fun w => Lib.run_eql_slice_nil w _ _ _ _ _ _ _ Tryz.underlying40
  have HNN := Lib.hid hn; clear hn
  have hl : n ≤ maxLen := by unfold maxLen; omega
  cases ao with
  | none =>
    have hv : vs = [] := by
      cases vs with
      | nil => rfl
      | cons x vs => obtain ⟨b, o, h, _⟩ := hc.off (by simp); cases h
    subst hv
    have h0 : n = 0 := HNN.out
    subst h0
    go_enter Tryz.func89, Tryz.ntmps89
    go_wp2
    go_ret
    exact RetN.mk (Kp.refl _) (Row.nil _ _ _ _)
  | some a =>
    go_enter Tryz.func89, Tryz.ntmps89
    go_wp2_with (first | (at_builtin; refine Halted.out ?_))
    refine Halted.mk (wp_appN elemInt rfl _ _ rfl ((Kp.refl (F := fun _ => False) w).alloc _) rfl (Row.empty w 3 1 (New w) (Nat.le_refl _)) rfl (hc.alloc _) (by rw [HNN.out, Nat.mul_one]) h1 (by omega) (by omega) ?_)
    intro v1 w1 hr1 hk1 _ _
    have HR := Lib.hid hr1; clear hr1
    go_wp2
    go_ret
    exact RetN.mk hk1 (by simpa using HR.out)



end Go.Proofs.YtfkhelihepbehaaGreat

/- tuple.Set at int: what a set is in memory; cmp, alike, Len, Items, find. -/
namespace Go.Proofs.YtfkhelihepbehaaGreat
open Go.RowKit
set_option linter.unusedVariables false

/-- A value that a set may have for its order: nil where all are alike, or a function that holds two of D against each other, in every world in which the blocks of S are as they were. -/
def OrdVInt (P : Program) (S : Nat → Prop) (w0 : World) (ov : Value) (D : Int → Prop) (c : Int → Int → Int) : Prop :=
  (ov = .nilFunc ∧ ∀ x y, D x → D y → c x y = 0) ∨ ∃ f first cap, ov = .func (Fn.func f) first cap ∧ (∀ args w, (callFunc f args).run P w = .ok (Next.enter f args) w) ∧
    ∀ w, Same S w0 w → ∀ x y, D x → D y → Calls P f (first ++ (#[(Value.int .i64 (x)), (Value.int .i64 (y))] ++ cap)) w fun e w' => e = .returned (.int .i64 (c x y)) ∧ Ext w w'

theorem OrdVInt.same {P : Program} {S : Nat → Prop} {w0 w1 : World} {ov : Value} {D : Int → Prop} {c : Int → Int → Int} (h : OrdVInt P S w0 ov D c) (hs : Same S w0 w1) : OrdVInt P S w1 ov D c := by
  rcases h with h | ⟨f, first, cap, e, he, h⟩
  · exact .inl h
  · exact .inr ⟨f, first, cap, e, he, fun w hw => h w (hs.trans hw)⟩
theorem OrdVInt.mono {P : Program} {S S' : Nat → Prop} {w0 : World} {ov : Value} {D : Int → Prop} {c : Int → Int → Int} (h : OrdVInt P S w0 ov D c) (hs : ∀ k, S k → S' k) : OrdVInt P S' w0 ov D c := by
  rcases h with h | ⟨f, first, cap, e, he, h⟩
  · exact .inl h
  · exact .inr ⟨f, first, cap, e, he, fun w hw => h w (hw.mono hs)⟩

/-- A set in memory: its order, its row, what lies behind them in the same struct. -/
structure SetAtInt (P : Program) (S : Nat → Prop) (w : World) (b : Nat) (ov iv : Value) (tail : List Value) (te : TypeId) (D : Int → Prop) (c : Int → Int → Int) (zs : List (Int)) : Prop where
  blk : Blk w b (ov :: iv :: tail) te
  row : Row w 3 1 iv zs.length (zs.map fun x => (Value.int .i64 (x))) (fun k => iv.ownBlock = some k)
  apart : iv.ownBlock ≠ some b
  inS : ∀ k, S k → k < w.heap.size
  notS : ∀ k, Owns b iv k → ¬ S k
  ord : OrdVInt P S w ov D c
  all : ∀ x ∈ zs, D x
  len : zs.length ≤ 1048576 * 1048576

section
variable {P : Program} {S : Nat → Prop} {w w' : World} {b : Nat} {ov iv : Value} {tail : List Value} {te : TypeId} {D : Int → Prop} {c : Int → Int → Int} {zs : List (Int)}
theorem SetAtInt.kp {F : Nat → Prop} (h : SetAtInt P S w b ov iv tail te D c zs) (hk : Kp F w w') (hF : ∀ k, F k → ¬ Owns b iv k) (hS : ∀ k, F k → ¬ S k) : SetAtInt P S w' b ov iv tail te D c zs :=
  ⟨h.blk.kp hk fun hf => hF _ hf (.inl rfl), h.row.kp hk fun g hg hf => hF _ hf (.inr hg), h.apart, fun k hk' => Nat.lt_of_lt_of_le (h.inS k hk') hk.size, h.notS, h.ord.same (hk.same h.inS fun k hk' hf => hS k hf hk'), h.all, h.len⟩
theorem SetAtInt.ext (h : SetAtInt P S w b ov iv tail te D c zs) (hk : Ext w w') : SetAtInt P S w' b ov iv tail te D c zs := h.kp hk (fun _ x => x.elim) (fun _ x => x.elim)
theorem SetAtInt.cells (h : SetAtInt P S w b ov iv tail te D c zs) : w.cell? ⟨b, 0, none⟩ = some ov ∧ w.cell? ⟨b, 1, none⟩ = some iv := ⟨by rw [h.blk.cell']; rfl, by rw [h.blk.cell']; rfl⟩
end

set_option maxRecDepth 100000 in
theorem setCmpInt_any (S : Nat → Prop) (w : World) (b : Nat) (ov : Value) (cs : List Value) (te : TypeId) (D : Int → Prop) (c : Int → Int → Int) (x y : Int) (hx : D x) (hy : D y) (hB : Blk w b (ov :: cs) te)
    (hS : ∀ k, S k → k < w.heap.size) (ho : OrdVInt Tryz.prog S w ov D c) :
    Calls Tryz.prog 91 #[.pointer (some ⟨b, 0, none⟩), (Value.int .i64 (x)), (Value.int .i64 (y))] w (fun e w' => e = .returned (.int .i64 (c x y)) ∧ Ext w w') := by
  have c1 : w.cell? ⟨b, 0, none⟩ = some ov := by rw [hB.cell']; rfl
  clear hB
  rcases ho with ⟨rfl, h0⟩ | ⟨f, first, cap, rfl, hent, hc⟩
  · have h00 := Lib.hid (h0 x y hx hy); clear h0
    have hq : ∀ w : World, (binOp .eql 50 .nilFunc .nilFunc).run Tryz.prog w = .ok (.bool true) w := fun _ => by kernel_rfl
    go_enter Tryz.func91, Tryz.ntmps91
    go_wp2
    go_ret
    exact ⟨by rw [h00.out]; rfl, Kp.refl _⟩
  · have HC := Lib.hid hc; clear hc
    have hq : ∀ w : World, (binOp .eql 50 (.func (Fn.func f) first cap) .nilFunc).run Tryz.prog w = .ok (.bool false) w := fun _ => by kernel_rfl
    go_enter Tryz.func91, Tryz.ntmps91
    go_wp2_with fail
    refine (HC.out w (Same.refl hS) x y hx hy).mono ?_
    rintro e w1 ⟨rfl, hk⟩
    have HK := Lib.hid hk; clear hk
    go_wp2
    go_ret
    exact ⟨rfl, HK.out⟩

set_option maxRecDepth 100000 in
theorem setAlikeInt_any (S : Nat → Prop) (w : World) (b : Nat) (ov : Value) (cs : List Value) (te : TypeId) (D : Int → Prop) (c : Int → Int → Int) (x y : Int) (hx : D x) (hy : D y) (hB : Blk w b (ov :: cs) te)
    (hS : ∀ k, S k → k < w.heap.size) (ho : OrdVInt Tryz.prog S w ov D c) :
    Calls Tryz.prog 93 #[.pointer (some ⟨b, 0, none⟩), (Value.int .i64 (x)), (Value.int .i64 (y))] w (fun e w' => e = .returned (.bool (decide (c x y = 0))) ∧ Ext w w') := by
  go_enter Tryz.func93, Tryz.ntmps93
  go_wp2_with fail
  refine (setCmpInt_any S w b ov cs te D c x y hx hy hB hS ho).mono ?_
  rintro e w1 ⟨rfl, hk⟩
  have HK := Lib.hid hk; clear hk hB ho
  go_wp2
  go_ret
  exact ⟨rfl, HK.out⟩

set_option maxRecDepth 100000 in
theorem setItemsInt_any {S : Nat → Prop} {w : World} {b : Nat} {ov iv : Value} {tail : List Value} {te : TypeId} {D : Int → Prop} {c : Int → Int → Int} {zs : List (Int)} (h : SetAtInt Tryz.prog S w b ov iv tail te D c zs) :
    Calls Tryz.prog 37 #[.pointer (some ⟨b, 0, none⟩)] w (RetN w fun w' v => Row w' 3 1 v zs.length (zs.map fun x => (Value.int .i64 (x))) (New w)) := by
  obtain ⟨c1, c2⟩ := h.cells
  obtain ⟨ao, cap, rfl, hc, _⟩ := h.row.shape
  have hl := h.len
  have HC := Lib.hid hc; clear h hc
  go_enter Tryz.func37, Tryz.ntmps37
  go_wp2_with fail
  refine (cloneInt_any (zs.map fun x => (Value.int .i64 (x))) ao cap w zs.length (by simp) HC.out (by intro u hu; obtain ⟨x, _, rfl⟩ := List.mem_map.1 hu; rfl) (by omega)).mono ?_
  rintro e w1 ⟨v, rfl, hk, hr⟩
  have HR := Lib.hid (And.intro hk hr); clear hk hr
  go_wp2
  go_ret
  exact RetN.mk HR.out.1 HR.out.2
theorem setItemsInt_nil (w : World) : Calls Tryz.prog 37 #[.pointer none] w (Ret (.slice none 0 0) w) := by
  go_enter Tryz.func37, Tryz.ntmps37
  go_wp2
  go_ret
  exact Ret.mk rfl

set_option maxRecDepth 100000 in
set_option maxHeartbeats 1000000 in
theorem setFindInt_any {S : Nat → Prop} {w : World} {b : Nat} {ov iv : Value} {tail : List Value} {te : TypeId} {D : Int → Prop} {c : Int → Int → Int} {zs : List (Int)} (O : OrdLaw c) (x : Int) (hx : D x) (hs : Strict c zs) (h : SetAtInt Tryz.prog S w b ov iv tail te D c zs) :
    Calls Tryz.prog 94 #[.pointer (some ⟨b, 0, none⟩), (Value.int .i64 (x))] w
      (RetF (fun _ => False) w fun w' v => v = .tuple #[.int .i64 (below c zs x : Nat), .bool (isIn c zs x)]) := by
  obtain ⟨c1, c2⟩ := h.cells
  obtain ⟨ao, cap, eiv, hc, _⟩ := h.row.shape
  subst eiv
  have hl := h.len
  obtain ⟨n, en⟩ : ∃ n, n = zs.length := ⟨_, rfl⟩
  have get : ∀ i (hi : i < n), zs.getD i x = zs[i]'(by omega) := fun i hi => by simp [List.getD, show i < zs.length by omega]
  have evals : (List.range n).map (fun i => (Value.int .i64 (zs.getD i x))) = zs.map fun x => (Value.int .i64 (x)) := by
    refine List.ext_getElem (by simp [en]) fun i h1 h2 => ?_
    simp only [List.getElem_map, List.getElem_range]
    rw [get i (by simpa using h1)]
  have hent : ∀ args w, (callFunc 91 args).run Tryz.prog w = .ok (.enter 91 args) w := enters_of Tryz.func91 (by kernel_rfl) rfl
  have hcmp : CmpToInt Tryz.prog 91 #[.pointer (some ⟨b, 0, none⟩)] #[] w ((List.range n).map fun i => (Value.int .i64 (zs.getD i x))) ((Value.int .i64 (x))) (fun i => c (zs.getD i x) x) := by
    refine ⟨hent, fun w' hw i v hv => ?_⟩
    have hi : i < n := by simpa using (List.getElem?_eq_some_iff.1 hv).1
    have ev : v = (Value.int .i64 (zs.getD i x)) := by simp [hi] at hv; rw [← hv, List.getD_eq_getElem?_getD]
    subst ev
    have h' := h.ext hw
    exact setCmpInt_any S w' b ov _ te D c (zs.getD i x) x (by rw [get i hi]; exact h.all _ (List.getElem_mem _)) hx h'.blk h'.inS h'.ord
  have hbin := binSearchInt_any zs (fun i => zs.getD i x) ao cap ((Value.int .i64 (x))) 91 #[.pointer (some ⟨b, 0, none⟩)] #[] (fun i => c (zs.getD i x) x) w n (by rw [evals]; exact hc) hcmp (by omega)
  rw [en] at hbin
  have HB := Lib.hid hbin
  have HH := Lib.hid (And.intro en get)
  clear hbin hcmp hc evals hent h get
  go_enter Tryz.func94, Tryz.ntmps94
  go_wp2_with fail
  refine HB.out.mono ?_
  rintro e w1 ⟨v, rfl, hk, i, hi, h1, h2, rfl⟩
  have ei : i = below c zs x := by
    refine hs.place O hi (fun y hp hy => ?_) (fun y hy => ?_)
    · have e := (List.getElem?_eq_some_iff.1 hy).2
      rcases h1 with h1 | h1
      · omega
      · rw [HH.out.2 _ (by rw [HH.out.1]; omega), e] at h1; exact h1
    · obtain ⟨hl', e⟩ := List.getElem?_eq_some_iff.1 hy
      rcases h2 with h2 | h2
      · omega
      · rw [HH.out.2 _ (by rw [HH.out.1]; omega), e] at h2; exact h2
  have eb : decide (i < zs.length ∧ c (zs.getD i x) x = 0) = isIn c zs x := by
    rw [Bool.eq_iff_iff, decide_eq_true_iff, hs.there O x, ← ei]
    constructor
    · rintro ⟨a1, a2⟩
      exact ⟨zs[i], List.getElem?_eq_getElem a1, by rw [HH.out.2 _ (by rw [HH.out.1]; omega)] at a2; exact a2⟩
    · rintro ⟨y, hy, hz⟩
      obtain ⟨hl', e⟩ := List.getElem?_eq_some_iff.1 hy
      exact ⟨hl', by rw [HH.out.2 _ (by rw [HH.out.1]; omega), e]; exact hz⟩
  rw [eb, ei]
  have HK := Lib.hid hk
  clear hk h1 h2 eb ei hi
  go_wp2
  go_ret2
  exact RetF.mk HK.out (tup_ib rfl)
end Go.Proofs.YtfkhelihepbehaaGreat

/- tuple.NewSet at int. -/
namespace Go.Proofs.YtfkhelihepbehaaGreat
open Go.RowKit
set_option linter.unusedVariables false

theorem compactInt_nil (fv : Value) (w : World) : Calls Tryz.prog 92 #[.slice none 0 0, fv] w (Ret (.slice none 0 0) w) := by
  go_enter Tryz.func92, Tryz.ntmps92
  go_wp2
  go_ret
  exact Ret.mk rfl

/-- A new row laid into a set's struct. -/
theorem setAtInt_store {P : Program} {S : Nat → Prop} {w : World} {b : Nat} {ov iv0 iv : Value} {tail : List Value} {te : TypeId} {D : Int → Prop} {c : Int → Int → Int} {zs : List (Int)} {M : Nat → Prop}
    (hB : Blk w b (ov :: iv0 :: tail) te) (hr : Row w 3 1 iv zs.length (zs.map fun x => (Value.int .i64 (x))) M) (hap : iv.ownBlock ≠ some b) (hS : ∀ k, S k → k < w.heap.size) (hn : ∀ k, Owns b iv k → ¬ S k)
    (ho : OrdVInt P S w ov D c) (hD : ∀ x ∈ zs, D x) (hl : zs.length ≤ 1048576 * 1048576) : SetAtInt P S (w.setCell ⟨b, 1, none⟩ iv) b ov iv tail te D c zs := by
  have hk : Kp (fun k => k = b) w (w.setCell ⟨b, 1, none⟩ iv) := Kp.setCell (F := fun k => k = b) (Kp.refl w) (fun _ => rfl) iv
  exact ⟨hB.set 1 iv, hr.own.kp hk fun g hg e => hap (by rw [hg, e]), hap, fun k h => Nat.lt_of_lt_of_le (hS k h) hk.size, hn, ho.same (hk.same hS fun k h e => hn k (.inl e) h), hD, hl⟩

theorem newWInt {P : Program} {S : Nat → Prop} {w w1 : World} {ov : Value} {D : Int → Prop} {c : Int → Int → Int} {g : Nat} {cs : List Value} {e : TypeId} (ho : OrdVInt P S w ov D c) (hk : Ext w w1) (hS : ∀ k, S k → k < w.heap.size) (hB : Blk w1 g cs e) (iv : Value) (te : TypeId) :
    ∃ w2, w1.alloc (.cells #[ov, iv] te) = w2 ∧ Ext w w2 ∧ Blk w2 w1.heap.size [ov, iv] te ∧ Blk w2 g cs e ∧ OrdVInt P S w2 ov D c ∧ ∀ k, S k → k < w2.heap.size :=
  ⟨_, rfl, hk.alloc _, Blk.new w1 [ov, iv] te, hB.alloc _, ho.same ((hk.alloc _).same hS fun _ _ => id), fun k h => Nat.lt_of_lt_of_le (hS k h) (hk.alloc _).size⟩

set_option maxRecDepth 100000 in
set_option maxHeartbeats 2000000 in
theorem newSetInt_any (S : Nat → Prop) (w : World) (ov : Value) (ao : Option Addr) (n cap : Nat) (D : Int → Prop) (c : Int → Int → Int) (O : OrdLaw c) (zs : List (Int)) (hn : n = zs.length) (hc : CellsAt w ao (zs.map fun x => (Value.int .i64 (x))))
    (hS : ∀ k, S k → k < w.heap.size) (ho : OrdVInt Tryz.prog S w ov D c) (hD : ∀ x ∈ zs, D x) (hl : n ≤ 1048576 * 1048576) :
    Calls Tryz.prog 34 #[ov, .slice ao n cap] w
      (RetN w fun w' v => ∃ b iv, v = .pointer (some ⟨b, 0, none⟩) ∧ w.heap.size ≤ b ∧ (∀ k, iv.ownBlock = some k → w.heap.size ≤ k) ∧ SetAtInt Tryz.prog S w' b ov iv [] 126 D c (newS c zs)) := by
  have hform : ov = .nilFunc ∨ ∃ f first cap, ov = .func f first cap := by
    rcases ho with ⟨h, _⟩ | ⟨f, first, cap, h, _⟩
    · exact .inl h
    · exact .inr ⟨_, _, _, h⟩
  have HO := Lib.hid ho; clear ho
  have HN := Lib.hid (And.intro hn hD); clear hn hD
  have HC := Lib.hid hc; clear hc
  rcases hform with rfl | ⟨f1, first1, cap2, rfl⟩
  all_goals
    go_enter Tryz.func34, Tryz.ntmps34
    go_wp2_with fail
    refine (cloneInt_any (zs.map fun x => (Value.int .i64 (x))) ao cap w n (by rw [HN.out.1, List.length_map]) HC.out (by intro u hu; obtain ⟨x, _, rfl⟩ := List.mem_map.1 hu; rfl) (by omega)).mono ?_
    rintro e w1 ⟨v, rfl, hk, hr⟩
    have HK := Lib.hid hk; clear hk
    obtain ⟨h1, ⟨rfl, h0⟩ | ⟨g, cap1, rest, rfl, hg, hB, hlen, hnc, hcm⟩⟩ := hr
    · have HZ := Lib.hid h0; clear h0 h1
      go_wp2_with fail
      refine (sortStableInt_nil none 0 _ _).mono ?_
      rintro e w' ⟨rfl, rfl⟩
      go_wp2_with fail
      refine (compactInt_nil _ _).mono ?_
      rintro e w' ⟨rfl, rfl⟩
      go_wp2
      go_ret
      have hz : zs = [] := List.eq_nil_of_length_eq_zero (by rw [← HN.out.1]; exact HZ.out)
      subst hz
      have hk1 := HK.out
      refine RetN.mk (hk1.alloc _) ⟨w1.heap.size, .slice none 0 0, rfl, hk1.size, (fun k hk => by cases hk), ?_⟩
      refine ⟨Blk.new w1 [_, _] _, Row.nil _ _ _ _, (fun h => by cases h), (fun k h => Nat.lt_of_lt_of_le (hS k h) (hk1.alloc _).size), (fun k h hs => ?_), HO.out.same ((hk1.alloc _).same hS fun _ _ => id), by simp [newS], by simp [newS]⟩
      have := hS k hs; have := hk1.size
      rcases h with h | h
      · omega
      · cases h
    · have HB := Lib.hid hB; clear hB
      have HG := Lib.hid hg; clear hg
      have hLN := Lib.hid hlen; clear hlen
      obtain ⟨b, eb⟩ : ∃ b, b = w1.heap.size := ⟨_, rfl⟩
      have hgb : g < b := by rw [eb]; exact HB.out.lt
      have hentc : ∀ args w, (callFunc 91 args).run Tryz.prog w = .ok (.enter 91 args) w := enters_of Tryz.func91 (by kernel_rfl) rfl
      have henta : ∀ args w, (callFunc 93 args).run Tryz.prog w = .ok (.enter 93 args) w := enters_of Tryz.func93 (by kernel_rfl) rfl
      have HE := Lib.hid (And.intro hentc henta); clear hentc henta
      have get : ∀ i, i < n → ∃ h : i < zs.length, zs.getD i default = zs[i] := fun i hi => ⟨by rw [← HN.out.1]; exact hi, by simp [List.getD, show i < zs.length by rw [← HN.out.1]; exact hi]⟩
      have inD : ∀ i, i < n → D (zs.getD i default) := fun i hi => by obtain ⟨h, e⟩ := get i hi; rw [e]; exact HN.out.2 _ (List.getElem_mem _)
      have evals : zs.map (fun x => (Value.int .i64 (x))) = (List.range n).map (valInt fun i => zs.getD i default) := by
        refine List.ext_getElem (by simp [HN.out.1]) fun i h1 h2 => ?_
        simp only [List.getElem_map, List.getElem_range]
        obtain ⟨h, e⟩ := get i (by simpa using h2)
        show (Value.int .i64 (zs[i])) = (Value.int .i64 (zs.getD i default))
        rw [e]
      have ezs : (List.range n).map (fun i => zs.getD i default) = zs := by
        refine List.ext_getElem (by simp [HN.out.1]) fun i h1 h2 => ?_
        simp only [List.getElem_map, List.getElem_range]
        exact (get i (by simpa using h1)).2
      have HV := Lib.hid (And.intro evals ezs)
      have HI := Lib.hid inD
      clear evals ezs inD get
      have OL := (O.idx fun i : Nat => zs.getD i default)
      go_wp2_with fail
      obtain ⟨w2, hw2, hk2, hB2, hG2, ho2, hS2⟩ := newWInt HO.out HK.out hS HB.out (.slice (some ⟨g, 0, none⟩) n cap1) 126
      rw [← eb] at hB2
      rw [HV.out.1] at hG2
      have hsz : w.heap.size ≤ b := by rw [eb]; exact HK.out.size
      rw [← eb, hw2]
      clear hw2 eb
      have hSg : ∀ k, S k → ¬ k = g := fun k h e => by have := hS k h; have := HG.out; simp only [New] at this; omega
      have hSb : ∀ k, S k → ¬ k = b := fun k h e => by have := hS k h; omega
      have hcmp : CmpOn Tryz.prog 91 #[.pointer (some ⟨b, 0, none⟩)] #[] g n w2 (valInt fun i => zs.getD i default) (fun i j => c (zs.getD i default) (zs.getD j default)) :=
        ⟨HE.out.1, fun w' hw i j hi hj => setCmpInt_any S w' b _ _ _ D c _ _ (HI.out i hi) (HI.out j hj) (hB2.kp hw (by omega)) (fun k h => Nat.lt_of_lt_of_le (hS2 k h) hw.size) (ho2.same (hw.same hS2 hSg))⟩
      refine (sortStableInt_any (fun i => zs.getD i default) g n cap1 rest 91 #[.pointer (some ⟨b, 0, none⟩)] #[] (fun i j => c (zs.getD i default) (zs.getD j default)) OL.nat w2 hcmp (by omega) hG2).mono ?_
      clear hcmp
      rintro e w3 ⟨v, rfl, hk3, rfl, C, hp, hs, hG3⟩
      have hB3 := hB2.kp hk3 (by omega)
      have ho3 := ho2.same (hk3.same hS2 hSg)
      have hS3 : ∀ k, S k → k < w3.heap.size := fun k h => Nat.lt_of_lt_of_le (hS2 k h) hk3.size
      have hCl : C.length = n := by simpa using hp.length_eq
      have c1 : w3.cell? ⟨b, 1, none⟩ = some (.slice (some ⟨g, 0, none⟩) n cap1) := by rw [hB3.cell']; rfl
      have hlike : LikeOn Tryz.prog 93 #[.pointer (some ⟨b, 0, none⟩)] #[] g n w3 (valInt fun i => zs.getD i default) (fun i j => decide (c (zs.getD i default) (zs.getD j default) = 0)) :=
        ⟨HE.out.2, fun w' hw i j hi hj => setAlikeInt_any S w' b _ _ _ D c _ _ (HI.out i hi) (HI.out j hj) (hB3.kp hw (by omega)) (fun k h => Nat.lt_of_lt_of_le (hS3 k h) hw.size) (ho3.same (hw.same hS3 hSg))⟩
      have hcomp := compactInt_any (fun i => zs.getD i default) C g n cap1 n rest 93 #[.pointer (some ⟨b, 0, none⟩)] #[] _ w3 hlike hCl.symm (fun i hi => List.mem_range.1 (hp.subset hi)) (by omega) hG3 (by have := hLN.out; simp only [List.length_append, List.length_map, hCl] at this ⊢; rw [← HN.out.1] at this; omega) hcm
      have hkeep := keep_new OL hp hs
      rw [hkeep] at hcomp
      have HCOMP := Lib.hid hcomp
      have HCM := Lib.hid hcm
      have HP := Lib.hid (And.intro hk2 (And.intro hk3 (And.intro hB3 (And.intro ho3 hS3))))
      clear hlike hcomp hkeep hk2 hk3 hB3 ho3 hS3 hp hs hG3 hB2 hG2 ho2 hS2 hcm
      go_wp2_with fail
      refine HCOMP.out.mono ?_
      rintro e w4 ⟨v, rfl, hk4, rest', rfl, hG4, hl4⟩
      obtain ⟨hk2, hk3, hB3, ho3, hS3⟩ := HP.out
      have hB4 := hB3.kp hk4 (by omega)
      have ho4 := ho3.same (hk4.same hS3 hSg)
      have hS4 : ∀ k, S k → k < w4.heap.size := fun k h => Nat.lt_of_lt_of_le (hS3 k h) hk4.size
      have d0 : w4.cell? ⟨b, 1, none⟩ = some (.slice (some ⟨g, 0, none⟩) n cap1) := by rw [hB4.cell']; rfl
      have f0 := hB4.free 1
      have hkk : Kp (fun k => k = g) w w4 := (hk2.kp.trans hk3).trans hk4
      have HQ := Lib.hid (And.intro hB4 (And.intro ho4 (And.intro hS4 (And.intro hG4 (And.intro hl4 hkk)))))
      clear hk2 hk3 hB3 ho3 hS3 hk4 hG4 hl4 hB4 ho4 hS4 hkk c1
      go_wp2
      go_ret
      obtain ⟨hB4, ho4, hS4, hG4, hl4, hkk⟩ := HQ.out
      have eN : (newS (fun i j => c (zs.getD i default) (zs.getD j default)) (List.range n)).map (fun i => zs.getD i default) = newS c zs := by rw [← newS_map, HV.out.2]
      have eL : (newS (fun i j => c (zs.getD i default) (zs.getD j default)) (List.range n)).length = (newS c zs).length := by rw [← eN, List.length_map]
      have eV : (newS (fun i j => c (zs.getD i default) (zs.getD j default)) (List.range n)).map (valInt fun i => zs.getD i default) = (newS c zs).map fun x => (Value.int .i64 (x)) := by
        rw [← eN, List.map_map]; rfl
      rw [eV] at hG4 hl4
      have hgw : w.heap.size ≤ g := HG.out
      have hex : Ext w w4 := hkk.mono fun k hk e => by omega
      refine RetN.mk (hex.setCell (fun h => absurd hsz (Nat.not_le.2 h)) _) ⟨b, .slice (some ⟨g, 0, none⟩) (newS (fun i j => c (zs.getD i default) (zs.getD j default)) (List.range n)).length cap1, rfl, hsz, (fun k hk => by have e : g = k := Option.some.inj hk; omega), ?_⟩
      have hlen := newS_len (c := c) zs
      refine setAtInt_store hB4 (M := fun _ => True) ⟨by simp, .inr ⟨g, cap1, rest', congrArg (fun t => Value.slice (some ⟨g, 0, none⟩) t cap1) eL, trivial, hG4, by rw [hl4, Nat.mul_one], by rw [← hl4]; simp, HCM.out⟩⟩ (fun h => by have e : g = b := Option.some.inj h; omega) hS4 (fun k h hs => ?_) ho4 (fun x hx => HN.out.2 x (newS_mem hx)) (by rw [← HN.out.1] at hlen; omega)
      rcases h with h | h
      · exact hSb k hs h
      · have e : g = k := Option.some.inj h
        exact hSg _ hs e.symm
end Go.Proofs.YtfkhelihepbehaaGreat

/- slices.Insert of one element at int. -/
namespace Go.Proofs.YtfkhelihepbehaaGreat
open Go.RowKit
set_option linter.unusedVariables false

set_option maxRecDepth 100000 in
set_option maxHeartbeats 4000000 in
theorem insertInt_any (xs : List Value) (iv : Value) (M : Nat → Prop) (n i : Nat) (x : Value) (vb : Nat) (ve : TypeId) (w : World) (hn : n = xs.length) (hr : Row w 3 1 iv n xs M) (hi : i ≤ n) (hx : x.oneCell' = true) (hxs : ∀ u ∈ xs, u.oneCell' = true)
    (hv : Blk w vb [x] ve) (hne : iv.ownBlock ≠ some vb) (hb : (n + 1) * 8 ≤ 140737488355328) :
    Calls Tryz.prog 95 #[iv, .int .i64 i, .slice (some ⟨vb, 0, none⟩) 1 1] w
      (RetF (fun g => iv.ownBlock = some g) w fun w' v => Row w' 3 1 v (n + 1) (xs.take i ++ x :: xs.drop i) (fun g => iv.ownBlock = some g ∨ w.heap.size ≤ g)) := by
  have hsrc : CellsAt w (some ⟨vb, 0, none⟩) [x] := CellsAt.pre (rest := []) hv
  have hl : n + 1 ≤ 9223372036854775807 := by omega
  obtain ⟨ao, cap, rfl, hcells, hcap⟩ := hr.shape
  by_cases hin : i = n
  · subst hin
    have HNN := Lib.hid hn; clear hn
    have hrM : Row w 3 1 (.slice ao i cap) i xs (fun g => (Value.slice ao i cap).ownBlock = some g ∨ w.heap.size ≤ g) := hr.own.mono fun g h => .inl h
    clear hr
    by_cases hci : cap = i
    all_goals
      first | (subst hci) | skip
      go_enter Tryz.func95, Tryz.ntmps95
      go_wp2_with (first | (at_builtin; refine Halted.out ?_))
      refine Halted.mk (wp_app elemInt rfl _ _ rfl (Kp.refl (F := fun g => (Value.slice ao _ _).ownBlock = some g) w) (M := fun g => (Value.slice ao _ _).ownBlock = some g ∨ w.heap.size ≤ g) (fun g h h' => by rcases h with h | h; exact h; omega) (fun g h => .inr h) rfl hrM rfl rfl hsrc (by simpa using hx) hb (by unfold maxLen; omega) ?_)
      intro v1 w1 hr1 hk1 _ _
      have HR := Lib.hid hr1; clear hr1 hcells hrM
      go_wp2
      go_ret
      refine RetF.mk hk1 ?_
      have := HNN.out
      rw [List.take_of_length_le (by omega), List.drop_of_length_le (by omega)]
      exact HR.out
  · have hlt : i < n := by omega
    obtain ⟨h1, ⟨h2, h3⟩ | ⟨g, cap', rest, h2, hM, hB, hlen, hnc, hcm⟩⟩ := hr
    · omega
    cases h2
    have hgv : g ≠ vb := fun e => hne (by simp [Value.ownBlock, e])
    have hfree := hv.free
    have hov : ∀ (W : World), Blk W vb [x] ve → (∀ cs, Blk w g cs 3 → True) → ∀ off lb cb (kB : Nat) (eB : TypeId), W.shape? g = some (eB, kB) → kB ≠ 0 →
        (callFunc 133 #[.slice (some ⟨vb, 0, none⟩) 1 1, .slice (some ⟨g, off, none⟩) lb cb]).run Tryz.prog W = .ok (.value (.bool false)) W := fun W hW _ off lb cb kB eB hs hk => by
      rw [run_callFunc_extern Tryz.func133 (by kernel_rfl) (by kernel_rfl) (by kernel_rfl) (e := Extern.SlicesOverlaps.overlaps #[40, 40] #[4]) (by kernel_rfl),
        Lib.run_overlaps_apart W 40 4 3 Tryz.underlying40 1 (fun w => by kernel_rfl) ⟨vb, 0, none⟩ ⟨g, off, none⟩ 1 1 lb cb (fun e => hgv e.symm) ve eB 1 kB hW.shape hs hk (hW.free 0) (hW.free 1)]
      rfl
    by_cases hroom : n + 1 ≤ cap
    · have hrest : ∃ y rest', rest = y :: rest' := by
        cases rest with
        | nil => simp at hlen h1; omega
        | cons y r => exact ⟨y, r, rfl⟩
      obtain ⟨y, rest', rfl⟩ := hrest
      have hov1 := fun off lb cb => hov w hv (fun _ _ => trivial) off lb cb _ _ hB.shape (by simp)
      have ncap : ¬ cap = i + 1 := by omega
      have ncap2 : ¬ cap = i := by omega
      have hi1 : ((i : Int) + 1).toNat = i + 1 := by omega
      have hw1 : IntKind.i64.wrap ((i : Int) + 1) = (i : Int) + 1 := IntWalk.i64_in _ (by omega)
      have hp1 : (0 : Int) ≤ (i : Int) + 1 := by omega
      have hp2 : (i : Int) ≤ (n : Int) + 1 := by omega
      have HNN := Lib.hid hn; clear hn
      have HB := Lib.hid hB; clear hB
      have HS := Lib.hid hsrc; clear hsrc
      have HV := Lib.hid hv; clear hv hov hfree
      have HXS := Lib.hid hxs; clear hxs
      have HC := Lib.hid hcells; clear hcells
      have HLN := Lib.hid (And.intro h1 hlen); clear h1 hlen
      have hcm' := hcm
      clear hM hcm hne
      unfold maxLen at hcm'
      go_enter Tryz.func95, Tryz.ntmps95
      go_wp2_with (simp only [hov1])
      go_still_tail 8, (by kernel_rfl)
      refine wp_copyB elemInt rfl _ _ rfl (w := w.drew) (HB.out.drew) (g := g) (off := i + 1) rfl rfl (cs := xs.drop i) (by have := HNN.out; simp [Nat.min_def]; first | omega | (split <;> omega)) (fun _ => rfl) (fun j u hu => ⟨g, i, rfl, by
          have hb := HB.out
          rw [hb.drew.cell']
          rw [List.getElem?_drop] at hu
          rw [List.getElem?_append_left (List.getElem?_eq_some_iff.1 hu).1]; exact hu⟩) (by have := HNN.out; simp; omega) (fun u hu => HXS.out u (List.mem_of_mem_drop hu)) ?_
      intro w2 hk2 hB2
      have hsv := (HS.out.drewN 1).kp hk2 (fun a ha e => by cases ha; exact hgv e.symm)
      obtain ⟨w3, hrun3, hk3, hB3⟩ := run_copyB elemInt (w := w2) hB2 (g := g) (off := i) (dp := some ⟨g, i, none⟩) (dLen := n + 1 - i) (dCap := cap - i) (sp := some ⟨vb, 0, none⟩) (sLen := 1) (sCap := 1) (cs := [x]) (by simp [Nat.min_def]; omega) (fun _ => rfl) hsv (by have := HNN.out; simp [splice]; omega) (by simpa using hx)
      have HK2 := Lib.hid hk2; have HK3 := Lib.hid hk3; have HB3 := Lib.hid hB3
      clear hk2 hk3 hB3 hB2 hsv hw1 hi1 hp1
      go_wp2
      go_ret
      have hk23 : Kp (fun k => k = g) w w3 := (((Kp.refl w).drew).trans (HK2.out)).trans HK3.out
      refine RetF.mk (hk23.mono fun k _ e => by rw [e]; rfl) ⟨?_, .inr ⟨g, cap, rest', rfl, .inl rfl, ?_, ?_, hroom, by unfold maxLen; omega⟩⟩
      · have := HNN.out; simp; omega
      · have := splice_ins xs rest' x y i (by have := HNN.out; omega)
        rw [← this]; exact HB3.out
      · have := HLN.out.2; have := HNN.out; simp at *; omega
    · have hcap' : n = cap := by omega
      subst hcap'
      have hk0 : 0 < n + 1 - i := by omega
      obtain ⟨w1, G, hrun1, hG, hGm, hext1, hsz1, hB1⟩ := run_app_zeros (w := w) elemInt rfl Tryz.underlying3 (ao := some ⟨g, 0, none⟩) (n := i) (cap := n) (olds := xs.take i) (fun j u hu => by
          rw [List.getElem?_take] at hu
          split at hu
          · exact hcells j u hu
          · cases hu) (by simp; omega) (k := n + 1 - i) hk0 (by omega) (by rw [show i + (n + 1 - i) = n + 1 by omega]; exact hb) (by unfold maxLen; omega)
      rw [show i + (n + 1 - i) = n + 1 by omega] at hrun1 hG
      have rk : (n : Int) + 1 - i = ((n + 1 - i : Nat) : Int) := by omega
      rw [← rk] at hrun1
      clear rk
      have hv1 := hsrc.ext hext1
      have hgh : g < w.heap.size := hB.lt
      obtain ⟨w2, hrun2, hk2, hB2⟩ := run_copyB elemInt (w := w1) hB1 (off := i) (dp := some ⟨w.heap.size, i, none⟩) (dLen := n + 1 - i) (dCap := G - i) (sp := some ⟨vb, 0, none⟩) (sLen := 1) (sCap := 1) (cs := [x]) (by simp [Nat.min_def]; omega) (fun _ => rfl) hv1 (by simp; omega) (by simpa using hx)
      have hB' : Blk w2 g (xs ++ rest) 3 := (hB.ext hext1).kp hk2 (by omega)
      have HB' := Lib.hid hB'; have HB2 := Lib.hid hB2; have HK2 := Lib.hid hk2; have HE1 := Lib.hid hext1
      have HNN := Lib.hid hn
      have HXS := Lib.hid hxs
      have HLN := Lib.hid (And.intro h1 hlen)
      have ncG : ¬ G = i := by omega
      have ncG1 : ¬ G = i + 1 := by omega
      have nci : ¬ n = i := by omega
      have hi1 : ((i : Int) + 1).toNat = i + 1 := by omega
      have hw1 : IntKind.i64.wrap ((i : Int) + 1) = (i : Int) + 1 := IntWalk.i64_in _ (by omega)
      have hp1 : (0 : Int) ≤ (i : Int) + 1 := by omega
      have hp2 : (i : Int) ≤ (n : Int) + 1 := by omega
      have hp3 : (i : Int) ≤ (n : Int) := by omega
      clear hB hB' hB2 hk2 hext1 hn hxs h1 hlen hv1 hB1 hM hcm hne hv hov hfree hsrc hcells
      unfold maxLen at hGm
      go_enter Tryz.func95, Tryz.ntmps95
      go_wp2_with (first | (at_builtin; refine Halted.out ?_))
      refine Halted.mk (wp_appRun rfl _ _ rfl rfl rfl hrun1 ?_)
      clear hrun1
      go_wp2
      go_still_tail 8, (by kernel_rfl)
      refine wp_copyB elemInt rfl _ _ rfl (w := w2.drew) (HB2.out.drew) (g := w.heap.size) (off := i + 1) rfl rfl (cs := xs.drop i) (by have := HNN.out; simp [Nat.min_def]; first | omega | (split <;> omega)) (fun _ => rfl) (fun j u hu => ⟨g, i, rfl, by
          have hb := HB'.out
          rw [hb.drew.cell']
          rw [List.getElem?_drop] at hu
          rw [List.getElem?_append_left (List.getElem?_eq_some_iff.1 hu).1]; exact hu⟩) (by have := HNN.out; simp [splice]; omega) (fun u hu => HXS.out u (List.mem_of_mem_drop hu)) ?_
      intro w3 hk3 hB3
      have HK3 := Lib.hid hk3; have HB3 := Lib.hid hB3
      clear hk3 hB3 hw1 hi1 hp1 hp2 hp3
      go_wp2
      go_ret
      have hext2 : Ext w w2 := HE1.out.trans' HK2.out (fun k hk e => by omega)
      have hext3 : Ext w w3 := (hext2.drew).trans' HK3.out (fun k hk e => by omega)
      refine RetF.mk hext3.kp ⟨?_, .inr ⟨w.heap.size, G, List.replicate (G - (n + 1)) (.int .i64 0), rfl, .inr (Nat.le_refl _), ?_, ?_, hG, by unfold maxLen; omega⟩⟩
      · have := HNN.out; simp; omega
      · have h := splice_ins2 xs x (.int .i64 0) i G (by have := HNN.out; omega) (by have := HNN.out; omega)
        have := HB3.out
        rw [h] at this
        exact this.congrL (by rw [HNN.out])
      · have := HNN.out; simp; omega
end Go.Proofs.YtfkhelihepbehaaGreat

/- tuple.Set at int: Has, Below, At, Add, Drop, Copy. -/
namespace Go.Proofs.YtfkhelihepbehaaGreat
open Go.RowKit
set_option linter.unusedVariables false

section
variable {S : Nat → Prop} {w : World} {b : Nat} {ov iv : Value} {tail : List Value} {te : TypeId} {D : Int → Prop} {c : Int → Int → Int} {zs : List (Int)}

theorem setBelowInt_nil (x : Value) (w : World) : Calls Tryz.prog 38 #[.pointer none, x] w (Ret (.int .i64 0) w) := by
  go_enter Tryz.func38, Tryz.ntmps38
  go_wp2
  go_ret
  exact Ret.mk rfl
set_option maxRecDepth 100000 in
theorem setBelowInt_any (O : OrdLaw c) (x : Int) (hx : D x) (hs : Strict c zs) (h : SetAtInt Tryz.prog S w b ov iv tail te D c zs) :
    Calls Tryz.prog 38 #[.pointer (some ⟨b, 0, none⟩), (Value.int .i64 (x))] w (RetF (fun _ => False) w fun w' v => v = .int .i64 (below c zs x : Nat)) := by
  have HF := Lib.hid (setFindInt_any O x hx hs h); clear h
  go_enter Tryz.func38, Tryz.ntmps38
  go_wp2_with fail
  refine HF.out.mono ?_
  rintro e w1 ⟨v, rfl, hk, rfl⟩
  have HK := Lib.hid hk; clear hk
  go_wp2
  go_ret
  exact RetF.mk HK.out rfl
theorem setAddInt_nil (x : Value) (w : World) : Calls Tryz.prog 39 #[.pointer none, x] w (Ret (.bool false) w) := by
  go_enter Tryz.func39, Tryz.ntmps39
  go_wp2
  go_ret
  exact Ret.mk rfl
set_option maxRecDepth 100000 in
set_option maxHeartbeats 1000000 in
theorem setAddInt_any (O : OrdLaw c) (x : Int) (hx : D x) (hs : Strict c zs) (h : SetAtInt Tryz.prog S w b ov iv tail te D c zs) (hl : zs.length + 1 ≤ 1048576 * 1048576) :
    Calls Tryz.prog 39 #[.pointer (some ⟨b, 0, none⟩), (Value.int .i64 (x))] w
      (RetF (Owns b iv) w fun w' v => v = .bool (!isIn c zs x) ∧ ∃ iv', SetAtInt Tryz.prog S w' b ov iv' tail te D c (addS c zs x) ∧ ∀ k, iv'.ownBlock = some k → iv.ownBlock = some k ∨ w.heap.size ≤ k) := by
  have HF := Lib.hid (setFindInt_any O x hx hs h)
  have HH := Lib.hid h; clear h
  go_enter Tryz.func39, Tryz.ntmps39
  go_wp2_with fail
  refine HF.out.mono ?_
  rintro e w1 ⟨v, rfl, hk, rfl⟩
  have h1 := HH.out.ext hk
  have HK := Lib.hid hk; clear hk
  cases hin : isIn c zs x
  · obtain ⟨c1, c2⟩ := h1.cells
    have H1 := Lib.hid h1; clear h1
    go_wp2_with fail
    have hb := below_le (c := c) zs x
    have hbw : b < w1.heap.size := H1.out.blk.lt
    refine (insertInt_any (zs.map fun x => (Value.int .i64 (x))) iv _ zs.length (below c zs x) ((Value.int .i64 (x))) w1.heap.size 3 _ (by simp) (H1.out.row.alloc _) hb rfl (by intro u hu; obtain ⟨y, _, rfl⟩ := List.mem_map.1 hu; rfl) (Blk.new w1 [(Value.int .i64 (x))] 3) (fun e => by
        have := H1.out.row
        obtain ⟨q1, ⟨q2, _⟩ | ⟨g, cap, rest, q2, _, q3, _⟩⟩ := this
        · rw [q2] at e; cases e
        · rw [q2] at e; have e' : g = w1.heap.size := Option.some.inj e
          have := q3.lt; omega) (by omega)).mono ?_
    rintro e w2 ⟨iv', rfl, hk2, hr⟩
    obtain ⟨ao', cap', eiv, _, _⟩ := hr.shape
    subst eiv
    have hk02 := ((Kp.refl (F := fun k => iv.ownBlock = some k) w1).alloc (.cells #[(Value.int .i64 (x))] 3)).trans hk2
    have hB2 := H1.out.blk.kp hk02 H1.out.apart
    have f1 := hB2.free 1
    have d1 : w2.cell? ⟨b, 1, none⟩ = some iv := by rw [hB2.cell']; rfl
    have HR := Lib.hid (And.intro hk02 (And.intro hB2 hr))
    clear hk02 hB2 hr hk2 c1 c2
    go_wp2
    go_ret
    obtain ⟨hk02, hB2, hr⟩ := HR.out
    have h1 := H1.out
    have hz : addS c zs x = zs.take (below c zs x) ++ x :: zs.drop (below c zs x) := by unfold addS; rw [hin]; rfl
    have hlz : (addS c zs x).length = zs.length + 1 := by rw [addS_len, hin]; rfl
    have hown : ∀ k, (Value.slice ao' (zs.length + 1) cap').ownBlock = some k → iv.ownBlock = some k ∨ w.heap.size ≤ k := fun k hk => by
      rcases hr.block k hk with hh | hh
      · exact .inl hh
      · have := HK.out.size; simp only [alloc_size] at hh; exact .inr (by omega)
    have hownb : (Value.slice ao' (zs.length + 1) cap').ownBlock ≠ some b := fun hk => by
      rcases hr.block b hk with hh | hh
      · exact h1.apart hh
      · simp only [alloc_size] at hh; omega
    have hK : Kp (Owns b iv) w w2 := ((Ext.kp HK.out).trans (hk02.mono fun k _ hk => .inr hk))
    refine RetF.mk (hK.setCell (fun _ => .inl rfl) _) ⟨by rw [hin]; rfl, .slice ao' (zs.length + 1) cap', ?_, hown⟩
    refine setAtInt_store hB2 (M := fun _ => True) ?_ hownb (fun k hk => Nat.lt_of_lt_of_le (h1.inS k hk) hk02.size) (fun k hk hS => ?_) (h1.ord.same (hk02.same h1.inS fun k hk hk' => h1.notS k (.inr hk') hk)) (fun y hy => ?_) (by rw [hlz]; exact hl)
    · rw [hlz, hz]
      have := hr.mono (M' := fun _ => True) fun _ _ => trivial
      simpa using this
    · rcases hk with hk | hk
      · exact h1.notS k (.inl hk) hS
      · rcases hr.block k hk with hh | hh
        · exact h1.notS k (.inr hh) hS
        · have := h1.inS k hS; simp only [alloc_size] at hh; omega
    · rcases mem_addS.1 hy with hy | ⟨rfl, _⟩
      · exact h1.all y hy
      · exact hx
  · have H1 := Lib.hid h1; clear h1
    go_wp2
    go_ret
    have hz : addS c zs x = zs := by unfold addS; rw [hin]; rfl
    refine RetF.mk (Ext.kp HK.out) ⟨by rw [hin]; rfl, iv, ?_, fun k hk => .inl hk⟩
    rw [hz]; exact H1.out
end
end Go.Proofs.YtfkhelihepbehaaGreat

/- The statements' known(): a set and a base that the document names. -/
namespace Go.Proofs.YtfkhelihepbehaaGreat
open Go.RowKit
set_option linter.unusedVariables false

section
variable {w w' : World} {bb r b : Nat} {n : Int} {S : Nat → Prop} {iv : Value} {arity : Nat} {LL : List (List ByteArray)}
set_option maxRecDepth 100000 in
/-- A row of another length than the relation's. -/
theorem baseAdd_arity (hB : Blk w bb [.map (some r), .int .i64 n] 65) (s : ByteArray) (hm : MapIs w r [(s, .pointer (some ⟨b, 0, none⟩))]) (hr : RowsAt S w b iv arity LL) (hs1 : 1 ≤ s.size) (hs2 : s.size ≤ 4096) (ao : Option Addr) (k cap : Nat) (hk : k ≠ arity) :
    Calls Tryz.prog 40 #[.pointer (some ⟨bb, 0, none⟩), .string s, .slice ao k cap] w (Ret (.tuple #[.bool false, .int .i64 30]) w) := by
  have c0 : w.cell? ⟨bb, 0, none⟩ = some (.map (some r)) := by rw [hB.cell']; rfl
  have c2 : w.cell? ⟨b, 2, none⟩ = some (.int .i64 arity) := by rw [hr.blk.cell']; rfl
  have hlk := run_lookup_str (P := Tryz.prog) Tryz.underlying63 Tryz.underlying9 (z := .pointer none) (by kernel_rfl) hm s
  have hl0 : (getM [(s, Value.pointer (some ⟨b, 0, none⟩))] s).getD (.pointer none) = .pointer (some ⟨b, 0, none⟩) := by simp [getM]
  rw [hl0] at hlk
  have hnm := named_any s w
  rw [show decide (1 ≤ s.size ∧ s.size ≤ 4096) = true by simp [hs1, hs2]] at hnm
  have HN := Lib.hid hnm; clear hnm
  have q1 : ((arity : Int) != (k : Int)) = true := by rw [bne_iff_ne]; omega
  clear hB hm hr hl0 hk
  go_enter Tryz.func40, Tryz.ntmps40
  go_wp2_with fail
  refine HN.out.mono ?_
  rintro e w' ⟨rfl, rfl⟩
  go_wp2
  go_ret2
  exact Ret.mk rfl
end

/-- The order of known's set. -/
theorem sub_law : OrdLaw (fun x y : Int => x - y) := ⟨fun x y => by omega, fun x y z h h' => by omega⟩
theorem knownFn_any (x y : Int) (h : wrap64 (x - y) = x - y) (w : World) : Calls Tryz.prog 35 #[.int .i64 x, .int .i64 y] w (Ret (.int .i64 (x - y)) w) := by
  go_enter Tryz.func35, Tryz.ntmps35
  go_wp2
  go_ret
  exact Ret.mk (by simp [h])
theorem known_ord (S : Nat → Prop) (w : World) : OrdVInt Tryz.prog S w (.func (Fn.func 35) #[] #[]) (fun x => x ∈ ([3, 1, 3, 2] : List Int)) (fun x y => x - y) := by
  refine .inr ⟨_, _, _, rfl, enters_of Tryz.func35 (by kernel_rfl) rfl, fun w' hw x y hx hy => ?_⟩
  have hx' : 1 ≤ x ∧ x ≤ 3 := by simp at hx; omega
  have hy' : 1 ≤ y ∧ y ≤ 3 := by simp at hy; omega
  refine (knownFn_any x y (by unfold wrap64; omega) w').mono ?_
  rintro e w2 ⟨rfl, rfl⟩
  exact ⟨rfl, Kp.refl _⟩
end Go.Proofs.YtfkhelihepbehaaGreat

namespace Go.Proofs.YtfkhelihepbehaaGreat
open Go.RowKit
set_option linter.unusedVariables false
def tA : ByteArray := ⟨#[97]⟩
def tB : ByteArray := ⟨#[98]⟩
def tP : ByteArray := ⟨#[112]⟩
def tZ : ByteArray := ⟨#[122]⟩

theorem num_any (x : Int) (w : World) : Calls Tryz.prog 24 #[.int .i64 x] w (Ret (.int .i64 x) w) := by
  go_enter Tryz.func24, Tryz.ntmps24
  go_wp2
  go_ret
  exact Ret.mk rfl

set_option maxRecDepth 100000 in
set_option maxHeartbeats 2000000 in
theorem known_any (w : World) : Calls Tryz.prog 6 #[] w (RetN w fun w' v => v = .bool true) := by
  have hnew : newS (fun x y : Int => x - y) [3, 1, 3, 2] = [1, 2, 3] := by decide
  go_enter Tryz.func6, Tryz.ntmps6
  go_wp2_with fail
  refine (newSetInt_any (fun _ => False) _ _ (some ⟨w.heap.size, 0, none⟩) 4 4 (fun x => x ∈ ([3, 1, 3, 2] : List Int)) (fun x y => x - y) sub_law [3, 1, 3, 2] rfl ?_ (fun _ h => h.elim) (known_ord _ _) (fun x h => h) (by decide)).mono ?_
  · exact CellsAt.pre (rest := []) (Blk.new w [Value.int .i64 3, .int .i64 1, .int .i64 3, .int .i64 2] 3)
  rintro e w1 ⟨v, rfl, hk1, b1, iv1, rfl, hb1, hi1, hs1⟩
  rw [hnew] at hs1
  have x1 : Ext w w1 := ((Kp.refl w).alloc _).trans hk1
  have HS := Lib.hid hs1; clear hs1 hk1 hnew
  go_wp2_with fail
  refine (setItemsInt_any HS.out).mono ?_
  rintro e w2 ⟨v, rfl, hk2, hr2⟩
  obtain ⟨ao2, cap2, ev, hc2, _⟩ := hr2.shape
  subst ev
  clear hr2
  have HC2 := Lib.hid hc2; clear hc2
  go_wp2_with fail
  refine (ints_yes [1, 2, 3] ao2 (some ⟨w2.heap.size, 0, none⟩) 3 cap2 3 _ rfl (HC2.out.alloc _) (CellsAt.pre (rest := []) (Blk.new w2 [Value.int .i64 1, .int .i64 2, .int .i64 3] 3)) (by decide)).mono ?_
  rintro e w' ⟨rfl, n3, rfl⟩
  have x3 : Ext w1 ((w2.alloc (.cells #[.int .i64 1, .int .i64 2, .int .i64 3] 3)).drewN n3) := (hk2.alloc _).drewN _
  generalize (w2.alloc (.cells #[.int .i64 1, .int .i64 2, .int .i64 3] 3)).drewN n3 = w3 at x3 ⊢
  have hst : Strict (fun x y : Int => x - y) [1, 2, 3] := by unfold Strict; decide
  have HB := Lib.hid (setBelowInt_any sub_law 3 (by simp) hst (HS.out.ext x3))
  have e2 : below (fun x y : Int => x - y) [1, 2, 3] 3 = 2 := by decide
  rw [e2] at HB
  go_wp2_with fail
  refine HB.out.mono ?_
  rintro e w4 ⟨v, rfl, hk4, rfl⟩
  have HA := Lib.hid (setAddInt_any sub_law 2 (by simp) hst (HS.out.ext (x3.trans hk4)) (by decide))
  have e3 : isIn (fun x y : Int => x - y) [1, 2, 3] 2 = true := by decide
  rw [e3] at HA
  go_wp2_with fail
  refine HA.out.mono ?_
  rintro e w5 ⟨v, rfl, hk5, rfl, _⟩
  have x5 : Ext w w5 := (x1.trans (x3.trans hk4)).trans' hk5 (fun i hi ho => by
    rw [alloc_size] at hb1
    rcases ho with ho | ho
    · omega
    · have := hi1 i ho; rw [alloc_size] at this; omega)
  have X5 := Lib.hid x5
  clear HS HB HA HC2 hst e2 e3 hk5 hk4 x3 x1 hk2 x5 hb1 hi1
  go_wp2_with fail
  refine (newBase_any w5).mono ?_
  rintro e w6 ⟨v, rfl, hk6, rfl, hB6, hm6⟩
  have H6 := Lib.hid (And.intro hk6 (And.intro hB6 hm6)); clear hk6 hB6 hm6
  go_wp2_with fail
  refine (baseAdd_first (fun _ => False) (H6.out.2.1.alloc _) (H6.out.2.2.ext ((Kp.refl w6).alloc _)) (fun _ h => h.elim) id id tP (by decide) (by decide) (ao := some ⟨w6.heap.size, 0, none⟩) (k := 2) (cap := 2) (ss := [tA, tB]) ⟨⟨rfl, CellsAt.pre (rest := []) (Blk.new w6 [Value.string tA, .string tB] 9)⟩, by decide, fun a e => by cases e; simp⟩ (by decide) (by decide)).mono ?_
  rintro e w7 ⟨v, rfl, hk7, rfl, S', b, iv, hB7, hm7, hr7, hb⟩
  have x7 : Ext w w7 := ((X5.out.trans H6.out.1).alloc (.cells #[.string tA, .string tB] 9)).trans' hk7 (fun i hi h => by have := X5.out.size; rcases h with h | h <;> omega)
  have H7 := Lib.hid (And.intro hB7 (And.intro hm7 (And.intro hr7 x7))); clear hk7 hB7 hm7 hr7 x7 hb
  go_wp2_with fail
  refine (baseAdd_arity (H7.out.1.alloc _) tP (H7.out.2.1.ext ((Kp.refl w7).alloc _)) (H7.out.2.2.1.ext ((Kp.refl w7).alloc _)) (by decide) (by decide) (some ⟨w7.heap.size, 0, none⟩) 1 1 (by decide)).mono ?_
  rintro e w' ⟨rfl, rfl⟩
  have x8 : Ext w7 (w7.alloc (.cells #[.string tA] 9)) := (Kp.refl w7).alloc _
  go_wp2_with fail
  refine (num_any 0 _).mono ?_
  rintro e w' ⟨rfl, rfl⟩
  go_wp2_with fail
  refine (num_any 30 _).mono ?_
  rintro e w' ⟨rfl, rfl⟩
  go_wp2_with fail
  have g1 := (Blk.new (w7.alloc (.cells #[.string tA] 9)) [Value.string tB] 9).alloc (.cells #[.string tA, .string tZ] 9)
  have g2 := Blk.new ((w7.alloc (.cells #[.string tA] 9)).alloc (.cells #[.string tB] 9)) [Value.string tA, .string tZ] 9
  rw [alloc_size] at g1
  rw [alloc_size, alloc_size] at g2
  have hcmp : cmpRow [tB] [tA, tZ] = 1 := by first | kernel_rfl | decide +kernel
  have hcc := tupleCompare_any [tB] [tA, tZ] _ _ 1 2 _ (CellsAt.pre (rest := []) g1) (CellsAt.pre (rest := []) g2) (by decide) (by decide)
  rw [hcmp] at hcc
  refine hcc.mono ?_
  rintro e w' ⟨rfl, rfl⟩
  have x9 : Ext w7 (((w7.alloc (.cells #[.string tA] 9)).alloc (.cells #[.string tB] 9)).alloc (.cells #[.string tA, .string tZ] 9)) := (((Kp.refl w7).alloc _).alloc _).alloc _
  clear g1 g2 hcc hcmp x8
  go_wp2_with fail
  refine (baseLen_any (H7.out.1.ext x9)).mono ?_
  rintro e w' ⟨rfl, rfl⟩
  go_wp2
  go_ret
  exact RetN.mk (H7.out.2.2.2.trans x9) rfl
end Go.Proofs.YtfkhelihepbehaaGreat

/- TupleTurned: the walk. -/
namespace Go.Proofs.YtfkhelihepbehaaGreat
open Go.RowKit
set_option linter.unusedVariables false

theorem LentV.reads {lo : Nat} {w : World} {v : Value} {L : List RelZ} (h : LentV lo w v L) : ∃ a c, v = .slice a L.length c ∧ RelsIn (fun k => lo ≤ k ∧ k < w.heap.size) w a L := by
  obtain ⟨g, cap, rest, vs, rfl, hg, hvs, hB, hl, hn, hc, hx, hp⟩ := h
  refine ⟨_, cap, rfl, fun i q hq => ?_⟩
  obtain ⟨hi, hqe⟩ := List.getElem?_eq_some_iff.1 hq
  obtain ⟨e, he⟩ : ∃ e, vs[i]? = some e := ⟨_, List.getElem?_eq_getElem (by omega)⟩
  have hz : (L.zip vs)[i]? = some (q, e) := by rw [List.getElem?_zip_eq_some]; exact ⟨hq, he⟩
  obtain ⟨hA, hlo, hhi⟩ := hx _ (List.mem_of_getElem? hz)
  obtain ⟨ps, mg, rest2, h1, h2, h3, h4, h5, h6, _, _, _, h10, _⟩ := hA
  have hc' : ∀ c v, c < 3 → (lentCells (q, e))[c]? = some v → w.cell? ⟨g, 0 + i * 3 + c, none⟩ = some v := fun c v hc hv => by
    rw [hB.cell', Nat.zero_add, List.getElem?_append_left (by rw [flat_len lentCells 3 lentCells_len, List.length_zip, hvs, Nat.min_self]; exact Nat.lt_of_lt_of_le (show i * 3 + c < (i + 1) * 3 by omega) (Nat.mul_le_mul_right 3 hi)), flat_get lentCells 3 lentCells_len _ i _ c hz hc]
    exact hv
  refine ⟨g, 0, some ⟨e.1, 0, none⟩, e.2.1, rfl, ⟨hg, hB.lt⟩, hc' 0 _ (by omega) rfl, hc' 1 _ (by omega) rfl, hc' 2 _ (by omega) rfl, by have h5' : q.2.2.1.length + 1 + rest2.length = e.2.1 := h5; omega, h6, ps, h1, CellsAt.pre h4, fun a ha => by cases ha; exact ⟨Nat.le_trans hlo h2, h4.lt⟩, fun p hp => ?_⟩
  obtain ⟨g2, cap2, rs, e2, q1, q2, q3, q4⟩ := (h10 p hp).own hlo
  rw [e2]
  exact ⟨⟨rfl, CellsAt.pre q2⟩, q3, fun a ha => by cases ha; exact ⟨q1, q2.lt⟩⟩

/-- Two bases, one behind the other: they stand with one pool. -/
theorem base_two {S1 S2 : Nat → Prop} {w : World} {bb1 r1 bb2 r2 : Nat} {E1 E2 : List Ent} (cut : Nat) (h1 : BaseAt S1 w bb1 r1 E1) (h2 : BaseAt S2 w bb2 r2 E2) (a1 : ∀ k, OwnB bb1 r1 E1 k → k < cut) (a2 : ∀ k, S1 k → k < cut) (a3 : ∀ k, OwnB bb2 r2 E2 k → cut ≤ k) (a4 : ∀ k, S2 k → cut ≤ k) :
    BaseAt (fun k => S1 k ∨ S2 k) w bb1 r1 E1 ∧ BaseAt (fun k => S1 k ∨ S2 k) w bb2 r2 E2 ∧ ∀ e ∈ E1, ∀ f ∈ E2, ∀ k, e.own k → ¬ f.own k := by
  have hin : ∀ k, S1 k ∨ S2 k → k < w.heap.size := fun k h => h.elim (h1.inS k) (h2.inS k)
  refine ⟨h1.wide (fun _ => .inl) hin fun k ho h => ?_, h2.wide (fun _ => .inr) hin fun k ho h => ?_, fun e he f hf k ho ho2 => ?_⟩
  · rcases h with h | h
    · exact h1.notOwn k ho h
    · have := a1 k ho; have := a4 k h; omega
  · rcases h with h | h
    · have := a3 k ho; have := a2 k h; omega
    · exact h2.notOwn k ho h
  · have := a1 k (.inr (.inr ⟨e, he, ho⟩)); have := a3 k (.inr (.inr ⟨f, hf, ho2⟩)); omega
/-- They are the same. -/
theorem same_two {S1 S2 : Nat → Prop} {w : World} {bb1 r1 bb2 r2 : Nat} {E1 E2 : List Ent} (cut : Nat) (h1 : BaseAt S1 w bb1 r1 E1) (h2 : BaseAt S2 w bb2 r2 E2) (a1 : ∀ k, OwnB bb1 r1 E1 k → k < cut) (a2 : ∀ k, S1 k → k < cut) (a3 : ∀ k, OwnB bb2 r2 E2 k → cut ≤ k) (a4 : ∀ k, S2 k → cut ≤ k)
    (hl1 : E1.length ≤ 1048576) (hl2 : E2.length ≤ 1048576) (hs : SameC (cntE E2) (cntE E1)) :
    Calls Tryz.prog 26 #[.pointer (some ⟨bb1, 0, none⟩), .pointer (some ⟨bb2, 0, none⟩)] w (RetN w fun w' v => v = .bool true) ∧ Calls Tryz.prog 26 #[.pointer (some ⟨bb2, 0, none⟩), .pointer (some ⟨bb1, 0, none⟩)] w (RetN w fun w' v => v = .bool true) := by
  obtain ⟨b1, b2, hap⟩ := base_two cut h1 h2 a1 a2 a3 a4
  have e1 := sameE_of h1.ok h2.ok fun s => (hs s).symm
  have e2 := sameE_of h2.ok h1.ok hs
  constructor
  · have := baseSame_any b1 b2 hap hl1 hl2
    rwa [e1] at this
  · have := baseSame_any b2 b1 (fun e he f hf k ho ho2 => hap f hf e he k ho2 ho) hl2 hl1
    rwa [e2] at this
def SumTo (w0 : World) (Q : List RelZ) (m : Nat) (nv iv : Value) (w : World) : Prop := ∃ i : Nat, i ≤ m ∧ iv = .int .i64 i ∧ nv = .int .i64 (sumL Q i : Nat) ∧ Hid (Ext w0 w)
def TurnTo (w0 : World) (M0 : List (RelZ × LentP)) (gm tn : Nat) (iv : Value) (w : World) : Prop := ∃ i : Nat, i ≤ tn ∧ iv = .int .i64 i ∧ Hid (Ext w0 w) ∧ Hid (MixAt w0.heap.size M0 gm w)
set_option maxRecDepth 100000 in
set_option maxHeartbeats 8000000 in
theorem turned_any (L : List RelZ) (ao : Option Addr) (n cap : Nat) (ts : List Int) (ta : Option Addr) (tn tcap : Nat) (w : World) (S0 : Nat → Prop) (hn : n = L.length) (hL : RelsIn S0 w ao L) (hl : n ≤ 1048576) (hr : ∀ q ∈ L, q.2.2.1.length ≤ 1048576)
    (htn : tn = ts.length) (hT : CellsAt w ta (ints ts)) (htl : tn ≤ 1048576) :
    Calls Tryz.prog 4 #[.slice ao n cap, .slice ta tn tcap] w (RetN w fun w' v => v = .bool true) := by
  have HN := Lib.hid hn
  have HL := Lib.hid (And.intro hL hr)
  have HT := Lib.hid (And.intro htn hT)
  clear hn hL hr htn hT
  go_enter Tryz.func4, Tryz.ntmps4
  go_wp2_with fail
  refine (known_any w).mono ?_
  rintro e w1 ⟨v, rfl, hk1, rfl⟩
  go_wp2_with fail
  refine (lentList_any L ao n cap w1 S0 HN.out (HL.out.1.ext hk1) hl HL.out.2).mono ?_
  rintro e w2 ⟨v, rfl, hk2, hV⟩
  obtain ⟨a2, c2, rfl, hR2⟩ := hV.reads
  clear hV
  rw [← HN.out]
  go_wp2_with fail
  refine (from_any L a2 n c2 w2 _ HN.out hR2 (fun k h => h.2) (by omega) HL.out.2).mono ?_
  rintro e w3 ⟨v, rfl, hk3, hF⟩
  have HX3 := Lib.hid ((hk1.trans hk2).trans hk3)
  clear hR2 hk1 hk2 hk3
  by_cases h0 : (fromC [] L).2 = 0
  rotate_left
  · have hv := hF.2 h0
    subst hv
    have hb : (((((fromC [] L).2 : Nat) : Int)) != 0) = true := by rw [bne_iff_ne]; omega
    generalize (((fromC [] L).2 : Nat) : Int) = z at *
    clear hF h0
    go_wp2_with fail
    refine (num_any z w3).mono ?_
    rintro e w4 ⟨rfl, rfl⟩
    go_wp2
    go_ret
    exact RetN.mk HX3.out rfl
  obtain ⟨bb, r, S, E, rfl, hB, hE, _, _⟩ := hF.1 h0
  have hlenE : E.length ≤ n := by
    have h := from_len h0
    rw [← hE, ← HN.out] at h
    simpa [cntE] using h
  have HB := Lib.hid (And.intro hB (And.intro hlenE h0))
  clear hF hE hlenE h0
  go_wp2_with fail
  refine (num_any 0 w3).mono ?_
  rintro e w4 ⟨rfl, rfl⟩
  go_wp2_with fail
  refine (baseRels_any HB.out.1 (by have := HB.out.2.1; omega)).mono ?_
  rintro e w4 ⟨v, rfl, hk4, a4, c4, rfl, hc4a, hc4b, hR4⟩
  obtain ⟨C, eC⟩ : ∃ C, cntE E = C := ⟨_, rfl⟩
  rw [eC] at hR4 hc4a ⊢
  obtain ⟨Q, eQ⟩ : ∃ Q, relsC C = Q := ⟨_, rfl⟩
  obtain ⟨m, em⟩ : ∃ m, Q.length = m := ⟨_, rfl⟩
  rw [eQ, em] at hc4a ⊢
  rw [eQ] at hR4
  have hmn : m ≤ n := by rw [← em, ← eQ, rels_len, ← eC]; have := HB.out.2.1; simpa [cntE] using this
  have hQr : ∀ q ∈ Q, q.2.2.1.length ≤ 1048576 := fun q hq => by
    rw [← eQ] at hq
    obtain ⟨v, v1, v2, v3⟩ := rels_mem hq
    rw [v3]
    rw [← eC] at v1
    have h := (HB.out.1.ok.all _ ((getC_mem HB.out.1.ok.nodup).1 v1)).few
    have h' : v.2.length ≤ 65536 := h
    omega
  have HQ := Lib.hid (And.intro eC (And.intro eQ (And.intro em hQr)))
  have HR4 := Lib.hid hR4
  have HX4 := Lib.hid hk4
  clear eC eQ em hQr hR4 hk4
  go_wp2_with fail
  refine (lentList_any Q a4 m c4 w4 _ HQ.out.2.2.1.symm HR4.out (by omega) HQ.out.2.2.2).mono ?_
  rintro e w5 ⟨v, rfl, hk5, hV⟩
  obtain ⟨a5, c5, rfl, hR5⟩ := hV.reads
  clear hV
  rw [HQ.out.2.2.1]
  go_wp2_with fail
  refine (from_any Q a5 m c5 w5 _ HQ.out.2.2.1.symm hR5 (fun k h => h.2) (by omega) HQ.out.2.2.2).mono ?_
  rintro e w6 ⟨v, rfl, hk6, hF⟩
  have hrf : (fromC [] Q).2 = 0 ∧ SameC (fromC [] Q).1 C ∧ BaseOk (fromC [] Q).1 := by
    have hok := HB.out.1.ok
    rw [HQ.out.1] at hok
    rw [← HQ.out.2.1]
    exact rels_from hok
  obtain ⟨bb2, r2, S2, E2, rfl, hB2, hE2, hS2, hO2⟩ := hF.1 hrf.1
  have HB2 := Lib.hid (And.intro hB2 (And.intro hE2 (And.intro hS2 (And.intro hO2 hrf.2))))
  have HX6 := Lib.hid (HX4.out.trans (hk5.trans hk6))
  have HSz := Lib.hid (hk5.size)
  have HQ0 := Lib.hid hrf.1
  have hX46 := Lib.hid (hk5.trans hk6)
  clear hF hrf hB2 hE2 hS2 hO2 hk5 hk6 hR5
  go_wp2_with fail
  have hE2l : E2.length ≤ m := by
    have h := from_len (L := Q) (by have := HB2.out.2.2.2.2; exact HQ0.out)
    rw [← HB2.out.2.1, HQ.out.2.2.1] at h
    simpa [cntE] using h
  have HSame := Lib.hid (fun w' (hw : Ext w6 w') => same_two (w := w') w5.heap.size ((HB.out.1.ext HX6.out).ext hw) (HB2.out.1.ext hw) (fun k hk => by have := HB.out.1.ownLt k hk; have := HSz.out; have := HX4.out.size; omega) (fun k hk => by have := HB.out.1.inS k hk; have := HSz.out; have := HX4.out.size; omega) HB2.out.2.2.2.1 HB2.out.2.2.1 (by have := HB.out.2.1; omega) (by omega) (by rw [HB2.out.2.1, HQ.out.1]; exact HB2.out.2.2.2.2.1))
  have HE2 := Lib.hid hE2l
  clear hE2l
  refine (num_any 0 w6).mono ?_
  rintro e w7 ⟨rfl, rfl⟩
  go_wp2_with fail
  refine (HSame.out _ (Kp.refl _)).2.mono ?_
  rintro e w7 ⟨v, rfl, hk7, rfl⟩
  go_wp2_with fail
  refine (HSame.out _ hk7).1.mono ?_
  rintro e w8 ⟨v, rfl, hk8, rfl⟩
  have HX8 := Lib.hid (hk7.trans hk8)
  clear hk7 hk8
  go_wp2_with fail
  refine (baseRels_any (HB2.out.1.ext HX8.out) (by have := HE2.out; omega)).mono ?_
  rintro e w9 ⟨v, rfl, hk9, a9, c9, rfl, hc9a, hc9b, hR9⟩
  have hq9 : relsC (cntE E2) = Q := by
    rw [HB2.out.2.1, ← HQ.out.2.1]
    have hok := HB.out.1.ok
    rw [HQ.out.1] at hok
    exact rels_again hok
  rw [hq9] at hR9 hc9a ⊢
  rw [HQ.out.2.2.1] at hc9a ⊢
  clear hq9
  go_wp2_with fail
  refine (relations_yes a9 a4 m c9 c4 HQ.out.2.2.1.symm hR9 (HR4.out.ext ((hX46.out.trans HX8.out).trans hk9)) (by omega) HQ.out.2.2.2).mono ?_
  rintro e w10 ⟨v, rfl, hk10, rfl⟩
  have HX10 := Lib.hid ((HX8.out.trans hk9).trans hk10)
  clear hk9 hk10 hR9 hc9a hc9b HX8
  go_wp2_with fail
  have hx4 : Ext w4 w10 := hX46.out.trans HX10.out
  refine (lentList_any Q a4 m c4 w10 _ HQ.out.2.2.1.symm (HR4.out.ext hx4) (by omega) HQ.out.2.2.2).mono ?_
  rintro e w11 ⟨v, rfl, hk11, g1, cap1, rest1, vs1, rfl, hg1, hvs1, hB1, hl1, hn1, hc1, hx1, hp1⟩
  rw [HQ.out.2.2.1] at hvs1 hl1 hn1 ⊢
  go_wp2_with fail
  refine (lentList_any Q a4 m c4 w11 _ HQ.out.2.2.1.symm (HR4.out.ext (hx4.trans hk11)) (by omega) HQ.out.2.2.2).mono ?_
  rintro e w12 ⟨v, rfl, hk12, g2, cap2, rest2, vs2, rfl, hg2, hvs2, hB2, hl2, hn2, hc2, hx2, hp2⟩
  rw [HQ.out.2.2.1] at hvs2 hl2 hn2 ⊢
  have hz1 : (Q.zip vs1).length = m := by rw [List.length_zip, hvs1, HQ.out.2.2.1]; exact Nat.min_self _
  have hz2 : (Q.zip vs2).length = m := by rw [List.length_zip, hvs2, HQ.out.2.2.1]; exact Nat.min_self _
  have hrow : Row w12 52 3 (.slice (some ⟨g1, 0, none⟩) m cap1) m ((Q.zip vs1).flatMap lentCells) (New w10) :=
    ⟨by rw [flat_len lentCells 3 lentCells_len, hz1], .inr ⟨g1, cap1, _, rfl, hg1, hB1.ext hk12, by rw [List.length_append, flat_len lentCells 3 lentCells_len, hz1]; simp only [List.length_cons]; omega, by omega, hc1⟩⟩
  have hapart := mix_apart (w1 := w11) (w2 := w12) (cut := w11.heap.size) (fun x hx => ⟨(hx1 x hx).1, (hx1 x hx).2.2⟩) hp1 (fun x hx => ⟨(hx2 x hx).1, (hx2 x hx).2.1⟩) hp2
  have hbag : ∀ x ∈ Q.zip vs1 ++ Q.zip vs2, LentAt w12 x ∧ w10.heap.size ≤ x.2.2.2.1 := fun x hx => by
    rcases List.mem_append.1 hx with hx | hx
    · exact ⟨(hx1 x hx).1.ext hk12, (hx1 x hx).2.1⟩
    · exact ⟨(hx2 x hx).1, Nat.le_trans hk11.size (hx2 x hx).2.1⟩
  have hmem : (∀ x ∈ Q.zip vs1 ++ Q.zip vs2, x.1 ∈ Q) ∧ ∀ r ∈ Q, ∃ x ∈ Q.zip vs1 ++ Q.zip vs2, x.1 = r := ⟨fun x hx => by
    rcases List.mem_append.1 hx with hx | hx
    · exact (List.of_mem_zip (a := x.1) (b := x.2) hx).1
    · exact (List.of_mem_zip (a := x.1) (b := x.2) hx).1, fun r hr => by
    obtain ⟨i, hi, e⟩ := List.getElem_of_mem hr
    have hz : (Q.zip vs1)[i]? = some (r, vs1[i]'(by have := HQ.out.2.2.1; omega)) := by
      rw [List.getElem?_zip_eq_some]
      exact ⟨by rw [List.getElem?_eq_getElem hi, e], List.getElem?_eq_getElem _⟩
    exact ⟨_, List.mem_append_left _ (List.mem_of_getElem? hz), rfl⟩⟩
  have hcs := CellsAt.pre hB2
  have HZ := Lib.hid (And.intro hapart (And.intro hbag (And.intro hmem (And.intro hz1 hz2))))
  have HX12 := Lib.hid (hk11.trans hk12)
  have HRow := Lib.hid hrow
  clear hz1 hz2 hapart hbag hmem hB1 hB2 hl1 hl2 hvs1 hvs2 hx1 hx2 hp1 hp2 hk11 hk12 hrow
  go_wp2_with (first | (at_builtin; refine Halted.out ?_))
  refine Halted.mk (wp_appN elem_rel rfl _ _ rfl HX12.out rfl HRow.out rfl hcs (by rw [flat_len lentCells 3 lentCells_len, HZ.out.2.2.2.2]) (lentCells_one _) (by omega) (by unfold maxLen; omega) ?_)
  intro v3 w13 hr3 hk13 hkk13 hnil
  obtain ⟨_, ⟨rfl, h0⟩ | ⟨gm, capm, restm, rfl, hgm, hBm, hlm, hcm, hcm2⟩⟩ := hr3
  · have := (hnil.1 rfl).1
    cases this
  obtain ⟨M0, eM⟩ : ∃ M0, Q.zip vs1 ++ Q.zip vs2 = M0 := ⟨_, rfl⟩
  have hM0 : MixAt w10.heap.size M0 gm w13 := by
    refine ⟨M0, restm, .refl _, ?_, fun x hx => ?_⟩
    · rw [← eM, List.flatMap_append]; exact hBm
    · rw [← eM] at hx
      obtain ⟨h1, h2⟩ := HZ.out.2.1 x hx
      exact (h1.row HRow.out hkk13).bag h2
  have hN : M0.length = m + m := by rw [← eM, List.length_append, HZ.out.2.2.2.1, HZ.out.2.2.2.2]
  have hap := HZ.out.1
  have hmm := HZ.out.2.2.1
  rw [eM] at hap hmm
  obtain ⟨N, eN⟩ : ∃ N, m + m = N := ⟨_, rfl⟩
  rw [eN] at hN hcm ⊢
  have hNl : N ≤ 2097152 := by omega
  have HM := Lib.hid (And.intro hM0 (And.intro hN (And.intro hap (And.intro hmm hgm))))
  have HX13 := Lib.hid hk13
  clear hM0 hN hap hmm hgm hBm hlm hkk13 hnil HRow HZ hcs hk13 eM restm
  go_wp2
  go_loopw [11] (fun iv wr => TurnTo w10 M0 gm tn iv wr) (fun iv _ => tn - (intOf iv).toNat)
  case atStart => exact ⟨0, Nat.zero_le _, rfl, HX13.out, HM.out.1⟩
  case round =>
    obtain ⟨i, hi, rfl, hex, hin⟩ := hrel
    by_cases hlt : i < tn ∧ 0 < N
    · obtain ⟨hlt, hN0⟩ := hlt
      obtain ⟨t, ht⟩ : ∃ t, ts[i]? = some t := ⟨_, List.getElem?_eq_getElem (by rw [← HT.out.1]; exact hlt)⟩
      obtain ⟨tb, toff, eta, ct⟩ := HT.out.2 i (.int .i64 t) (by simp [ints, ht])
      subst eta
      replace ct := ((HX3.out.trans HX6.out).trans HX10.out).cell ct id
      have Hct := Lib.hid (show ∀ w', Ext w10 w' → w'.cell? ⟨tb, toff + i, none⟩ = some (.int .i64 t) from fun w' hw => hw.cell ct id)
      replace ct := hex.out.cell ct id
      obtain ⟨k, ek⟩ : ∃ k, placeN t N = k := ⟨_, rfl⟩
      have hk : k < N := by rw [← ek]; exact placeN_lt t N hN0
      have EK := Lib.hid (show ∀ w, Calls Tryz.prog 28 #[.int .i64 t, .int .i64 N] w (Ret (.int .i64 (k : Nat)) w) from fun w => by rw [← ek]; exact place_any t N hN0 (by omega) w)
      obtain ⟨j, ej⟩ : ∃ j, i % N = j := ⟨_, rfl⟩
      have hj : j < N := by rw [← ej]; exact Nat.mod_lt _ hN0
      have r1 : (i : Int).tmod (N : Int) = (j : Int) := by rw [Int.tmod_eq_emod_of_nonneg (by omega)]; omega
      have r2 : N ≠ 0 := by omega
      have r3 : (0 : Int) < (N : Int) := by omega
      clear ek ej ht
      go_wp2
      refine draw_begin (fun w' : World => w'.cell? ⟨tb, toff + i, none⟩ = some (.int .i64 t)) [] (by kernel_rfl) (Hct.out _ hex.out.drew) (fun hHeld => ?_)
      (refine draw_free (i := 0) (v := ?_) rfl ?_ ?_; rotate_left; (intro w; go_simp; try with_reducible rfl)); (try simp only [Act.put, List.setIfInBounds_toArray, List.set_cons_zero, List.set_cons_succ])
      (refine draw_free (i := 1) (v := ?_) rfl ?_ ?_; rotate_left; (intro w; go_simp; try with_reducible rfl)); (try simp only [Act.put, List.setIfInBounds_toArray, List.set_cons_zero, List.set_cons_succ])
      (refine draw_in (i := 2) (v := ?_) rfl ?_ ?_; rotate_left; (intro w hSw; (try dsimp only at hSw); go_simp; try with_reducible rfl)); (try simp only [Act.put, List.setIfInBounds_toArray, List.set_cons_zero, List.set_cons_succ])
      (refine draw_in (i := 3) (v := ?_) rfl ?_ ?_; rotate_left; (intro w hSw; (try dsimp only at hSw); go_simp; try with_reducible rfl)); (try simp only [Act.put, List.setIfInBounds_toArray, List.set_cons_zero, List.set_cons_succ])
      (refine draw_free (i := 4) (v := ?_) rfl ?_ ?_; rotate_left; (intro w; go_simp; try with_reducible rfl)); (try simp only [Act.put, List.setIfInBounds_toArray, List.set_cons_zero, List.set_cons_succ])
      (refine draw_in (i := 5) (v := ?_) rfl ?_ ?_; rotate_left; (intro w hSw; (try dsimp only at hSw); go_simp; try with_reducible rfl)); (try simp only [Act.put, List.setIfInBounds_toArray, List.set_cons_zero, List.set_cons_succ])
      (refine draw_free (i := 7) (v := ?_) rfl ?_ ?_; rotate_left; (intro w; go_simp; try with_reducible rfl)); (try simp only [Act.put, List.setIfInBounds_toArray, List.set_cons_zero, List.set_cons_succ])
      (refine draw_free (i := 8) (v := ?_) rfl ?_ ?_; rotate_left; (intro w; go_simp; try with_reducible rfl)); (try simp only [Act.put, List.setIfInBounds_toArray, List.set_cons_zero, List.set_cons_succ])
      (refine draw_in (i := 9) (v := ?_) rfl ?_ ?_; rotate_left; (intro w hSw; (try dsimp only at hSw); go_simp; try with_reducible rfl)); (try simp only [Act.put, List.setIfInBounds_toArray, List.set_cons_zero, List.set_cons_succ])
      (refine draw_free (i := 10) (v := ?_) rfl ?_ ?_; rotate_left; (intro w; go_simp; try with_reducible rfl)); (try simp only [Act.put, List.setIfInBounds_toArray, List.set_cons_zero, List.set_cons_succ])
      refine draw_one (i := 6) ?_
      refine comes_turn (i := 6) rfl (fun K hK => ?_)
      go_simp
      (refine (EK.out _).mono ?_; rintro e w5 ⟨rfl, rfl⟩)
      go_wp2_with fail
      refine hK.out _ _ ?_ (fun hHeld => ?_)
      · (try dsimp only); (exact Hct.out _ hex.out.drew)
      clear hK K; (try simp only [Act.put, List.setIfInBounds_toArray, List.set_cons_zero, List.set_cons_succ])
      (refine draw_free (i := 11) (v := ?_) rfl ?_ ?_; rotate_left; (intro w; go_simp; try with_reducible rfl)); (try simp only [Act.put, List.setIfInBounds_toArray, List.set_cons_zero, List.set_cons_succ])
      (refine draw_free (i := 12) (v := ?_) rfl ?_ ?_; rotate_left; (intro w; go_simp; try with_reducible rfl)); (try simp only [Act.put, List.setIfInBounds_toArray, List.set_cons_zero, List.set_cons_succ])
      refine wpAnyD_done (by kernel_rfl) ?_ _
      clear hHeld
      obtain ⟨M, rest, hperm, hBm, hbag⟩ := hin.out
      have hMl : M.length = N := by rw [hperm.length_eq]; exact HM.out.2.1
      obtain ⟨x, hx⟩ : ∃ x, M[k]? = some x := ⟨_, List.getElem?_eq_getElem (by omega)⟩
      obtain ⟨y, hy⟩ : ∃ y, M[j]? = some y := ⟨_, List.getElem?_eq_getElem (by omega)⟩
      obtain ⟨cx0, cx1, cx2⟩ := mix_cells hBm hx
      obtain ⟨cy0, cy1, cy2⟩ := mix_cells hBm hy
      obtain ⟨xm, exm⟩ : ∃ xm, x.1.2.2.1.length = xm := ⟨_, rfl⟩
      obtain ⟨ym, eym⟩ : ∃ ym, y.1.2.2.1.length = ym := ⟨_, rfl⟩
      rw [exm] at cx2
      rw [eym] at cy2
      have HXY := Lib.hid (And.intro hx (And.intro hy (And.intro exm eym)))
      have HMix := Lib.hid (And.intro hperm (And.intro hBm (And.intro hbag hMl)))
      obtain ⟨⟨xs, xa, xr, ⟨⟩⟩, xg, xc, xl, xh⟩ := x
      obtain ⟨⟨ys, ya, yr, ⟨⟩⟩, yg, yc, yl, yh⟩ := y
      simp only at cx0 cx1 cx2 cy0 cy1 cy2
      have HC := Lib.hid (show (fun w' : World => w'.cell? ⟨gm, k * 3, none⟩ = some (.string xs) ∧ w'.cell? ⟨gm, k * 3 + 1, none⟩ = some (.int .i64 xa) ∧ w'.cell? ⟨gm, k * 3 + 2, none⟩ = some (.slice (some ⟨xg, 0, none⟩) xm xc) ∧ w'.cell? ⟨gm, j * 3, none⟩ = some (.string ys) ∧ w'.cell? ⟨gm, j * 3 + 1, none⟩ = some (.int .i64 ya) ∧ w'.cell? ⟨gm, j * 3 + 2, none⟩ = some (.slice (some ⟨yg, 0, none⟩) ym yc)) wr.drew from ⟨cx0, cx1, cx2, cy0, cy1, cy2⟩)
      have HB0 := Lib.hid (show Blk wr.drew gm (M.flatMap lentCells ++ rest) 52 from hBm)
      have HB1 := Lib.hid (HB0.out.set3 (k * 3) (.string ys) (.int .i64 ya) (.slice (some ⟨yg, 0, none⟩) ym yc))
      have hfl : N * 3 ≤ (M.flatMap lentCells ++ rest).length := by rw [List.length_append, flat_len lentCells 3 lentCells_len, hMl]; omega
      have hk3 : k * 3 + 3 ≤ (M.flatMap lentCells ++ rest).length := by have := Nat.mul_le_mul_right 3 hk; omega
      have hj3 : j * 3 + 3 ≤ (((((M.flatMap lentCells ++ rest)).set (k * 3) (.string ys)).set (k * 3 + 1) (.int .i64 ya)).set (k * 3 + 2) (.slice (some ⟨yg, 0, none⟩) ym yc)).length := by simp only [List.length_set]; have := Nat.mul_le_mul_right 3 hj; omega
      clear hperm hBm hbag hMl hx hy exm eym cx0 cx1 cx2 cy0 cy1 cy2 hin
      go_wp2
      refine draw_begin (fun w' : World => w'.cell? ⟨gm, k * 3, none⟩ = some (.string xs) ∧ w'.cell? ⟨gm, k * 3 + 1, none⟩ = some (.int .i64 xa) ∧ w'.cell? ⟨gm, k * 3 + 2, none⟩ = some (.slice (some ⟨xg, 0, none⟩) xm xc) ∧ w'.cell? ⟨gm, j * 3, none⟩ = some (.string ys) ∧ w'.cell? ⟨gm, j * 3 + 1, none⟩ = some (.int .i64 ya) ∧ w'.cell? ⟨gm, j * 3 + 2, none⟩ = some (.slice (some ⟨yg, 0, none⟩) ym yc)) [13, 14, 15] (by kernel_rfl) HC.out (fun hHeld => ?_)
      (refine draw_free (i := 0) (v := ?_) rfl ?_ ?_; rotate_left; (intro w; go_simp; try with_reducible rfl)); (try simp only [Act.put, List.setIfInBounds_toArray, List.set_cons_zero, List.set_cons_succ])
      (refine draw_free (i := 1) (v := ?_) rfl ?_ ?_; rotate_left; (intro w; go_simp; try with_reducible rfl)); (try simp only [Act.put, List.setIfInBounds_toArray, List.set_cons_zero, List.set_cons_succ])
      (refine draw_free (i := 2) (v := ?_) rfl ?_ ?_; rotate_left; (intro w; go_simp; try with_reducible rfl)); (try simp only [Act.put, List.setIfInBounds_toArray, List.set_cons_zero, List.set_cons_succ])
      (refine draw_free (i := 3) (v := ?_) rfl ?_ ?_; rotate_left; (intro w; go_simp; try with_reducible rfl)); (try simp only [Act.put, List.setIfInBounds_toArray, List.set_cons_zero, List.set_cons_succ])
      (refine draw_free (i := 4) (v := ?_) rfl ?_ ?_; rotate_left; (intro w; go_simp; try with_reducible rfl)); (try simp only [Act.put, List.setIfInBounds_toArray, List.set_cons_zero, List.set_cons_succ])
      (refine draw_free (i := 5) (v := ?_) rfl ?_ ?_; rotate_left; (intro w; go_simp; try with_reducible rfl)); (try simp only [Act.put, List.setIfInBounds_toArray, List.set_cons_zero, List.set_cons_succ])
      (refine draw_in (i := 6) (v := ?_) rfl ?_ ?_; rotate_left; (intro w hSw; (try dsimp only at hSw); go_simp; try with_reducible rfl)); (try simp only [Act.put, List.setIfInBounds_toArray, List.set_cons_zero, List.set_cons_succ])
      (refine draw_in (i := 7) (v := ?_) rfl ?_ ?_; rotate_left; (intro w hSw; (try dsimp only at hSw); go_simp; try with_reducible rfl)); (try simp only [Act.put, List.setIfInBounds_toArray, List.set_cons_zero, List.set_cons_succ])
      (refine draw_free (i := 8) (v := ?_) rfl ?_ ?_; rotate_left; (intro w; go_simp; try with_reducible rfl)); (try simp only [Act.put, List.setIfInBounds_toArray, List.set_cons_zero, List.set_cons_succ])
      (refine draw_free (i := 9) (v := ?_) rfl ?_ ?_; rotate_left; (intro w; go_simp; try with_reducible rfl)); (try simp only [Act.put, List.setIfInBounds_toArray, List.set_cons_zero, List.set_cons_succ])
      (refine draw_in (i := 10) (v := ?_) rfl ?_ ?_; rotate_left; (intro w hSw; (try dsimp only at hSw); go_simp; try with_reducible rfl)); (try simp only [Act.put, List.setIfInBounds_toArray, List.set_cons_zero, List.set_cons_succ])
      (refine draw_in (i := 11) (v := ?_) rfl ?_ ?_; rotate_left; (intro w hSw; (try dsimp only at hSw); go_simp; try with_reducible rfl)); (try simp only [Act.put, List.setIfInBounds_toArray, List.set_cons_zero, List.set_cons_succ])
      (refine draw_in (i := 12) (v := ?_) rfl ?_ ?_; rotate_left; (intro w hSw; (try dsimp only at hSw); go_simp; try with_reducible rfl)); (try simp only [Act.put, List.setIfInBounds_toArray, List.set_cons_zero, List.set_cons_succ])
      refine draw_one (i := 13) ?_
      refine comes_late (i := 13) rfl (by kernel_rfl) (fun K hK => ?_)
      refine draw_store rfl _ _ _ rfl gm (k * 3) #[.string ys, .int .i64 ya, .slice (some ⟨yg, 0, none⟩) ym yc] (by go_simp) rfl (HB0.out.there (by have := hk3; simp only [List.size_toArray, List.length_cons, List.length_nil]; omega)) (by kernel_rfl) (by simp [Value.oneCell']) ?_
      refine hK.out _ _ ?_
      clear hK K; (try simp only [Act.put, List.setIfInBounds_toArray, List.set_cons_zero, List.set_cons_succ])
      refine draw_one (i := 14) ?_
      refine comes_late (i := 14) rfl (by kernel_rfl) (fun K hK => ?_)
      go_simp
      refine hK.out _ _ ?_
      clear hK K; (try simp only [Act.put, List.setIfInBounds_toArray, List.set_cons_zero, List.set_cons_succ])
      refine draw_one (i := 15) ?_
      refine comes_late (i := 15) rfl (by kernel_rfl) (fun K hK => ?_)
      refine draw_store rfl _ _ _ rfl gm (j * 3) #[.string xs, .int .i64 xa, .slice (some ⟨xg, 0, none⟩) xm xc] (by go_simp) rfl (HB1.out.there (by have := hj3; simp only [List.size_toArray, List.length_cons, List.length_nil]; omega)) (by kernel_rfl) (by simp [Value.oneCell']) ?_
      refine hK.out _ _ ?_
      clear hK K; (try simp only [Act.put, List.setIfInBounds_toArray, List.set_cons_zero, List.set_cons_succ])
      refine wpAnyD_done (by kernel_rfl) ?_ _
      have hexl : lentCells (((xs, xa, xr, ()), xg, xc, xl, xh) : RelZ × LentP) = [.string xs, .int .i64 xa, .slice (some ⟨xg, 0, none⟩) xm xc] := by
        show [Value.string xs, .int .i64 xa, .slice (some ⟨xg, 0, none⟩) xr.length xc] = _
        rw [show xr.length = xm from HXY.out.2.2.1]
      have heyl : lentCells (((ys, ya, yr, ()), yg, yc, yl, yh) : RelZ × LentP) = [.string ys, .int .i64 ya, .slice (some ⟨yg, 0, none⟩) ym yc] := by
        show [Value.string ys, .int .i64 ya, .slice (some ⟨yg, 0, none⟩) yr.length yc] = _
        rw [show yr.length = ym from HXY.out.2.2.2]
      generalize hw7 : World.setCells _ gm (j * 3) _ = w7
      obtain ⟨sp, sb, sg, sk⟩ := MixAt.swap (w := wr.drew.drew) (w' := w7) HMix.out.1 HMix.out.2.1 (fun v hv => (HMix.out.2.2.1 v hv).ext (Kp.refl wr).drew.drew) HXY.out.1 HXY.out.2.1 (by rw [← hw7, hexl, heyl])
      clear hw7 hexl heyl hHeld
      have hx7 : Ext w10 w7 := hex.out.drew.drew.trans' sk fun g hg e => by have := HM.out.2.2.2.2; omega
      obtain ⟨M', eM'⟩ : ∃ M', (M.set k (((ys, ya, yr, ()), yg, yc, yl, yh) : RelZ × LentP)).set j ((xs, xa, xr, ()), xg, xc, xl, xh) = M' := ⟨_, rfl⟩
      rw [eM'] at sp sb
      have hMl' : M'.length = N := by rw [sp.length_eq]; exact HM.out.2.1
      obtain ⟨z, hz⟩ : ∃ z, M'[k]? = some z := ⟨_, List.getElem?_eq_getElem (by omega)⟩
      obtain ⟨_, _, cz⟩ := mix_cells sb hz
      have hzM : z ∈ M0 := sp.mem_iff.1 (List.mem_of_getElem? hz)
      obtain ⟨zm, ezm⟩ : ∃ zm, z.1.2.2.1.length = zm := ⟨_, rfl⟩
      obtain ⟨zg, ezg⟩ : ∃ zg, z.2.1 = zg := ⟨_, rfl⟩
      obtain ⟨zc, ezc⟩ : ∃ zc, z.2.2.1 = zc := ⟨_, rfl⟩
      have hzl : zm ≤ 1048576 := by rw [← ezm]; exact HQ.out.2.2.2 _ (HM.out.2.2.2.1.1 z hzM)
      rw [ezm, ezg, ezc] at cz
      have ct7 := Hct.out w7 hx7
      have HW7 := Lib.hid (And.intro sp (And.intro sb (And.intro sg (And.intro hzM (And.intro ezm (And.intro ezg ezc))))))
      have HX7 := Lib.hid hx7
      clear sp sb sg sk hx7 eM' hMl' hz hzM ezm ezg ezc HXY HMix HC HB0 HB1 hfl hk3 hj3 ct
      by_cases hz0 : 0 < zm
      · have q0 : (0 : Int) < (zm : Int) := by omega
        have q1 : zm ≠ 0 := by omega
        obtain ⟨ps, rs, h1, h2, h3, h4, h5, h6⟩ := HW7.out.2.2.1 z HW7.out.2.2.2.1
        have hpl : ps.length = zm := by rw [← HW7.out.2.2.2.2.1, ← h1.length_eq, List.length_map]
        obtain ⟨p, ep⟩ : ∃ p, placeN t zm = p := ⟨_, rfl⟩
        have hp : p < zm := by rw [← ep]; exact placeN_lt t zm hz0
        have EP := Lib.hid (show ∀ w, Calls Tryz.prog 28 #[.int .i64 t, .int .i64 zm] w (Ret (.int .i64 (p : Nat)) w) from fun w => by rw [← ep]; exact place_any t zm hz0 (by omega) w)
        obtain ⟨q, eq⟩ : ∃ q, i % zm = q := ⟨_, rfl⟩
        have hq : q < zm := by rw [← eq]; exact Nat.mod_lt _ hz0
        have r5 : (i : Int).tmod (zm : Int) = (q : Int) := by rw [Int.tmod_eq_emod_of_nonneg (by omega)]; omega
        obtain ⟨x2, hx2⟩ : ∃ x2, ps[p]? = some x2 := ⟨_, List.getElem?_eq_getElem (by omega)⟩
        obtain ⟨y2, hy2⟩ : ∃ y2, ps[q]? = some y2 := ⟨_, List.getElem?_eq_getElem (by omega)⟩
        have hB3 : Blk w7 zg (rowVs ps ++ rs) 29 := by rw [← HW7.out.2.2.2.2.2.1]; exact h3
        have d1 : w7.cell? ⟨zg, p, none⟩ = some (.slice x2.1.1 x2.1.2.1 x2.1.2.2) := by rw [hB3.cell', List.getElem?_append_left (by rw [rowVs_len]; omega)]; exact rowVs_get ps p x2 hx2
        have d2 : w7.cell? ⟨zg, q, none⟩ = some (.slice y2.1.1 y2.1.2.1 y2.1.2.2) := by rw [hB3.cell', List.getElem?_append_left (by rw [rowVs_len]; omega)]; exact rowVs_get ps q y2 hy2
        have HB3 := Lib.hid hB3
        have hp3 : p + 1 ≤ (rowVs ps ++ rs).length := by rw [List.length_append, rowVs_len]; omega
        have hq3 : q + 1 ≤ ((rowVs ps ++ rs).set p (.slice y2.1.1 y2.1.2.1 y2.1.2.2)).length := by rw [List.length_set, List.length_append, rowVs_len]; omega
        have HBag := Lib.hid (And.intro h1 (And.intro h2 (And.intro h3 (And.intro h4 (And.intro h5 (And.intro h6 (And.intro hx2 hy2)))))))
        obtain ⟨⟨xa2, xn2, xc2⟩, xt2⟩ := x2
        obtain ⟨⟨ya2, yn2, yc2⟩, yt2⟩ := y2
        simp only at d1 d2 hq3
        have HD := Lib.hid (show (fun w' : World => w'.cell? ⟨zg, p, none⟩ = some (.slice xa2 xn2 xc2) ∧ w'.cell? ⟨zg, q, none⟩ = some (.slice ya2 yn2 yc2)) w7.drew from ⟨d1, d2⟩)
        clear h1 h2 h3 h4 h5 h6 hx2 hy2 ep eq hB3
        go_wp2
        refine draw_begin (fun w' : World => w'.cell? ⟨tb, toff + i, none⟩ = some (.int .i64 t)) [] (by kernel_rfl) (Hct.out _ HX7.out.drew) (fun hHeld => ?_)
        (refine draw_free (i := 0) (v := ?_) rfl ?_ ?_; rotate_left; (intro w; go_simp; try with_reducible rfl)); (try simp only [Act.put, List.setIfInBounds_toArray, List.set_cons_zero, List.set_cons_succ])
        (refine draw_free (i := 1) (v := ?_) rfl ?_ ?_; rotate_left; (intro w; go_simp; try with_reducible rfl)); (try simp only [Act.put, List.setIfInBounds_toArray, List.set_cons_zero, List.set_cons_succ])
        (refine draw_in (i := 2) (v := ?_) rfl ?_ ?_; rotate_left; (intro w hSw; (try dsimp only at hSw); go_simp; try with_reducible rfl)); (try simp only [Act.put, List.setIfInBounds_toArray, List.set_cons_zero, List.set_cons_succ])
        (refine draw_in (i := 3) (v := ?_) rfl ?_ ?_; rotate_left; (intro w hSw; (try dsimp only at hSw); go_simp; try with_reducible rfl)); (try simp only [Act.put, List.setIfInBounds_toArray, List.set_cons_zero, List.set_cons_succ])
        (refine draw_free (i := 4) (v := ?_) rfl ?_ ?_; rotate_left; (intro w; go_simp; try with_reducible rfl)); (try simp only [Act.put, List.setIfInBounds_toArray, List.set_cons_zero, List.set_cons_succ])
        (refine draw_in (i := 5) (v := ?_) rfl ?_ ?_; rotate_left; (intro w hSw; (try dsimp only at hSw); go_simp; try with_reducible rfl)); (try simp only [Act.put, List.setIfInBounds_toArray, List.set_cons_zero, List.set_cons_succ])
        (refine draw_free (i := 7) (v := ?_) rfl ?_ ?_; rotate_left; (intro w; go_simp; try with_reducible rfl)); (try simp only [Act.put, List.setIfInBounds_toArray, List.set_cons_zero, List.set_cons_succ])
        (refine draw_free (i := 8) (v := ?_) rfl ?_ ?_; rotate_left; (intro w; go_simp; try with_reducible rfl)); (try simp only [Act.put, List.setIfInBounds_toArray, List.set_cons_zero, List.set_cons_succ])
        (refine draw_in (i := 9) (v := ?_) rfl ?_ ?_; rotate_left; (intro w hSw; (try dsimp only at hSw); go_simp; try with_reducible rfl)); (try simp only [Act.put, List.setIfInBounds_toArray, List.set_cons_zero, List.set_cons_succ])
        (refine draw_free (i := 10) (v := ?_) rfl ?_ ?_; rotate_left; (intro w; go_simp; try with_reducible rfl)); (try simp only [Act.put, List.setIfInBounds_toArray, List.set_cons_zero, List.set_cons_succ])
        refine draw_one (i := 6) ?_
        refine comes_turn (i := 6) rfl (fun K hK => ?_)
        go_simp
        (refine (EP.out _).mono ?_; rintro e w5 ⟨rfl, rfl⟩)
        go_wp2_with fail
        refine hK.out _ _ ?_ (fun hHeld => ?_)
        · (try dsimp only); (exact Hct.out _ HX7.out.drew)
        clear hK K; (try simp only [Act.put, List.setIfInBounds_toArray, List.set_cons_zero, List.set_cons_succ])
        (refine draw_free (i := 11) (v := ?_) rfl ?_ ?_; rotate_left; (intro w; go_simp; try with_reducible rfl)); (try simp only [Act.put, List.setIfInBounds_toArray, List.set_cons_zero, List.set_cons_succ])
        (refine draw_free (i := 12) (v := ?_) rfl ?_ ?_; rotate_left; (intro w; go_simp; try with_reducible rfl)); (try simp only [Act.put, List.setIfInBounds_toArray, List.set_cons_zero, List.set_cons_succ])
        refine wpAnyD_done (by kernel_rfl) ?_ _
        clear hHeld
        go_wp2
        refine draw_begin (fun w' : World => w'.cell? ⟨zg, p, none⟩ = some (.slice xa2 xn2 xc2) ∧ w'.cell? ⟨zg, q, none⟩ = some (.slice ya2 yn2 yc2)) [13, 14, 15] (by kernel_rfl) HD.out (fun hHeld => ?_)
        (refine draw_free (i := 0) (v := ?_) rfl ?_ ?_; rotate_left; (intro w; go_simp; try with_reducible rfl)); (try simp only [Act.put, List.setIfInBounds_toArray, List.set_cons_zero, List.set_cons_succ])
        (refine draw_free (i := 1) (v := ?_) rfl ?_ ?_; rotate_left; (intro w; go_simp; try with_reducible rfl)); (try simp only [Act.put, List.setIfInBounds_toArray, List.set_cons_zero, List.set_cons_succ])
        (refine draw_free (i := 2) (v := ?_) rfl ?_ ?_; rotate_left; (intro w; go_simp; try with_reducible rfl)); (try simp only [Act.put, List.setIfInBounds_toArray, List.set_cons_zero, List.set_cons_succ])
        (refine draw_free (i := 3) (v := ?_) rfl ?_ ?_; rotate_left; (intro w; go_simp; try with_reducible rfl)); (try simp only [Act.put, List.setIfInBounds_toArray, List.set_cons_zero, List.set_cons_succ])
        (refine draw_free (i := 4) (v := ?_) rfl ?_ ?_; rotate_left; (intro w; go_simp; try with_reducible rfl)); (try simp only [Act.put, List.setIfInBounds_toArray, List.set_cons_zero, List.set_cons_succ])
        (refine draw_free (i := 5) (v := ?_) rfl ?_ ?_; rotate_left; (intro w; go_simp; try with_reducible rfl)); (try simp only [Act.put, List.setIfInBounds_toArray, List.set_cons_zero, List.set_cons_succ])
        (refine draw_in (i := 6) (v := ?_) rfl ?_ ?_; rotate_left; (intro w hSw; (try dsimp only at hSw); go_simp; try with_reducible rfl)); (try simp only [Act.put, List.setIfInBounds_toArray, List.set_cons_zero, List.set_cons_succ])
        (refine draw_in (i := 7) (v := ?_) rfl ?_ ?_; rotate_left; (intro w hSw; (try dsimp only at hSw); go_simp; try with_reducible rfl)); (try simp only [Act.put, List.setIfInBounds_toArray, List.set_cons_zero, List.set_cons_succ])
        (refine draw_free (i := 8) (v := ?_) rfl ?_ ?_; rotate_left; (intro w; go_simp; try with_reducible rfl)); (try simp only [Act.put, List.setIfInBounds_toArray, List.set_cons_zero, List.set_cons_succ])
        (refine draw_free (i := 9) (v := ?_) rfl ?_ ?_; rotate_left; (intro w; go_simp; try with_reducible rfl)); (try simp only [Act.put, List.setIfInBounds_toArray, List.set_cons_zero, List.set_cons_succ])
        (refine draw_in (i := 10) (v := ?_) rfl ?_ ?_; rotate_left; (intro w hSw; (try dsimp only at hSw); go_simp; try with_reducible rfl)); (try simp only [Act.put, List.setIfInBounds_toArray, List.set_cons_zero, List.set_cons_succ])
        (refine draw_in (i := 11) (v := ?_) rfl ?_ ?_; rotate_left; (intro w hSw; (try dsimp only at hSw); go_simp; try with_reducible rfl)); (try simp only [Act.put, List.setIfInBounds_toArray, List.set_cons_zero, List.set_cons_succ])
        (refine draw_in (i := 12) (v := ?_) rfl ?_ ?_; rotate_left; (intro w hSw; (try dsimp only at hSw); go_simp; try with_reducible rfl)); (try simp only [Act.put, List.setIfInBounds_toArray, List.set_cons_zero, List.set_cons_succ])
        refine draw_one (i := 13) ?_
        refine comes_late (i := 13) rfl (by kernel_rfl) (fun K hK => ?_)
        refine draw_store1 rfl _ _ _ rfl zg p (.slice ya2 yn2 yc2) (by go_simp) rfl rfl (HB3.out.there hp3) (by kernel_rfl) rfl ?_
        refine hK.out _ _ ?_
        clear hK K; (try simp only [Act.put, List.setIfInBounds_toArray, List.set_cons_zero, List.set_cons_succ])
        refine draw_one (i := 14) ?_
        refine comes_late (i := 14) rfl (by kernel_rfl) (fun K hK => ?_)
        go_simp
        refine hK.out _ _ ?_
        clear hK K; (try simp only [Act.put, List.setIfInBounds_toArray, List.set_cons_zero, List.set_cons_succ])
        refine draw_one (i := 15) ?_
        refine comes_late (i := 15) rfl (by kernel_rfl) (fun K hK => ?_)
        refine draw_store1 rfl _ _ _ rfl zg q (.slice xa2 xn2 xc2) (by go_simp) rfl rfl ((HB3.out.set p (.slice ya2 yn2 yc2)).there hq3) (by kernel_rfl) rfl ?_
        refine hK.out _ _ ?_
        clear hK K; (try simp only [Act.put, List.setIfInBounds_toArray, List.set_cons_zero, List.set_cons_succ])
        refine wpAnyD_done (by kernel_rfl) ?_ _
        generalize hw8 : World.setCells _ zg q _ = w8
        obtain ⟨b1, b2, b3, b4, b5, b6, b7, b8⟩ := HBag.out
        obtain ⟨hm8, hk8⟩ := MixAt.swapRows (w := w7.drew.drew) (w' := w8) HM.out.2.2.1 HW7.out.1 HW7.out.2.1 (fun v hv => (HW7.out.2.2.1 v hv).ext (Kp.refl w7).drew.drew) HW7.out.2.2.2.1 b1 b2 b3 b4 b5 b6 b7 b8 (by rw [← hw8, HW7.out.2.2.2.2.2.1])
        have hx8 : Ext w10 w8 := HX7.out.drew.drew.trans' hk8 fun g hg e => by omega
        have HX8' := Lib.hid (And.intro hx8 hm8)
        clear hw8 b1 b2 b3 b4 b5 b6 b7 b8 hm8 hk8 hx8 hHeld
        go_wp2
        go_roundw
        case rel => exact ⟨i + 1, by omega, by first | rfl | (congr 1; done) | (congr 1; omega), Lib.hid HX8'.out.1, Lib.hid HX8'.out.2⟩
        case measure => simp [intOf]; omega
      · obtain rfl : zm = 0 := by omega
        go_wp2
        go_roundw
        case rel => exact ⟨i + 1, by omega, by first | rfl | (congr 1; done) | (congr 1; omega), HX7, Lib.hid ⟨M', rest, HW7.out.1, HW7.out.2.1, HW7.out.2.2.1⟩⟩
        case measure => simp [intOf]; omega
    · obtain ⟨M, rest, hperm, hBm, hbag⟩ := hin.out
      obtain ⟨Qm, m1, m2, m3⟩ := mix_reads hBm HM.out.2.2.2.2 (fun x hx => hbag x (hperm.mem_iff.1 hx))
      have hMl : M.length = N := by rw [hperm.length_eq]; exact HM.out.2.1
      have hok : BaseOk C := by
        have h := HB.out.1.ok
        rwa [HQ.out.1] at h
      obtain ⟨f0, f1, f2⟩ := mix_made hok m1 (fun x hx => by rw [HQ.out.2.1]; exact HM.out.2.2.2.1.1 x (hperm.mem_iff.1 hx)) (fun r hr => by
        rw [HQ.out.2.1] at hr
        obtain ⟨x, hx, e⟩ := HM.out.2.2.2.1.2 r hr
        exact ⟨x, hperm.mem_iff.2 hx, e⟩) m3
      have hrl : ∀ q ∈ Qm, q.2.2.1.length ≤ 1048576 := fun q hq => by
        obtain ⟨i, hi, e⟩ := List.getElem_of_mem hq
        obtain ⟨q', a, _, _, d⟩ := m3 i _ (List.getElem?_eq_getElem (by rw [← m1]; exact hi))
        rw [List.getElem?_eq_getElem hi, e] at a
        cases a
        rw [d.length_eq]
        exact HQ.out.2.2.2 _ (HM.out.2.2.2.1.1 _ (hperm.mem_iff.1 (List.getElem_mem _)))
      have HQm := Lib.hid (And.intro (show N = Qm.length by rw [m1, hMl]) (And.intro m2 (And.intro hrl (And.intro f0 (And.intro f1 f2)))))
      have HOk := Lib.hid hok
      have hcase : i = tn ∨ N = 0 ∧ i < tn := by omega
      clear hlt hperm hBm hbag m1 m2 m3 hMl f0 f1 f2 hrl hok hin
      rcases hcase with rfl | ⟨rfl, hlt⟩
      all_goals
        go_wp2_with fail
        refine (from_any Qm _ _ capm wr _ HQm.out.1 HQm.out.2.1 (fun k h => h.2) (by omega) HQm.out.2.2.1).mono ?_
        rintro e wa ⟨v, rfl, hka, hF⟩
        obtain ⟨bb3, r3, S3, E3, rfl, hB3, hE3, hS3, hO3⟩ := hF.1 HQm.out.2.2.2.1
        have hx3 : Ext w3 wr := (HX6.out.trans HX10.out).trans hex.out
        have hE3l : E3.length ≤ 1048576 := by
          have h := sameC_len HQm.out.2.2.2.2.2 HOk.out HQm.out.2.2.2.2.1
          rw [← hE3, ← HQ.out.1] at h
          have h2 : E3.length = (cntE E3).length := by simp [cntE]
          have h3 : E.length = (cntE E).length := by simp [cntE]
          have := HB.out.2.1
          omega
        have HSm := Lib.hid ((same_two (w := wa) wr.heap.size ((HB.out.1.ext hx3).ext hka) hB3 (fun k hk => by have := HB.out.1.ownLt k hk; have := hx3.size; omega) (fun k hk => by have := HB.out.1.inS k hk; have := hx3.size; omega) hO3 hS3 (by have := HB.out.2.1; omega) hE3l (by rw [hE3, HQ.out.1]; exact HQm.out.2.2.2.2.1)).2)
        have HXa := Lib.hid (((hX46.out.trans HX10.out).trans hex.out).trans hka)
        clear hB3 hE3 hS3 hO3 hE3l hx3 hka hF
        go_wp2_with fail
        refine (num_any 0 wa).mono ?_
        rintro e wb ⟨rfl, rfl⟩
        go_wp2_with fail
        refine HSm.out.mono ?_
        rintro e wb ⟨v, rfl, hkb, rfl⟩
        have HXb := Lib.hid (HXa.out.trans hkb)
        clear hkb HSm HXa
        go_wp2
        go_loopw [19, 20] (fun nv iv wr => SumTo w4 Q m nv iv wr) (fun _ iv _ => m - (intOf iv).toNat)
        case atStart => exact ⟨0, Nat.zero_le _, rfl, rfl, HXb.out⟩
        case round =>
          obtain ⟨i2, hi2, rfl, rfl, hex2⟩ := hrel
          by_cases hlt2 : i2 < m
          · have hmp : 0 < m := by omega
            first
            | (exfalso; omega)
            | (
              obtain ⟨q, hq⟩ : ∃ q, Q[i2]? = some q := ⟨_, List.getElem?_eq_getElem (by rw [HQ.out.2.2.1]; exact hlt2)⟩
              obtain ⟨b, off, ra, rcap, ea, _, _, _, e2, _⟩ := HR4.out i2 q hq
              subst ea
              replace e2 := hex2.out.cell e2 id
              have hst := sumL_step hq
              have hle : sumL Q (i2 + 1) ≤ 262144 := by
                have h := sumL_le HOk.out (i2 + 1)
                rw [HQ.out.2.1] at h
                have := HOk.out.few
                omega
              have HSt := Lib.hid hst
              rw [hst] at hle
              obtain ⟨s0, es0⟩ : ∃ s0, sumL Q i2 = s0 := ⟨_, rfl⟩
              obtain ⟨l0, el0⟩ : ∃ l0, q.2.2.1.length = l0 := ⟨_, rfl⟩
              rw [es0, el0] at hle
              rw [el0] at e2
              rw [es0]
              have HE0 := Lib.hid (And.intro es0 el0)
              clear hst es0 el0 hq
              go_wp2
              go_roundw
              case rel => exact ⟨i2 + 1, by omega, by first | rfl | (congr 1; done) | (congr 1; omega), by rw [HSt.out, HE0.out.1, HE0.out.2, Int.natCast_add], hex2⟩
              case measure => simp [intOf]; omega)
          · obtain rfl : i2 = m := by omega
            have hall := sumL_all (m := i2) HOk.out (by rw [HQ.out.2.1]; exact HQ.out.2.2.1)
            rw [HQ.out.2.1] at hall
            rw [hall]
            have HBl := Lib.hid (((HB.out.1.ext HX4.out).ext hex2.out).blk)
            rw [HQ.out.1] at HBl
            clear hall
            go_wp2_with fail
            refine (baseLen_any HBl.out).mono ?_
            rintro e wz ⟨rfl, rfl⟩
            go_wp2
            go_ret
            exact RetN.mk (((HX3.out.trans HX4.out)).trans hex2.out) rfl
end Go.Proofs.YtfkhelihepbehaaGreat

/- Proved here: the statement TupleTurnedUptoSaid: the law returns true for every input of the bound that the row names and leaves its arguments as they were. No condition of its own. -/
namespace Go.Proofs.YtfkhelihepbehaaGreat.lawTupleTurned
open Go.ChangeShapes Go.WideShapes Go.ChangeAt Go.RowKit
open Go.ChangeMaps (open_string shut_string)
set_option linter.unusedVariables false

theorem turned_walk' (v0 v1 : Value) (W : World)
    (h0 : ∃ ao cap xs, v0 = .slice ao xs.length cap ∧ xs.length ≤ cap ∧ ElemsAt shRel W (fun k => k < W.heap.size) ao xs ∧ bulkL shRel.bulk xs + 1 ≤ 1048576)
    (h1 : ∃ ao cap xs, v1 = .slice ao xs.length cap ∧ xs.length ≤ cap ∧ ElemsAt shIn W (fun k => k < W.heap.size) ao xs ∧ bulkL shIn.bulk xs + 1 ≤ 1048576) :
    Calls Tryz.prog 4 #[v0, v1] W (fun e w' => e = .returned (.bool true) ∧ Below W.heap.size W w') := by
  obtain ⟨a0, c0, x0, rfl, _, e0, b0⟩ := h0
  obtain ⟨a1, c1, x1, rfl, _, e1, b1⟩ := h1
  obtain ⟨l0, l2⟩ := rel_bulk (N := 1048576) (by omega : bulkL shRel.bulk x0 ≤ 1048576)
  have l1 := bulkL_len shIn.bulk (fun x => Nat.le_refl 1) x1
  refine (turned_any x0 a0 x0.length c0 x1 a1 x1.length c1 W (fun _ => True) rfl (elems_rels e0 fun q hq ss hs => by have := (l2 q hq).2 ss hs; omega) l0 (fun q hq => (l2 q hq).1) rfl (elems_ints e1) (by omega)).mono ?_
  rintro e w' ⟨v, rfl, hk, rfl⟩
  exact ⟨rfl, hk.below⟩
theorem own : ownKnob Tryz.prog.godebug = none := by kernel_rfl
theorem laidOut : laidOutB Tryz.prog = true := by kernel_rfl

set_option maxRecDepth 100000 in
theorem lifted (os : Os) (started : os.Started) (H : Type) (enc : TypeId × Value → H) (F : Stop.Interp) :
    ReturnsInHanded {} Tryz.checked os 4 .any ((Rows.OpenSpec.upto Rows.tupleTurnedSpec).pre6 enc Tryz.prog Tryz.f4 Rows.tupleTurnedUptoRow.domain false) (((Rows.OpenSpec.upto Rows.tupleTurnedSpec).at F).post enc Tryz.prog Tryz.f4 false true false false) := by
  refine returnsInHanded_of_cond (C := Tryz.checked) (s := Rows.OpenSpec.upto Rows.tupleTurnedSpec) (k := Rows.uptoSmall) rfl own started (by kernel_rfl) Tryz.func4
    (OpenSpec.witness (enc := enc) (C := Tryz.checked) (s := Rows.OpenSpec.upto Rows.tupleTurnedSpec) (k := Rows.uptoSmall) rfl false ⟨#[], #[.slice none 0 0, .slice none 0 0], []⟩ 8 (by kernel_rfl) (by kernel_rfl) (by kernel_rfl)
      (x := ([.nil, .nil], [], [])) (by kernel_rfl) rfl (by kernel_rfl)) ?_
  intro W base args ds gs before hval0 hW hcnd hk0 _
  have hk : Rows.uptoSmall H (ds ++ gs) = true := hk0
  clear hk0
  have hval : ∀ (j : Nat) t v, Tryz.f4.params[j]? = some t → args[j]? = some v → Value.okWide Tryz.prog W .any base t v := hval0
  have hW' := hW
  obtain ⟨p, q, hA0, hV, rfl, hfz, hnd⟩ := hW
  have hA : DataW.TrodAll enc Tryz.prog W 0 (fun _ => true) true Tryz.f4.params.toList args.toList ds p := hA0
  rw [Tryz.params4] at hA hval
  obtain ⟨v0, vs0, d0, ds0, p0, q0, hargs, rfl, rfl, h0, r0⟩ := trodAll_cons hA
  obtain ⟨v1, vs1, d1, ds1, p1, q1, rfl, rfl, rfl, h1, r1⟩ := trodAll_cons r0
  obtain ⟨rfl, rfl, rfl⟩ := trodAll_nil r1
  obtain rfl : args = #[v0, v1] := by cases args; simp_all
  obtain ⟨rfl, rfl⟩ := trodVars_none hV
  have lt0 : ∀ x ∈ p0, x.block < W.heap.size := by obtain ⟨m, hm⟩ := h0; exact DataW.trod_lt m _ _ _ hm
  have lt1 : ∀ x ∈ p1, x.block < W.heap.size := by obtain ⟨m, hm⟩ := h1; exact DataW.trod_lt m _ _ _ hm
  clear hA0 hval0
  simp only [List.append_nil] at hk
  have hk1 : Rows.uptoBulkAll [d0, d1] ≤ 1048576 := of_decide_eq_true hk
  clear hk
  have x0 := arg_slice (s := shRel) Tryz.underlying39 (by kernel_rfl) (by show 0 < 3; decide) (hval 0 39 v0 rfl rfl) h0 (N := 1048576) (bulk_in hk1 (by simp))
  have x1 := arg_slice (s := shIn) Tryz.underlying40 (by kernel_rfl) (by show 0 < 1; decide) (hval 1 40 v1 rfl rfl) h1 (N := 1048576) (bulk_in hk1 (by simp))
  refine (turned_walk' v0 v1 W x0 x1).mono fun e W' ⟨he, bel⟩ => ?_
  subst he
  exact ⟨_, rfl, _, _, _, [], _, [], hW', trodAll_mk1 (shut_bool Tryz.underlying4 _), (trodAll_cons_mk (Below.trod laidOut (by kernel_rfl) (of_decide_eq_true (by kernel_rfl)) h0 bel lt0) (trodAll_cons_mk (Below.trod laidOut (by kernel_rfl) (of_decide_eq_true (by kernel_rfl)) h1 bel lt1) trodAll_mk0)), rfl, bel.frame _, fun h => by cases h⟩

theorem over : Rows.tupleTurnedUptoRow.holds Tryz.pinned (Rows.OpenSpec.upto Rows.tupleTurnedSpec) :=
  OpenClaim.holds_of_cond 4 Tryz.f4 rfl rfl rfl rfl rfl rfl rfl ⟨rfl, rfl, rfl, rfl, rfl⟩ rfl rfl rfl rfl rfl (by kernel_rfl) Tryz.func4 (by kernel_rfl)
    (of_decide_eq_true (by kernel_rfl)) (by unfold Func.isWrapper; first | (rw [if_pos (by decide +kernel)]; kernel_rfl) | (rw [if_neg (by decide +kernel)]; exact ⟨rfl, rfl⟩))
    (fun os started H enc _ F => lifted os started H enc F)

theorem proved : Rows.TupleTurnedUptoSaid := over
#print axioms proved
end Go.Proofs.YtfkhelihepbehaaGreat.lawTupleTurned
