/- Texts joined for a claim (SortRow, BinRow, CompactRow, GenRow, SetRow, NewRow, InsertRow, DeleteRow, SetOpsRow, SetCopyRow, SetPickRow, SetMeetRow, SetAtRow, IterRow, IterVRow, BinStr, IndexStr, GenStr, RowSet, BaseC, TriePlain, JoinTree). -/
import Derived.Test.YtinnmeiphbdogaaGreatMo2
import Derived.Test.YtinnmeiphbdogaaGreatProg
import Derived.Deep.RegionHeld3
import Derived.Deep.RegionWith
set_option linter.unusedVariables false
set_option linter.unusedSimpArgs false
/- slices.stableCmpFunc and slices.SortStableFunc at []string. -/
namespace Go.Proofs.YtinnmeiphbdogaaGreat
open Go.RowKit
theorem tV (z : Nat -> Option Addr × Nat × Nat) (g n cap N : Nat) (rest : List Value) (f : FuncId) (first captured : Array Value) (c : Nat -> Nat -> Int) (L : CmpLaw c) (w0 : World)
 (hcmp : rI Tryz.prog f first captured g N w0 (aJ z) c) (hm : n ≤ 4611686018427387904) : ∀ k, aDb Tryz.prog z g n cap N rest f first captured c w0 k := by
 intro k
 induction k with
 | zero => intro w p A B q hk hA; have := List.length_pos_iff.2 hA; omega
 | succ k ih =>
  intro w p A B q hk hA hB hkp hN hsA hsB hlr hn hb a m b ea em eb
  have lA := List.length_pos_iff.2 hA
  have lB := List.length_pos_iff.2 hB
  by_cases h1 : A.length = 1
  ·obtain ⟨x, rfl⟩ := List.length_eq_one_iff.1 h1
   refine (tU z g n cap N rest f first captured c L w0 w hcmp hm hkp p x B q hB (fun i hi => hN i (by simpa using hi)) hsB (fun v hv => hlr x (by simp) v hv) (by simpa using hn) (hb.congrL (by simp)) a m b ea (by simp at em; omega) (by simp at em eb; omega)).mono ?_
   rintro e w' ⟨v, rfl, h, hv, C, hp, hs, hb'⟩
   exact ⟨v, rfl, h, hv, C, by simpa using hp, hs, hb'⟩
  ·by_cases h2 : B.length = 1
   ·obtain ⟨x, rfl⟩ := List.length_eq_one_iff.1 h2
    refine (rN z g n cap N rest f first captured c L w0 w hcmp hm hkp p A x q (by omega) (fun i hi => hN i (by simpa using hi)) hsA (fun v hv => hlr v hv x (by simp)) (by simpa using hn) (hb.congrL (by simp)) a m b ea (by omega) (by simp at eb; omega)).mono ?_
    rintro e w' ⟨v, rfl, h, hv, C, hp, hs, hb'⟩
    exact ⟨v, rfl, h, hv, C, hp, hs, hb'⟩
   ·refine (pW z g n cap N rest f first captured c L w0 w hcmp hm hkp p A B q (by omega) (by omega) (fun w p' A' B' q' h => ih w p' A' B' q' (by omega)) hN hsA hsB hlr hn hb a m b ea (by omega) (by omega)).mono ?_
    rintro e w' ⟨v, rfl, h, hv, C, hp, hs, hb'⟩
    exact ⟨v, rfl, h, hv, C, hp, hs, hb'⟩
theorem mC (z : Nat -> Option Addr × Nat × Nat) (g n cap N : Nat) (rest : List Value) (f : FuncId) (first captured : Array Value) (c : Nat -> Nat -> Int) (L : CmpLaw c) (w0 : World)
 (hcmp : rI Tryz.prog f first captured g N w0 (aJ z) c) (hm : n ≤ 4611686018427387904) (w : World) (p A B q : List Nat) (hA : A ≠ []) (hB : B ≠ []) (hkp : Kp (fun k => k = g) w0 w) (hN : ∀ i ∈ p ++ A ++ B ++ q, i < N) (hsA : Sorted c A) (hsB : Sorted c B) (hlr : ∀ u ∈ A, ∀ v ∈ B, u < v)
 (hn : (p ++ A ++ B ++ q).length = n) (hb : Blk w g ((p ++ A ++ B ++ q).map (aJ z) ++ rest) 34) (a m b : Int) (ea : a = (p.length : Nat)) (em : m = ((p.length + A.length : Nat) : Int)) (eb : b = ((p.length + A.length + B.length : Nat) : Int)) :
 Calls Tryz.prog 213 #[.slice (some ⟨g, 0, none⟩) n cap, .int .i64 a, .int .i64 m, .int .i64 b, .func (Fn.func f) first captured] w
  (RetF (fun k => k = g) w0 fun w' v => v = .tuple #[] /\ ∃ C, C.Perm (A ++ B) /\ Sorted c C /\ Blk w' g ((p ++ C ++ q).map (aJ z) ++ rest) 34) := by
 subst ea em eb
 exact tV z g n cap N rest f first captured c L w0 hcmp hm _ w p A B q (Nat.le_refl _) hA hB hkp hN hsA hsB hlr hn hb _ _ _ rfl rfl rfl
set_option maxRecDepth 100000 in
set_option maxHeartbeats 8000000 in
theorem rR (z : Nat -> Option Addr × Nat × Nat) (g n cap : Nat) (rest : List Value) (f : FuncId) (first captured : Array Value) (c : Nat -> Nat -> Int) (L : CmpLaw c) (w : World)
 (hcmp : rI Tryz.prog f first captured g n w (aJ z) c) (hm : n ≤ 1152921504606846976) (hB : Blk w g ((List.range n).map (aJ z) ++ rest) 34) :
 Calls Tryz.prog 207 #[.slice (some ⟨g, 0, none⟩) n cap, .int .i64 n, .func (Fn.func f) first captured] w
  (RetF (fun k => k = g) w fun w' v => v = .tuple #[] /\ ∃ C, C.Perm (List.range n) /\ Sorted c C /\ Blk w' g (C.map (aJ z) ++ rest) 34) := by
 have hm' : n ≤ 4611686018427387904 := by omega
 have HCm := qH hcmp; clear hcmp
 have HBr : Blk w g ((List.range' 0 n).map (aJ z) ++ rest) 34 := by rw [<- List.range_eq_range']; exact hB
 have HBr' := qH HBr; clear HBr hB
 go_enter Tryz.func207, Tryz.ntmps207
 go_wp2
 go_loopw [7, 8] (aLl c n w g (aJ z) rest 34) (fun a _ _ => n - (intOf a).toNat)
 case atStart => exact ⟨[], by simp, trivial, by simp, rfl, rfl, Kp.refl _, by simpa using HBr'.out⟩
 case round =>
  obtain ⟨dn, hd, hgood, hle, rfl, rfl, hkp, hb⟩ := hrel
  generalize hda : dn.flatten.length = a at *
  have HDA := qH hda; clear hda
  have HD := qH (And.intro hd hgood); clear hd hgood
  have HB1 := qH hb; clear hb
  by_cases hlt : a + 20 ≤ n
  ·go_wp2_with fail
   refine (nK z g n cap n rest f first captured c L w wr HCm.out hkp dn.flatten (List.range' a 20) (List.range' (a + 20) (n - (a + 20))) (fun i hi => by rw [List.mem_range'_1] at hi; omega) List.pairwise_lt_range' (by have := HDA.out; simp only [List.length_append, List.length_cons, List.length_nil, List.length_range', List.flatten_append, List.flatten_cons, List.flatten_nil, List.append_nil, List.nil_append]; omega) (HB1.out.congrL (by
    have e : List.range' a 20 ++ List.range' (a + 20) (n - (a + 20)) = List.range' a (n - a) := by rw [List.range'_append_1]; congr 1; omega
    rw [List.append_assoc, e])) hm' _ _ HDA.out.symm (by have := HDA.out; simp only [List.length_append, List.length_cons, List.length_nil, List.length_range', List.flatten_append, List.flatten_cons, List.flatten_nil, List.append_nil, List.nil_append]; omega)).mono ?_
   rintro e w1 ⟨v, rfl, hk1, rfl, C, hp, hs, hb1⟩
   have HC1 := qH (And.intro hp (And.intro hs hb1)); clear hp hs hb1
   go_wp2
   go_roundw
   case rel =>
    obtain ⟨hp, hs, hb1⟩ := HC1.out
    have hl : C.length = 20 := by have := hp.length_eq; simpa using this
    have hfl : (dn ++ [C]).flatten.length = a + 20 := by have := HDA.out; simp only [List.length_append, List.length_cons, List.length_nil, List.length_range', List.flatten_append, List.flatten_cons, List.flatten_nil, List.append_nil, List.nil_append]; omega
    refine ⟨dn ++ [C], ?_, Good.append.2 ⟨HD.out.2, ?_⟩, by omega, by rw [hfl]; go_num, by rw [hfl]; go_num, hk1, ?_⟩
    ·intro A hA
     rcases List.mem_append.1 hA with hA | hA
     ·exact HD.out.1 A hA
     ·simp at hA; subst hA; exact hl
    ·have := HDA.out; simp only [List.length_flatten] at this
     refine ⟨?_, hs, trivial⟩
     rw [hl, Nat.zero_add, HDA.out]; exact hp
    ·rw [hfl]; exact hb1.congrL (by simp)
   case measure => simp [intOf]; omega
  ·have hN : n - a < 20 := by omega
   go_wp2_with fail
   refine (nK z g n cap n rest f first captured c L w wr HCm.out hkp dn.flatten (List.range' a (n - a)) [] (fun i hi => by rw [List.mem_range'_1] at hi; omega) List.pairwise_lt_range' (by have := HDA.out; simp only [List.length_append, List.length_cons, List.length_nil, List.length_range', List.flatten_append, List.flatten_cons, List.flatten_nil, List.append_nil, List.nil_append]; omega) (HB1.out.congrL (by simp)) hm' _ _ HDA.out.symm (by have := HDA.out; simp only [List.length_append, List.length_cons, List.length_nil, List.length_range', List.flatten_append, List.flatten_cons, List.flatten_nil, List.append_nil, List.nil_append]; omega)).mono ?_
   rintro e w1 ⟨v, rfl, hk1, rfl, C, hp, hs, hb1⟩
   have key : ∃ Cs, Full 20 Cs /\ Good c 0 Cs /\ Cs.flatten = dn.flatten ++ C := by
    have hl : C.length = n - a := by have := hp.length_eq; simpa using this
    by_cases h0 : C.length = 0
    ·obtain rfl := List.eq_nil_of_length_eq_zero h0
     exact ⟨dn, Full.all' (by decide) HD.out.1, HD.out.2, by simp⟩
    ·refine ⟨dn ++ [C], Full.all HD.out.1 (by omega) (by omega), Good.append.2 ⟨HD.out.2, ?_, hs, trivial⟩, by simp⟩
     rw [hl, Nat.zero_add, HDA.out]; exact hp
   obtain ⟨Cs, hf, hg2, he⟩ := key
   have hl : Cs.flatten.length = n := by
    rw [he]
    have h1 := hp.length_eq
    have := HDA.out
    simp only [List.length_range'] at h1
    simp only [List.length_append, List.length_cons, List.length_nil, List.length_range', List.flatten_append, List.flatten_cons, List.flatten_nil, List.append_nil, List.nil_append]; omega
   have hb2 : Blk w1 g (Cs.flatten.map (aJ z) ++ rest) 34 := by rw [he]; exact hb1.congrL (by simp)
   have HS := qH (And.intro hf (And.intro hg2 (And.intro hl hb2)))
   clear hp hs hb1 hf hg2 he hl hb2
   go_wp2
   go_loopw [6, 7, 8] (fun sv _ _ wx => aLk c n w g (aJ z) rest 34 sv wx) (fun s _ _ _ => n - (intOf s).toNat)
   case atStart =>
    obtain ⟨h1, h2, h3, h4⟩ := HS.out
    exact ⟨20, Cs, by decide, rfl, h1, h2, h3, by omega, hk1, h4⟩
   case round =>
    obtain ⟨bs, Cs2, hbs, rfl, hf, hg2, hl, hle2, hkp2, hb2⟩ := hrel
    have HF := qH (And.intro hf (And.intro hg2 (And.intro hl hb2)))
    clear hf hg2 hl hb2
    by_cases hlt2 : bs < n
    ·obtain ⟨wo, rfl⟩ : ∃ wo : World, wo = wr := ⟨_, rfl⟩
     go_wp2
     go_loopw [7, 8] (aLj c n bs w g (aJ z) rest 34) (fun a _ _ => n - (intOf a).toNat)
     case atStart =>
      obtain ⟨h1, h2, h3, h4⟩ := HF.out
      exact ⟨[], Cs2, by simp, h1, h2, h3, rfl, by simp, hkp2, h4⟩
     case round =>
      obtain ⟨dn2, td, hd2, hft, hg3, hl3, rfl, rfl, hkp3, hb3⟩ := hrel
      have hle3 : dn2.flatten.length + td.flatten.length = n := by simpa only [List.flatten_append, List.length_append] using hl3
      generalize hda2 : dn2.flatten.length = a2 at *
      have HDA2 := qH hda2; clear hda2
      have HG := qH (And.intro hd2 (And.intro hft (And.intro hg3 (And.intro hl3 (And.intro hle3 hb3)))))
      clear hd2 hft hg3 hl3 hb3
      have ha2n : a2 ≤ n := by omega
      clear hle3
      by_cases hlt3 : a2 + 2 * bs ≤ n
      ·obtain ⟨A, B, r, rfl, lA, lB, hfr⟩ := Full.two hbs HG.out.2.1 (by have := HG.out.2.2.2.2.1; omega)
       obtain ⟨q1, q2, q3, q4, q5, q6⟩ := HG.out
       have hgd := Good.append.1 q3
       obtain ⟨g1, g2, g4, g5, g6⟩ := hgd.2
       rw [HDA2.out, lA, Nat.zero_add] at g1
       rw [HDA2.out, lA, lB, Nat.zero_add] at g4
       rw [HDA2.out, lA, lB, Nat.zero_add] at g6
       have HQ := qH (And.intro q1 (And.intro q4 (And.intro q6 (And.intro hgd.1 (And.intro g1 (And.intro g2 (And.intro g4 (And.intro g5 (And.intro g6 (And.intro lA (And.intro lB hfr)))))))))))
       clear q1 q2 q3 q4 q5 q6 hgd g1 g2 g4 g5 g6 lA lB hfr
       go_wp2_with fail
       have lens : dn2.flatten.length = a2 /\ A.length = bs /\ B.length = bs /\ a2 + (bs + (bs + r.flatten.length)) = n := by
        obtain ⟨q1, q4, q6, gd, g1, g2, g4, g5, g6, lA, lB, hfr⟩ := HQ.out
        have h := HDA2.out
        simp only [List.flatten_append, List.flatten_cons, List.length_append, lA, lB, h] at q4
        exact ⟨h, lA, lB, q4⟩
       have HLL := qH lens; clear lens
       have mem : ∀ i ∈ (dn2 ++ A :: B :: r).flatten, i < n := by
        obtain ⟨q1, q4, q6, gd, g1, g2, g4, g5, g6, lA, lB, hfr⟩ := HQ.out
        intro i hi
        have hall : Good c 0 (dn2 ++ A :: B :: r) := Good.append.2 ⟨gd, by rw [HDA2.out, lA, Nat.zero_add]; exact g1, g2, by rw [HDA2.out, lA, lB, Nat.zero_add]; exact g4, g5, by rw [HDA2.out, lA, lB, Nat.zero_add]; exact g6⟩
        have := Good.mem hall hi
        omega
       have HME := qH mem; clear mem
       refine (mC z g n cap n rest f first captured c L w HCm.out hm' wr dn2.flatten A B r.flatten (by have := HLL.out; rintro rfl; first | (simp at this; done) | (simp at this; omega)) (by have := HLL.out; rintro rfl; first | (simp at this; done) | (simp at this; omega)) hkp3 (fun i hi => HME.out i (by simpa using hi)) HQ.out.2.2.2.2.2.1 HQ.out.2.2.2.2.2.2.2.1 ?hLR (by have := HLL.out; simp only [List.length_append, List.length_cons, List.length_nil, List.length_range', List.flatten_append, List.flatten_cons, List.flatten_nil, List.append_nil, List.nil_append]; omega) (HQ.out.2.2.1.congrL (by simp)) _ _ _ (by rw [HDA2.out]) (by have := HLL.out; omega) (by have := HLL.out; omega)).mono ?_
       case hLR =>
        intro u hu v hv
        have h1 := fE HQ.out.2.2.2.2.1 hu
        have h2 := fE HQ.out.2.2.2.2.2.2.1 hv
        omega
       rintro e w1 ⟨v, rfl, hk1, rfl, C, hp, hs, hb1⟩
       have HC1 := qH (And.intro hp (And.intro hs hb1)); clear hp hs hb1
       go_wp2
       go_roundw
       case rel =>
        obtain ⟨q1, q4, q6, gd, g1, g2, g4, g5, g6, lA, lB, hfr⟩ := HQ.out
        obtain ⟨hp, hs, hb1⟩ := HC1.out
        obtain ⟨e1, e2, e3, e4⟩ := HLL.out
        have lC : C.length = 2 * bs := by have := hp.length_eq; simp only [List.length_append] at this; omega
        have pC := sY g1 g4 hp
        refine ⟨dn2 ++ [C], r, ?_, hfr, ?_, ?_, ?_, ?_, hk1, hb1.congrL (by simp)⟩
        ·intro X hX
         rcases List.mem_append.1 hX with hX | hX
         ·exact q1 X hX
         ·simp at hX; subst hX; exact lC
        ·refine Good.append.2 ⟨Good.append.2 ⟨gd, ?_, hs, trivial⟩, ?_⟩
         ·rw [e1, lC, Nat.zero_add, show 2 * bs = bs + bs by omega]; exact pC
         ·rw [show 0 + (dn2 ++ [C]).flatten.length = a2 + bs + bs by simp only [List.length_append, List.length_cons, List.length_nil, List.length_range', List.flatten_append, List.flatten_cons, List.flatten_nil, List.append_nil, List.nil_append]; omega]; exact g6
        ·simp only [List.length_append, List.length_cons, List.length_nil, List.length_range', List.flatten_append, List.flatten_cons, List.flatten_nil, List.append_nil, List.nil_append]; omega
        ·rw [show (dn2 ++ [C]).flatten.length = a2 + 2 * bs by simp only [List.length_append, List.length_cons, List.length_nil, List.length_range', List.flatten_append, List.flatten_cons, List.flatten_nil, List.append_nil, List.nil_append]; omega]; go_num
        ·rw [show (dn2 ++ [C]).flatten.length = a2 + 2 * bs by simp only [List.length_append, List.length_cons, List.length_nil, List.length_range', List.flatten_append, List.flatten_cons, List.flatten_nil, List.append_nil, List.nil_append]; omega]; go_num
       case measure => simp [intOf]; omega
      ·have hrest := Full.rest hbs HG.out.2.1 (by have := HG.out.2.2.2.2.1; omega)
       by_cases hmn : a2 + bs < n
       ·have h2 : ∃ A B, td = [A, B] /\ A.length = bs /\ 0 < B.length /\ B.length < bs := by
         have h5 := HG.out.2.2.2.2.1
         rcases hrest with (rfl | ⟨A, rfl, h3, h4⟩) | h
         ·simp at h5; omega
         ·simp at h5; omega
         ·exact h
        obtain ⟨A, B, rfl, lA, lB, lB2⟩ := h2
        clear hrest
        obtain ⟨q1, q2, q3, q4, q5, q6⟩ := HG.out
        have hgd := Good.append.1 q3
        obtain ⟨g1, g2, g4, g5, _⟩ := hgd.2
        rw [HDA2.out, lA, Nat.zero_add] at g1
        rw [HDA2.out, lA, Nat.zero_add] at g4
        have mem : ∀ i ∈ (dn2 ++ [A, B]).flatten, i < n := fun i hi => by have := Good.mem q3 hi; omega
        have lens : dn2.flatten.length = a2 /\ A.length = bs /\ 0 < B.length /\ B.length < bs /\ a2 + (bs + B.length) = n := by
         have h := HDA2.out
         have q4' := q4
         simp only [List.flatten_append, List.flatten_cons, List.flatten_nil, List.length_append, List.length_nil, lA, h] at q4'
         exact ⟨h, lA, lB, lB2, q4'⟩
        have HQ := qH (And.intro q1 (And.intro q6 (And.intro hgd.1 (And.intro g1 (And.intro g2 (And.intro g4 (And.intro g5 mem)))))))
        have HLL := qH lens
        clear q1 q2 q3 q4 q5 q6 hgd g1 g2 g4 g5 mem lens lA lB lB2
        go_wp2_with fail
        refine (mC z g n cap n rest f first captured c L w HCm.out hm' wr dn2.flatten A B [] (by have := HLL.out; rintro rfl; first | (simp at this; done) | (simp at this; omega)) (by have := HLL.out; rintro rfl; first | (simp at this; done) | (simp at this; omega)) hkp3 (fun i hi => HQ.out.2.2.2.2.2.2.2 i (by simpa using hi)) HQ.out.2.2.2.2.1 HQ.out.2.2.2.2.2.2.1 ?hLR (by have := HLL.out; simp only [List.length_append, List.length_cons, List.length_nil, List.length_range', List.flatten_append, List.flatten_cons, List.flatten_nil, List.append_nil, List.nil_append]; omega) (HQ.out.2.1.congrL (by simp)) _ _ _ (by rw [HDA2.out]) (by have := HLL.out; omega) (by have := HLL.out; omega)).mono ?_
        case hLR =>
         intro u hu v hv
         have h1 := fE HQ.out.2.2.2.1 hu
         have h2 := fE HQ.out.2.2.2.2.2.1 hv
         omega
        rintro e w1 ⟨v, rfl, hk1, rfl, C, hp, hs, hb1⟩
        have HC1 := qH (And.intro hp (And.intro hs hb1)); clear hp hs hb1
        go_wp2
        go_roundw
        case rel =>
         obtain ⟨q1, q6, gd, g1, g2, g4, g5, _⟩ := HQ.out
         obtain ⟨hp, hs, hb1⟩ := HC1.out
         obtain ⟨e1, e2, e3, e4, e5⟩ := HLL.out
         have lC : C.length = bs + B.length := by have := hp.length_eq; simp only [List.length_append] at this; omega
         have pC := sY g1 g4 hp
         refine ⟨2 * bs, dn2 ++ [C], by omega, by go_num, Full.all q1 (by omega) (by omega), Good.append.2 ⟨gd, ?_, hs, trivial⟩, by simp only [List.length_append, List.length_cons, List.length_nil, List.length_range', List.flatten_append, List.flatten_cons, List.flatten_nil, List.append_nil, List.nil_append]; omega, by omega, hk1, hb1.congrL (by simp)⟩
         rw [e1, lC, Nat.zero_add]; exact pC
        case measure => simp [intOf]; omega
       ·have h2 : td = [] \/ ∃ A, td = [A] /\ 0 < A.length /\ A.length ≤ bs := by
         have h5 := HG.out.2.2.2.2.1
         rcases hrest with h | ⟨A, B, rfl, h3, h4, h6⟩
         ·exact h
         ·simp at h5; omega
        have HTD := qH h2
        clear hrest h2
        go_wp2
        go_roundw
        case rel =>
         obtain ⟨q1, q2, q3, q4, q5, q6⟩ := HG.out
         refine ⟨2 * bs, dn2 ++ td, by omega, by go_num, ?_, q3, q4, by omega, hkp3, q6⟩
         rcases HTD.out with rfl | ⟨A, rfl, h3, h4⟩
         ·rw [List.append_nil]; exact Full.all' (by omega) q1
         ·exact Full.all q1 h3 (by omega)
        case measure => simp [intOf]; omega
    ·go_wp2
     go_end0
     obtain ⟨h1, h2, h3, h4⟩ := HF.out
     refine RetF.mk hkp2 ⟨rfl, ?_⟩
     rcases Full.one hbs h1 h3 (by omega) with rfl | ⟨A, rfl⟩
     ·simp at h3; subst h3
      exact ⟨[], by simp, Sorted.nil, by simpa using h4⟩
     ·simp at h3
      obtain ⟨q1, q2, _⟩ := h2
      refine ⟨A, by rw [List.range_eq_range', <- h3]; exact q1, q2, by simpa using h4⟩
theorem qA (z : Nat -> Option Addr × Nat × Nat) (g n cap : Nat) (rest : List Value) (f : FuncId) (first captured : Array Value) (c : Nat -> Nat -> Int) (L : CmpLaw c) (w : World)
 (hcmp : rI Tryz.prog f first captured g n w (aJ z) c) (hm : n ≤ 1152921504606846976) (hB : Blk w g ((List.range n).map (aJ z) ++ rest) 34) :
 Calls Tryz.prog 195 #[.slice (some ⟨g, 0, none⟩) n cap, .func (Fn.func f) first captured] w
  (RetF (fun k => k = g) w fun w' v => v = .tuple #[] /\ ∃ C, C.Perm (List.range n) /\ Sorted c C /\ Blk w' g (C.map (aJ z) ++ rest) 34) := by
 go_enter Tryz.func195, Tryz.ntmps195
 go_wp2_with fail
 refine (rR z g n cap rest f first captured c L w hcmp hm hB).mono ?_
 rintro e w1 ⟨v, rfl, hk, rfl, hC⟩
 have HC := qH hC; clear hC
 go_wp2
 go_end0
 exact RetF.mk hk ⟨rfl, HC.out⟩
theorem vU (ao : Option Addr) (cap : Nat) (fv : Value) (w : World) :
 Calls Tryz.prog 212 #[.slice ao 0 cap, .int .i64 0, .int .i64 0, fv] w (Ret (.tuple #[]) w) := by
 go_enter Tryz.func212, Tryz.ntmps212
 go_wp2
 go_loop [8] (fun i => i = .int .i64 1) (fun _ => 0)
 case atStart => rfl
 case round =>
  subst hrel
  go_wp2
  go_end0
  exact Ret.mk rfl
theorem rQ (ao : Option Addr) (cap : Nat) (fv : Value) (w : World) :
 Calls Tryz.prog 207 #[.slice ao 0 cap, .int .i64 0, fv] w (Ret (.tuple #[]) w) := by
 go_enter Tryz.func207, Tryz.ntmps207
 go_wp2
 go_loop [7, 8] (fun a b => a = .int .i64 0 /\ b = .int .i64 20) (fun _ _ => 0)
 case atStart => exact ⟨rfl, rfl⟩
 case round =>
  obtain ⟨rfl, rfl⟩ := hrel
  go_wp2_with (go_at_call 212; (with_reducible refine (vU _ _ _ _).mono ?_); rintro e w' ⟨rfl, rfl⟩)
  go_loop [6] (fun s => s = .int .i64 20) (fun _ => 0)
  case atStart => rfl
  case round =>
   subst hrel
   go_wp2
   go_end0
   exact Ret.mk rfl
theorem pZ (ao : Option Addr) (cap : Nat) (fv : Value) (w : World) :
 Calls Tryz.prog 195 #[.slice ao 0 cap, fv] w (Ret (.tuple #[]) w) := by
 go_enter Tryz.func195, Tryz.ntmps195
 go_wp2_with (go_at_call 207; (with_reducible refine (rQ _ _ _ _).mono ?_); rintro e w' ⟨rfl, rfl⟩)
 go_end0
 exact Ret.mk rfl
end Go.Proofs.YtinnmeiphbdogaaGreat
/- slices.BinarySearchFunc at []string, slices.Clone, slices.EqualFunc. -/
namespace Go.Proofs.YtinnmeiphbdogaaGreat
open Go.RowKit
theorem gF : dU Tryz.prog 69 34 1 24 (.slice none 0 0) := ⟨by kernel_rfl, by kernel_rfl, rfl, by decide⟩
def aDc (P : Program) (f : FuncId) (first captured : Array Value) (w0 : World) (vs : List Value) (t : Value) (c : Nat -> Int) : Prop :=
 (∀ args w, (callFunc f args).run P w = .ok (Next.enter f args) w) /\ ∀ w, Ext w0 w -> ∀ i v, vs[i]? = some v -> Calls P f (first ++ (#[v, t] ++ captured)) w fun e w' => e = .returned (.int .i64 (c i)) /\ Ext w w'
def aKv (n : Nat) (c : Nat -> Int) (w0 : World) (iv jv : Value) (w : World) : Prop :=
 ∃ i j : Nat, i ≤ j /\ j ≤ n /\ iv = .int .i64 i /\ jv = .int .i64 j /\ (i = 0 \/ c (i - 1) < 0) /\ (j = n \/ 0 ≤ c j) /\ Ext w0 w
set_option maxRecDepth 100000 in
set_option maxHeartbeats 2000000 in
theorem sH (zs : List (Option Addr × Nat × Nat)) (z : Nat -> Option Addr × Nat × Nat) (ao : Option Addr) (cap : Nat) (t : Value) (f : FuncId) (first captured : Array Value) (c : Nat -> Int) (w : World) (n : Nat)
 (hc : CellsAt w ao ((List.range n).map fun i => (Value.slice (z (i)).1 (z (i)).2.1 (z (i)).2.2))) (hcmp : aDc Tryz.prog f first captured w ((List.range n).map fun i => (Value.slice (z (i)).1 (z (i)).2.1 (z (i)).2.2)) t c) (hm : n ≤ 4611686018427387904) :
 Calls Tryz.prog 191 #[.slice ao n cap, t, .func (Fn.func f) first captured] w
  (RetF (fun _ => False) w fun w' v => ∃ i : Nat, i ≤ n /\ (i = 0 \/ c (i - 1) < 0) /\ (i = n \/ 0 ≤ c i) /\ v = .tuple #[.int .i64 i, .bool (decide (i < n /\ c i = 0))]) := by
 have hent := hcmp.1
 have HC := qH hcmp.2; clear hcmp
 have cell : ∀ W : World, Ext w W -> ∀ i, i < n -> ∃ b off, ao = some ⟨b, off, none⟩ /\ W.cell? ⟨b, off + i, none⟩ = some ((Value.slice (z (i)).1 (z (i)).2.1 (z (i)).2.2)) := fun W hW i hi => by
  have := hc.ext hW
  exact this i _ (by simp [hi])
 have HCELL := qH cell; clear cell
 go_enter Tryz.func191, Tryz.ntmps191
 go_wp2
 go_loopw [9, 10] (aKv n c w) (fun i j _ => (intOf j).toNat - (intOf i).toNat)
 case atStart => exact ⟨0, n, Nat.zero_le _, Nat.le_refl _, rfl, rfl, .inl rfl, .inl rfl, Kp.refl _⟩
 case round =>
  obtain ⟨i, j, hij, hj, rfl, rfl, hlo, hhi, hkp⟩ := hrel
  have HL := qH (And.intro hlo hhi); clear hlo hhi
  by_cases hlt : i < j
  ·obtain ⟨h, eh⟩ : ∃ h, h = (i + j) / 2 := ⟨_, rfl⟩
   have rh : ((i : Int) + j) / 2 = (h : Int) := by omega
   have hhn : h < n := by omega
   have h1 : i ≤ h := by omega
   have h2 : h < j := by omega
   clear eh
   obtain ⟨b, off, rfl, c1⟩ := HCELL.out _ hkp h hhn
   have hcall := fun W hW => HC.out W hW h ((Value.slice (z (h)).1 (z (h)).2.1 (z (h)).2.2)) (by simp [hhn])
   have HCall := qH hcall; clear hcall
   generalize hcc : c h = cc at HCall
   have HCC := qH hcc; clear hcc
   by_cases hneg : cc < 0
   ·go_wp2_with fail
    refine (HCall.out _ hkp).mono ?_
    rintro e w1 ⟨rfl, hk2⟩
    have hkp2 := hkp.ext hk2
    clear hk2 c1
    go_wp2
    go_roundw
    case rel => exact ⟨h + 1, j, by omega, hj, by first | rfl | (congr 1; done) | (congr 1; omega), rfl, .inr (by rw [Nat.add_sub_cancel, HCC.out]; omega), HL.out.2, hkp2⟩
    case measure => simp [intOf]; omega
   ·go_wp2_with fail
    refine (HCall.out _ hkp).mono ?_
    rintro e w1 ⟨rfl, hk2⟩
    have hkp2 := hkp.ext hk2
    clear hk2 c1
    go_wp2
    go_roundw
    case rel => exact ⟨i, h, by omega, by omega, rfl, by first | rfl | (congr 1; done) | (congr 1; omega), HL.out.1, .inr (by rw [HCC.out]; omega), hkp2⟩
    case measure => simp [intOf]; omega
  ·obtain rfl : i = j := by omega
   by_cases hin : i < n
   ·obtain ⟨b, off, rfl, c1⟩ := HCELL.out _ hkp i hin
    have hcall := fun W hW => HC.out W hW i ((Value.slice (z (i)).1 (z (i)).2.1 (z (i)).2.2)) (by simp [hin])
    have HCall := qH hcall; clear hcall
    generalize hcc : c i = cc at HCall
    have HCC := qH hcc; clear hcc
    have key : decide (i < n /\ c i = 0) = (cc == 0) := by rw [HCC.out]; simp [hin]; rfl
    have HK := qH key; clear key
    generalize hbb : (cc == 0) = bb at HK
    go_wp2_with fail
    refine (HCall.out _ hkp).mono ?_
    rintro e w1 ⟨rfl, hk2⟩
    have hkp2 := hkp.ext hk2
    clear hk2 c1
    go_wp2
    go_ret2
    exact RetF.mk hkp2 ⟨i, by omega, HL.out.1, HL.out.2, aDk HK.out⟩
   ·have key : decide (i < n /\ c i = 0) = false := by simp; omega
    have HK := qH key; clear key
    go_wp2
    go_ret2
    exact RetF.mk hkp ⟨i, by omega, HL.out.1, HL.out.2, aDk HK.out⟩
end Go.Proofs.YtinnmeiphbdogaaGreat
/- slices.CompactFunc at []string. -/
namespace Go.Proofs.YtinnmeiphbdogaaGreat
open Go.RowKit
set_option maxRecDepth 100000 in
set_option maxHeartbeats 4000000 in
theorem nW (z : Nat -> Option Addr × Nat × Nat) (C : List Nat) (g n cap N : Nat) (rest : List Value) (f : FuncId) (first captured : Array Value) (q : Nat -> Nat -> Bool) (w : World)
 (hcmp : aFj Tryz.prog f first captured g N w (aJ z) q) (hn : n = C.length) (hC : ∀ i ∈ C, i < N) (hm : n ≤ 4611686018427387904) (hB : Blk w g (C.map (aJ z) ++ rest) 34) (hlen : (C.map (aJ z) ++ rest).length = cap) (hcm : cap ≤ maxLen) :
 Calls Tryz.prog 196 #[.slice (some ⟨g, 0, none⟩) n cap, .func (Fn.func f) first captured] w
  (RetF (fun k => k = g) w fun w' v => ∃ rest', v = .slice (some ⟨g, 0, none⟩) (bW q C n).length cap /\ Blk w' g ((bW q C n).map (aJ z) ++ rest') 34 /\ ((bW q C n).map (aJ z) ++ rest').length = cap) := by
 have hent := hcmp.1
 have HC := qH hcmp.2; clear hcmp
 have HN := qH (And.intro hn (And.intro hC hlen)); clear hn hC
 have hcap : n ≤ cap := by have := HN.out.1; simp at hlen; omega
 clear hlen
 have cell : ∀ W : World, Blk W g (C.map (aJ z) ++ rest) 34 -> ∀ i, i < n -> W.cell? ⟨g, i, none⟩ = some (aJ z (C.getD i 0)) := fun W h i hi => h.at i (by have := HN.out.1; omega)
 have HB := qH hB; clear hB
 by_cases hlt2 : n < 2
 ·go_enter Tryz.func196, Tryz.ntmps196
  go_wp2
  go_ret
  have e : bW q C n = C := by
   rw [lV (by have := HN.out.1; omega) (fun j h1 h2 => by omega), List.take_of_length_le (by have := HN.out.1; omega)]
  refine RetF.mk (Kp.refl _) ⟨rest, ?_, by rw [e]; exact HB.out, by rw [e]; exact HN.out.2.2⟩
  rw [e, <- HN.out.1]; rfl
 ·go_enter Tryz.func196, Tryz.ntmps196
  go_wp2
  go_loopw [5] (aKt n q C (fun k => False) w) (fun k _ => n - (intOf k).toNat)
  case atStart => exact ⟨1, Nat.le_refl _, by omega, rfl, fun j h1 h2 => by omega, Kp.refl _⟩
  case round =>
   obtain ⟨k, hk1, hkn, rfl, hq, hkp⟩ := hrel
   have HQ := qH hq; clear hq
   have hext : Kp (fun i => i = g) w wr := Ext.kp hkp
   by_cases hkl : k < n
   ·have HBw : Blk wr g (C.map (aJ z) ++ rest) 34 := HB.out.ext hkp
    obtain ⟨p, rfl⟩ : ∃ p, k = p + 1 := ⟨k - 1, by omega⟩
    have c1 := cell wr HBw (p + 1) hkl
    have c2 := cell wr HBw p (by omega)
    have HBW := qH HBw; clear HBw
    have hx : C.getD (p + 1) 0 < N := HN.out.2.1 _ (iC (by have := HN.out.1; omega))
    have hy : C.getD p 0 < N := HN.out.2.1 _ (iC (by have := HN.out.1; omega))
    have hcall := fun W hW => HC.out W hW _ _ hx hy
    have HCall := qH hcall; clear hcall
    obtain ⟨x, ex⟩ : ∃ x, x = C.getD (p + 1) 0 := ⟨_, rfl⟩
    obtain ⟨y, ey⟩ : ∃ y, y = C.getD p 0 := ⟨_, rfl⟩
    rw [<- ex, <- ey] at HCall
    rw [<- ex] at c1
    rw [<- ey] at c2
    have HE := qH (And.intro ex ey); clear ex ey hx hy
    unfold aJ at c1 c2
    obtain ⟨i1, i2, i3, i4, i5, i6, i7⟩ := nO (k := p) (n := n) (by omega) hm
    cases hqk : q x y
    ·rw [hqk] at HCall
     have HK := qH hqk; clear hqk
     go_wp2
     go_still_tail 10, (by kernel_rfl)
     go_wp2_with fail
     refine (HCall.out _ hext.drew).mono ?_
     rintro e w1 ⟨rfl, hk2⟩
     have hkp2 : Ext w w1 := hkp.drew.ext hk2
     clear hk2 c1 c2
     go_wp2
     go_roundw
     case rel =>
      refine ⟨p + 2, by omega, by omega, by first | rfl | (congr 1; done) | (congr 1; omega), fun j h1 h2 => ?_, hkp2⟩
      by_cases e : j = p + 1
      ·subst e
       rw [<- HE.out.1, Nat.add_sub_cancel, <- HE.out.2]; exact HK.out
      ·exact HQ.out j h1 (by omega)
     case measure => simp [intOf]; omega
    ·rw [hqk] at HCall
     have HK := qH hqk; clear hqk
     have start : Blk wr g ((bW q C (p + 1 + 1)).map (aJ z) ++ (C.map (aJ z) ++ rest).drop (p + 1)) 34 /\ (bW q C (p + 1 + 1)).length = p + 1 := by
      have hn := HN.out.1
      have e : bW q C (p + 1 + 1) = C.take (p + 1) := by
       rw [vS (by omega) (by rw [<- HE.out.1, Nat.add_sub_cancel, <- HE.out.2]; exact HK.out), lV (by omega) HQ.out]
      rw [e]
      refine ⟨HBW.out.congrL ?_, by simp; omega⟩
      rw [List.drop_append_of_le_length (by simp; omega), <- List.append_assoc, <- List.map_drop, <- List.map_append, List.take_append_drop]
     have HS := qH start; clear start
     have hpc : (p : Int) + 1 ≤ (cap : Int) := by omega
     have hpn : (p : Int) + 1 ≤ (n : Int) := by omega
     go_wp2
     go_still_tail 10, (by kernel_rfl)
     go_wp2_with fail
     refine (HCall.out _ hext.drew).mono ?_
     rintro e w1 ⟨rfl, hk2⟩
     have hkp2 : Ext w w1 := hkp.drew.ext hk2
     have HS1 : Blk w1 g ((bW q C (p + 1 + 1)).map (aJ z) ++ (C.map (aJ z) ++ rest).drop (p + 1)) 34 := HS.out.1.drew.ext hk2
     have HS2 := qH (And.intro HS1 HS.out.2); clear HS1
     clear hk2 c1 c2
     obtain ⟨m, em⟩ : ∃ m, n - (p + 1) = m := ⟨_, rfl⟩
     have hcapk : ¬ cap = p + 1 := by omega
     go_wp2
     go_loopw [5, 7] (aKs n (p + 1) q C w g (aJ z) rest 34) (fun k j _ => n - (intOf j).toNat)
     case atStart => exact ⟨p + 1, 1, Nat.le_refl _, hkl, by go_num, rfl, Nat.le_refl _, by omega, HS2.out.2, Ext.kp hkp2, HS2.out.1⟩
     case round =>
      obtain ⟨k, j, hj1, hjn, rfl, rfl, hk0, hkj, hkl2, hkp3, hb3⟩ := hrel
      have f1 := hb3.free k
      have HB3 := qH (And.intro hkl2 hb3); clear hkl2
      by_cases hjm : j < m
      ·obtain ⟨t, rfl⟩ : ∃ t, j = t + 1 := ⟨j - 1, by omega⟩
       have hCl := HN.out.1
       have c1 : wr.cell? ⟨g, p + 1 + (t + 1), none⟩ = some (aJ z (C.getD (p + 1 + (t + 1)) 0)) := by
        rw [hb3.cell']; exact rA HB3.out.1 (by omega) (by omega)
       have c2 : wr.cell? ⟨g, p + 1 + t, none⟩ = some (aJ z (C.getD (p + 1 + t) 0)) := by
        rw [hb3.cell']; exact rA HB3.out.1 (by omega) (by omega)
       have hx : C.getD (p + 1 + (t + 1)) 0 < N := HN.out.2.1 _ (iC (by omega))
       have hy : C.getD (p + 1 + t) 0 < N := HN.out.2.1 _ (iC (by omega))
       clear hCl hb3
       have hcall := fun W hW => HC.out W hW _ _ hx hy
       have HCall := qH hcall; clear hcall
       obtain ⟨x, ex⟩ : ∃ x, x = C.getD (p + 1 + (t + 1)) 0 := ⟨_, rfl⟩
       obtain ⟨y, ey⟩ : ∃ y, y = C.getD (p + 1 + t) 0 := ⟨_, rfl⟩
       rw [<- ex, <- ey] at HCall
       rw [<- ex] at c1
       rw [<- ey] at c2
       have HE := qH (And.intro ex ey); clear ex ey hx hy
       unfold aJ at c1 c2
       obtain ⟨i1, i2, i3, i4, i5, i6, i7⟩ := nO (k := t) (n := m) (by omega) (by omega)
       have hkn2 : k < n := by omega
       cases hqk : q x y
       ·rw [hqk] at HCall
        have HK := qH hqk; clear hqk
        go_wp2
        go_still_tail 10, (by kernel_rfl)
        go_wp2_with fail
        refine (HCall.out _ hkp3.drew).mono ?_
        rintro e w2 ⟨rfl, hk2⟩
        have hkp4 : Kp (fun i => i = g) w w2 := hkp3.drew.ext hk2
        have d1 := hk2.cell c1 id
        have HB4 : Blk w2 g ((bW q C (p + 1 + (t + 1))).map (aJ z) ++ (C.map (aJ z) ++ rest).drop k) 34 := HB3.out.2.drew.ext hk2
        have f2 := HB4.free k
        have d2 : ∃ u, w2.cell? ⟨g, k, none⟩ = some u := ⟨_, HB4.cell k (by have h2 := HN.out.2.2; have h1 := HN.out.1; have h3 := HB3.out.1; simp at h2 ⊢; omega)⟩
        obtain ⟨u, d2⟩ := d2
        have HB5 := qH HB4; clear HB4
        clear hk2 c1 c2 f1
        go_wp2
        go_roundw
        case rel =>
         have e : bW q C (p + 1 + (t + 2)) = bW q C (p + 1 + (t + 1)) ++ [x] := by
          have := yK (q := q) (C := C) (k := p + 1 + (t + 1)) (by rw [<- HE.out.1, show p + 1 + (t + 1) - 1 = p + 1 + t by omega, <- HE.out.2]; exact HK.out)
          rw [HE.out.1, <- this]; rfl
         refine ⟨k + 1, t + 2, by omega, by omega, by first | rfl | (congr 1; done) | (congr 1; omega), by first | rfl | (congr 1; done) | (congr 1; omega), by omega, by omega, by rw [e, List.length_append, HB3.out.1]; rfl, ?_, ?_⟩
         ·exact hkp4.setCell (fun _ => rfl) _
         ·rw [e]; exact (HB5.out.set k _).congrL (aCv HB3.out.1 (by have := HN.out.1; omega))
        case measure => simp [intOf]; omega
       ·rw [hqk] at HCall
        have HK := qH hqk; clear hqk
        go_wp2
        go_still_tail 10, (by kernel_rfl)
        go_wp2_with fail
        refine (HCall.out _ hkp3.drew).mono ?_
        rintro e w2 ⟨rfl, hk2⟩
        have hkp4 : Kp (fun i => i = g) w w2 := hkp3.drew.ext hk2
        have HB4 : Blk w2 g ((bW q C (p + 1 + (t + 1))).map (aJ z) ++ (C.map (aJ z) ++ rest).drop k) 34 := HB3.out.2.drew.ext hk2
        have HB5 := qH HB4; clear HB4
        clear hk2 c1 c2 f1
        go_wp2
        go_roundw
        case rel =>
         have e : bW q C (p + 1 + (t + 2)) = bW q C (p + 1 + (t + 1)) := by
          have := vS (q := q) (C := C) (k := p + 1 + (t + 1)) (by omega) (by rw [<- HE.out.1, show p + 1 + (t + 1) - 1 = p + 1 + t by omega, <- HE.out.2]; exact HK.out)
          rw [<- this]; rfl
         exact ⟨k, t + 2, by omega, by omega, rfl, by first | rfl | (congr 1; done) | (congr 1; omega), hk0, by omega, by rw [e]; exact HB3.out.1, hkp4, by rw [e]; exact HB5.out⟩
        case measure => simp [intOf]; omega
      ·have hjn' : p + 1 + j = n := by omega
       rw [hjn'] at HB3
       obtain ⟨w3, hrun, hk3, hb4⟩ := aDn gF rfl (fun w => by kernel_rfl) HB3.out.2 (off := k) (n := n - k) (c := cap - k) (sp := some ⟨g, k, none⟩) (fun _ => rfl) (by have := HB3.out.1; have h2 := HN.out.2.2; have h1 := HN.out.1; simp at h2 ⊢; omega)
       have HB4 := qH hb4; clear hb4 hb3
       have HK3 := qH hk3; clear hk3
       have hkc : ¬ cap = k := by omega
       have hkc2 : (k : Int) ≤ (cap : Int) := by omega
       have hkn2 : (k : Int) ≤ (n : Int) := by omega
       have hjj : j = m := by omega
       clear hjn'
       go_wp2
       go_ret
       have h2 := HN.out.2.2; have h1 := HN.out.1
       have hk := HB3.out.1
       refine RetF.mk (hkp3.trans HK3.out) ⟨List.replicate (n - k) (.slice none 0 0) ++ ((C.map (aJ z) ++ rest).drop k).drop (n - k), ?_, ?_, ?_⟩
       ·rw [hk]; rfl
       ·refine HB4.out.congrL ?_
        unfold splice
        rw [List.take_append_of_le_length (by simp; omega), List.take_of_length_le (by simp; omega), List.drop_append, List.drop_of_length_le (by simp; omega), List.length_map, hk, List.length_replicate, List.nil_append, Nat.add_sub_cancel_left]
       ·simp at h2 ⊢; omega
   ·go_wp2
    go_ret
    have e : bW q C n = C := by
     rw [lV (by have := HN.out.1; omega) (fun j h1 h2 => HQ.out j h1 (by omega)), List.take_of_length_le (by have := HN.out.1; omega)]
    refine RetF.mk hext ⟨rest, ?_, by rw [e]; exact HB.out.ext hkp, by rw [e]; exact HN.out.2.2⟩
    rw [e, <- HN.out.1]; rfl
end Go.Proofs.YtinnmeiphbdogaaGreat
/- slices.Clone, EqualFunc, Grow, Concat at []string. -/
namespace Go.Proofs.YtinnmeiphbdogaaGreat
open Go.RowKit
theorem iP (vs : List Value) (ao : Option Addr) (cap : Nat) (w : World) (n : Nat) (hn : n = vs.length) (hc : CellsAt w ao vs) (h1 : ∀ u ∈ vs, u.oneCell' = true) (hm : n * 24 ≤ 140737488355328) :
 Calls Tryz.prog 165 #[.slice ao n cap] w (RetN w fun w' v => Row w' 34 1 v n vs (New w)) := by
 have hq : ∀ w : World, (binOp .eql 69 (.slice ao n cap) (.slice none 0 0)).run Tryz.prog w = .ok (.bool ao.isNone) w := fun w => Lib.run_eql_slice_nil w _ _ _ _ _ _ _ Tryz.underlying69
 have HNN := qH hn; clear hn
 have hl : n ≤ maxLen := by unfold maxLen; omega
 cases ao with
 | none =>
  have hv : vs = [] := by
   cases vs with
   | nil => rfl
   | cons x vs => obtain ⟨b, o, h, _⟩ := hc.off (by simp); cases h
  subst hv
  have h0 : n = 0 := HNN.out
  subst h0
  go_enter Tryz.func165, Tryz.ntmps165
  go_wp2
  go_ret
  exact RetN.mk (Kp.refl _) (Row.nil _ _ _ _)
 | some a =>
  go_enter Tryz.func165, Tryz.ntmps165
  go_wp2_with (first | (at_builtin; refine Halted.out ?_))
  refine Halted.mk (dC gF rfl _ _ rfl ((Kp.refl (F := fun _ => False) w).alloc _) rfl (Row.empty w 34 1 (New w) (Nat.le_refl _)) rfl (hc.alloc _) (by rw [HNN.out, Nat.mul_one]) h1 (by omega) (by omega) ?_)
  intro v1 w1 hr1 hk1 _ _
  have HR := qH hr1; clear hr1
  go_wp2
  go_ret
  exact RetN.mk hk1 (by simpa using HR.out)
theorem aCc (k : Nat) (w : World) (hm : k * 24 ≤ 140737488355328) :
 Calls Tryz.prog 197 #[.slice none 0 0, .int .i64 k] w (RetN w fun w' v => Row w' 34 1 v 0 [] (New w)) := by
 have hl : k ≤ maxLen := by unfold maxLen; omega
 by_cases h0 : k = 0
 ·subst h0
  go_enter Tryz.func197, Tryz.ntmps197
  go_wp2
  go_ret
  exact RetN.mk (Kp.refl _) (Row.nil _ _ _ _)
 ·obtain ⟨w', G, hrun, hG, hGm, hext, hsz, hB⟩ := oY (w := w) gF rfl Tryz.underlying3 (ao := none) (n := 0) (cap := 0) (olds := []) (CellsAt.nil _ _) rfl (k := k) (by omega) (by omega) (by omega) (by omega)
  simp only [Nat.zero_add, List.nil_append, Nat.sub_zero] at hrun hG hB
  have hG0 : ¬ G = 0 := by omega
  have HB := qH hB
  have HE := qH hext
  clear hB hext hsz
  unfold maxLen at hl hGm
  go_enter Tryz.func197, Tryz.ntmps197
  go_wp2_with (first | (at_builtin; refine Halted.out ?_))
  refine Halted.mk (xL rfl _ _ rfl rfl rfl hrun ?_)
  clear hrun
  go_wp2
  go_ret
  exact RetN.mk HE.out ⟨by simp, .inr ⟨_, G, List.replicate G (.slice none 0 0), rfl, Nat.le_refl _, HB.out.congrL (by simp), by simp, Nat.zero_le _, by unfold maxLen; omega⟩⟩
def mY (ps : List (Option Addr × Nat × List Value)) : List Value := ps.map fun p => .slice p.1 p.2.2.length p.2.1
def bN (ps : List (Option Addr × Nat × List Value)) : Nat := (ps.map fun p => p.2.2.length).sum
theorem oV (ps : List (Option Addr × Nat × List Value)) (p : Option Addr × Nat × List Value) : bN (ps ++ [p]) = bN ps + p.2.2.length := by simp [bN]
theorem oU (ps : List (Option Addr × Nat × List Value)) (i : Nat) : bN (ps.take i) ≤ bN ps := by
 have : bN ps = bN (ps.take i) + bN (ps.drop i) := by
  conv => lhs; rw [<- List.take_append_drop i ps]
  simp only [bN, List.map_append, List.sum_append]
 omega
def aFm (ps : List (Option Addr × Nat × List Value)) (iv sv : Value) : Prop := ∃ i : Nat, i ≤ ps.length /\ iv = .int .i64 i /\ sv = .int .i64 (bN (ps.take i))
def aFl (ps : List (Option Addr × Nat × List Value)) (w0 : World) (e : TypeId) (iv sv : Value) (w : World) : Prop :=
 ∃ i : Nat, i ≤ ps.length /\ iv = .int .i64 i /\ Ext w0 w /\ Row w e 1 sv (bN (ps.take i)) ((ps.take i).flatMap fun p => p.2.2) (New w0)
set_option maxRecDepth 100000 in
set_option maxHeartbeats 2000000 in
theorem xG (ps : List (Option Addr × Nat × List Value)) (oa : Option Addr) (oc : Nat) (w : World) (k : Nat) (hk : k = ps.length) (ho : CellsAt w oa (mY ps)) (hps : ∀ p ∈ ps, CellsAt w p.1 p.2.2 /\ ∀ u ∈ p.2.2, u.oneCell' = true)
 (hm : bN ps * 24 ≤ 140737488355328) (hk2 : k ≤ 4611686018427387904) :
 Calls Tryz.prog 173 #[.slice oa k oc] w (RetN w fun w' v => Row w' 34 1 v (bN ps) (ps.flatMap fun p => p.2.2) (New w)) := by
 have hbig : bN ps ≤ 4611686018427387904 := by omega
 have HK := qH hk; clear hk
 have HO := qH ho; clear ho
 have HP := qH hps; clear hps
 have tt := oU ps
 go_enter Tryz.func173, Tryz.ntmps173
 go_wp2
 go_loop [11, 3] (aFm ps) (fun i _ => k - (intOf i).toNat)
 case atStart => exact ⟨0, Nat.zero_le _, rfl, rfl⟩
 case round =>
  obtain ⟨i, hi, rfl, rfl⟩ := hrel
  by_cases hlt : i < k
  ·have hi' : i < ps.length := by have := HK.out; omega
   obtain ⟨b, off, rfl, c1⟩ := HO.out i (.slice ps[i].1 ps[i].2.2.length ps[i].2.1) (by simp [mY, hi'])
   have t1 := tt i
   have t2 := tt (i + 1)
   have e2 : bN (ps.take (i + 1)) = bN (ps.take i) + ps[i].2.2.length := by rw [List.take_succ_eq_append_getElem hi', oV]
   have E2 := qH e2; rw [e2] at t2; clear e2
   generalize hT : bN (ps.take i) = T at *
   generalize ps[i].2.2.length = m at *
   have HT := qH hT; clear hT tt
   have hT0 : ¬ ((T : Int) + m < 0) := by omega
   go_wp2
   go_round
   case rel => exact ⟨i + 1, by omega, by first | rfl | (congr 1; done) | (congr 1; omega), by rw [E2.out]; go_num⟩
   case measure => simp [intOf]; omega
  ·have hik : i = ps.length := by have := HK.out; omega
   subst hik
   rw [List.take_length] 
   clear tt
   go_wp2_with fail
   refine (aCc (bN ps) w hm).mono ?_
   rintro e w1 ⟨v, rfl, hk1, hr1⟩
   have tt := oU ps
   go_wp2
   go_loopw [27, 6] (aFl ps w 34) (fun i _ _ => ps.length - (intOf i).toNat)
   case atStart => exact ⟨0, Nat.zero_le _, rfl, hk1, by simpa [bN] using hr1⟩
   case round =>
    obtain ⟨i, hi2, rfl, hkp, hr⟩ := hrel
    by_cases hlt2 : i < ps.length
    ·have hlt3 : i < k := by have := HK.out; omega
     obtain ⟨b, off, rfl, c1⟩ := (HO.out.ext hkp) i (.slice ps[i].1 ps[i].2.2.length ps[i].2.1) (by simp [mY, hlt2])
     obtain ⟨hs, h1⟩ := HP.out ps[i] (List.getElem_mem hlt2)
     have hs' := hs.ext hkp
     have t2 := tt (i + 1)
     have e2 : bN (ps.take (i + 1)) = bN (ps.take i) + ps[i].2.2.length := by rw [List.take_succ_eq_append_getElem hlt2, oV]
     have E2 := qH e2; rw [e2] at t2; clear e2
     have e3 : (ps.take (i + 1)).flatMap (fun p => p.2.2) = (ps.take i).flatMap (fun p => p.2.2) ++ ps[i].2.2 := by rw [List.take_succ_eq_append_getElem hlt2, List.flatMap_append, List.flatMap_singleton]
     have E3 := qH e3; clear e3
     have H1 := qH h1
     clear h1 hs
     generalize hT : bN (ps.take i) = T at *
     have HT := qH hT; clear hT tt
     generalize (ps.take i).flatMap (fun p => p.2.2) = X at *
     generalize hY : ps[i].2.2 = Y at *
     have HY := qH hY; clear hY
     generalize ps[i].1 = ya at *
     generalize ps[i].2.1 = yc at *
     go_wp2_with (first | (at_builtin; refine Halted.out ?_))
     refine Halted.mk (dC gF rfl _ _ rfl hkp rfl hr rfl hs' (by rw [Nat.mul_one]) H1.out (by omega) (by unfold maxLen; omega) ?_)
     intro v2 w2 hr2 hk2' _ _
     have HR2 := qH hr2; clear hr2 hr hs' c1
     go_wp2
     go_roundw
     case rel => exact ⟨i + 1, by omega, by first | rfl | (congr 1; done) | (congr 1; omega), hk2', by rw [E2.out, E3.out]; exact HR2.out⟩
     case measure => simp [intOf]; omega
    ·have hik : i = ps.length := by omega
     have hlt3 : ¬ i < k := by have := HK.out; omega
     subst hik
     rw [List.take_length] at hr
     have HR := qH hr; clear hr
     go_wp2
     go_ret
     exact RetN.mk hkp HR.out
end Go.Proofs.YtinnmeiphbdogaaGreat
/- tuple.Set at []string: what a set is in memory; cmp, alike, Len, Items, find. -/
namespace Go.Proofs.YtinnmeiphbdogaaGreat
open Go.RowKit
def OrdVRow (P : Program) (S : Nat -> Prop) (w0 : World) (ov : Value) (D : Option Addr × Nat × Nat -> Prop) (c : Option Addr × Nat × Nat -> Option Addr × Nat × Nat -> Int) : Prop :=
 (ov = .nilFunc /\ ∀ x y, D x -> D y -> c x y = 0) \/ ∃ f first cap, ov = .func (Fn.func f) first cap /\ (∀ args w, (callFunc f args).run P w = .ok (Next.enter f args) w) /\
  ∀ w, Same S w0 w -> ∀ x y, D x -> D y -> Calls P f (first ++ (#[(Value.slice (x).1 (x).2.1 (x).2.2), (Value.slice (y).1 (y).2.1 (y).2.2)] ++ cap)) w fun e w' => e = .returned (.int .i64 (c x y)) /\ Ext w w'
theorem OrdVRow.same {P : Program} {S : Nat -> Prop} {w0 w1 : World} {ov : Value} {D : Option Addr × Nat × Nat -> Prop} {c : Option Addr × Nat × Nat -> Option Addr × Nat × Nat -> Int} (h : OrdVRow P S w0 ov D c) (hs : Same S w0 w1) : OrdVRow P S w1 ov D c := by
 rcases h with h | ⟨f, first, cap, e, he, h⟩
 ·exact .inl h
 ·exact .inr ⟨f, first, cap, e, he, fun w hw => h w (hs.trans hw)⟩
structure SetAtRow (P : Program) (S : Nat -> Prop) (w : World) (b : Nat) (ov iv : Value) (tail : List Value) (te : TypeId) (D : Option Addr × Nat × Nat -> Prop) (c : Option Addr × Nat × Nat -> Option Addr × Nat × Nat -> Int) (zs : List (Option Addr × Nat × Nat)) : Prop where
 blk : Blk w b (ov :: iv :: tail) te
 row : Row w 34 1 iv zs.length (zs.map fun x => (Value.slice (x).1 (x).2.1 (x).2.2)) (fun k => iv.ownBlock = some k)
 apart : iv.ownBlock ≠ some b
 inS : ∀ k, S k -> k < w.heap.size
 notS : ∀ k, dS b iv k -> ¬ S k
 ord : OrdVRow P S w ov D c
 all : ∀ x ∈ zs, D x
 len : zs.length ≤ 1048576 * 1048576
section
variable {P : Program} {S : Nat -> Prop} {w w' : World} {b : Nat} {ov iv : Value} {tail : List Value} {te : TypeId} {D : Option Addr × Nat × Nat -> Prop} {c : Option Addr × Nat × Nat -> Option Addr × Nat × Nat -> Int} {zs : List (Option Addr × Nat × Nat)}
theorem SetAtRow.kp {F : Nat -> Prop} (h : SetAtRow P S w b ov iv tail te D c zs) (hk : Kp F w w') (hF : ∀ k, F k -> ¬ dS b iv k) (hS : ∀ k, F k -> ¬ S k) : SetAtRow P S w' b ov iv tail te D c zs :=
 ⟨h.blk.kp hk fun hf => hF _ hf (.inl rfl), h.row.kp hk fun g hg hf => hF _ hf (.inr hg), h.apart, fun k hk' => Nat.lt_of_lt_of_le (h.inS k hk') hk.size, h.notS, h.ord.same (hk.same h.inS fun k hk' hf => hS k hf hk'), h.all, h.len⟩
theorem SetAtRow.ext (h : SetAtRow P S w b ov iv tail te D c zs) (hk : Ext w w') : SetAtRow P S w' b ov iv tail te D c zs := h.kp hk (fun _ x => x.elim) (fun _ x => x.elim)
theorem SetAtRow.cells (h : SetAtRow P S w b ov iv tail te D c zs) : w.cell? ⟨b, 0, none⟩ = some ov /\ w.cell? ⟨b, 1, none⟩ = some iv := ⟨by rw [h.blk.cell']; rfl, by rw [h.blk.cell']; rfl⟩
end
set_option maxRecDepth 100000 in
theorem kJ (S : Nat -> Prop) (w : World) (b : Nat) (ov : Value) (cs : List Value) (te : TypeId) (D : Option Addr × Nat × Nat -> Prop) (c : Option Addr × Nat × Nat -> Option Addr × Nat × Nat -> Int) (x y : Option Addr × Nat × Nat) (hx : D x) (hy : D y) (hB : Blk w b (ov :: cs) te)
 (hS : ∀ k, S k -> k < w.heap.size) (ho : OrdVRow Tryz.prog S w ov D c) :
 Calls Tryz.prog 192 #[.pointer (some ⟨b, 0, none⟩), (Value.slice (x).1 (x).2.1 (x).2.2), (Value.slice (y).1 (y).2.1 (y).2.2)] w (fun e w' => e = .returned (.int .i64 (c x y)) /\ Ext w w') := by
 have c1 : w.cell? ⟨b, 0, none⟩ = some ov := by rw [hB.cell']; rfl
 clear hB
 rcases ho with ⟨rfl, h0⟩ | ⟨f, first, cap, rfl, hent, hc⟩
 ·have h00 := qH (h0 x y hx hy); clear h0
  have hq : ∀ w : World, (binOp .eql 131 .nilFunc .nilFunc).run Tryz.prog w = .ok (.bool true) w := fun _ => by kernel_rfl
  go_enter Tryz.func192, Tryz.ntmps192
  go_wp2
  go_ret
  exact ⟨by rw [h00.out]; rfl, Kp.refl _⟩
 ·have HC := qH hc; clear hc
  have hq : ∀ w : World, (binOp .eql 131 (.func (Fn.func f) first cap) .nilFunc).run Tryz.prog w = .ok (.bool false) w := fun _ => by kernel_rfl
  go_enter Tryz.func192, Tryz.ntmps192
  go_wp2_with fail
  refine (HC.out w (Same.refl hS) x y hx hy).mono ?_
  rintro e w1 ⟨rfl, hk⟩
  have HK := qH hk; clear hk
  go_wp2
  go_ret
  exact ⟨rfl, HK.out⟩
set_option maxRecDepth 100000 in
theorem tZ (S : Nat -> Prop) (w : World) (b : Nat) (ov : Value) (cs : List Value) (te : TypeId) (D : Option Addr × Nat × Nat -> Prop) (c : Option Addr × Nat × Nat -> Option Addr × Nat × Nat -> Int) (x y : Option Addr × Nat × Nat) (hx : D x) (hy : D y) (hB : Blk w b (ov :: cs) te)
 (hS : ∀ k, S k -> k < w.heap.size) (ho : OrdVRow Tryz.prog S w ov D c) :
 Calls Tryz.prog 169 #[.pointer (some ⟨b, 0, none⟩), (Value.slice (x).1 (x).2.1 (x).2.2), (Value.slice (y).1 (y).2.1 (y).2.2)] w (fun e w' => e = .returned (.bool (decide (c x y = 0))) /\ Ext w w') := by
 go_enter Tryz.func169, Tryz.ntmps169
 go_wp2_with fail
 refine (kJ S w b ov cs te D c x y hx hy hB hS ho).mono ?_
 rintro e w1 ⟨rfl, hk⟩
 have HK := qH hk; clear hk hB ho
 go_wp2
 go_ret
 exact ⟨rfl, HK.out⟩
set_option maxRecDepth 100000 in
theorem oW {S : Nat -> Prop} {w : World} {b : Nat} {ov iv : Value} {tail : List Value} {te : TypeId} {D : Option Addr × Nat × Nat -> Prop} {c : Option Addr × Nat × Nat -> Option Addr × Nat × Nat -> Int} {zs : List (Option Addr × Nat × Nat)} (h : SetAtRow Tryz.prog S w b ov iv tail te D c zs) :
 Calls Tryz.prog 141 #[.pointer (some ⟨b, 0, none⟩)] w (Ret (.int .i64 (zs.length : Nat)) w) := by
 obtain ⟨c1, c2⟩ := h.cells
 obtain ⟨ao, cap, rfl, _, _⟩ := h.row.shape
 clear h
 go_enter Tryz.func141, Tryz.ntmps141
 go_wp2
 go_ret
 exact Ret.mk rfl
theorem wV (w : World) : Calls Tryz.prog 141 #[.pointer none] w (Ret (.int .i64 0) w) := by
 go_enter Tryz.func141, Tryz.ntmps141
 go_wp2
 go_ret
 exact Ret.mk rfl
set_option maxRecDepth 100000 in
theorem tY {S : Nat -> Prop} {w : World} {b : Nat} {ov iv : Value} {tail : List Value} {te : TypeId} {D : Option Addr × Nat × Nat -> Prop} {c : Option Addr × Nat × Nat -> Option Addr × Nat × Nat -> Int} {zs : List (Option Addr × Nat × Nat)} (h : SetAtRow Tryz.prog S w b ov iv tail te D c zs) :
 Calls Tryz.prog 138 #[.pointer (some ⟨b, 0, none⟩)] w (RetN w fun w' v => Row w' 34 1 v zs.length (zs.map fun x => (Value.slice (x).1 (x).2.1 (x).2.2)) (New w)) := by
 obtain ⟨c1, c2⟩ := h.cells
 obtain ⟨ao, cap, rfl, hc, _⟩ := h.row.shape
 have hl := h.len
 have HC := qH hc; clear h hc
 go_enter Tryz.func138, Tryz.ntmps138
 go_wp2_with fail
 refine (iP (zs.map fun x => (Value.slice (x).1 (x).2.1 (x).2.2)) ao cap w zs.length (by simp) HC.out (by intro u hu; obtain ⟨x, _, rfl⟩ := List.mem_map.1 hu; rfl) (by omega)).mono ?_
 rintro e w1 ⟨v, rfl, hk, hr⟩
 have HR := qH (And.intro hk hr); clear hk hr
 go_wp2
 go_ret
 exact RetN.mk HR.out.1 HR.out.2
theorem tX (w : World) : Calls Tryz.prog 138 #[.pointer none] w (Ret (.slice none 0 0) w) := by
 go_enter Tryz.func138, Tryz.ntmps138
 go_wp2
 go_ret
 exact Ret.mk rfl
set_option maxRecDepth 100000 in
set_option maxHeartbeats 1000000 in
theorem mQ {S : Nat -> Prop} {w : World} {b : Nat} {ov iv : Value} {tail : List Value} {te : TypeId} {D : Option Addr × Nat × Nat -> Prop} {c : Option Addr × Nat × Nat -> Option Addr × Nat × Nat -> Int} {zs : List (Option Addr × Nat × Nat)} (O : OrdLaw c) (x : Option Addr × Nat × Nat) (hx : D x) (hs : Strict c zs) (h : SetAtRow Tryz.prog S w b ov iv tail te D c zs) :
 Calls Tryz.prog 162 #[.pointer (some ⟨b, 0, none⟩), (Value.slice (x).1 (x).2.1 (x).2.2)] w
  (RetF (fun _ => False) w fun w' v => v = .tuple #[.int .i64 (below c zs x : Nat), .bool (bC c zs x)]) := by
 obtain ⟨c1, c2⟩ := h.cells
 obtain ⟨ao, cap, eiv, hc, _⟩ := h.row.shape
 subst eiv
 have hl := h.len
 obtain ⟨n, en⟩ : ∃ n, n = zs.length := ⟨_, rfl⟩
 have get : ∀ i (hi : i < n), zs.getD i x = zs[i]'(by omega) := fun i hi => by simp [List.getD, show i < zs.length by omega]
 have evals : (List.range n).map (fun i => (Value.slice (zs.getD i x).1 (zs.getD i x).2.1 (zs.getD i x).2.2)) = zs.map fun x => (Value.slice (x).1 (x).2.1 (x).2.2) := by
  refine List.ext_getElem (by simp [en]) fun i h1 h2 => ?_
  simp only [List.getElem_map, List.getElem_range]
  rw [get i (by simpa using h1)]
 have hent : ∀ args w, (callFunc 192 args).run Tryz.prog w = .ok (.enter 192 args) w := enters_of Tryz.func192 (by kernel_rfl) rfl
 have hcmp : aDc Tryz.prog 192 #[.pointer (some ⟨b, 0, none⟩)] #[] w ((List.range n).map fun i => (Value.slice (zs.getD i x).1 (zs.getD i x).2.1 (zs.getD i x).2.2)) ((Value.slice (x).1 (x).2.1 (x).2.2)) (fun i => c (zs.getD i x) x) := by
  refine ⟨hent, fun w' hw i v hv => ?_⟩
  have hi : i < n := by simpa using (List.getElem?_eq_some_iff.1 hv).1
  have ev : v = (Value.slice (zs.getD i x).1 (zs.getD i x).2.1 (zs.getD i x).2.2) := by simp [hi] at hv; rw [<- hv, List.getD_eq_getElem?_getD]
  subst ev
  have h' := h.ext hw
  exact kJ S w' b ov _ te D c (zs.getD i x) x (by rw [get i hi]; exact h.all _ (List.getElem_mem _)) hx h'.blk h'.inS h'.ord
 have hbin := sH zs (fun i => zs.getD i x) ao cap ((Value.slice (x).1 (x).2.1 (x).2.2)) 192 #[.pointer (some ⟨b, 0, none⟩)] #[] (fun i => c (zs.getD i x) x) w n (by rw [evals]; exact hc) hcmp (by omega)
 rw [en] at hbin
 have HB := qH hbin
 have HH := qH (And.intro en get)
 clear hbin hcmp hc evals hent h get
 go_enter Tryz.func162, Tryz.ntmps162
 go_wp2_with fail
 refine HB.out.mono ?_
 rintro e w1 ⟨v, rfl, hk, i, hi, h1, h2, rfl⟩
 have ei : i = below c zs x := by
  refine hs.place O hi (fun y hp hy => ?_) (fun y hy => ?_)
  ·have e := (List.getElem?_eq_some_iff.1 hy).2
   rcases h1 with h1 | h1
   ·omega
   ·rw [HH.out.2 _ (by rw [HH.out.1]; omega), e] at h1; exact h1
  ·obtain ⟨hl', e⟩ := List.getElem?_eq_some_iff.1 hy
   rcases h2 with h2 | h2
   ·omega
   ·rw [HH.out.2 _ (by rw [HH.out.1]; omega), e] at h2; exact h2
 have eb : decide (i < zs.length /\ c (zs.getD i x) x = 0) = bC c zs x := by
  rw [Bool.eq_iff_iff, decide_eq_true_iff, hs.there O x, <- ei]
  constructor
  ·rintro ⟨a1, a2⟩
   exact ⟨zs[i], qG a1, by rw [HH.out.2 _ (by rw [HH.out.1]; omega)] at a2; exact a2⟩
  ·rintro ⟨y, hy, hz⟩
   obtain ⟨hl', e⟩ := List.getElem?_eq_some_iff.1 hy
   exact ⟨hl', by rw [HH.out.2 _ (by rw [HH.out.1]; omega), e]; exact hz⟩
 rw [eb, ei]
 have HK := qH hk
 clear hk h1 h2 eb ei hi
 go_wp2
 go_ret2
 exact RetF.mk HK.out (aDk rfl)
end Go.Proofs.YtinnmeiphbdogaaGreat
/- tuple.NewSet at []string. -/
namespace Go.Proofs.YtinnmeiphbdogaaGreat
open Go.RowKit
theorem wP (fv : Value) (w : World) : Calls Tryz.prog 196 #[.slice none 0 0, fv] w (Ret (.slice none 0 0) w) := by
 go_enter Tryz.func196, Tryz.ntmps196
 go_wp2
 go_ret
 exact Ret.mk rfl
theorem mR {P : Program} {S : Nat -> Prop} {w : World} {b : Nat} {ov iv0 iv : Value} {tail : List Value} {te : TypeId} {D : Option Addr × Nat × Nat -> Prop} {c : Option Addr × Nat × Nat -> Option Addr × Nat × Nat -> Int} {zs : List (Option Addr × Nat × Nat)} {M : Nat -> Prop}
 (hB : Blk w b (ov :: iv0 :: tail) te) (hr : Row w 34 1 iv zs.length (zs.map fun x => (Value.slice (x).1 (x).2.1 (x).2.2)) M) (hap : iv.ownBlock ≠ some b) (hS : ∀ k, S k -> k < w.heap.size) (hn : ∀ k, dS b iv k -> ¬ S k)
 (ho : OrdVRow P S w ov D c) (hD : ∀ x ∈ zs, D x) (hl : zs.length ≤ 1048576 * 1048576) : SetAtRow P S (w.setCell ⟨b, 1, none⟩ iv) b ov iv tail te D c zs := by
 have hk : Kp (fun k => k = b) w (w.setCell ⟨b, 1, none⟩ iv) := Kp.setCell (F := fun k => k = b) (Kp.refl w) (fun _ => rfl) iv
 exact ⟨hB.set 1 iv, hr.own.kp hk fun g hg e => hap (by rw [hg, e]), hap, fun k h => Nat.lt_of_lt_of_le (hS k h) hk.size, hn, ho.same (hk.same hS fun k h e => hn k (.inl e) h), hD, hl⟩
theorem aK3 {P : Program} {S : Nat -> Prop} {w w1 : World} {ov : Value} {D : Option Addr × Nat × Nat -> Prop} {c : Option Addr × Nat × Nat -> Option Addr × Nat × Nat -> Int} {g : Nat} {cs : List Value} {e : TypeId} (ho : OrdVRow P S w ov D c) (hk : Ext w w1) (hS : ∀ k, S k -> k < w.heap.size) (hB : Blk w1 g cs e) (iv : Value) (te : TypeId) :
 ∃ w2, w1.alloc (.cells #[ov, iv] te) = w2 /\ Ext w w2 /\ Blk w2 w1.heap.size [ov, iv] te /\ Blk w2 g cs e /\ OrdVRow P S w2 ov D c /\ ∀ k, S k -> k < w2.heap.size :=
 ⟨_, rfl, hk.alloc _, Blk.new w1 [ov, iv] te, hB.alloc _, ho.same ((hk.alloc _).same hS fun _ _ => id), fun k h => Nat.lt_of_lt_of_le (hS k h) (hk.alloc _).size⟩
set_option maxRecDepth 100000 in
set_option maxHeartbeats 2000000 in
theorem xB (S : Nat -> Prop) (w : World) (ov : Value) (ao : Option Addr) (n cap : Nat) (D : Option Addr × Nat × Nat -> Prop) (c : Option Addr × Nat × Nat -> Option Addr × Nat × Nat -> Int) (O : OrdLaw c) (zs : List (Option Addr × Nat × Nat)) (hn : n = zs.length) (hc : CellsAt w ao (zs.map fun x => (Value.slice (x).1 (x).2.1 (x).2.2)))
 (hS : ∀ k, S k -> k < w.heap.size) (ho : OrdVRow Tryz.prog S w ov D c) (hD : ∀ x ∈ zs, D x) (hl : n ≤ 1048576 * 1048576) :
 Calls Tryz.prog 172 #[ov, .slice ao n cap] w
  (RetN w fun w' v => ∃ b iv, v = .pointer (some ⟨b, 0, none⟩) /\ w.heap.size ≤ b /\ (∀ k, iv.ownBlock = some k -> w.heap.size ≤ k) /\ SetAtRow Tryz.prog S w' b ov iv [] 133 D c (cG c zs)) := by
 have hform : ov = .nilFunc \/ ∃ f first cap, ov = .func f first cap := by
  rcases ho with ⟨h, _⟩ | ⟨f, first, cap, h, _⟩
  ·exact .inl h
  ·exact .inr ⟨_, _, _, h⟩
 have HO := qH ho; clear ho
 have HN := qH (And.intro hn hD); clear hn hD
 have HC := qH hc; clear hc
 rcases hform with rfl | ⟨f1, first1, cap2, rfl⟩
 all_goals
  go_enter Tryz.func172, Tryz.ntmps172
  go_wp2_with fail
  refine (iP (zs.map fun x => (Value.slice (x).1 (x).2.1 (x).2.2)) ao cap w n (by rw [HN.out.1, List.length_map]) HC.out (by intro u hu; obtain ⟨x, _, rfl⟩ := List.mem_map.1 hu; rfl) (by omega)).mono ?_
  rintro e w1 ⟨v, rfl, hk, hr⟩
  have HK := qH hk; clear hk
  obtain ⟨h1, ⟨rfl, h0⟩ | ⟨g, cap1, rest, rfl, hg, hB, hlen, hnc, hcm⟩⟩ := hr
  ·have HZ := qH h0; clear h0 h1
   go_wp2_with fail
   refine (pZ none 0 _ _).mono ?_
   rintro e w' ⟨rfl, rfl⟩
   go_wp2_with fail
   refine (wP _ _).mono ?_
   rintro e w' ⟨rfl, rfl⟩
   go_wp2
   go_ret
   have hz : zs = [] := List.eq_nil_of_length_eq_zero (by rw [<- HN.out.1]; exact HZ.out)
   subst hz
   have hk1 := HK.out
   refine RetN.mk (hk1.alloc _) ⟨w1.heap.size, .slice none 0 0, rfl, hk1.size, (fun k hk => by cases hk), ?_⟩
   refine ⟨Blk.new w1 [_, _] _, Row.nil _ _ _ _, (fun h => by cases h), (fun k h => Nat.lt_of_lt_of_le (hS k h) (hk1.alloc _).size), (fun k h hs => ?_), HO.out.same ((hk1.alloc _).same hS fun _ _ => id), by simp [cG], by simp [cG]⟩
   have := hS k hs; have := hk1.size
   rcases h with h | h
   ·omega
   ·cases h
  ·have HB := qH hB; clear hB
   have HG := qH hg; clear hg
   have hLN := qH hlen; clear hlen
   obtain ⟨b, eb⟩ : ∃ b, b = w1.heap.size := ⟨_, rfl⟩
   have hgb : g < b := by rw [eb]; exact HB.out.lt
   have hentc : ∀ args w, (callFunc 192 args).run Tryz.prog w = .ok (.enter 192 args) w := enters_of Tryz.func192 (by kernel_rfl) rfl
   have henta : ∀ args w, (callFunc 169 args).run Tryz.prog w = .ok (.enter 169 args) w := enters_of Tryz.func169 (by kernel_rfl) rfl
   have HE := qH (And.intro hentc henta); clear hentc henta
   have get : ∀ i, i < n -> ∃ h : i < zs.length, zs.getD i default = zs[i] := fun i hi => ⟨by rw [<- HN.out.1]; exact hi, by simp [List.getD, show i < zs.length by rw [<- HN.out.1]; exact hi]⟩
   have inD : ∀ i, i < n -> D (zs.getD i default) := fun i hi => by obtain ⟨h, e⟩ := get i hi; rw [e]; exact HN.out.2 _ (List.getElem_mem _)
   have evals : zs.map (fun x => (Value.slice (x).1 (x).2.1 (x).2.2)) = (List.range n).map (aJ fun i => zs.getD i default) := by
    refine List.ext_getElem (by simp [HN.out.1]) fun i h1 h2 => ?_
    simp only [List.getElem_map, List.getElem_range]
    obtain ⟨h, e⟩ := get i (by simpa using h2)
    show (Value.slice (zs[i]).1 (zs[i]).2.1 (zs[i]).2.2) = (Value.slice (zs.getD i default).1 (zs.getD i default).2.1 (zs.getD i default).2.2)
    rw [e]
   have ezs : (List.range n).map (fun i => zs.getD i default) = zs := by
    refine List.ext_getElem (by simp [HN.out.1]) fun i h1 h2 => ?_
    simp only [List.getElem_map, List.getElem_range]
    exact (get i (by simpa using h1)).2
   have HV := qH (And.intro evals ezs)
   have HI := qH inD
   clear evals ezs inD get
   have OL := (O.idx fun i : Nat => zs.getD i default)
   go_wp2_with fail
   obtain ⟨w2, hw2, hk2, hB2, hG2, ho2, hS2⟩ := aK3 HO.out HK.out hS HB.out (.slice (some ⟨g, 0, none⟩) n cap1) 133
   rw [<- eb] at hB2
   rw [HV.out.1] at hG2
   have hsz : w.heap.size ≤ b := by rw [eb]; exact HK.out.size
   rw [<- eb, hw2]
   clear hw2 eb
   have hSg : ∀ k, S k -> ¬ k = g := fun k h e => by have := hS k h; have := HG.out; simp only [New] at this; omega
   have hSb : ∀ k, S k -> ¬ k = b := fun k h e => by have := hS k h; omega
   have hcmp : rI Tryz.prog 192 #[.pointer (some ⟨b, 0, none⟩)] #[] g n w2 (aJ fun i => zs.getD i default) (fun i j => c (zs.getD i default) (zs.getD j default)) :=
    ⟨HE.out.1, fun w' hw i j hi hj => kJ S w' b _ _ _ D c _ _ (HI.out i hi) (HI.out j hj) (hB2.kp hw (by omega)) (fun k h => Nat.lt_of_lt_of_le (hS2 k h) hw.size) (ho2.same (hw.same hS2 hSg))⟩
   refine (qA (fun i => zs.getD i default) g n cap1 rest 192 #[.pointer (some ⟨b, 0, none⟩)] #[] (fun i j => c (zs.getD i default) (zs.getD j default)) OL.nat w2 hcmp (by omega) hG2).mono ?_
   clear hcmp
   rintro e w3 ⟨v, rfl, hk3, rfl, C, hp, hs, hG3⟩
   have hB3 := hB2.kp hk3 (by omega)
   have ho3 := ho2.same (hk3.same hS2 hSg)
   have hS3 : ∀ k, S k -> k < w3.heap.size := fun k h => Nat.lt_of_lt_of_le (hS2 k h) hk3.size
   have hCl : C.length = n := by simpa using hp.length_eq
   have c1 : w3.cell? ⟨b, 1, none⟩ = some (.slice (some ⟨g, 0, none⟩) n cap1) := by rw [hB3.cell']; rfl
   have hlike : aFj Tryz.prog 169 #[.pointer (some ⟨b, 0, none⟩)] #[] g n w3 (aJ fun i => zs.getD i default) (fun i j => decide (c (zs.getD i default) (zs.getD j default) = 0)) :=
    ⟨HE.out.2, fun w' hw i j hi hj => tZ S w' b _ _ _ D c _ _ (HI.out i hi) (HI.out j hj) (hB3.kp hw (by omega)) (fun k h => Nat.lt_of_lt_of_le (hS3 k h) hw.size) (ho3.same (hw.same hS3 hSg))⟩
   have hcomp := nW (fun i => zs.getD i default) C g n cap1 n rest 169 #[.pointer (some ⟨b, 0, none⟩)] #[] _ w3 hlike hCl.symm (fun i hi => List.mem_range.1 (hp.subset hi)) (by omega) hG3 (by have := hLN.out; simp only [List.length_append, List.length_map, hCl] at this ⊢; rw [<- HN.out.1] at this; omega) hcm
   have hkeep := aJt OL hp hs
   rw [hkeep] at hcomp
   have HCOMP := qH hcomp
   have HCM := qH hcm
   have HP := qH (And.intro hk2 (And.intro hk3 (And.intro hB3 (And.intro ho3 hS3))))
   clear hlike hcomp hkeep hk2 hk3 hB3 ho3 hS3 hp hs hG3 hB2 hG2 ho2 hS2 hcm
   go_wp2_with fail
   refine HCOMP.out.mono ?_
   rintro e w4 ⟨v, rfl, hk4, rest', rfl, hG4, hl4⟩
   obtain ⟨hk2, hk3, hB3, ho3, hS3⟩ := HP.out
   have hB4 := hB3.kp hk4 (by omega)
   have ho4 := ho3.same (hk4.same hS3 hSg)
   have hS4 : ∀ k, S k -> k < w4.heap.size := fun k h => Nat.lt_of_lt_of_le (hS3 k h) hk4.size
   have d0 : w4.cell? ⟨b, 1, none⟩ = some (.slice (some ⟨g, 0, none⟩) n cap1) := by rw [hB4.cell']; rfl
   have f0 := hB4.free 1
   have hkk : Kp (fun k => k = g) w w4 := (hk2.kp.trans hk3).trans hk4
   have HQ := qH (And.intro hB4 (And.intro ho4 (And.intro hS4 (And.intro hG4 (And.intro hl4 hkk)))))
   clear hk2 hk3 hB3 ho3 hS3 hk4 hG4 hl4 hB4 ho4 hS4 hkk c1
   go_wp2
   go_ret
   obtain ⟨hB4, ho4, hS4, hG4, hl4, hkk⟩ := HQ.out
   have eN : (cG (fun i j => c (zs.getD i default) (zs.getD j default)) (List.range n)).map (fun i => zs.getD i default) = cG c zs := by rw [<- aBw, HV.out.2]
   have eL : (cG (fun i j => c (zs.getD i default) (zs.getD j default)) (List.range n)).length = (cG c zs).length := by rw [<- eN, List.length_map]
   have eV : (cG (fun i j => c (zs.getD i default) (zs.getD j default)) (List.range n)).map (aJ fun i => zs.getD i default) = (cG c zs).map fun x => (Value.slice (x).1 (x).2.1 (x).2.2) := by
    rw [<- eN, List.map_map]; rfl
   rw [eV] at hG4 hl4
   have hgw : w.heap.size ≤ g := HG.out
   have hex : Ext w w4 := hkk.mono fun k hk e => by omega
   refine RetN.mk (hex.setCell (fun h => absurd hsz (Nat.not_le.2 h)) _) ⟨b, .slice (some ⟨g, 0, none⟩) (cG (fun i j => c (zs.getD i default) (zs.getD j default)) (List.range n)).length cap1, rfl, hsz, (fun k hk => by have e : g = k := Option.some.inj hk; omega), ?_⟩
   have hlen := mZ (c := c) zs
   refine mR hB4 (M := fun _ => True) ⟨by simp, .inr ⟨g, cap1, rest', congrArg (fun t => Value.slice (some ⟨g, 0, none⟩) t cap1) eL, trivial, hG4, by rw [hl4, Nat.mul_one], by rw [<- hl4]; simp, HCM.out⟩⟩ (fun h => by have e : g = b := Option.some.inj h; omega) hS4 (fun k h hs => ?_) ho4 (fun x hx => HN.out.2 x (qN hx)) (by rw [<- HN.out.1] at hlen; omega)
   rcases h with h | h
   ·exact hSb k hs h
   ·have e : g = k := Option.some.inj h
    exact hSg _ hs e.symm
end Go.Proofs.YtinnmeiphbdogaaGreat
/- slices.Insert of one element at []string. -/
namespace Go.Proofs.YtinnmeiphbdogaaGreat
open Go.RowKit
set_option maxRecDepth 100000 in
set_option maxHeartbeats 4000000 in
theorem xC (xs : List Value) (iv : Value) (M : Nat -> Prop) (n i : Nat) (x : Value) (vb : Nat) (ve : TypeId) (w : World) (hn : n = xs.length) (hr : Row w 34 1 iv n xs M) (hi : i ≤ n) (hx : x.oneCell' = true) (hxs : ∀ u ∈ xs, u.oneCell' = true)
 (hv : Blk w vb [x] ve) (hne : iv.ownBlock ≠ some vb) (hb : (n + 1) * 24 ≤ 140737488355328) :
 Calls Tryz.prog 163 #[iv, .int .i64 i, .slice (some ⟨vb, 0, none⟩) 1 1] w
  (RetF (fun g => iv.ownBlock = some g) w fun w' v => Row w' 34 1 v (n + 1) (xs.take i ++ x :: xs.drop i) (fun g => iv.ownBlock = some g \/ w.heap.size ≤ g)) := by
 have hsrc : CellsAt w (some ⟨vb, 0, none⟩) [x] := CellsAt.pre (rest := []) hv
 have hl : n + 1 ≤ 9223372036854775807 := by omega
 obtain ⟨ao, cap, rfl, hcells, hcap⟩ := hr.shape
 by_cases hin : i = n
 ·subst hin
  have HNN := qH hn; clear hn
  have hrM : Row w 34 1 (.slice ao i cap) i xs (fun g => (Value.slice ao i cap).ownBlock = some g \/ w.heap.size ≤ g) := hr.own.mono fun g h => .inl h
  clear hr
  by_cases hci : cap = i
  all_goals
   first | (subst hci) | skip
   go_enter Tryz.func163, Tryz.ntmps163
   go_wp2_with (first | (at_builtin; refine Halted.out ?_))
   refine Halted.mk (aDe gF rfl _ _ rfl (Kp.refl (F := fun g => (Value.slice ao _ _).ownBlock = some g) w) (M := fun g => (Value.slice ao _ _).ownBlock = some g \/ w.heap.size ≤ g) (fun g h h' => by rcases h with h | h; exact h; omega) (fun g h => .inr h) rfl hrM rfl rfl hsrc (by simpa using hx) hb (by unfold maxLen; omega) ?_)
   intro v1 w1 hr1 hk1 _ _
   have HR := qH hr1; clear hr1 hcells hrM
   go_wp2
   go_ret
   refine RetF.mk hk1 ?_
   have := HNN.out
   rw [List.take_of_length_le (by omega), List.drop_of_length_le (by omega)]
   exact HR.out
 ·have hlt : i < n := by omega
  obtain ⟨h1, ⟨h2, h3⟩ | ⟨g, cap', rest, h2, hM, hB, hlen, hnc, hcm⟩⟩ := hr
  ·omega
  cases h2
  have hgv : g ≠ vb := fun e => hne (by simp [Value.ownBlock, e])
  have hfree := hv.free
  have hov : ∀ (W : World), Blk W vb [x] ve -> (∀ cs, Blk w g cs 34 -> True) -> ∀ off lb cb (kB : Nat) (eB : TypeId), W.shape? g = some (eB, kB) -> kB ≠ 0 ->
   (callFunc 193 #[.slice (some ⟨vb, 0, none⟩) 1 1, .slice (some ⟨g, off, none⟩) lb cb]).run Tryz.prog W = .ok (.value (.bool false)) W := fun W hW _ off lb cb kB eB hs hk => by
   rw [run_callFunc_extern Tryz.func193 (by kernel_rfl) (by kernel_rfl) (by kernel_rfl) (e := Extern.SlicesOverlaps.overlaps #[69, 69] #[4]) (by kernel_rfl),
    Lib.run_overlaps_apart W 69 4 34 Tryz.underlying69 1 (fun w => by kernel_rfl) ⟨vb, 0, none⟩ ⟨g, off, none⟩ 1 1 lb cb (fun e => hgv e.symm) ve eB 1 kB hW.shape hs hk (hW.free 0) (hW.free 1)]
   rfl
  by_cases hroom : n + 1 ≤ cap
  ·have hrest : ∃ y rest', rest = y :: rest' := by
    cases rest with
    | nil => simp at hlen h1; omega
    | cons y r => exact ⟨y, r, rfl⟩
   obtain ⟨y, rest', rfl⟩ := hrest
   have hov1 := fun off lb cb => hov w hv (fun _ _ => trivial) off lb cb _ _ hB.shape (by simp)
   have ncap : ¬ cap = i + 1 := by omega
   have ncap2 : ¬ cap = i := by omega
   have hi1 : ((i : Int) + 1).toNat = i + 1 := by omega
   have hw1 : IntKind.i64.wrap ((i : Int) + 1) = (i : Int) + 1 := IntWalk.i64_in _ (by omega)
   have hp1 : (0 : Int) ≤ (i : Int) + 1 := by omega
   have hp2 : (i : Int) ≤ (n : Int) + 1 := by omega
   have HNN := qH hn; clear hn
   have HB := qH hB; clear hB
   have HS := qH hsrc; clear hsrc
   have HV := qH hv; clear hv hov hfree
   have HXS := qH hxs; clear hxs
   have HC := qH hcells; clear hcells
   have HLN := qH (And.intro h1 hlen); clear h1 hlen
   have hcm' := hcm
   clear hM hcm hne
   unfold maxLen at hcm'
   go_enter Tryz.func163, Tryz.ntmps163
   go_wp2_with (simp only [hov1])
   go_still_tail 8, (by kernel_rfl)
   refine aAv gF rfl _ _ rfl (w := w.drew) (HB.out.drew) (g := g) (off := i + 1) rfl rfl (cs := xs.drop i) (by have := HNN.out; simp [Nat.min_def]; first | omega | (split <;> omega)) (fun _ => rfl) (fun j u hu => ⟨g, i, rfl, by
    have hb := HB.out
    rw [hb.drew.cell']
    rw [List.getElem?_drop] at hu
    rw [List.getElem?_append_left (List.getElem?_eq_some_iff.1 hu).1]; exact hu⟩) (by have := HNN.out; simp; omega) (fun u hu => HXS.out u (List.mem_of_mem_drop hu)) ?_
   intro w2 hk2 hB2
   have hsv := (HS.out.drewN 1).kp hk2 (fun a ha e => by cases ha; exact hgv e.symm)
   obtain ⟨w3, hrun3, hk3, hB3⟩ := oK gF (w := w2) hB2 (g := g) (off := i) (dp := some ⟨g, i, none⟩) (dLen := n + 1 - i) (dCap := cap - i) (sp := some ⟨vb, 0, none⟩) (sLen := 1) (sCap := 1) (cs := [x]) (by simp [Nat.min_def]; omega) (fun _ => rfl) hsv (by have := HNN.out; simp [splice]; omega) (by simpa using hx)
   have HK2 := qH hk2; have HK3 := qH hk3; have HB3 := qH hB3
   clear hk2 hk3 hB3 hB2 hsv hw1 hi1 hp1
   go_wp2
   go_ret
   have hk23 : Kp (fun k => k = g) w w3 := (((Kp.refl w).drew).trans (HK2.out)).trans HK3.out
   refine RetF.mk (hk23.mono fun k _ e => by rw [e]; rfl) ⟨?_, .inr ⟨g, cap, rest', rfl, .inl rfl, ?_, ?_, hroom, by unfold maxLen; omega⟩⟩
   ·have := HNN.out; simp; omega
   ·have := aDm xs rest' x y i (by have := HNN.out; omega)
    rw [<- this]; exact HB3.out
   ·have := HLN.out.2; have := HNN.out; simp at *; omega
  ·have hcap' : n = cap := by omega
   subst hcap'
   have hk0 : 0 < n + 1 - i := by omega
   obtain ⟨w1, G, hrun1, hG, hGm, hext1, hsz1, hB1⟩ := oY (w := w) gF rfl Tryz.underlying3 (ao := some ⟨g, 0, none⟩) (n := i) (cap := n) (olds := xs.take i) (fun j u hu => by
    rw [List.getElem?_take] at hu
    split at hu
    ·exact hcells j u hu
    ·cases hu) (by simp; omega) (k := n + 1 - i) hk0 (by omega) (by rw [show i + (n + 1 - i) = n + 1 by omega]; exact hb) (by unfold maxLen; omega)
   rw [show i + (n + 1 - i) = n + 1 by omega] at hrun1 hG
   have rk : (n : Int) + 1 - i = ((n + 1 - i : Nat) : Int) := by omega
   rw [<- rk] at hrun1
   clear rk
   have hv1 := hsrc.ext hext1
   have hgh : g < w.heap.size := hB.lt
   obtain ⟨w2, hrun2, hk2, hB2⟩ := oK gF (w := w1) hB1 (off := i) (dp := some ⟨w.heap.size, i, none⟩) (dLen := n + 1 - i) (dCap := G - i) (sp := some ⟨vb, 0, none⟩) (sLen := 1) (sCap := 1) (cs := [x]) (by simp [Nat.min_def]; omega) (fun _ => rfl) hv1 (by simp; omega) (by simpa using hx)
   have hB' : Blk w2 g (xs ++ rest) 34 := (hB.ext hext1).kp hk2 (by omega)
   have HB' := qH hB'; have HB2 := qH hB2; have HK2 := qH hk2; have HE1 := qH hext1
   have HNN := qH hn
   have HXS := qH hxs
   have HLN := qH (And.intro h1 hlen)
   have ncG : ¬ G = i := by omega
   have ncG1 : ¬ G = i + 1 := by omega
   have nci : ¬ n = i := by omega
   have hi1 : ((i : Int) + 1).toNat = i + 1 := by omega
   have hw1 : IntKind.i64.wrap ((i : Int) + 1) = (i : Int) + 1 := IntWalk.i64_in _ (by omega)
   have hp1 : (0 : Int) ≤ (i : Int) + 1 := by omega
   have hp2 : (i : Int) ≤ (n : Int) + 1 := by omega
   have hp3 : (i : Int) ≤ (n : Int) := by omega
   clear hB hB' hB2 hk2 hext1 hn hxs h1 hlen hv1 hB1 hM hcm hne hv hov hfree hsrc hcells
   unfold maxLen at hGm
   go_enter Tryz.func163, Tryz.ntmps163
   go_wp2_with (first | (at_builtin; refine Halted.out ?_))
   refine Halted.mk (xL rfl _ _ rfl rfl rfl hrun1 ?_)
   clear hrun1
   go_wp2
   go_still_tail 8, (by kernel_rfl)
   refine aAv gF rfl _ _ rfl (w := w2.drew) (HB2.out.drew) (g := w.heap.size) (off := i + 1) rfl rfl (cs := xs.drop i) (by have := HNN.out; first | (simp; omega) | (simp [Nat.min_def]; first | omega | (split <;> omega))) (fun _ => rfl) (fun j u hu => ⟨g, i, rfl, by
    have hb := HB'.out
    rw [hb.drew.cell']
    rw [List.getElem?_drop] at hu
    rw [List.getElem?_append_left (List.getElem?_eq_some_iff.1 hu).1]; exact hu⟩) (by have := HNN.out; simp [splice]; omega) (fun u hu => HXS.out u (List.mem_of_mem_drop hu)) ?_
   intro w3 hk3 hB3
   have HK3 := qH hk3; have HB3 := qH hB3
   clear hk3 hB3 hw1 hi1 hp1 hp2 hp3
   go_wp2
   go_ret
   have hext2 : Ext w w2 := HE1.out.trans' HK2.out (fun k hk e => by omega)
   have hext3 : Ext w w3 := (hext2.drew).trans' HK3.out (fun k hk e => by omega)
   refine RetF.mk hext3.kp ⟨?_, .inr ⟨w.heap.size, G, List.replicate (G - (n + 1)) (.slice none 0 0), rfl, .inr (Nat.le_refl _), ?_, ?_, hG, by unfold maxLen; omega⟩⟩
   ·have := HNN.out; simp; omega
   ·have h := aA8 xs x (.slice none 0 0) i G (by have := HNN.out; omega) (by have := HNN.out; omega)
    have := HB3.out
    rw [h] at this
    exact this.congrL (by rw [HNN.out])
   ·have := HNN.out; simp; omega
end Go.Proofs.YtinnmeiphbdogaaGreat
/- slices.Delete of one element at []string. -/
namespace Go.Proofs.YtinnmeiphbdogaaGreat
open Go.RowKit
end Go.Proofs.YtinnmeiphbdogaaGreat
/- tuple.Set at []string: Has, Below, At, Add, Drop, Copy. -/
namespace Go.Proofs.YtinnmeiphbdogaaGreat
open Go.RowKit
section
variable {S : Nat -> Prop} {w : World} {b : Nat} {ov iv : Value} {tail : List Value} {te : TypeId} {D : Option Addr × Nat × Nat -> Prop} {c : Option Addr × Nat × Nat -> Option Addr × Nat × Nat -> Int} {zs : List (Option Addr × Nat × Nat)}
set_option maxRecDepth 100000 in
theorem oX (O : OrdLaw c) (x : Option Addr × Nat × Nat) (hx : D x) (hs : Strict c zs) (h : SetAtRow Tryz.prog S w b ov iv tail te D c zs) :
 Calls Tryz.prog 127 #[.pointer (some ⟨b, 0, none⟩), (Value.slice (x).1 (x).2.1 (x).2.2)] w (RetF (fun _ => False) w fun w' v => v = .bool (bC c zs x)) := by
 have HF := qH (mQ O x hx hs h); clear h
 go_enter Tryz.func127, Tryz.ntmps127
 go_wp2_with fail
 refine HF.out.mono ?_
 rintro e w1 ⟨v, rfl, hk, rfl⟩
 have HK := qH hk; clear hk
 go_wp2
 go_ret
 exact RetF.mk HK.out rfl
set_option maxRecDepth 100000 in
set_option maxHeartbeats 1000000 in
theorem wX (O : OrdLaw c) (x : Option Addr × Nat × Nat) (hx : D x) (hs : Strict c zs) (h : SetAtRow Tryz.prog S w b ov iv tail te D c zs) (hl : zs.length + 1 ≤ 1048576 * 1048576) :
 Calls Tryz.prog 128 #[.pointer (some ⟨b, 0, none⟩), (Value.slice (x).1 (x).2.1 (x).2.2)] w
  (RetF (dS b iv) w fun w' v => v = .bool (!bC c zs x) /\ ∃ iv', SetAtRow Tryz.prog S w' b ov iv' tail te D c (bJ c zs x) /\ ∀ k, iv'.ownBlock = some k -> iv.ownBlock = some k \/ w.heap.size ≤ k) := by
 have HF := qH (mQ O x hx hs h)
 have HH := qH h; clear h
 go_enter Tryz.func128, Tryz.ntmps128
 go_wp2_with fail
 refine HF.out.mono ?_
 rintro e w1 ⟨v, rfl, hk, rfl⟩
 have h1 := HH.out.ext hk
 have HK := qH hk; clear hk
 cases hin : bC c zs x
 ·obtain ⟨c1, c2⟩ := h1.cells
  have H1 := qH h1; clear h1
  go_wp2_with fail
  have hb := below_le (c := c) zs x
  have hbw : b < w1.heap.size := H1.out.blk.lt
  refine (xC (zs.map fun x => (Value.slice (x).1 (x).2.1 (x).2.2)) iv _ zs.length (below c zs x) ((Value.slice (x).1 (x).2.1 (x).2.2)) w1.heap.size 34 _ (by simp) (H1.out.row.alloc _) hb rfl (by intro u hu; obtain ⟨y, _, rfl⟩ := List.mem_map.1 hu; rfl) (Blk.new w1 [(Value.slice (x).1 (x).2.1 (x).2.2)] 34) (fun e => by
   have := H1.out.row
   obtain ⟨q1, ⟨q2, _⟩ | ⟨g, cap, rest, q2, _, q3, _⟩⟩ := this
   ·rw [q2] at e; cases e
   ·rw [q2] at e; have e' : g = w1.heap.size := Option.some.inj e
    have := q3.lt; omega) (by omega)).mono ?_
  rintro e w2 ⟨iv', rfl, hk2, hr⟩
  obtain ⟨ao', cap', eiv, _, _⟩ := hr.shape
  subst eiv
  have hk02 := ((Kp.refl (F := fun k => iv.ownBlock = some k) w1).alloc (.cells #[(Value.slice (x).1 (x).2.1 (x).2.2)] 34)).trans hk2
  have hB2 := H1.out.blk.kp hk02 H1.out.apart
  have f1 := hB2.free 1
  have d1 : w2.cell? ⟨b, 1, none⟩ = some iv := by rw [hB2.cell']; rfl
  have HR := qH (And.intro hk02 (And.intro hB2 hr))
  clear hk02 hB2 hr hk2 c1 c2
  go_wp2
  go_ret
  obtain ⟨hk02, hB2, hr⟩ := HR.out
  have h1 := H1.out
  have hz : bJ c zs x = zs.take (below c zs x) ++ x :: zs.drop (below c zs x) := by unfold bJ; rw [hin]; rfl
  have hlz : (bJ c zs x).length = zs.length + 1 := by rw [oE, hin]; rfl
  have hown : ∀ k, (Value.slice ao' (zs.length + 1) cap').ownBlock = some k -> iv.ownBlock = some k \/ w.heap.size ≤ k := fun k hk => by
   rcases hr.block k hk with hh | hh
   ·exact .inl hh
   ·have := HK.out.size; simp only [aN] at hh; exact .inr (by omega)
  have hownb : (Value.slice ao' (zs.length + 1) cap').ownBlock ≠ some b := fun hk => by
   rcases hr.block b hk with hh | hh
   ·exact h1.apart hh
   ·simp only [aN] at hh; omega
  have hK : Kp (dS b iv) w w2 := ((Ext.kp HK.out).trans (hk02.mono fun k _ hk => .inr hk))
  refine RetF.mk (hK.setCell (fun _ => .inl rfl) _) ⟨by rw [hin]; rfl, .slice ao' (zs.length + 1) cap', ?_, hown⟩
  refine mR hB2 (M := fun _ => True) ?_ hownb (fun k hk => Nat.lt_of_lt_of_le (h1.inS k hk) hk02.size) (fun k hk hS => ?_) (h1.ord.same (hk02.same h1.inS fun k hk hk' => h1.notS k (.inr hk') hk)) (fun y hy => ?_) (by rw [hlz]; exact hl)
  ·rw [hlz, hz]
   have := hr.mono (M' := fun _ => True) fun _ _ => trivial
   simpa using this
  ·rcases hk with hk | hk
   ·exact h1.notS k (.inl hk) hS
   ·rcases hr.block k hk with hh | hh
    ·exact h1.notS k (.inr hh) hS
    ·have := h1.inS k hS; simp only [aN] at hh; omega
  ·rcases dT.1 hy with hy | ⟨rfl, _⟩
   ·exact h1.all y hy
   ·exact hx
 ·have H1 := qH h1; clear h1
  go_wp2
  go_ret
  have hz : bJ c zs x = zs := by unfold bJ; rw [hin]; rfl
  refine RetF.mk (Ext.kp HK.out) ⟨by rw [hin]; rfl, iv, ?_, fun k hk => .inl hk⟩
  rw [hz]; exact H1.out
end
end Go.Proofs.YtinnmeiphbdogaaGreat
/- tuple.Set at []string: Copy, At, under: what makes sets out of sets. -/
namespace Go.Proofs.YtinnmeiphbdogaaGreat
open Go.RowKit
def PtrSetRow (P : Program) (S : Nat -> Prop) (w : World) (v : Value) (zs : List (Option Addr × Nat × Nat)) : Prop :=
 (v = .pointer none /\ zs = []) \/ ∃ b ov iv tail te D c, v = .pointer (some ⟨b, 0, none⟩) /\ SetAtRow P S w b ov iv tail te D c zs
theorem PtrSetRow.ext {P : Program} {S : Nat -> Prop} {w w' : World} {v : Value} {zs : List (Option Addr × Nat × Nat)} (h : PtrSetRow P S w v zs) (hk : Ext w w') : PtrSetRow P S w' v zs := by
 rcases h with h | ⟨b, ov, iv, tail, te, D, c, h1, h2⟩
 ·exact .inl h
 ·exact .inr ⟨b, ov, iv, tail, te, D, c, h1, h2.ext hk⟩
theorem PtrSetRow.len {P : Program} {S : Nat -> Prop} {w : World} {v : Value} {zs : List (Option Addr × Nat × Nat)} (h : PtrSetRow P S w v zs) : zs.length ≤ 1048576 * 1048576 := by
 rcases h with ⟨_, rfl⟩ | ⟨b, ov, iv, tail, te, D, c, h1, h2⟩
 ·simp
 ·exact h2.len
theorem mD {S : Nat -> Prop} {w : World} {v : Value} {zs : List (Option Addr × Nat × Nat)} (h : PtrSetRow Tryz.prog S w v zs) :
 Calls Tryz.prog 138 #[v] w (RetN w fun w' r => Row w' 34 1 r zs.length (zs.map fun x => (Value.slice (x).1 (x).2.1 (x).2.2)) (New w)) := by
 rcases h with ⟨rfl, rfl⟩ | ⟨b, ov, iv, tail, te, D, c, rfl, h2⟩
 ·refine (tX w).mono ?_
  rintro e w' ⟨rfl, rfl⟩
  exact RetN.mk (Kp.refl _) (Row.nil _ _ _ _)
 ·exact tY h2
theorem OrdVRow.form {P : Program} {S : Nat -> Prop} {w0 : World} {ov : Value} {D : Option Addr × Nat × Nat -> Prop} {c : Option Addr × Nat × Nat -> Option Addr × Nat × Nat -> Int} (h : OrdVRow P S w0 ov D c) : ov = .nilFunc \/ ∃ f first cap, ov = .func f first cap := by
 rcases h with ⟨h, _⟩ | ⟨f, first, cap, h, _⟩
 ·exact .inl h
 ·exact .inr ⟨_, _, _, h⟩
theorem qC {P : Program} {S : Nat -> Prop} {w w1 : World} {ov iv : Value} {D : Option Addr × Nat × Nat -> Prop} {c : Option Addr × Nat × Nat -> Option Addr × Nat × Nat -> Int} {zs : List (Option Addr × Nat × Nat)} {M : Nat -> Prop} (ho : OrdVRow P S w ov D c) (hS : ∀ k, S k -> k < w.heap.size) (hex : Ext w w1)
 (hr : Row w1 34 1 iv zs.length (zs.map fun x => (Value.slice (x).1 (x).2.1 (x).2.2)) M) (hD : ∀ x ∈ zs, D x) (hl : zs.length ≤ 1048576 * 1048576) (te : TypeId) (hM : ∀ k, M k -> w.heap.size ≤ k := by exact fun k h => h) :
 SetAtRow P S (w1.alloc (.cells #[ov, iv] te)) w1.heap.size ov iv [] te D c zs := by
 refine ⟨Blk.new w1 [ov, iv] te, (hr.own).alloc _, fun h => by have := hr.lt _ h; omega, fun k h => Nat.lt_of_lt_of_le (hS k h) (hex.alloc _).size, fun k h hs => ?_, ho.same ((hex.alloc _).same hS fun _ _ => id), hD, hl⟩
 have h1 := hS k hs
 have h2 := hex.size
 rcases h with h | h
 ·omega
 ·have := hM k (hr.block k h); omega
section
variable {S : Nat -> Prop} {w : World} {b : Nat} {ov iv : Value} {tail : List Value} {te : TypeId} {D : Option Addr × Nat × Nat -> Prop} {c : Option Addr × Nat × Nat -> Option Addr × Nat × Nat -> Int} {zs : List (Option Addr × Nat × Nat)}
set_option maxRecDepth 100000 in
set_option maxHeartbeats 2000000 in
theorem uV (h : SetAtRow Tryz.prog S w b ov iv tail te D c zs) :
 Calls Tryz.prog 130 #[.pointer (some ⟨b, 0, none⟩)] w
  (RetN w fun w' v => ∃ b' iv', v = .pointer (some ⟨b', 0, none⟩) /\ w.heap.size ≤ b' /\ (∀ k, iv'.ownBlock = some k -> w.heap.size ≤ k) /\ SetAtRow Tryz.prog S w' b' ov iv' [] 133 D c zs) := by
 obtain ⟨c1, c2⟩ := h.cells
 obtain ⟨ao, cap, rfl, hc, _⟩ := h.row.shape
 have hform := h.ord.form
 have hl := h.len
 have HC := qH hc; clear hc
 have HH := qH h; clear h
 rcases hform with rfl | ⟨f1, first1, cap1, rfl⟩
 ·go_enter Tryz.func130, Tryz.ntmps130
  go_wp2
  go_region_held3 (fun w' => w'.cell? ⟨b, 0, none⟩ = some .nilFunc /\ w'.cell? ⟨b, 1, none⟩ = some (.slice ao zs.length cap)) (first | exact ⟨by assumption, by assumption⟩ | go_keep)
   (first | (go_at_call 165; refine (iP (zs.map fun x => (Value.slice (x).1 (x).2.1 (x).2.2)) ao cap _ zs.length (by simp) (HC.out.drewN 1) (by intro u hu; obtain ⟨x, _, rfl⟩ := List.mem_map.1 hu; rfl) (by omega)).mono ?_; rintro e w1 ⟨v, rfl, hk, hr⟩; obtain ⟨ao1, cap2, ev, _, _⟩ := hr.shape; subst ev; have d1 := hk.cell c1 id; have d2 := hk.cell c2 id))
  go_wp2
  go_ret
  have hex : Ext w w1 := (Kp.refl w).drew.trans hk
  exact RetN.mk (hex.alloc _) ⟨w1.heap.size, .slice ao1 zs.length cap2, rfl, hex.size, (fun k hk' => hr.block k hk'), qC HH.out.ord HH.out.inS hex hr HH.out.all hl _⟩
 ·go_enter Tryz.func130, Tryz.ntmps130
  go_wp2
  go_region_held3 (fun w' => w'.cell? ⟨b, 0, none⟩ = some (.func f1 first1 cap1) /\ w'.cell? ⟨b, 1, none⟩ = some (.slice ao zs.length cap)) (first | exact ⟨by assumption, by assumption⟩ | go_keep)
   (first | (go_at_call 165; refine (iP (zs.map fun x => (Value.slice (x).1 (x).2.1 (x).2.2)) ao cap _ zs.length (by simp) (HC.out.drewN 1) (by intro u hu; obtain ⟨x, _, rfl⟩ := List.mem_map.1 hu; rfl) (by omega)).mono ?_; rintro e w1 ⟨v, rfl, hk, hr⟩; obtain ⟨ao1, cap2, ev, _, _⟩ := hr.shape; subst ev; have d1 := hk.cell c1 id; have d2 := hk.cell c2 id))
  go_wp2
  go_ret
  have hex : Ext w w1 := (Kp.refl w).drew.trans hk
  exact RetN.mk (hex.alloc _) ⟨w1.heap.size, .slice ao1 zs.length cap2, rfl, hex.size, (fun k hk' => hr.block k hk'), qC HH.out.ord HH.out.inS hex hr HH.out.all hl _⟩
end
end Go.Proofs.YtinnmeiphbdogaaGreat
/- tuple.Set at []string: pick, Minus, Meet, Same. -/
namespace Go.Proofs.YtinnmeiphbdogaaGreat
open Go.RowKit
section
variable {S : Nat -> Prop} {w : World} {b : Nat} {ov iv : Value} {tail : List Value} {te : TypeId} {D : Option Addr × Nat × Nat -> Prop} {c : Option Addr × Nat × Nat -> Option Addr × Nat × Nat -> Int} {zs : List (Option Addr × Nat × Nat)}
end
end Go.Proofs.YtinnmeiphbdogaaGreat
/- tuple.Set at []string: Minus, Meet, Same, Union. -/
namespace Go.Proofs.YtinnmeiphbdogaaGreat
open Go.RowKit
section
variable {S : Nat -> Prop} {w : World} {b : Nat} {ov iv : Value} {tail : List Value} {te : TypeId} {D : Option Addr × Nat × Nat -> Prop} {c : Option Addr × Nat × Nat -> Option Addr × Nat × Nat -> Int} {zs : List (Option Addr × Nat × Nat)}
set_option maxRecDepth 100000 in
set_option maxHeartbeats 2000000 in
theorem tW (O : OrdLaw c) {vo : Value} {zs2 : List (Option Addr × Nat × Nat)} (h : SetAtRow Tryz.prog S w b ov iv tail te D c zs) (h2 : PtrSetRow Tryz.prog S w vo zs2) (hD : ∀ x ∈ zs2, D x) (hll : zs.length + zs2.length ≤ 1048576 * 1048576) :
 Calls Tryz.prog 140 #[.pointer (some ⟨b, 0, none⟩), vo] w
  (RetN w fun w' v => ∃ b' iv', v = .pointer (some ⟨b', 0, none⟩) /\ w.heap.size ≤ b' /\ (∀ k, iv'.ownBlock = some k -> w.heap.size ≤ k) /\ SetAtRow Tryz.prog S w' b' ov iv' [] 133 D c (cG c (zs ++ zs2))) := by
 obtain ⟨c1, c2⟩ := h.cells
 obtain ⟨ao, cap, rfl, hc, _⟩ := h.row.shape
 have HC := qH hc; clear hc
 have HH := qH h; clear h
 have H2 := qH h2; clear h2
 have one : ∀ (l : List (Option Addr × Nat × Nat)), ∀ u ∈ l.map (fun x => (Value.slice (x).1 (x).2.1 (x).2.2)), u.oneCell' = true := by intro l u hu; obtain ⟨x, _, rfl⟩ := List.mem_map.1 hu; rfl
 have ONE := qH one; clear one
 have conc : ∀ (w1 : World) (ao1 : Option Addr) (cap2 : Nat), Ext w w1 -> CellsAt w1 ao1 (zs2.map fun x => (Value.slice (x).1 (x).2.1 (x).2.2)) ->
  Calls Tryz.prog 173 #[.slice (some ⟨w1.heap.size, 0, none⟩) 2 2] (w1.alloc (.cells #[.slice ao zs.length cap, .slice ao1 zs2.length cap2] 69))
   (RetN (w1.alloc (.cells #[.slice ao zs.length cap, .slice ao1 zs2.length cap2] 69)) fun w' v => ∃ ao3 cap3, v = .slice ao3 (zs.length + zs2.length) cap3 /\ CellsAt w' ao3 ((zs ++ zs2).map fun x => (Value.slice (x).1 (x).2.1 (x).2.2))) := by
  intro w1 ao1 cap2 h1 hc1
  have hcs : CellsAt (w1.alloc (.cells #[.slice ao zs.length cap, .slice ao1 zs2.length cap2] 69)) (some ⟨w1.heap.size, 0, none⟩) (mY [(ao, cap, zs.map fun x => (Value.slice (x).1 (x).2.1 (x).2.2)), (ao1, cap2, zs2.map fun x => (Value.slice (x).1 (x).2.1 (x).2.2))]) := by
   have := CellsAt.two w1 (.slice ao zs.length cap) (.slice ao1 zs2.length cap2) 69
   simpa [mY] using this
  have ht : bN [(ao, cap, zs.map fun x => (Value.slice (x).1 (x).2.1 (x).2.2)), (ao1, cap2, zs2.map fun x => (Value.slice (x).1 (x).2.1 (x).2.2))] = zs.length + zs2.length := by simp [bN]
  refine (xG [(ao, cap, zs.map fun x => (Value.slice (x).1 (x).2.1 (x).2.2)), (ao1, cap2, zs2.map fun x => (Value.slice (x).1 (x).2.1 (x).2.2))] _ 2 _ 2 rfl hcs ?_ (by rw [ht]; omega) (by omega)).mono ?_
  ·intro q hq
   rcases List.mem_cons.1 hq with rfl | hq
   ·exact ⟨(HC.out.ext h1).alloc _, ONE.out zs⟩
   ·rcases List.mem_cons.1 hq with rfl | hq
    ·exact ⟨hc1.alloc _, ONE.out zs2⟩
    ·cases hq
  ·rintro e w2 ⟨v, rfl, hk, hr⟩
   obtain ⟨ao3, cap3, ev, hcc, _⟩ := hr.shape
   refine RetN.mk hk ⟨ao3, cap3, by rw [ev, ht], ?_⟩
   simpa using hcc
 have HCONC := qH conc; clear conc
 go_enter Tryz.func140, Tryz.ntmps140
 go_wp2
 go_region_held3 (fun w' => w'.cell? ⟨b, 0, none⟩ = some ov /\ w'.cell? ⟨b, 1, none⟩ = some (.slice ao zs.length cap)) (first | exact ⟨by assumption, by assumption⟩ | go_keep)
  (first
   | (go_at_call 138; refine (mD (H2.out.ext (Kp.refl w).drew)).mono ?_; rintro e w1 ⟨v, rfl, hk, hr⟩; obtain ⟨ao1, cap2, ev, hcc, _⟩ := hr.shape; subst ev; have d1 := hk.cell c1 id; have d2 := hk.cell c2 id; have hex : Ext w w1 := (Kp.refl w).drew.trans hk)
   | (go_at_call 173; refine (HCONC.out w1 ao1 cap2 hex hcc).mono ?_; rintro e w2 ⟨v2, rfl, hk2, ao3, cap3, rfl, hcc3⟩; have hex2 := (hex.alloc (.cells #[.slice ao zs.length cap, .slice ao1 zs2.length cap2] 69)).trans hk2; have e1 := hex2.cell c1 id; have e2 := hex2.cell c2 id)
   | (go_at_call 172; refine (xB S _ ov ao3 (zs.length + zs2.length) cap3 D c O (zs ++ zs2) (by simp) hcc3 (fun k hk => Nat.lt_of_lt_of_le (HH.out.inS k hk) hex2.size) (HH.out.ord.same (hex2.same HH.out.inS fun _ _ => id)) (by intro x hx; rcases List.mem_append.1 hx with hx | hx; exact HH.out.all x hx; exact hD x hx) hll).mono ?_; rintro e w3 ⟨v3, rfl, hk3, b', iv', rfl, hb', hiv', hset⟩; have g1 := hk3.cell e1 id; have g2 := hk3.cell e2 id))
 all_goals
  go_wp2
  go_ret
  exact RetN.mk (hex2.trans hk3) ⟨b', iv', rfl, Nat.le_trans hex2.size hb', fun k h => Nat.le_trans hex2.size (hiv' k h), hset⟩
end
end Go.Proofs.YtinnmeiphbdogaaGreat
/- tuple.Set at []string: At, Each. -/
namespace Go.Proofs.YtinnmeiphbdogaaGreat
open Go.RowKit
section
variable {S : Nat -> Prop} {w : World} {b : Nat} {ov iv : Value} {tail : List Value} {te : TypeId} {D : Option Addr × Nat × Nat -> Prop} {c : Option Addr × Nat × Nat -> Option Addr × Nat × Nat -> Int} {zs : List (Option Addr × Nat × Nat)}
end
end Go.Proofs.YtinnmeiphbdogaaGreat
/- slices.Values at [][]string: the iterator keeps its contract; tuple.Set's Each. -/
namespace Go.Proofs.YtinnmeiphbdogaaGreat
open Go.RowKit Go.Shelf
attribute [local go_sem] Oper.semAt_some
set_option maxHeartbeats 1000000 in
theorem kF (ao : Option Addr) (len cap : Nat) (w : World) :
 Calls Tryz.prog 137 #[.slice ao len cap] w (RetN w fun w' v => v = .func (.func 171) #[] #[.pointer (some ⟨w.heap.size, 0, none⟩)] /\ w' = w.alloc (.cells #[.slice ao len cap] 69)) := by
 go_enter Tryz.func137, Tryz.ntmps137
 go_wp2
 go_ret
 exact RetN.mk ((Kp.refl w).alloc _) ⟨rfl, rfl⟩
def IterRow (w : World) (v : Value) (zs : List (Option Addr × Nat × Nat)) (lo : Nat) : Prop :=
 ∃ Bs ao cap, v = .func (.func 171) #[] #[.pointer (some ⟨Bs, 0, none⟩)] /\ lo ≤ Bs /\ (∀ a, ao = some a -> lo ≤ a.block /\ a.block < w.heap.size) /\ w.cell? ⟨Bs, 0, none⟩ = some (.slice ao zs.length cap) /\ CellsAt w ao (zs.map fun x => (Value.slice (x).1 (x).2.1 (x).2.2)) /\ zs.length ≤ 1048576 * 1048576
set_option maxRecDepth 100000 in
set_option maxHeartbeats 1000000 in
theorem uU {S : Nat -> Prop} {w : World} {v : Value} {zs : List (Option Addr × Nat × Nat)} (h : PtrSetRow Tryz.prog S w v zs) :
 Calls Tryz.prog 100 #[v] w (RetN w fun w' r => IterRow w' r zs w.heap.size) := by
 have hl := h.len
 have HI := qH (mD h); clear h
 go_enter Tryz.func100, Tryz.ntmps100
 go_wp2_with fail
 refine HI.out.mono ?_
 rintro e w1 ⟨v1, rfl, hk, hr⟩
 have hb1 := hr.block
 have hlt := hr.lt
 obtain ⟨ao, cap, ev, hc, _⟩ := hr.shape
 subst ev
 have HK := qH (And.intro hk hc); clear hk hr hc
 go_wp2_with fail
 refine (kF ao zs.length cap w1).mono ?_
 rintro e w2 ⟨v2, rfl, hk2, rfl, ew⟩
 have HK2 := qH (And.intro hk2 ew); clear hk2 ew
 go_wp2
 go_ret
 have hsz := HK.out.1.size
 refine RetN.mk (HK.out.1.trans HK2.out.1) ⟨w1.heap.size, ao, cap, rfl, hsz, fun a e => ?_, ?_, HK.out.2.ext HK2.out.1, hl⟩
 ·subst e
  have h1 := hb1 a.block rfl
  have h2 := hlt a.block rfl
  exact ⟨h1, Nat.lt_of_lt_of_le h2 HK2.out.1.size⟩
 ·rw [HK2.out.2]; exact (Blk.new w1 [Value.slice ao zs.length cap] 69).cell' 0
end Go.Proofs.YtinnmeiphbdogaaGreat
/- slices.Values at [][]string, for elements of any type that stand for values: the iterator keeps its contract. -/
namespace Go.Proofs.YtinnmeiphbdogaaGreat
open Go.RowKit Go.Shelf
attribute [local go_sem] Oper.semAt_some
set_option maxRecDepth 100000 in
set_option maxHeartbeats 2000000 in
theorem iX {α : Type} (f : α -> Value) (F : Fence) (n : Nat) (h7 : F.fn 171) (hro : F.round = none) (hn : 1 ≤ n) (S : Nat -> Prop) (l Bs : Nat) (ao : Option Addr) (m cap : Nat) (zs : List α) (hm : m = zs.length) (hreach : m ≤ 1048576 * 1048576) (J Jx : List α -> World -> Prop)
 (hY : ∀ pre x W, J pre W -> pre.length < zs.length -> YieldAt F (n - 1) Tryz.prog l #[f x] W fun e W' =>
  (e = .returned (.bool true) /\ J (pre ++ [x]) W' /\ SameOn S W W') \/ (e = .returned (.bool false) /\ Jx (pre ++ [x]) W'))
 (W : World) (hSB : S Bs) (hSa : ∀ a, ao = some a -> S a.block) (hBs : W.cell? ⟨Bs, 0, none⟩ = some (.slice ao m cap)) (hc : CellsAt W ao (zs.map fun x => f x)) (h0 : J [] W) :
 CallsIn F n Tryz.prog 171 #[.func (.yield l) #[] #[], .pointer (some ⟨Bs, 0, none⟩)] W fun e W' => (∃ v, e = .returned v) /\
  ((∃ ys, ys = zs /\ J ys W') \/ (∃ pre, pre <+: zs /\ Jx pre W')) := by
 have HC := qH hc; have HM := qH hm; clear hc hm
 refine callsIn_of_wp Tryz.func171 rfl h7 ?_ hro
 simp only [Tryz.ntmps171, List.size_toArray, List.length_cons, List.length_nil, Nat.reduceAdd, Nat.reduceSub, Array.replicate_succ, Array.replicate_zero, List.push_toArray, List.append_toArray, List.nil_append, List.cons_append]
 gi_wp2
 gi_loopw [7] (fun i wr => ∃ k : Nat, k ≤ m /\ i = .int .i64 k /\ J (zs.take k) wr /\ SameOn S W wr)
  (fun i _ => m - (intOf i).toNat)
 case atStart => exact ⟨0, Nat.zero_le _, rfl, h0, SameOn.refl _ _⟩
 case round =>
  obtain ⟨k, hk, rfl, hJs, hnx⟩ := hrel
  by_cases hlt : k < m
  ·have hkl : k < zs.length := by rw [<- HM.out]; exact hlt
   obtain ⟨x, hx⟩ : ∃ x, zs[k]? = some x := ⟨_, qG hkl⟩
   obtain ⟨g, o, eao, c3⟩ := HC.out k (f x) (by rw [List.getElem?_map, hx]; rfl)
   have c3' := (hnx.cell (o := o + k) (hSa _ eao)).trans c3
   have et : zs.take (k + 1) = zs.take k ++ [x] := by rw [List.take_add_one, hx]; rfl
   have ET := qH et
   have hy0 := hY _ x wr hJs (by rw [List.length_take]; omega)
   have HX := qH (And.intro hx hkl)
   clear hx hkl et c3
   subst eao
   obtain ⟨fn, tmps, assign, body, hy, hR⟩ := hy0
   gi_wp2
   refine hR.mono ?_
   rintro e W3 (⟨rfl, hJ3, hk3⟩ | ⟨rfl, hJx3⟩)
   ·gi_wp2
    go_roundw
    case rel => exact ⟨k + 1, by omega, by simp, by rw [ET.out]; exact hJ3, hnx.trans hk3⟩
    case measure => first | (simp [intOf]; done) | (simp [intOf]; omega)
   ·gi_wp2
    refine bodyPost_ret (results_none rfl _ _ _) rfl ?_
    exact ⟨⟨_, rfl⟩, .inr ⟨_, by rw [<- ET.out]; exact List.take_prefix _ _, hJx3⟩⟩
  ·obtain rfl : k = m := by omega
   gi_wp2
   go_end0
   exact ⟨⟨_, rfl⟩, .inl ⟨_, by rw [HM.out, List.take_length], hJs⟩⟩
def IterVRow (w : World) (v : Value) {α : Type} (f : α -> Value) (zs : List α) (lo : Nat) : Prop :=
 ∃ Bs ao cap, v = .func (.func 171) #[] #[.pointer (some ⟨Bs, 0, none⟩)] /\ lo ≤ Bs /\ (∀ a, ao = some a -> lo ≤ a.block /\ a.block < w.heap.size) /\ w.cell? ⟨Bs, 0, none⟩ = some (.slice ao zs.length cap) /\ CellsAt w ao (zs.map fun x => f x) /\ zs.length ≤ 1048576 * 1048576
theorem IterVRow.stops {w : World} {v : Value} {α : Type} {f : α -> Value} {zs : List α} {lo : Nat} (h : IterVRow w v f zs lo) (F : Fence) (n : Nat) (h7 : F.fn 171) (hro : F.round = none) (hn : 1 ≤ n) :
 ∃ Bs, v = .func (.func 171) #[] #[.pointer (some ⟨Bs, 0, none⟩)] /\ SeqStopsK F n Tryz.prog 171 #[.pointer (some ⟨Bs, 0, none⟩)] (fun x => #[f x]) (SameOn fun k => lo ≤ k /\ k < w.heap.size) (fun ys => ys = zs) (fun pre => pre <+: zs) zs.length w := by
 obtain ⟨Bs, ao, cap, h1, h2, h3, h4, h5, h6⟩ := h
 refine ⟨Bs, h1, fun l J Jx W hW _ _ hY h0 => ?_⟩
 have hb := World.block_lt_of_cell? _ _ h4
 exact iX f F n h7 hro hn _ l Bs ao zs.length cap zs rfl h6 J Jx hY W ⟨h2, hb⟩ (fun a e => h3 a e) ((Kp.of_below hW).cell h4 id) (h5.ext (Kp.of_below hW)) h0
theorem IterRow.sub {w : World} {v : Value} {zs : List (Option Addr × Nat × Nat)} {lo : Nat} (h : IterRow w v zs lo) : IterVRow w v (fun x : { x // x ∈ zs } => (Value.slice (x.1).1 (x.1).2.1 (x.1).2.2)) zs.attach lo := by
 obtain ⟨Bs, ao, cap, h1, h2, h3, h4, h5, h6⟩ := h
 refine ⟨Bs, ao, cap, h1, h2, h3, by rw [List.length_attach]; exact h4, ?_, by rw [List.length_attach]; exact h6⟩
 have e : (zs.attach.map fun x : { x // x ∈ zs } => (Value.slice (x.1).1 (x.1).2.1 (x.1).2.2)) = zs.map fun x => (Value.slice (x).1 (x).2.1 (x).2.2) := by
  have h : (zs.attach.map fun x : { x // x ∈ zs } => (Value.slice (x.1).1 (x.1).2.1 (x.1).2.2)) = (zs.attach.map Subtype.val).map fun x => (Value.slice (x).1 (x).2.1 (x).2.2) := by rw [List.map_map]; rfl
  rw [h, List.attach_map_subtype_val]
 rw [e]; exact h5
end Go.Proofs.YtinnmeiphbdogaaGreat
/- slices.BinarySearchFunc at string, slices.Clone, slices.EqualFunc. -/
namespace Go.Proofs.YtinnmeiphbdogaaGreat
open Go.RowKit
theorem dG : dU Tryz.prog 34 9 1 16 (.string ⟨#[]⟩) := ⟨by kernel_rfl, by kernel_rfl, rfl, by decide⟩
end Go.Proofs.YtinnmeiphbdogaaGreat
/- slices.IndexFunc, ContainsFunc at string. -/
namespace Go.Proofs.YtinnmeiphbdogaaGreat
open Go.RowKit
def tS (P : Program) (f : FuncId) (first captured : Array Value) (w0 : World) (vs : List Value) (q : Nat -> Bool) : Prop :=
 (∀ args w, (callFunc f args).run P w = .ok (Next.enter f args) w) /\ ∀ w, Ext w0 w -> ∀ i u, vs[i]? = some u -> Calls P f (first.push u ++ captured) w fun e w' => e = .returned (.bool (q i)) /\ Ext w w'
def aIn (n : Nat) (q : Nat -> Bool) (w0 : World) (iv : Value) (w : World) : Prop :=
 ∃ i : Nat, i ≤ n /\ iv = .int .i64 i /\ (∀ j, j < i -> q j = false) /\ Ext w0 w
def aFk (n : Nat) (q : Nat -> Bool) (v : Value) : Prop := (∃ i : Nat, i < n /\ v = .int .i64 i /\ q i = true /\ ∀ j, j < i -> q j = false) \/ (v = .int .i64 (-1) /\ ∀ j, j < n -> q j = false)
set_option maxRecDepth 100000 in
set_option maxHeartbeats 2000000 in
theorem rY (vs : List Value) (ao : Option Addr) (c : Nat) (f : FuncId) (first captured : Array Value) (q : Nat -> Bool) (w : World) (n : Nat) (hn : n = vs.length)
 (ha : CellsAt w ao vs) (hcmp : tS Tryz.prog f first captured w vs q) (hbig : n ≤ 4611686018427387904) :
 Calls Tryz.prog 161 #[.slice ao n c, .func (Fn.func f) first captured] w (RetN w fun w' v => aFk n q v) := by
 have hent := hcmp.1
 have HC := qH hcmp.2; clear hcmp
 have HA := qH ha; clear ha
 have HN := qH hn; clear hn
 go_enter Tryz.func161, Tryz.ntmps161
 go_wp2
 go_loopw [8] (aIn n q w) (fun i _ => n - (intOf i).toNat)
 case atStart => exact ⟨0, Nat.zero_le _, rfl, by simp, Kp.refl _⟩
 case round =>
  obtain ⟨i, hi, rfl, hq, hkp⟩ := hrel
  have HQ := qH hq; clear hq
  by_cases hlt : i < n
  ·have g1 : vs[i]? = some (vs[i]'(by have := HN.out; omega)) := qG _
   obtain ⟨b1, o1, eao, c1⟩ := (HA.out.ext hkp) i _ g1
   have hcall := fun W hW => HC.out W hW i _ g1
   have HCall := qH hcall; clear hcall
   clear g1
   generalize vs[i]'(by have := HN.out; omega) = u at *
   subst eao
   cases hqi : q i
   ·rw [hqi] at HCall
    have HI := qH hqi; clear hqi
    go_wp2_with fail
    refine (HCall.out _ hkp).mono ?_
    rintro e w1 ⟨rfl, hk2⟩
    have hkp2 := hkp.ext hk2
    clear hk2 c1
    go_wp2
    go_roundw
    case rel =>
     refine ⟨i + 1, by omega, by first | rfl | (congr 1; done) | (congr 1; omega), fun j hj => ?_, hkp2⟩
     by_cases e : j = i
     ·subst e; exact HI.out
     ·exact HQ.out j (by omega)
    case measure => first | (simp [intOf]; done) | (simp [intOf]; omega)
   ·rw [hqi] at HCall
    have HI := qH hqi; clear hqi
    go_wp2_with fail
    refine (HCall.out _ hkp).mono ?_
    rintro e w1 ⟨rfl, hk2⟩
    have hkp2 := hkp.ext hk2
    clear hk2 c1
    go_wp2
    go_ret
    exact RetN.mk hkp2 (.inl ⟨i, hlt, rfl, HI.out, HQ.out⟩)
  ·have e : n = i := by omega
   subst e
   clear hlt hi
   go_wp2
   go_ret
   exact RetN.mk hkp (.inr ⟨rfl, HQ.out⟩)
theorem oS (vs : List Value) (ao : Option Addr) (c : Nat) (f : FuncId) (first captured : Array Value) (q : Nat -> Bool) (w : World) (n : Nat) (hn : n = vs.length)
 (ha : CellsAt w ao vs) (hcmp : tS Tryz.prog f first captured w vs q) (hbig : n ≤ 4611686018427387904) :
 Calls Tryz.prog 125 #[.slice ao n c, .func (Fn.func f) first captured] w (RetN w fun w' v => v = .bool ((List.range n).any q)) := by
 have HI := qH (rY vs ao c f first captured q w n hn ha hcmp hbig); clear ha hcmp hn
 go_enter Tryz.func125, Tryz.ntmps125
 go_wp2_with fail
 refine HI.out.mono ?_
 rintro e w1 ⟨v, rfl, hk, ⟨i, hi, rfl, hq, _⟩ | ⟨rfl, hq⟩⟩
 ·have t : (List.range n).any q = true := List.any_eq_true.2 ⟨i, List.mem_range.2 hi, hq⟩
  have HK := qH (And.intro hk t); clear hk hq t
  go_wp2
  go_ret
  exact RetN.mk HK.out.1 (by rw [HK.out.2]; first | rfl | simp)
 ·have t : (List.range n).any q = false := by
   rw [List.any_eq_false]
   intro i hi
   simp [hq i (List.mem_range.1 hi)]
  have HK := qH (And.intro hk t); clear hk hq t
  go_wp2
  go_ret
  exact RetN.mk HK.out.1 (by rw [HK.out.2]; first | rfl | simp)
end Go.Proofs.YtinnmeiphbdogaaGreat
/- slices.Clone, EqualFunc, Grow, Concat at string. -/
namespace Go.Proofs.YtinnmeiphbdogaaGreat
open Go.RowKit
theorem iO (vs : List Value) (ao : Option Addr) (cap : Nat) (w : World) (n : Nat) (hn : n = vs.length) (hc : CellsAt w ao vs) (h1 : ∀ u ∈ vs, u.oneCell' = true) (hm : n * 16 ≤ 140737488355328) :
 Calls Tryz.prog 101 #[.slice ao n cap] w (RetN w fun w' v => Row w' 9 1 v n vs (New w)) := by
 have hq : ∀ w : World, (binOp .eql 34 (.slice ao n cap) (.slice none 0 0)).run Tryz.prog w = .ok (.bool ao.isNone) w := fun w => Lib.run_eql_slice_nil w _ _ _ _ _ _ _ Tryz.underlying34
 have HNN := qH hn; clear hn
 have hl : n ≤ maxLen := by unfold maxLen; omega
 cases ao with
 | none =>
  have hv : vs = [] := by
   cases vs with
   | nil => rfl
   | cons x vs => obtain ⟨b, o, h, _⟩ := hc.off (by simp); cases h
  subst hv
  have h0 : n = 0 := HNN.out
  subst h0
  go_enter Tryz.func101, Tryz.ntmps101
  go_wp2
  go_ret
  exact RetN.mk (Kp.refl _) (Row.nil _ _ _ _)
 | some a =>
  go_enter Tryz.func101, Tryz.ntmps101
  go_wp2_with (first | (at_builtin; refine Halted.out ?_))
  refine Halted.mk (dC dG rfl _ _ rfl ((Kp.refl (F := fun _ => False) w).alloc _) rfl (Row.empty w 9 1 (New w) (Nat.le_refl _)) rfl (hc.alloc _) (by rw [HNN.out, Nat.mul_one]) h1 (by omega) (by omega) ?_)
  intro v1 w1 hr1 hk1 _ _
  have HR := qH hr1; clear hr1
  go_wp2
  go_ret
  exact RetN.mk hk1 (by simpa using HR.out)
end Go.Proofs.YtinnmeiphbdogaaGreat
/- tuple.Rows: rows of texts in a set: what a row reads as, their order, set, Len, NewRows, named, texts. -/
namespace Go.Proofs.YtinnmeiphbdogaaGreat
open Go.RowKit
abbrev gT := Option Addr × Nat × Nat
def ReadsAs (w : World) (x : gT) (ss : List ByteArray) : Prop := x.2.1 = ss.length /\ CellsAt w x.1 (strs ss)
theorem ReadsAs.unique {w : World} {x : gT} {a b : List ByteArray} (h : ReadsAs w x a) (h' : ReadsAs w x b) : a = b := by
 obtain ⟨h1, h2⟩ := h
 obtain ⟨h3, h4⟩ := h'
 refine List.ext_getElem (by omega) fun i hi hj => ?_
 obtain ⟨b1, o1, e1, c1⟩ := h2.str hi
 obtain ⟨b2, o2, e2, c2⟩ := h4.str hj
 rw [e1] at e2
 cases e2
 rw [c1] at c2
 simpa using c2
theorem wO (w : World) : ∃ con : gT -> List ByteArray, ∀ x ss, ReadsAs w x ss -> con x = ss := by
 have h : ∀ x : gT, ∃ l : List ByteArray, ∀ ss, ReadsAs w x ss -> l = ss := fun x => by
  by_cases hx : ∃ ss, ReadsAs w x ss
  ·obtain ⟨ss, hs⟩ := hx
   exact ⟨ss, fun ss' hs' => hs.unique hs'⟩
  ·exact ⟨[], fun ss hs => absurd ⟨ss, hs⟩ hx⟩
 exact ⟨fun x => Classical.choose (h x), fun x => Classical.choose_spec (h x)⟩
def wU (S : Nat -> Prop) (w : World) (x : gT) : Prop := ∃ ss, ReadsAs w x ss /\ ss.length ≤ 8796093021952 /\ ∀ a, x.1 = some a -> x.2.1 ≠ 0 -> S a.block
theorem ReadsAs.same {S : Nat -> Prop} {w w' : World} {x : gT} {ss : List ByteArray} (h : ReadsAs w x ss) (hs : Same S w w') (ha : ∀ a, x.1 = some a -> x.2.1 ≠ 0 -> S a.block) : ReadsAs w' x ss := by
 refine ⟨h.1, fun i u hu => ?_⟩
 have hne : x.2.1 ≠ 0 := by
  have h1 := (List.getElem?_eq_some_iff.1 hu).1
  simp only [strs, List.length_map] at h1
  rw [h.1]; omega
 obtain ⟨b, o, e, c⟩ := h.2 i u hu
 refine ⟨b, o, e, ?_⟩
 rw [World.cell?_of_block (w := w) (hs b (ha _ e hne)).2]; exact c
theorem jK {α : Type} (f : α -> List ByteArray) : OrdLaw (fun x y => aC (f x) (f y)) :=
 ⟨fun x y => by have := nX (f x) (f y); omega, fun x y z h h' => lY h h'⟩
theorem kN {S : Nat -> Prop} {w : World} {con : gT -> List ByteArray} (hc : ∀ x ss, ReadsAs w x ss -> con x = ss) :
 OrdVRow Tryz.prog S w (.func (Fn.func 124) #[] #[]) (wU S w) (fun x y => aC (con x) (con y)) := by
 refine .inr ⟨_, _, _, rfl, enters_of Tryz.func124 (by kernel_rfl) rfl, fun w' hw x y hx hy => ?_⟩
 obtain ⟨xs, hx1, hx2, hx3⟩ := hx
 obtain ⟨ys, hy1, hy2, hy3⟩ := hy
 have ex := hc x xs hx1
 have ey := hc y ys hy1
 have hx' := hx1.same hw hx3
 have hy' := hy1.same hw hy3
 obtain ⟨ax, nx, cx⟩ := x
 obtain ⟨ay, ny, cy⟩ := y
 obtain ⟨h1, h2⟩ := hx'
 obtain ⟨h3, h4⟩ := hy'
 simp only at h1 h2 h3 h4
 subst h1 h3
 simp only [ex, ey]
 refine (rL xs ys ax ay cx cy w' h2 h4 (by unfold maxLen; omega) (by unfold maxLen; omega)).mono ?_
 rintro e w2 ⟨rfl, rfl⟩
 exact ⟨rfl, Kp.refl w'⟩
def RowsAt (S : Nat -> Prop) (w : World) (b : Nat) (iv : Value) (arity : Nat) (LL : List (List ByteArray)) : Prop :=
 ∃ con zs, (∀ x ss, ReadsAs w x ss -> con x = ss) /\ SetAtRow Tryz.prog S w b (.func (Fn.func 124) #[] #[]) iv [.int .i64 arity] 135 (wU S w) (fun x y => aC (con x) (con y)) zs /\ zs.map con = LL
theorem yF (s : ByteArray) (w : World) : Calls Tryz.prog 84 #[.string s] w (Ret (.bool (decide (1 ≤ s.size /\ s.size ≤ 4096))) w) := by
 by_cases h1 : 1 ≤ s.size
 ·have q1 : (1 : Int) ≤ (s.size : Int) := by omega
  by_cases h2 : s.size ≤ 4096
  ·have q2 : (s.size : Int) ≤ 4096 := by omega
   have H := qH (And.intro h1 h2)
   go_enter Tryz.func84, Tryz.ntmps84
   go_wp2
   go_ret
   exact Ret.mk (by simp [H.out.1, H.out.2])
  ·have q2 : ¬ (s.size : Int) ≤ 4096 := by omega
   have H := qH h2
   go_enter Tryz.func84, Tryz.ntmps84
   go_wp2
   go_ret
   exact Ret.mk (by simp)
 ·have q1 : ¬ (1 : Int) ≤ (s.size : Int) := by omega
  have H := qH h1
  go_enter Tryz.func84, Tryz.ntmps84
  go_wp2
  go_ret
  exact Ret.mk (by simp)
theorem aA2 (s : ByteArray) (w : World) : Calls Tryz.prog 126 #[.string s] w (Ret (.bool (decide (4096 < s.size))) w) := by
 by_cases h : 4096 < s.size
 ·have q : (4096 : Int) < (s.size : Int) := by omega
  have H := qH h
  go_enter Tryz.func126, Tryz.ntmps126
  go_wp2
  go_ret
  exact Ret.mk (by simp [H.out])
 ·have q : ¬ (4096 : Int) < (s.size : Int) := by omega
  have H := qH h
  go_enter Tryz.func126, Tryz.ntmps126
  go_wp2
  go_ret
  exact Ret.mk (by simp)
def bQ (ss : List ByteArray) : Bool := ss.all fun s => decide (s.size ≤ 4096)
theorem rM (ss : List ByteArray) (ao : Option Addr) (n c : Nat) (w : World) (hn : n = ss.length) (hc : CellsAt w ao (strs ss)) (hl : n ≤ 4611686018427387904) :
 Calls Tryz.prog 86 #[.slice ao n c] w (RetN w fun w' v => v = .bool (bQ ss)) := by
 have hent : ∀ args w, (callFunc 126 args).run Tryz.prog w = .ok (.enter 126 args) w := enters_of Tryz.func126 (by kernel_rfl) rfl
 have hi := oS (strs ss) ao c 126 #[] #[] (fun i => decide (4096 < (ss[i]?.getD ⟨#[]⟩).size)) w n (by simp [strs, hn]) hc ⟨hent, fun w' _ i u hu => by
  rw [strs, List.getElem?_map] at hu
  cases hs : ss[i]? with
  | none => rw [hs] at hu; cases hu
  | some s =>
   rw [hs] at hu
   cases hu
   refine (aA2 s w').mono ?_
   rintro e w2 ⟨rfl, rfl⟩
   exact ⟨by simp [hs], Kp.refl _⟩⟩ hl
 have key : (!(List.range n).any fun i => decide (4096 < (ss[i]?.getD ⟨#[]⟩).size)) = bQ ss := by
  rw [Bool.eq_iff_iff]
  simp only [Bool.not_eq_true', List.any_eq_false, List.mem_range, decide_eq_true_eq, bQ, List.all_eq_true]
  constructor
  ·intro h s hs
   obtain ⟨i, hi, rfl⟩ := List.mem_iff_getElem.1 hs
   have := h i (by omega)
   simp only [qG hi, Option.getD_some] at this
   omega
  ·intro h i hi
   have hi' : i < ss.length := by omega
   have := h ss[i] (List.getElem_mem _)
   simp only [qG hi', Option.getD_some]
   omega
 have HI := qH (And.intro hi key); clear hi key hent hc hn
 go_enter Tryz.func86, Tryz.ntmps86
 go_wp2_with fail
 refine HI.out.1.mono ?_
 rintro e w1 ⟨v, rfl, hk, rfl⟩
 have HK := qH hk; clear hk
 go_wp2
 go_ret
 exact RetN.mk HK.out (by rw [<- HI.out.2]; rfl)
end Go.Proofs.YtinnmeiphbdogaaGreat
namespace Go.Proofs.YtinnmeiphbdogaaGreat
open Go.RowKit
section
variable {S S' : Nat -> Prop} {w w' : World} {b : Nat} {iv : Value} {arity : Nat} {LL : List (List ByteArray)}
theorem RowsAt.move {F : Nat -> Prop} (h : RowsAt S w b iv arity LL) (hk : Kp F w w') (hF : ∀ k, F k -> ¬ dS b iv k) (hS : ∀ k, F k -> ¬ S k) (hsub : ∀ k, S k -> S' k) (hin : ∀ k, S' k -> k < w'.heap.size) (hno : ∀ k, dS b iv k -> ¬ S' k) :
 RowsAt S' w' b iv arity LL := by
 obtain ⟨con, zs, hc, hs, hl⟩ := h
 obtain ⟨con', hc'⟩ := wO w'
 have hs' := hs.kp hk hF hS
 have hsame : Same S w w' := hk.same hs.inS fun k h1 h2 => hS k h2 h1
 have all : ∀ z ∈ zs, wU S' w' z /\ con' z = con z := fun z hz => by
  obtain ⟨ss, h1, h2, h3⟩ := hs.all z hz
  have h1' := h1.same hsame h3
  exact ⟨⟨ss, h1', h2, fun a e hne => hsub _ (h3 a e hne)⟩, by rw [hc' z ss h1', hc z ss h1]⟩
 refine ⟨con', zs, hc', ⟨hs'.blk, hs'.row, hs'.apart, hin, hno, kN hc', fun z hz => (all z hz).1, hs.len⟩, ?_⟩
 rw [<- hl]
 exact List.map_congr_left fun z hz => (all z hz).2
theorem RowsAt.ext (h : RowsAt S w b iv arity LL) (hk : Ext w w') : RowsAt S w' b iv arity LL := by
 have hb := h
 obtain ⟨con, zs, hc, hs, hl⟩ := hb
 exact h.move hk (fun _ x => x.elim) (fun _ x => x.elim) (fun _ h => h) (fun k hk' => Nat.lt_of_lt_of_le (hs.inS k hk') hk.size) hs.notS
theorem RowsAt.blk (h : RowsAt S w b iv arity LL) : Blk w b [.func (Fn.func 124) #[] #[], iv, .int .i64 arity] 135 := by
 obtain ⟨con, zs, hc, hs, hl⟩ := h
 exact hs.blk
theorem sN (w : World) : Calls Tryz.prog 99 #[.pointer none] w (Ret (.pointer none) w) := by
 go_enter Tryz.func99, Tryz.ntmps99
 go_wp2
 go_ret
 exact Ret.mk rfl
theorem gY (h : RowsAt S w b iv arity LL) : Calls Tryz.prog 99 #[.pointer (some ⟨b, 0, none⟩)] w (Ret (.pointer (some ⟨b, 0, none⟩)) w) := by
 have c0 : w.cell? ⟨b, 0, none⟩ = some (.func (Fn.func 124) #[] #[]) := by rw [h.blk.cell']; rfl
 have hq : ∀ w : World, (binOp .eql 131 (.func (Fn.func 124) #[] #[]) .nilFunc).run Tryz.prog w = .ok (.bool false) w := fun _ => by kernel_rfl
 clear h
 go_enter Tryz.func99, Tryz.ntmps99
 go_wp2
 go_ret
 exact Ret.mk rfl
theorem aBf (w : World) : Calls Tryz.prog 105 #[.pointer none] w (Ret (.int .i64 0) w) := by
 go_enter Tryz.func105, Tryz.ntmps105
 go_wp2_with fail
 refine (sN w).mono ?_
 rintro e w' ⟨rfl, rfl⟩
 go_wp2_with fail
 refine (wV w).mono ?_
 rintro e w' ⟨rfl, rfl⟩
 go_wp2
 go_ret
 exact Ret.mk rfl
theorem sO (h : RowsAt S w b iv arity LL) : Calls Tryz.prog 105 #[.pointer (some ⟨b, 0, none⟩)] w (Ret (.int .i64 (LL.length : Nat)) w) := by
 have H := qH h
 obtain ⟨con, zs, hc, hs, hl⟩ := h
 have HS := qH hs
 have HL := qH (show zs.length = LL.length by rw [<- hl]; simp)
 clear hs hc hl
 go_enter Tryz.func105, Tryz.ntmps105
 go_wp2_with fail
 refine (gY H.out).mono ?_
 rintro e w' ⟨rfl, rfl⟩
 go_wp2_with fail
 refine (oW HS.out).mono ?_
 rintro e w' ⟨rfl, rfl⟩
 go_wp2
 go_ret
 exact Ret.mk (by rw [<- HL.out]; rfl)
theorem aDr (S : Nat -> Prop) (w : World) (a : Nat) (hS : ∀ k, S k -> k < w.heap.size) :
 RowsAt S (w.alloc (.cells #[.func (Fn.func 124) #[] #[], .slice none 0 0, .int .i64 a] 135)) w.heap.size (.slice none 0 0) a [] := by
 obtain ⟨con, hc⟩ := wO (w.alloc (.cells #[.func (Fn.func 124) #[] #[], .slice none 0 0, .int .i64 a] 135))
 refine ⟨con, [], hc, ⟨Blk.new w [.func (Fn.func 124) #[] #[], .slice none 0 0, .int .i64 a] 135, Row.nil _ _ _ _, by simp [Value.ownBlock], fun k hk => by rw [aN]; have := hS k hk; omega, fun k ho hs => ?_, kN hc, by simp, by simp⟩, rfl⟩
 rcases ho with rfl | ho
 ·have := hS _ hs; omega
 ·cases ho
theorem nB (S : Nat -> Prop) (w : World) (a : Nat) (ha : a ≤ 64) (hS : ∀ k, S k -> k < w.heap.size) :
 Calls Tryz.prog 85 #[.int .i64 a] w (RetN w fun w' v => v = .tuple #[.pointer (some ⟨w.heap.size, 0, none⟩), .int .i64 0] /\ RowsAt S w' w.heap.size (.slice none 0 0) a []) := by
 have HR := qH (aDr S w a hS)
 have q1 : ¬ (a : Int) < 0 := by omega
 have q2 : ¬ (64 : Int) < (a : Int) := by omega
 clear hS
 go_enter Tryz.func85, Tryz.ntmps85
 go_wp2
 go_ret2
 exact RetN.mk ((Kp.refl w).alloc _) ⟨rfl, HR.out⟩
end
end Go.Proofs.YtinnmeiphbdogaaGreat
namespace Go.Proofs.YtinnmeiphbdogaaGreat
open Go.RowKit
def RowIn (w : World) (x : gT) (ss : List ByteArray) : Prop := ReadsAs w x ss /\ ss.length ≤ 8796093021952 /\ ∀ a, x.1 = some a -> x.2.1 ≠ 0 -> a.block < w.heap.size
def jO (x : gT) (F : Nat -> Prop) : Prop := ∀ a, x.1 = some a -> x.2.1 ≠ 0 -> ¬ F a.block
def lO (S : Nat -> Prop) (x : gT) : Nat -> Prop := fun k => S k \/ ∃ a, x.1 = some a /\ x.2.1 ≠ 0 /\ a.block = k
section
variable {S : Nat -> Prop} {w w' : World} {b : Nat} {iv : Value} {arity : Nat} {LL : List (List ByteArray)}
theorem RowsAt.inS (h : RowsAt S w b iv arity LL) : ∀ k, S k -> k < w.heap.size := by
 obtain ⟨con, zs, hc, hs, hl⟩ := h
 exact hs.inS
theorem RowsAt.notS (h : RowsAt S w b iv arity LL) : ∀ k, dS b iv k -> ¬ S k := by
 obtain ⟨con, zs, hc, hs, hl⟩ := h
 exact hs.notS
theorem RowsAt.pool (h : RowsAt S w b iv arity LL) {x : gT} {ss : List ByteArray} (hx : RowIn w x ss) (ho : jO x (dS b iv)) : RowsAt (lO S x) w b iv arity LL := by
 refine h.move (F := fun _ => False) (Kp.refl w) (fun _ x => x.elim) (fun _ x => x.elim) (fun k hk => .inl hk) (fun k hk => ?_) (fun k hk hs => ?_)
 ·rcases hk with hk | ⟨a, e, hne, rfl⟩
  ·exact h.inS k hk
  ·exact hx.2.2 a e hne
 ·rcases hs with hs | ⟨a, e, hne, rfl⟩
  ·exact h.notS k hk hs
  ·exact ho a e hne hk
theorem RowsAt.open (h : RowsAt S w b iv arity LL) (hst : Strict aC LL) {x : gT} {ss : List ByteArray} (hx : RowIn w x ss) (ho : jO x (dS b iv)) :
 ∃ con zs, (∀ x ss, ReadsAs w x ss -> con x = ss) /\ SetAtRow Tryz.prog (lO S x) w b (.func (Fn.func 124) #[] #[]) iv [.int .i64 arity] 135 (wU (lO S x) w) (fun x y => aC (con x) (con y)) zs /\ zs.map con = LL /\
  wU (lO S x) w x /\ con x = ss /\ Strict (fun x y => aC (con x) (con y)) zs /\ bC (fun x y => aC (con x) (con y)) zs x = bC aC LL ss /\ below (fun x y => aC (con x) (con y)) zs x = below aC LL ss := by
 obtain ⟨con, zs, hc, hs, hl⟩ := h.pool hx ho
 have ex := hc x ss hx.1
 refine ⟨con, zs, hc, hs, hl, ⟨ss, hx.1, hx.2.1, fun a e hne => .inr ⟨a, e, hne, rfl⟩⟩, ex, ?_, ?_, ?_⟩
 ·rw [<- hl] at hst
  exact List.pairwise_map.1 hst
 ·rw [<- hl, <- ex]; simp [bC, List.any_map, Function.comp_def]
 ·rw [<- hl, <- ex]; simp [below, List.filter_map, Function.comp_def]
theorem mU (h : RowsAt S w b iv arity LL) (hst : Strict aC LL) {x : gT} {ss : List ByteArray} (hx : RowIn w x ss) (ho : jO x (dS b iv)) :
 Calls Tryz.prog 87 #[.pointer (some ⟨b, 0, none⟩), .slice x.1 x.2.1 x.2.2] w (RetN w fun w' v => v = .bool (bC aC LL ss)) := by
 have H := qH h
 obtain ⟨con, zs, hc, hs, hl, hd, ex, hz, e1, e2⟩ := h.open hst hx ho
 have HF := qH (oX (jK con) x hd hz hs)
 rw [e1] at HF
 clear h hst hx ho hc hs hl hd ex hz e1 e2
 go_enter Tryz.func87, Tryz.ntmps87
 go_wp2_with fail
 refine (gY H.out).mono ?_
 rintro e w' ⟨rfl, rfl⟩
 go_wp2_with fail
 refine HF.out.mono ?_
 rintro e w1 ⟨v, rfl, hk, rfl⟩
 have HK := qH hk; clear hk
 go_wp2
 go_ret
 exact RetN.mk HK.out rfl
theorem RowsAt.of_set {S' : Nat -> Prop} {w1 w2 : World} {con : gT -> List ByteArray} {zs : List gT} (hc : ∀ x ss, ReadsAs w1 x ss -> con x = ss) (hsame : Same S' w1 w2)
 (h : SetAtRow Tryz.prog S' w2 b (.func (Fn.func 124) #[] #[]) iv [.int .i64 arity] 135 (wU S' w1) (fun x y => aC (con x) (con y)) zs) : RowsAt S' w2 b iv arity (zs.map con) := by
 obtain ⟨con', hc'⟩ := wO w2
 have all : ∀ z ∈ zs, wU S' w2 z /\ con' z = con z := fun z hz => by
  have hd := h.all z hz
  obtain ⟨ss, h1, h2, h3⟩ := hd
  have h1' := h1.same hsame h3
  exact ⟨⟨ss, h1', h2, h3⟩, by rw [hc' z ss h1', hc z ss h1]⟩
 exact ⟨con', zs, hc', ⟨h.blk, h.row, h.apart, h.inS, h.notS, kN hc', fun z hz => (all z hz).1, h.len⟩, List.map_congr_left fun z hz => (all z hz).2⟩
def aZ (arity : Nat) (LL : List (List ByteArray)) (ss : List ByteArray) : Bool × Nat :=
 if ss.length ≠ arity then (false, 30) else if bQ ss = false then (false, 31) else if 65536 ≤ LL.length /\ bC aC LL ss = false then (false, 4) else (!bC aC LL ss, 0)
def bM (arity : Nat) (LL : List (List ByteArray)) (ss : List ByteArray) : List (List ByteArray) := if (aZ arity LL ss).2 = 0 then bJ aC LL ss else LL
theorem aFu (h : RowsAt S w b iv arity LL) (hst : Strict aC LL) {ao : Option Addr} {n cap : Nat} {ss : List ByteArray} {w1 : World} (hk : Ext w w1) (hr : Row w1 9 1 (.slice ao n cap) n (strs ss) (New w)) (hn : n = ss.length) (hl : n ≤ 8796093021952) (hLL : LL.length + 1 ≤ 1048576 * 1048576) :
 Calls Tryz.prog 128 #[.pointer (some ⟨b, 0, none⟩), .slice ao n cap] w1 (RetF (dS b iv) w1 fun w' v => v = .bool (!bC aC LL ss) /\
  ∃ iv', RowsAt (lO S (ao, n, cap)) w' b iv' arity (bJ aC LL ss) /\ ∀ k, iv'.ownBlock = some k -> iv.ownBlock = some k \/ w1.heap.size ≤ k) := by
 have hx : RowIn w1 (ao, n, cap) ss := by
  obtain ⟨ao', cap', e, hc, _⟩ := hr.shape
  cases e
  refine ⟨⟨hn, hc⟩, by omega, fun a e _ => ?_⟩
  have e' : ao = some a := e
  subst e'
  exact hr.lt a.block rfl
 have ho : jO (ao, n, cap) (dS b iv) := fun a e _ ho => by
  have e' : ao = some a := e
  subst e'
  have h1 : w.heap.size ≤ a.block := hr.block a.block rfl
  have h2 : a.block < w.heap.size := by
   obtain ⟨con, zs, hc, hs, hl⟩ := h
   rcases ho with ho | ho
   ·rw [ho]; exact hs.blk.lt
   ·exact hs.row.lt _ ho
  omega
 obtain ⟨con, zs, hc, hs, hlz, hd, ex, hz, e1, e2⟩ := (h.ext hk).open hst hx ho
 have hzl : zs.length = LL.length := by rw [<- hlz]; simp
 refine (wX (jK con) (ao, n, cap) hd hz hs (by omega)).mono ?_
 rintro e w2 ⟨v, rfl, hk2, rfl, iv', hs2, hiv⟩
 refine RetF.mk hk2 ⟨by rw [e1], iv', ?_, hiv⟩
 have hsame : Same (lO S (ao, n, cap)) w1 w2 := hk2.same hs.inS fun k h1 h2 => hs.notS k h2 h1
 have := RowsAt.of_set hc hsame hs2
 rwa [<- aC7 con zs (ao, n, cap), hlz, ex] at this
end
end Go.Proofs.YtinnmeiphbdogaaGreat
namespace Go.Proofs.YtinnmeiphbdogaaGreat
open Go.RowKit
section
variable {S : Nat -> Prop} {w w' : World} {b : Nat} {iv : Value} {arity : Nat} {LL : List (List ByteArray)}
def RowsAdded (S : Nat -> Prop) (w : World) (b : Nat) (iv : Value) (arity : Nat) (LL : List (List ByteArray)) (ss : List ByteArray) (w' : World) (v : Value) : Prop :=
 v = .tuple #[.bool (aZ arity LL ss).1, .int .i64 ((aZ arity LL ss).2 : Nat)] /\
  ∃ S' iv', (∀ k, S k -> S' k) /\ (∀ k, S' k -> S k \/ w.heap.size ≤ k) /\ RowsAt S' w' b iv' arity (bM arity LL ss) /\ ∀ k, iv'.ownBlock = some k -> iv.ownBlock = some k \/ w.heap.size ≤ k
theorem RowsAdded.same (h : RowsAt S w b iv arity LL) {ss : List ByteArray} {w1 : World} (hk : Ext w w1) {v : Value} (hv : v = .tuple #[.bool (aZ arity LL ss).1, .int .i64 ((aZ arity LL ss).2 : Nat)]) (h0 : bM arity LL ss = LL) : RowsAdded S w b iv arity LL ss w1 v :=
 ⟨hv, S, iv, fun _ h => h, fun _ h => .inl h, by rw [h0]; exact h.ext hk, fun _ h => .inl h⟩
set_option maxRecDepth 100000 in
set_option maxHeartbeats 2000000 in
theorem mV (h : RowsAt S w b iv arity LL) (hst : Strict aC LL) {ao : Option Addr} {n cap : Nat} {ss : List ByteArray} (hx : RowIn w (ao, n, cap) ss) (ho : jO (ao, n, cap) (dS b iv)) (hLL : LL.length + 1 ≤ 1048576 * 1048576) :
 Calls Tryz.prog 88 #[.pointer (some ⟨b, 0, none⟩), .slice ao n cap] w (RetF (dS b iv) w (RowsAdded S w b iv arity LL ss)) := by
 have hn : n = ss.length := hx.1.1
 have hcs : CellsAt w ao (strs ss) := hx.1.2
 have hl : ss.length ≤ 8796093021952 := hx.2.1
 have c2 : w.cell? ⟨b, 2, none⟩ = some (.int .i64 arity) := by rw [h.blk.cell']; rfl
 have HT := qH (rM ss ao n cap w hn hcs (by omega))
 have HH := qH (fun w1 (hw : Ext w w1) => mU (h.ext hw) hst (x := (ao, n, cap)) (ss := ss) ⟨⟨hn, hcs.ext hw⟩, hl, fun a e hne => Nat.lt_of_lt_of_le (hx.2.2 a e hne) hw.size⟩ ho)
 have HLN := qH (fun w1 (hw : Ext w w1) => sO (h.ext hw))
 have HS := qH (fun w1 (hw : Ext w w1) => gY (h.ext hw))
 have HCL := qH (fun w1 (hw : Ext w w1) => iO (strs ss) ao cap w1 n (by simp [strs, hn]) (hcs.ext hw) (kL ss) (by omega))
 have HP := qH (fun w0 w1 ao1 cap1 (hw : Ext w w0) (hk : Ext w0 w1) hr => aFu (w := w0) (w1 := w1) (ao := ao1) (n := n) (cap := cap1) (h.ext hw) hst hk hr hn (by omega) hLL)
 have H := qH h
 have HN := qH hn
 clear h hst hx ho hcs hn
 obtain ⟨m, em⟩ : ∃ m, m = LL.length := ⟨_, rfl⟩
 rw [<- em] at HLN hLL
 have EM := qH em; clear em hLL
 by_cases h1 : n = arity
 ·have q1 : ((n : Int) != (arity : Int)) = false := by simp [h1]
  have H1 := qH h1; clear h1
  cases ht : bQ ss with
  | false =>
   have HTX := qH ht
   rw [ht] at HT; clear ht
   go_enter Tryz.func88, Tryz.ntmps88
   go_wp2_with fail
   refine HT.out.mono ?_
   rintro e w1 ⟨v, rfl, hk, rfl⟩
   have HK := qH hk; clear hk
   go_wp2
   go_ret2
   have e0 : aZ arity LL ss = (false, 31) := by unfold aZ; rw [if_neg (by rw [<- HN.out, H1.out]; simp), if_pos HTX.out]
   exact RetF.mk (Ext.kp HK.out) (RowsAdded.same H.out HK.out (by rw [e0]; rfl) (by unfold bM; rw [e0]; rfl))
  | true =>
   have HTX := qH ht
   rw [ht] at HT; clear ht
   by_cases hf : 65536 ≤ m
   ·have q2 : decide ((65536 : Int) ≤ (m : Int)) = true := by rw [decide_eq_true_iff]; omega
    have HF := qH hf; clear hf
    cases hi : bC aC LL ss with
    | false =>
     have HI := qH hi
     rw [hi] at HH; clear hi
     go_enter Tryz.func88, Tryz.ntmps88
     go_wp2_with fail
     refine HT.out.mono ?_
     rintro e w0 ⟨v, rfl, hk0, rfl⟩
     go_wp2_with fail
     refine (HLN.out w0 hk0).mono ?_
     rintro e w' ⟨rfl, rfl⟩
     go_wp2_with fail
     refine (HH.out w0 hk0).mono ?_
     rintro e w1 ⟨v, rfl, hk01, rfl⟩
     have hk1 := hk0.trans hk01
     clear hk0 hk01
     have HK := qH hk1; clear hk1
     go_wp2
     go_ret2
     have e0 : aZ arity LL ss = (false, 4) := by unfold aZ; rw [if_neg (by rw [<- HN.out, H1.out]; simp), if_neg (by rw [HTX.out]; simp), if_pos ⟨EM.out ▸ HF.out, HI.out⟩]
     exact RetF.mk (Ext.kp HK.out) (RowsAdded.same H.out HK.out (by rw [e0]; rfl) (by unfold bM; rw [e0]; rfl))
    | true =>
     have HI := qH hi
     rw [hi] at HH; clear hi
     go_enter Tryz.func88, Tryz.ntmps88
     go_wp2_with fail
     refine HT.out.mono ?_
     rintro e w0 ⟨v, rfl, hk0, rfl⟩
     go_wp2_with fail
     refine (HLN.out w0 hk0).mono ?_
     rintro e w' ⟨rfl, rfl⟩
     go_wp2_with fail
     refine (HH.out w0 hk0).mono ?_
     rintro e w1 ⟨v, rfl, hk01, rfl⟩
     have hk1 := hk0.trans hk01
     clear hk0 hk01
     go_wp2_with fail
     refine (HS.out w1 hk1).mono ?_
     rintro e w' ⟨rfl, rfl⟩
     go_wp2_with fail
     refine (HCL.out w1 hk1).mono ?_
     rintro e w2 ⟨v, rfl, hk2, hr2⟩
     obtain ⟨ao2, cap2, ev, _, _⟩ := hr2.shape
     subst ev
     go_wp2_with fail
     refine (HP.out w1 w2 ao2 cap2 hk1 hk2 hr2).mono ?_
     rintro e w3 ⟨v, rfl, hk3, rfl, iv', hrows, hiv⟩
     have HR := qH (And.intro hk3 (And.intro hrows hiv))
     have hb2 := hr2.block
     clear hk3 hrows hiv hr2
     go_wp2
     go_ret2
     have e0 : aZ arity LL ss = (!bC aC LL ss, 0) := by unfold aZ; rw [if_neg (by rw [<- HN.out, H1.out]; simp), if_neg (by rw [HTX.out]; simp), if_neg (fun h => by rw [HI.out] at h; cases h.2)]
     have z1 := hk1.size
     have z2 := hk2.size
     refine RetF.mk ((Ext.kp (hk1.trans hk2)).trans HR.out.1) ⟨by rw [e0]; rfl, lO S (ao2, n, cap2), iv', fun k h => .inl h, fun k h => ?_, by unfold bM; rw [e0]; exact HR.out.2.1, fun k h => (HR.out.2.2 k h).imp id (fun h => by omega)⟩
     rcases h with h | ⟨a, e, _, rfl⟩
     ·exact .inl h
     ·have e' : ao2 = some a := e
      subst e'
      have := hb2 a.block rfl
      exact .inr (Nat.le_trans z1 this)
   ·have q2 : decide ((65536 : Int) ≤ (m : Int)) = false := by rw [decide_eq_false_iff_not]; omega
    have HF := qH hf; clear hf
    go_enter Tryz.func88, Tryz.ntmps88
    go_wp2_with fail
    refine HT.out.mono ?_
    rintro e w1 ⟨v, rfl, hk1, rfl⟩
    go_wp2_with fail
    refine (HLN.out w1 hk1).mono ?_
    rintro e w' ⟨rfl, rfl⟩
    go_wp2_with fail
    refine (HS.out w1 hk1).mono ?_
    rintro e w' ⟨rfl, rfl⟩
    go_wp2_with fail
    refine (HCL.out w1 hk1).mono ?_
    rintro e w2 ⟨v, rfl, hk2, hr2⟩
    obtain ⟨ao2, cap2, ev, _, _⟩ := hr2.shape
    subst ev
    go_wp2_with fail
    refine (HP.out w1 w2 ao2 cap2 hk1 hk2 hr2).mono ?_
    rintro e w3 ⟨v, rfl, hk3, rfl, iv', hrows, hiv⟩
    have HR := qH (And.intro hk3 (And.intro hrows hiv))
    have hb2 := hr2.block
    clear hk3 hrows hiv hr2
    go_wp2
    go_ret2
    have e0 : aZ arity LL ss = (!bC aC LL ss, 0) := by unfold aZ; rw [if_neg (by rw [<- HN.out, H1.out]; simp), if_neg (by rw [HTX.out]; simp), if_neg (fun h => HF.out (EM.out ▸ h.1))]
    have z1 := hk1.size
    have z2 := hk2.size
    refine RetF.mk ((Ext.kp (hk1.trans hk2)).trans HR.out.1) ⟨by rw [e0]; rfl, lO S (ao2, n, cap2), iv', fun k h => .inl h, fun k h => ?_, by unfold bM; rw [e0]; exact HR.out.2.1, fun k h => (HR.out.2.2 k h).imp id (fun h => by omega)⟩
    rcases h with h | ⟨a, e, _, rfl⟩
    ·exact .inl h
    ·have e' : ao2 = some a := e
     subst e'
     have := hb2 a.block rfl
     exact .inr (Nat.le_trans z1 this)
 ·have q1 : ((n : Int) != (arity : Int)) = true := by rw [bne_iff_ne]; omega
  have H1 := qH h1; clear h1
  go_enter Tryz.func88, Tryz.ntmps88
  go_wp2
  go_ret2
  have e0 : aZ arity LL ss = (false, 30) := by unfold aZ; rw [if_pos (by rw [<- HN.out]; exact H1.out)]
  exact RetF.mk (Kp.refl _) (RowsAdded.same H.out (Kp.refl _) (by rw [e0]; rfl) (by unfold bM; rw [e0]; rfl))
end
end Go.Proofs.YtinnmeiphbdogaaGreat
/- Bases in plain Lean: names, each with its rows: what is declared, what is added, what relations make. No program in sight. -/
namespace Go.Proofs.YtinnmeiphbdogaaGreat
abbrev aV := ByteArray × Nat × List (List ByteArray)
abbrev iJ := ByteArray × Int × List (List ByteArray) × Unit
abbrev aD := List (List ByteArray)
theorem cC : OrdLaw aC := jK id
theorem iN : aDa aC := fun _ _ h => kA h
def bD (C : List aV) (s : ByteArray) : Option (Nat × aD) := (C.find? fun p => decide (p.1 = s)).map (·.2)
def pM (C : List aV) (s : ByteArray) (v : Nat × aD) : List aV := if (bD C s).isSome then C.map fun p => if p.1 = s then (p.1, v) else p else C ++ [(s, v)]
def aS (C : List aV) : Nat := (C.map fun p => p.2.2.length).sum
def bY (s : ByteArray) : Bool := decide (1 ≤ s.size /\ s.size ≤ 4096)
def dR (C : List aV) (s : ByteArray) (a : Int) : Nat := if bY s = false then 32 else if a < 0 \/ 64 < a then 2 else match bD C s with | some v => if (v.1 : Int) = a then 0 else 30 | none => 0
def eF (C : List aV) (s : ByteArray) (a : Int) : List aV := if dR C s a = 0 /\ bD C s = none then C ++ [(s, a.toNat, [])] else C
def aP (C : List aV) (s : ByteArray) : aD := match bD C s with | some v => v.2 | none => []
def rH (C : List aV) (s : ByteArray) (row : List ByteArray) : Bool := match bD C s with | some v => decide (v.1 = row.length) | none => decide (row.length ≤ 64)
def eO (C : List aV) (s : ByteArray) (row : List ByteArray) : Bool × Nat :=
 if bY s = false then (false, 32) else
 if rH C s row = false then (false, 30) else
 if bQ row = false then (false, 31) else
 if 262144 ≤ aS C /\ bC aC (aP C s) row = false then (false, 4) else
 if 65536 ≤ (aP C s).length /\ bC aC (aP C s) row = false then (false, 4) else (!bC aC (aP C s) row, 0)
def mA (C : List aV) (s : ByteArray) (row : List ByteArray) : List aV := if (eO C s row).2 = 0 then pM C s (row.length, bJ aC (aP C s) row) else C
def dB (C : List aV) (s : ByteArray) : aD -> List aV × Nat
 | [] => (C, 0)
 | r :: rs => if (eO C s r).2 = 0 then dB (mA C s r) s rs else (C, (eO C s r).2)
def cD (C : List aV) : List iJ -> List aV × Nat
 | [] => (C, 0)
 | r :: rs => if dR C r.1 r.2.1 = 0 then (if (dB (eF C r.1 r.2.1) r.1 r.2.2.1).2 = 0 then cD (dB (eF C r.1 r.2.1) r.1 r.2.2.1).1 rs else dB (eF C r.1 r.2.1) r.1 r.2.2.1) else (C, dR C r.1 r.2.1)
structure CntOk (p : aV) : Prop where
 name : bY p.1 = true
 ar : p.2.1 ≤ 64
 strict : Strict aC p.2.2
 len : ∀ r ∈ p.2.2, r.length = p.2.1
 txt : ∀ r ∈ p.2.2, bQ r = true
 few : p.2.2.length ≤ 65536
structure BaseOk (C : List aV) : Prop where
 nodup : (C.map (·.1)).Nodup
 all : ∀ p ∈ C, CntOk p
 few : aS C ≤ 262144
theorem cV {C : List aV} (h : (C.map (·.1)).Nodup) {s : ByteArray} {v : Nat × aD} : bD C s = some v ↔ (s, v) ∈ C := by
 unfold bD
 induction C with
 | nil => simp
 | cons p C ih =>
  rw [List.map_cons, List.nodup_cons] at h
  by_cases e : p.1 = s
  ·rw [List.find?_cons_of_pos (by simp [e])]
   subst e
   simp only [Option.map_some, Option.some.injEq, List.mem_cons]
   constructor
   ·rintro rfl; exact .inl rfl
   ·rintro (h1 | h1)
    ·rw [<- h1]
    ·exact absurd (List.mem_map.2 ⟨_, h1, rfl⟩) h.1
  ·rw [List.find?_cons_of_neg (by simp [e]), ih h.2, List.mem_cons]
   constructor
   ·exact .inr
   ·rintro (h1 | h1)
    ·exact absurd (by rw [<- h1]) e
    ·exact h1
theorem iT {C : List aV} {s : ByteArray} : bD C s = none ↔ s ∉ C.map (·.1) := by
 unfold bD
 rw [Option.map_eq_none_iff, List.find?_eq_none]
 constructor
 ·intro h hm
  obtain ⟨p, hp, rfl⟩ := List.mem_map.1 hm
  exact h p hp (by simp)
 ·intro h p hp hd
  exact h (List.mem_map.2 ⟨p, hp, by simpa using hd⟩)
theorem aCh {C : List aV} {s t : ByteArray} {v : Nat × aD} (h : bD C s = none) : bD (C ++ [(s, v)]) t = if s = t then some v else bD C t := by
 unfold bD at *
 rw [List.find?_append]
 by_cases e : s = t
 ·subst e
  rw [Option.map_eq_none_iff] at h
  rw [h, if_pos rfl]; simp
 ·rw [if_neg e]
  cases hc : C.find? (fun p => decide (p.1 = t)) with
  | none => simp [e]
  | some x => simp
theorem aCg {C : List aV} {s t : ByteArray} {v : Nat × aD} : bD (pM C s v) t = if s = t then some v else bD C t := by
 unfold pM
 cases hg : bD C s with
 | none => rw [if_neg (by simp)]; exact aCh hg
 | some u =>
  rw [if_pos (by simp)]
  unfold bD at *
  rw [List.find?_map]
  have hf : ((fun p : aV => decide (p.1 = t)) ∘ fun p : aV => if p.1 = s then (p.1, v) else p) = fun p => decide (p.1 = t) := by
   funext p; simp only [Function.comp]; split <;> rfl
  rw [hf]
  by_cases e : s = t
  ·subst e
   rw [if_pos rfl]
   cases hc : C.find? (fun p => decide (p.1 = s)) with
   | none => rw [hc] at hg; cases hg
   | some x =>
    have hx := List.find?_some hc
    simp only [decide_eq_true_eq] at hx
    simp [hx]
  ·rw [if_neg e]
   cases hc : C.find? (fun p => decide (p.1 = t)) with
   | none => rfl
   | some x =>
    have hx := List.find?_some hc
    simp only [decide_eq_true_eq] at hx
    have hne : ¬ x.1 = s := fun e2 => e (by rw [<- e2, hx])
    simp [hne]
theorem aGn {C : List aV} {s : ByteArray} {v : Nat × aD} : (pM C s v).map (·.1) = if (bD C s).isSome then C.map (·.1) else C.map (·.1) ++ [s] := by
 unfold pM
 split
 ·rw [List.map_map]
  apply List.map_congr_left
  intro p _
  simp only [Function.comp]; split <;> rfl
 ·simp
theorem aGz {C : List aV} (h : (C.map (·.1)).Nodup) (s : ByteArray) (v : Nat × aD) : ((pM C s v).map (·.1)).Nodup := by
 rw [aGn]
 split
 ·exact h
 ·rename_i hn
  have h0 : bD C s = none := by
   cases hg : bD C s with
   | none => rfl
   | some u => rw [hg] at hn; simp at hn
  exact List.nodup_append.2 ⟨h, by simp, fun a ha b hb e => iT.1 h0 (by rw [List.mem_singleton] at hb; rw [<- hb, <- e]; exact ha)⟩
theorem aK5 {C : List aV} {s : ByteArray} {v : Nat × aD} {p : aV} (h : p ∈ pM C s v) : p = (s, v) \/ p ∈ C := by
 unfold pM at h
 split at h
 ·obtain ⟨q, hq, e⟩ := List.mem_map.1 h
  split at e
  ·rename_i e2; left; rw [<- e, e2]
  ·right; rw [<- e]; exact hq
 ·rcases List.mem_append.1 h with h | h
  ·exact .inr h
  ·left; simpa using h
theorem kO {C : List aV} {s : ByteArray} (h : bD C s = none) : aP C s = [] := by unfold aP; rw [h]
theorem kM {C : List aV} {s : ByteArray} {v : Nat × aD} (h : bD C s = some v) : aP C s = v.2 := by unfold aP; rw [h]
theorem aI0 {C : List aV} {s t : ByteArray} {v : Nat × aD} : aP (pM C s v) t = if s = t then v.2 else aP C t := by
 unfold aP
 rw [aCg]
 by_cases e : s = t
 ·rw [if_pos e, if_pos e]
 ·rw [if_neg e, if_neg e]
theorem aF8 {C : List aV} {s : ByteArray} {row : List ByteArray} (h : (eO C s row).2 = 0) : bY s = true /\ rH C s row = true := by
 unfold eO at h
 split at h
 ·cases h
 ·rename_i h1
  split at h
  ·cases h
  ·rename_i h2
   exact ⟨by simpa using h1, by simpa using h2⟩
theorem aFd {C : List aV} {s : ByteArray} {row : List ByteArray} (h : (eO C s row).2 = 0) : bQ row = true /\ (262144 ≤ aS C -> bC aC (aP C s) row = true) /\ (65536 ≤ (aP C s).length -> bC aC (aP C s) row = true) := by
 unfold eO at h
 split at h
 ·cases h
 ·split at h
  ·cases h
  ·split at h
   ·cases h
   ·rename_i h3
    split at h
    ·cases h
    ·rename_i h4
     split at h
     ·cases h
     ·rename_i h5
      refine ⟨by simpa using h3, fun h6 => ?_, fun h6 => ?_⟩
      ·cases hi : bC aC (aP C s) row with
       | true => rfl
       | false => exact absurd ⟨h6, hi⟩ h4
      ·cases hi : bC aC (aP C s) row with
       | true => rfl
       | false => exact absurd ⟨h6, hi⟩ h5
theorem aBd {C : List aV} (h : BaseOk C) (s : ByteArray) : Strict aC (aP C s) := by
 cases hg : bD C s with
 | none => rw [kO hg]; exact gN
 | some v => rw [kM hg]; exact (h.all _ ((cV h.nodup).1 hg)).strict
theorem aEh {C : List aV} (h : BaseOk C) {s : ByteArray} {row : List ByteArray} : bC aC (aP C s) row = true ↔ row ∈ aP C s := qX cC iN
theorem xP {C : List aV} (hn : (C.map (·.1)).Nodup) {s : ByteArray} {v : Nat × aD} : aS (pM C s v) + (aP C s).length = aS C + v.2.length := by
 unfold pM
 cases hg : bD C s with
 | none => rw [if_neg (by simp), kO hg]; simp [aS]
 | some u =>
  rw [if_pos (by simp), kM hg]
  have hm : ∀ (D : List aV), (D.map (·.1)).Nodup -> (s, u) ∈ D -> aS (D.map fun p => if p.1 = s then (p.1, v) else p) + u.2.length = aS D + v.2.length := by
   intro D
   induction D with
   | nil => intro _ h; cases h
   | cons p D ih =>
    intro hnd hin
    rw [List.map_cons, List.nodup_cons] at hnd
    simp only [aS, List.map_cons, List.sum_cons] at ih ⊢
    by_cases e : p.1 = s
    ·have hp : p = (s, u) := by
      rcases List.mem_cons.1 hin with h | h
      ·exact h.symm
      ·exact absurd (List.mem_map.2 ⟨_, h, rfl⟩) (by rw [<- e] at h ⊢; exact hnd.1)
     have hid : (D.map fun q : aV => if q.1 = s then (q.1, v) else q) = D := by
      conv => rhs; rw [<- List.map_id D]
      apply List.map_congr_left
      intro q hq
      have : ¬ q.1 = s := fun e2 => hnd.1 (List.mem_map.2 ⟨q, hq, by rw [e2, e]⟩)
      rw [if_neg this]; rfl
     rw [hid, if_pos e, hp]; dsimp only; omega
    ·have h1 : (s, u) ∈ D := by
      rcases List.mem_cons.1 hin with h | h
      ·exact absurd (by rw [<- h]) e
      ·exact h
     have := ih hnd.2 h1
     rw [if_neg e]; omega
  exact hm C hn ((cV hn).1 hg)
theorem qM {C : List aV} (h : BaseOk C) (s : ByteArray) (a : Int) : BaseOk (eF C s a) := by
 unfold eF
 split
 ·rename_i hc
  obtain ⟨h1, h2⟩ := hc
  have hn : bY s = true /\ 0 ≤ a /\ a ≤ 64 := by
   unfold dR at h1
   split at h1
   ·cases h1
   ·rename_i e1
    split at h1
    ·cases h1
    ·rename_i e2
     exact ⟨by simpa using e1, by omega, by omega⟩
  refine ⟨?_, fun p hp => ?_, ?_⟩
  ·rw [List.map_append]
   exact List.nodup_append.2 ⟨h.nodup, by simp, fun x hx y hy e => iT.1 h2 (by
    have : y = s := by simpa using hy
    rw [<- this, <- e]; exact hx)⟩
  ·rcases List.mem_append.1 hp with hp | hp
   ·exact h.all p hp
   ·have e : p = (s, a.toNat, []) := by simpa using hp
    subst e
    exact ⟨hn.1, show a.toNat ≤ 64 by omega, gN, fun r hr => (by cases hr), fun r hr => (by cases hr), Nat.zero_le _⟩
  ·have e : aS (C ++ [(s, a.toNat, [])]) = aS C := by simp [aS]
   rw [e]; exact h.few
 ·exact h
theorem kY {C : List aV} {s t : ByteArray} {a : Int} (h : dR C s a = 0) : bD (eF C s a) t = if s = t /\ bD C s = none then some (a.toNat, []) else bD C t := by
 unfold eF
 cases hg : bD C s with
 | none =>
  rw [if_pos ⟨h, rfl⟩, aCh hg]
  by_cases e : s = t
  ·rw [if_pos e, if_pos ⟨e, rfl⟩]
  ·rw [if_neg e, if_neg (fun k => e k.1)]
 | some v => rw [if_neg (fun k => by cases k.2), if_neg (fun k => by cases k.2)]
theorem aLf {C : List aV} {s : ByteArray} {a : Int} (h : dR C s a = 0) : ∃ LL, bD (eF C s a) s = some (a.toNat, LL) /\ 0 ≤ a /\ a ≤ 64 /\ bY s = true := by
 have h0 := h
 unfold dR at h
 split at h
 ·cases h
 ·rename_i e1
  split at h
  ·cases h
  ·rename_i e2
   cases hg : bD C s with
   | none => exact ⟨[], by rw [kY h0, if_pos ⟨rfl, hg⟩], by omega, by omega, by simpa using e1⟩
   | some v =>
    rw [hg] at h
    have h1 : (v.1 : Int) = a := by
     by_cases e : (v.1 : Int) = a
     ·exact e
     ·simp [e] at h
    refine ⟨v.2, ?_, by omega, by omega, by simpa using e1⟩
    rw [kY h0, if_neg (fun k => by rw [hg] at k; cases k.2), hg]
    have : v.1 = a.toNat := by omega
    rw [<- this]
theorem aGq {C : List aV} {s t : ByteArray} {a : Int} (h : dR C s a = 0) : aP (eF C s a) t = aP C t := by
 unfold aP
 rw [kY h]
 by_cases e : s = t /\ bD C s = none
 ·rw [if_pos e, <- e.1, e.2]
 ·rw [if_neg e]
theorem zY {C : List aV} (h : BaseOk C) (s : ByteArray) (row : List ByteArray) : BaseOk (mA C s row) := by
 unfold mA
 split
 ·rename_i h0
  obtain ⟨t1, t2, t3⟩ := aFd h0
  obtain ⟨n1, n4⟩ := aF8 h0
  have n2 : ∀ v, bD C s = some v -> v.1 = row.length := fun v hv => by
   unfold rH at n4; rw [hv] at n4; exact of_decide_eq_true n4
  have n3 : row.length ≤ 64 := by
   cases hg : bD C s with
   | none => unfold rH at n4; rw [hg] at n4; exact of_decide_eq_true n4
   | some v =>
    have h1 : v.1 ≤ 64 := (h.all _ ((cV h.nodup).1 hg)).ar
    have := n2 v hg
    omega
  ·have hst := aBd h s
   have hlen : ∀ r ∈ aP C s, r.length = row.length /\ bQ r = true := fun r hr => by
    cases hg : bD C s with
    | none => rw [kO hg] at hr; cases hr
    | some v =>
     rw [kM hg] at hr
     have hp := h.all _ ((cV h.nodup).1 hg)
     exact ⟨(hp.len r hr).trans (n2 v hg), hp.txt r hr⟩
   have hfew : (aP C s).length ≤ 65536 := by
    cases hg : bD C s with
    | none => rw [kO hg]; exact Nat.zero_le _
    | some v => rw [kM hg]; exact (h.all _ ((cV h.nodup).1 hg)).few
   have hl := oE (c := aC) (aP C s) row
   refine ⟨aGz h.nodup _ _, fun p hp => ?_, ?_⟩
   ·rcases aK5 hp with rfl | hp
    ·refine ⟨n1, n3, hst.add cC row, fun r hr => ?_, fun r hr => ?_, ?_⟩
     ·rcases (dT (c := aC)).1 hr with hr | ⟨rfl, _⟩
      ·exact (hlen r hr).1
      ·rfl
     ·rcases (dT (c := aC)).1 hr with hr | ⟨rfl, _⟩
      ·exact (hlen r hr).2
      ·exact t1
     ·show (bJ aC (aP C s) row).length ≤ 65536
      rw [hl]
      split
      ·omega
      ·rename_i hi
       have : ¬ 65536 ≤ (aP C s).length := fun k => hi (t3 k)
       omega
    ·exact h.all p hp
   ·have := xP h.nodup (s := s) (v := (row.length, bJ aC (aP C s) row))
    have hf := h.few
    rw [hl] at this
    split at this
    ·omega
    ·rename_i hi
     have : ¬ 262144 ≤ aS C := fun k => hi (t2 k)
     omega
 ·exact h
theorem aIh {C : List aV} (h : BaseOk C) {s : ByteArray} {row : List ByteArray} (h0 : (eO C s row).2 = 0) : bY s = true /\ ∀ v, bD C s = some v -> v.1 = row.length := by
 obtain ⟨n1, n4⟩ := aF8 h0
 exact ⟨n1, fun v hv => by unfold rH at n4; rw [hv] at n4; exact of_decide_eq_true n4⟩
theorem aI2 {C : List aV} (h : BaseOk C) {s t : ByteArray} {row x : List ByteArray} (h0 : (eO C s row).2 = 0) : x ∈ aP (mA C s row) t ↔ x ∈ aP C t \/ (s = t /\ x = row) := by
 unfold mA
 rw [if_pos h0, aI0]
 by_cases e : s = t
 ·subst e
  rw [if_pos rfl]
  show x ∈ bJ aC (aP C s) row ↔ _
  rw [dT]
  constructor
  ·rintro (h1 | ⟨h1, _⟩)
   ·exact .inl h1
   ·exact .inr ⟨rfl, h1⟩
  ·rintro (h1 | ⟨_, h1⟩)
   ·exact .inl h1
   ·cases hi : bC aC (aP C s) row with
    | true => left; rw [h1]; exact (aEh h).1 hi
    | false => exact .inr ⟨h1, rfl⟩
 ·rw [if_neg e]
  constructor
  ·exact .inl
  ·rintro (h1 | ⟨h1, _⟩)
   ·exact h1
   ·exact absurd h1 e
theorem aIe {C : List aV} (h : BaseOk C) {s t : ByteArray} {row : List ByteArray} (h0 : (eO C s row).2 = 0) (hs : ∃ v, bD C s = some v) : (bD (mA C s row) t).map (·.1) = (bD C t).map (·.1) := by
 unfold mA
 rw [if_pos h0, aCg]
 by_cases e : s = t
 ·subst e
  rw [if_pos rfl]
  obtain ⟨v, hv⟩ := hs
  rw [hv]
  simp [(aIh h h0).2 v hv]
 ·rw [if_neg e]
structure InC (C D : List aV) : Prop where
 ar : ∀ s v, bD C s = some v -> ∃ LL, bD D s = some (v.1, LL)
 rows : ∀ s r, r ∈ aP C s -> r ∈ aP D s
end Go.Proofs.YtinnmeiphbdogaaGreat
/- Tries as levels of starts: plain. -/
namespace Go.Proofs.YtinnmeiphbdogaaGreat
def cY (W : aD) (i n : Nat) : Bool := n == 0 || decide ((W.getD (n - 1) []).take i ≠ (W.getD n []).take i)
def aW (W : aD) (d i n : Nat) : List Nat := if i < d then (List.range n).filter fun k => cY W (i + 1) k else List.range n
theorem mK (W : aD) {d i n : Nat} (hi : i < d) : aW W d i (n + 1) = aW W d i n ++ if cY W (i + 1) n then [n] else [] := by
 unfold aW
 rw [if_pos hi, if_pos hi, List.range_succ, List.filter_append]
 congr 1
 simp only [List.filter_cons, List.filter_nil]
theorem mL (W : aD) {d i n : Nat} (hi : ¬ i < d) : aW W d i n = List.range n := if_neg hi
theorem dH (W : aD) (d i n : Nat) : (aW W d i n).length ≤ n := by
 unfold aW
 split
 ·exact Nat.le_trans (List.length_filter_le _ _) (by rw [List.length_range]; exact Nat.le_refl _)
 ·rw [List.length_range]; exact Nat.le_refl _
def bR (W : aD) (d i n : Nat) : List ByteArray := (aW W d i n).map fun k => (W.getD k []).getD i ByteArray.empty
def aQ (W : aD) (d i n : Nat) : Nat := (aW W d i n).length
def bX (W : aD) (d i n : Nat) : List Int := (aW W d i n).map fun k => (aQ W d (i + 1) k : Int)
theorem fH (W : aD) (d i n : Nat) : (bR W d i n).length = aQ W d i n := by unfold bR aQ; rw [List.length_map]
theorem iD (W : aD) (d i n : Nat) : (bX W d i n).length = aQ W d i n := by unfold bX aQ; rw [List.length_map]
theorem aBp (W : aD) (i : Nat) : cY W i 0 = true := rfl
theorem eI {W : aD} {i n : Nat} : cY W i n = true ↔ n = 0 \/ (W.getD (n - 1) []).take i ≠ (W.getD n []).take i := by
 unfold cY
 rw [Bool.or_eq_true, decide_eq_true_iff, beq_iff_eq]
theorem bI {α : Type} {l : List α} {i : Nat} {x d : α} (h : l[i]? = some x) : l.getD i d = x := by rw [List.getD_eq_getElem?_getD, h]; rfl
theorem aDz {W : aD} {i n : Nat} {x y : List ByteArray} (hn : 0 < n) (hx : W[n - 1]? = some x) (hy : W[n]? = some y) (h1 : i < x.length) (h2 : i < y.length) : cY W (i + 1) n = (cY W i n || decide (x[i] ≠ y[i])) := by
 rw [Bool.eq_iff_iff, Bool.or_eq_true, decide_eq_true_iff, eI, eI, bI hx, bI hy]
 have ex : x.take (i + 1) = x.take i ++ [x[i]] := by rw [List.take_add_one, qG h1]; rfl
 have ey : y.take (i + 1) = y.take i ++ [y[i]] := by rw [List.take_add_one, qG h2]; rfl
 rw [ex, ey]
 have hl : (x.take i).length = (y.take i).length := by rw [List.length_take, List.length_take]; omega
 refine ⟨fun h => ?_, fun h => .inr fun e => ?_⟩
 ·by_cases h3 : x.take i = y.take i
  ·refine .inr fun h4 => ?_
   rcases h with h | h
   ·omega
   ·exact h (by rw [h3, h4])
  ·exact .inl (.inr h3)
 ·obtain ⟨e1, e2⟩ := List.append_inj e hl
  rcases h with (h | h) | h
  ·omega
  ·exact h e1
  ·exact h (by simpa using e2)
structure WaysOk (W : aD) (d : Nat) : Prop where
 len : ∀ r ∈ W, r.length = d
 rise : Strict aC W
theorem kC : ∀ (j : Nat) {x y : List ByteArray}, x.length = y.length -> aC x y ≤ 0 -> aC (x.take j) (y.take j) ≤ 0
 | 0, _, _, _, _ => by simp [aC]
 | j + 1, [], [], _, _ => by simp [aC]
 | j + 1, [], _ :: _, h, _ => by simp at h
 | j + 1, _ :: _, [], h, _ => by simp at h
 | j + 1, a :: x, b :: y, hl, h => by
  simp only [List.take_succ_cons]
  unfold aC at h ⊢
  split at h
  ·rename_i h1
   rw [if_pos h1]; exact h
  ·rename_i h1
   rw [if_neg h1]
   exact kC j (by simpa using hl) h
theorem tK : ∀ (q : List ByteArray) (a b : ByteArray), aC (q ++ [a]) (q ++ [b]) = bG a.toList b.toList
 | [], a, b => by
  show (if bG a.toList b.toList ≠ 0 then bG a.toList b.toList else aC [] []) = _
  split
  ·rfl
  ·rename_i h
   have : bG a.toList b.toList = 0 := Classical.not_not.1 h
   rw [this]; rfl
 | c :: q, a, b => by
  show (if bG c.toList c.toList ≠ 0 then bG c.toList c.toList else aC (q ++ [a]) (q ++ [b])) = _
  rw [if_neg (by rw [eJ]; simp)]
  exact tK q a b
theorem WaysOk.le {W : aD} {d : Nat} (h : WaysOk W d) {m n : Nat} {x y : List ByteArray} (hx : W[m]? = some x) (hy : W[n]? = some y) (hmn : m ≤ n) : aC x y ≤ 0 := by
 rcases Nat.lt_or_eq_of_le hmn with h1 | h1
 ·obtain ⟨l1, e1⟩ := List.getElem?_eq_some_iff.1 hx
  obtain ⟨l2, e2⟩ := List.getElem?_eq_some_iff.1 hy
  have := List.pairwise_iff_getElem.1 h.rise m n l1 l2 h1
  rw [e1, e2] at this; omega
 ·subst h1
  rw [hx] at hy; cases hy
  rw [tL]; omega
theorem WaysOk.between {W : aD} {d : Nat} (h : WaysOk W d) {m k n j : Nat} {x y z : List ByteArray} (hx : W[m]? = some x) (hy : W[k]? = some y) (hz : W[n]? = some z) (h1 : m ≤ k) (h2 : k ≤ n) (he : x.take j = z.take j) : y.take j = x.take j := by
 have lx := h.len x (List.mem_of_getElem? hx)
 have ly := h.len y (List.mem_of_getElem? hy)
 have lz := h.len z (List.mem_of_getElem? hz)
 have a1 := kC j (lx.trans ly.symm) (h.le hx hy h1)
 have a2 := kC j (ly.trans lz.symm) (h.le hy hz h2)
 rw [<- he] at a2
 have a3 := nX (x.take j) (y.take j)
 exact (kA (xs := x.take j) (ys := y.take j) (by omega)).symm
structure Iv (W : aD) (q : List ByteArray) (lo hi : Nat) : Prop where
 le : lo < hi
 few : hi ≤ W.length
 iff : ∀ n x, W[n]? = some x -> (x.take q.length = q ↔ lo ≤ n /\ n < hi)
theorem lM {W : aD} {d i n k : Nat} (hi : i < d) : k ∈ aW W d i n ↔ k < n /\ cY W (i + 1) k = true := by
 unfold aW
 rw [if_pos hi, List.mem_filter, List.mem_range]
theorem fQ (W : aD) (d i n : Nat) : (aW W d i n).Pairwise (· < ·) := by
 unfold aW
 split
 ·exact List.Pairwise.filter _ List.pairwise_lt_range
 ·exact List.pairwise_lt_range
theorem mJ (W : aD) (d i : Nat) {m n : Nat} (h : m ≤ n) : ∃ r, aW W d i n = aW W d i m ++ r /\ ∀ k ∈ r, m ≤ k := by
 induction n with
 | zero => exact ⟨[], by rw [show m = 0 by omega]; simp, by simp⟩
 | succ n ih =>
  by_cases e : m = n + 1
  ·subst e; exact ⟨[], by simp, by simp⟩
  ·obtain ⟨r, h1, h2⟩ := ih (by omega)
   by_cases hi : i < d
   ·rw [mK W hi, h1]
    refine ⟨r ++ (if cY W (i + 1) n then [n] else []), by rw [List.append_assoc], fun k hk => ?_⟩
    rcases List.mem_append.1 hk with hk | hk
    ·exact h2 k hk
    ·split at hk
     ·rw [List.mem_singleton] at hk; omega
     ·simp at hk
   ·rw [mL W hi] at h1 ⊢
    rw [mL W hi] at *
    rw [List.range_succ, h1]
    refine ⟨r ++ [n], by rw [List.append_assoc], fun k hk => ?_⟩
    rcases List.mem_append.1 hk with hk | hk
    ·exact h2 k hk
    ·rw [List.mem_singleton] at hk; omega
theorem lL {W : aD} {d i n k s : Nat} (h : (aW W d i n)[k]? = some s) : aQ W d i s = k /\ s < n := by
 have hk := (List.getElem?_eq_some_iff.1 h).1
 have hs : s < n := by
  have hm := List.mem_of_getElem? h
  unfold aW at hm
  split at hm
  ·exact List.mem_range.1 (List.mem_filter.1 hm).1
  ·exact List.mem_range.1 hm
 obtain ⟨r, h1, h2⟩ := mJ W d i (Nat.le_of_lt hs)
 refine ⟨?_, hs⟩
 unfold aQ
 have hp := fQ W d i n
 rcases Nat.lt_trichotomy (aW W d i s).length k with h3 | h3 | h3
 ·-- the element at the border is s or above, yet below s
  have hl : (aW W d i s).length < (aW W d i n).length := by omega
  have h4 := List.pairwise_iff_getElem.1 hp _ k hl hk h3
  rw [(List.getElem?_eq_some_iff.1 h).2] at h4
  have h5 : (aW W d i n)[(aW W d i s).length]'hl ∈ r := by
   have : (aW W d i n)[(aW W d i s).length]? = r[0]? := by rw [h1, List.getElem?_append_right (Nat.le_refl _), Nat.sub_self]
   rw [qG hl] at this
   exact List.mem_of_getElem? this.symm
  have := h2 _ h5
  omega
 ·exact h3
 ·rw [h1, List.getElem?_append_left h3] at h
  have hm := List.mem_of_getElem? h
  have : s < s := by
   unfold aW at hm
   split at hm
   ·exact List.mem_range.1 (List.mem_filter.1 hm).1
   ·exact List.mem_range.1 hm
  omega
end Go.Proofs.YtinnmeiphbdogaaGreat
/- Bindings, found variable by variable: plain. -/
namespace Go.Proofs.YtinnmeiphbdogaaGreat
section
variable {Sol : List ByteArray -> Prop} {v : Nat} {p : List ByteArray}
structure AllB (Sol : List ByteArray -> Prop) (p : List ByteArray) (L : aD) : Prop where
 rise : Strict aC L
 iff : ∀ V, V ∈ L ↔ Sol V /\ V.take p.length = p
structure PartB (Sol : List ByteArray -> Prop) (p : List ByteArray) (D : ByteArray -> Prop) (L : aD) : Prop where
 rise : Strict aC L
 iff : ∀ V, V ∈ L ↔ Sol V /\ V.take p.length = p /\ ∃ x, V[p.length]? = some x /\ D x
theorem AllB.none (h : ∀ V, Sol V -> V.take p.length = p -> False) : AllB Sol p [] :=
 ⟨gN, fun V => ⟨fun h => by simp at h, fun h1 => (h V h1.1 h1.2).elim⟩⟩
theorem AllB.one (hs : Sol p) (hl : ∀ V, Sol V -> V.length = p.length) : AllB Sol p [p] :=
 ⟨List.pairwise_singleton _ _, fun V => ⟨fun h => by
  rw [List.mem_singleton] at h; subst h
  exact ⟨hs, List.take_length⟩, fun ⟨h1, h2⟩ => by
  rw [List.mem_singleton, <- h2, List.take_of_length_le (Nat.le_of_eq (hl V h1))]⟩⟩
theorem AllB.unique {L L' : aD} (h : AllB Sol p L) (h' : AllB Sol p L') : L = L' := Strict.unique cC h.rise h'.rise fun V => (h.iff V).trans (h'.iff V).symm
theorem PartB.none {D : ByteArray -> Prop} (h : ∀ V, Sol V -> V.take p.length = p -> ∀ x, V[p.length]? = some x -> ¬ D x) : PartB Sol p D [] :=
 ⟨gN, fun V => ⟨fun h => by simp at h, fun ⟨h1, h2, x, h3, h4⟩ => (h V h1 h2 x h3 h4).elim⟩⟩
theorem PartB.all {D : ByteArray -> Prop} {L : aD} (h : PartB Sol p D L) (hd : ∀ V, Sol V -> V.take p.length = p -> ∃ x, V[p.length]? = some x /\ D x) : AllB Sol p L :=
 ⟨h.rise, fun V => (h.iff V).trans ⟨fun ⟨h1, h2, _⟩ => ⟨h1, h2⟩, fun ⟨h1, h2⟩ => ⟨h1, h2, hd V h1 h2⟩⟩⟩
theorem nY : ∀ (q : List ByteArray) (a b : ByteArray) (r s : List ByteArray), bG a.toList b.toList < 0 -> aC (q ++ a :: r) (q ++ b :: s) < 0
 | [], a, b, r, s, h => by
  show (if bG a.toList b.toList ≠ 0 then bG a.toList b.toList else aC r s) < 0
  rw [if_pos (by omega)]; exact h
 | c :: q, a, b, r, s, h => by
  show (if bG c.toList c.toList ≠ 0 then bG c.toList c.toList else aC (q ++ a :: r) (q ++ b :: s)) < 0
  rw [if_neg (by rw [eJ]; simp)]
  exact nY q a b r s h
theorem pY {V q : List ByteArray} {x : ByteArray} (h : V.take q.length = q) (hx : V[q.length]? = some x) : ∃ r, V = q ++ x :: r := by
 refine ⟨V.drop (q.length + 1), ?_⟩
 have hl := (List.getElem?_eq_some_iff.1 hx)
 conv => lhs; rw [<- List.take_append_drop q.length V, h, List.drop_eq_getElem_cons hl.1, hl.2]
theorem PartB.next {D : ByteArray -> Prop} {L L' : aD} {x : ByteArray} (h : PartB Sol p D L) (h' : AllB Sol (p ++ [x]) L') (hx : ∀ V, Sol V -> V.take p.length = p -> ∀ y, V[p.length]? = some y -> D y -> bG y.toList x.toList < 0) : PartB Sol p (fun y => D y \/ y = x) (L ++ L') := by
 have key : ∀ V, V ∈ L' ↔ Sol V /\ V.take p.length = p /\ V[p.length]? = some x := fun V => by
  rw [h'.iff V, List.length_append, List.length_singleton]
  refine ⟨fun ⟨h1, h2⟩ => ?_, fun ⟨h1, h2, h3⟩ => ⟨h1, by rw [List.take_add_one, h2, h3]; rfl⟩⟩
  have h3 : V.take p.length = p := by
   have := congrArg (List.take p.length) h2
   rw [List.take_take, List.take_left, show min p.length (p.length + 1) = p.length by omega] at this
   exact this
  refine ⟨h1, h3, ?_⟩
  rw [List.take_add_one, h3] at h2
  have h4 := (List.append_right_inj p).1 h2
  cases h5 : V[p.length]? with
  | none => rw [h5] at h4; simp at h4
  | some y => rw [h5] at h4; simpa using h4
 refine ⟨List.pairwise_append.2 ⟨h.rise, h'.rise, fun a ha b hb => ?_⟩, fun V => ?_⟩
 ·obtain ⟨a1, a2, y, a3, a4⟩ := (h.iff a).1 ha
  obtain ⟨b1, b2, b3⟩ := (key b).1 hb
  obtain ⟨r, rfl⟩ := pY a2 a3
  obtain ⟨s, rfl⟩ := pY b2 b3
  exact nY p y x r s (hx _ a1 a2 y a3 a4)
 ·rw [List.mem_append, h.iff V, key V]
  refine ⟨fun h1 => ?_, fun ⟨h1, h2, y, h3, h4⟩ => ?_⟩
  ·rcases h1 with ⟨h1, h2, y, h3, h4⟩ | ⟨h1, h2, h3⟩
   ·exact ⟨h1, h2, y, h3, .inl h4⟩
   ·exact ⟨h1, h2, x, h3, .inr rfl⟩
  ·rcases h4 with h4 | h4
   ·exact .inl ⟨h1, h2, y, h3, h4⟩
   ·subst h4; exact .inr ⟨h1, h2, h3⟩
structure PartQ (Sol : List ByteArray -> Prop) (p : List ByteArray) (m : Nat) (D : List ByteArray -> Prop) (L : aD) : Prop where
 rise : Strict aC L
 iff : ∀ V, V ∈ L ↔ Sol V /\ V.take p.length = p /\ D (V.take m)
theorem tM : ∀ (m : Nat) {x y : List ByteArray}, m ≤ x.length -> m ≤ y.length -> aC (x.take m) (y.take m) < 0 -> aC x y < 0
 | 0, x, y, _, _, h => by simp [aC] at h
 | m + 1, [], _, h, _, _ => by simp at h
 | m + 1, _ :: _, [], _, h, _ => by simp at h
 | m + 1, a :: x, b :: y, hx, hy, h => by
  simp only [List.take_succ_cons] at h
  unfold aC at h ⊢
  split at h
  ·rename_i h1
   rw [if_pos h1]; exact h
  ·rename_i h1
   rw [if_neg h1]
   exact tM m (by simpa using hx) (by simpa using hy) h
theorem PartQ.none {m : Nat} : PartQ Sol p m (fun _ => False) [] := ⟨gN, fun V => ⟨fun h => by simp at h, fun h => h.2.2.elim⟩⟩
theorem PartQ.next {m : Nat} {D : List ByteArray -> Prop} {L L' : aD} {q : List ByteArray} (h : PartQ Sol p m D L) (hq : q.length = m) (hp : q.take p.length = p) (hm : p.length ≤ m) (hl : ∀ V, Sol V -> m ≤ V.length) (h' : AllB Sol q L') (hx : ∀ y, D y -> aC y q < 0) : PartQ Sol p m (fun y => D y \/ y = q) (L ++ L') := by
 refine ⟨List.pairwise_append.2 ⟨h.rise, h'.rise, fun a ha b hb => ?_⟩, fun V => ?_⟩
 ·obtain ⟨a1, a2, a3⟩ := (h.iff a).1 ha
  obtain ⟨b1, b2⟩ := (h'.iff b).1 hb
  rw [hq] at b2
  exact tM m (hl a a1) (hl b b1) (by rw [b2]; exact hx _ a3)
 ·rw [List.mem_append, h.iff V, h'.iff V, hq]
  refine ⟨fun h1 => ?_, fun ⟨h1, h2, h3⟩ => ?_⟩
  ·rcases h1 with ⟨h1, h2, h3⟩ | ⟨h1, h2⟩
   ·exact ⟨h1, h2, .inl h3⟩
   ·refine ⟨h1, ?_, .inr h2⟩
    have := congrArg (List.take p.length) h2
    rw [List.take_take, hp, show min p.length m = p.length by omega] at this
    exact this
  ·rcases h3 with h3 | h3
   ·exact .inl ⟨h1, h2, h3⟩
   ·exact .inr ⟨h1, h3⟩
theorem PartQ.all {m : Nat} {D : List ByteArray -> Prop} {L : aD} (h : PartQ Sol p m D L) (hd : ∀ V, Sol V -> V.take p.length = p -> D (V.take m)) : AllB Sol p L :=
 ⟨h.rise, fun V => (h.iff V).trans ⟨fun ⟨h1, h2, _⟩ => ⟨h1, h2⟩, fun ⟨h1, h2⟩ => ⟨h1, h2, hd V h1 h2⟩⟩⟩
theorem PartQ.congr {m : Nat} {D D' : List ByteArray -> Prop} {L : aD} (h : PartQ Sol p m D L) (hd : ∀ y, D y ↔ D' y) : PartQ Sol p m D' L := ⟨h.rise, fun V => (h.iff V).trans (by rw [hd])⟩
end
end Go.Proofs.YtinnmeiphbdogaaGreat
