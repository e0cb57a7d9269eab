/- Proved here: the statement TupleLawsUptoSaid: the law returns true for every input of the bound that the row names and leaves its arguments as they were. No condition of its own. -/
import Derived.Test.YtfkhelihepbehaaGreatLa6
import Derived.Test.YtfkhelihepbehaaGreatRows
import Derived.Deep.CondSized
/- TupleLaws walked. -/
namespace Go.Proofs.YtfkhelihepbehaaGreat
open Go.RowKit
set_option linter.unusedVariables false

/-- The law's five sets. -/
structure LawsCtx (lo : Nat) (w : World) (vs vo vu vm vd : Value) (s o : List ByteArray) : Prop where
  hs : TS lo w vs s
  ho : TS lo w vo o
  hu : TS lo w vu (newS cS (s ++ o))
  hm : TS lo w vm (meetS cS s o)
  hd : TS lo w vd (minusS cS s o)
  ss : Strict cS s
  so : Strict cS o
  len : s.length + o.length ≤ 2097152

theorem cS_lt {y x : ByteArray} (h : cS y x < 0) : Op.bytesLess y.toList x.toList = true := by
  unfold cS at h
  unfold cmpRow at h
  by_cases e : cmpB y.toList x.toList = 0
  · rw [if_neg (by simp [e])] at h; simp [cmpRow] at h
  · rw [if_pos e] at h; exact cmpB_neg.1 h

set_option maxRecDepth 100000 in
set_option maxHeartbeats 4000000 in
theorem laws_walk (rs0 rs1 : List (List ByteArray)) (a0 a1 : Option Addr) (n0 n1 c0 c1 : Nat) (x : ByteArray) (W : World) (G : Nat → Prop) (hn0 : n0 = rs0.length) (hn1 : n1 = rs1.length) (h0 : ElemsAt shL W G a0 rs0) (h1 : ElemsAt shL W G a1 rs1) (l0 : n0 ≤ 1048576) (l1 : n1 ≤ 1048576) :
    Calls Tryz.prog 3 #[.slice a0 n0 c0, .slice a1 n1 c1, .string x] W (fun e w' => e = .returned (.bool true) ∧ Ext W w') := by
  have HK := Lib.hid (known_any W)
  have HR0 := Lib.hid (fun w1 (hw : Ext W w1) => rising_any rs0 a0 n0 c0 w1 G hn0 (h0.ext hw) l0)
  have HR1 := Lib.hid (fun w1 (hw : Ext W w1) => rising_any rs1 a1 n1 c1 w1 G hn1 (h1.ext hw) l1)
  have HL := Lib.hid (show (newS cS (firsts rs0)).length ≤ 1048576 ∧ (newS cS (firsts rs1)).length ≤ 1048576 by
    have := newS_len (c := cS) (firsts rs0); have := newS_len (c := cS) (firsts rs1); have := firsts_len rs0; have := firsts_len rs1; omega)
  have ss := Strict.new cS_law (firsts rs0)
  have so := Strict.new cS_law (firsts rs1)
  obtain ⟨s, es⟩ : ∃ s, s = newS cS (firsts rs0) := ⟨_, rfl⟩
  obtain ⟨o, eo⟩ : ∃ o, o = newS cS (firsts rs1) := ⟨_, rfl⟩
  rw [← es] at HR0 HL ss
  rw [← eo] at HR1 HL so
  have SS := Lib.hid ss; have SO := Lib.hid so
  clear hn0 hn1 h0 h1 l0 l1 es eo ss so
  go_enter Tryz.func3, Tryz.ntmps3
  go_wp2_with fail
  refine HK.out.mono ?_
  rintro e w1 ⟨v, rfl, hk1, rfl⟩
  go_wp2_with fail
  refine (HR0.out w1 hk1).mono ?_
  rintro e w2 ⟨vs, rfl, hk2, hs⟩
  go_wp2_with fail
  refine (HR1.out w2 (hk1.trans hk2)).mono ?_
  rintro e w3 ⟨vo, rfl, hk3, ho⟩
  have HS3 := Lib.hid (And.intro (hs.ext hk3) ho)
  have HX3 := Lib.hid ((hk1.trans hk2).trans hk3)
  have Z1 := hk1.size; have Z2 := hk2.size; have Z3 := hk3.size
  have ZZ := Lib.hid (And.intro Z1 (And.intro Z2 Z3))
  clear hs ho hk1 hk2 hk3 HR0 HR1 HK Z1 Z2 Z3
  go_wp2_with fail
  refine (ts_union HS3.out.1 HS3.out.2 (by have := HL.out; omega)).mono ?_
  rintro e w4 ⟨vu, rfl, hk4, hu⟩
  go_wp2_with fail
  refine (ts_meet (HS3.out.1.ext hk4) (HS3.out.2.ext hk4).ptr).mono ?_
  rintro e w5 ⟨vm, rfl, hk5, hm⟩
  have hk45 := hk4.trans hk5
  go_wp2_with fail
  refine (ts_minus (HS3.out.1.ext hk45) (HS3.out.2.ext hk45).ptr).mono ?_
  rintro e w6 ⟨vd, rfl, hk6, hd⟩
  have hk46 := hk45.trans hk6
  have C := Lib.hid (show LawsCtx W.heap.size w6 vs vo vu vm vd s o from by
    have := ZZ.out; have := hk4.size; have := hk5.size
    exact ⟨(HS3.out.1.ext hk46).mono (by omega), (HS3.out.2.ext hk46).mono (by omega), ((hu.ext hk5).ext hk6).mono (by omega), (hm.ext hk6).mono (by omega), hd.mono (by omega), SS.out, SO.out, by have := HL.out; omega⟩)
  have HX6 := Lib.hid (HX3.out.trans hk46)
  clear hu hm hd hk4 hk5 hk6 hk45 hk46 HS3 HX3 SS SO HL ZZ
  obtain ⟨a, ea⟩ : ∃ a, a = (newS cS (s ++ o)).length := ⟨_, rfl⟩
  obtain ⟨b, eb⟩ : ∃ b, b = (meetS cS s o).length := ⟨_, rfl⟩
  obtain ⟨c, ec⟩ : ∃ c, c = s.length := ⟨_, rfl⟩
  obtain ⟨d, ed⟩ : ∃ d, d = o.length := ⟨_, rfl⟩
  have hsum : a + b = c + d := by rw [ea, eb, ec, ed]; exact union_meet_len cS_law cS_tight C.out.ss C.out.so
  have hbd : c + d ≤ 2097152 := by rw [ec, ed]; exact C.out.len
  have t1 : ((a : Int) + (b : Int) != (c : Int) + (d : Int)) = false := by simp; omega
  have EA := Lib.hid ea; have EB := Lib.hid eb; have EC := Lib.hid ec; have ED := Lib.hid ed
  have ha0 : (a : Int) ≤ 2097152 := by omega
  have hb0 : (b : Int) ≤ 2097152 := by omega
  have hc0 : (c : Int) ≤ 2097152 := by omega
  have hd0 : (d : Int) ≤ 2097152 := by omega
  clear ea eb ec ed hsum hbd
  go_wp2_with fail
  refine (ts_len C.out.hu EA.out.symm).mono ?_
  rintro e w' ⟨rfl, rfl⟩
  go_wp2_with fail
  refine (ts_len C.out.hm EB.out.symm).mono ?_
  rintro e w' ⟨rfl, rfl⟩
  go_wp2_with fail
  refine (ts_len C.out.hs EC.out.symm).mono ?_
  rintro e w' ⟨rfl, rfl⟩
  go_wp2_with fail
  refine (ts_len C.out.ho ED.out.symm).mono ?_
  rintro e w' ⟨rfl, rfl⟩
  go_wp2_with fail
  clear t1 ha0 hb0 hc0 hd0 EA EB EC ED
  refine (ts_meet C.out.hm C.out.hd.ptr).mono ?_
  rintro e w7 ⟨v7, rfl, hk7, h7⟩
  rw [meet_none cS_law cS_tight] at h7
  go_wp2_with fail
  refine (ts_len h7 (n := 0) rfl).mono ?_
  rintro e w' ⟨rfl, rfl⟩
  clear h7
  go_wp2_with fail
  refine (ts_union (C.out.hm.ext hk7) (C.out.hd.ext hk7) (by
    have := C.out.len; have := List.length_filter_le (fun x => isIn cS (newS cS o) x) s; have := List.length_filter_le (fun x => !isIn cS (newS cS o) x) s; unfold meetS minusS; omega)).mono ?_
  rintro e w8 ⟨v8, rfl, hk8, h8⟩
  rw [meet_minus_one cS_law cS_tight C.out.ss] at h8
  have hx8 := hk7.trans hk8
  go_wp2_with fail
  refine (ts_same h8 (C.out.hs.ext hx8) rfl).mono ?_
  rintro e w9 ⟨v9, rfl, hk9, rfl⟩
  have hx9 := hx8.trans hk9
  clear hx8 hk7 hk8 hk9 h8
  go_wp2_with fail
  refine (ts_union (C.out.hd.ext hx9) (C.out.hm.ext hx9) (by
    have := C.out.len; have := List.length_filter_le (fun x => isIn cS (newS cS o) x) s; have := List.length_filter_le (fun x => !isIn cS (newS cS o) x) s; unfold meetS minusS; omega)).mono ?_
  rintro e w10 ⟨v10, rfl, hk10, h10⟩
  rw [minus_meet_one cS_law cS_tight C.out.ss] at h10
  have hx10 := hx9.trans hk10
  go_wp2_with fail
  refine (ts_same h10 (C.out.hs.ext hx10) rfl).mono ?_
  rintro e w11 ⟨v11, rfl, hk11, rfl⟩
  have hx11 := hx10.trans hk11
  clear hx10 hx9 hk10 hk11 h10
  go_wp2_with fail
  refine (ts_union (C.out.ho.ext hx11) (C.out.hs.ext hx11) (by have := C.out.len; omega)).mono ?_
  rintro e w12 ⟨v12, rfl, hk12, h12⟩
  have hx12 := hx11.trans hk12
  go_wp2_with fail
  refine (ts_same (C.out.hu.ext hx12) h12 (union_swap cS_law cS_tight)).mono ?_
  rintro e w13 ⟨v13, rfl, hk13, rfl⟩
  have hx13 := hx12.trans hk13
  clear hx12 hx11 hk12 hk13 h12
  go_wp2_with fail
  refine (ts_meet (C.out.ho.ext hx13) (C.out.hs.ext hx13).ptr).mono ?_
  rintro e w14 ⟨v14, rfl, hk14, h14⟩
  have hx14 := hx13.trans hk14
  go_wp2_with fail
  refine (ts_same (C.out.hm.ext hx14) h14 (meet_swap cS_law cS_tight C.out.ss C.out.so)).mono ?_
  rintro e w15 ⟨v15, rfl, hk15, rfl⟩
  have hx15 := hx14.trans hk15
  clear hx14 hx13 hk14 hk15 h14
  go_wp2_with fail
  refine (ts_minus (C.out.hu.ext hx15) (C.out.ho.ext hx15).ptr).mono ?_
  rintro e w16 ⟨v16, rfl, hk16, h16⟩
  have hx16 := hx15.trans hk16
  go_wp2_with fail
  refine (ts_same h16 (C.out.hd.ext hx16) (union_minus cS_law cS_tight C.out.ss)).mono ?_
  rintro e w17 ⟨v17, rfl, hk17, rfl⟩
  have hx17 := hx16.trans hk17
  clear hx16 hx15 hk16 hk17 h16
  go_wp2_with fail
  refine (ts_items (C.out.hu.ext hx17)).mono ?_
  rintro e w18 ⟨v18, rfl, hk18, hr18⟩
  obtain ⟨n, en⟩ : ∃ n, n = (newS cS (s ++ o)).length := ⟨_, rfl⟩
  rw [← en] at hr18
  obtain ⟨al, cl, ev, hcl, _⟩ := hr18.shape
  subst ev
  have HCL := Lib.hid hcl
  have HX18 := Lib.hid (show Ext w6 w18 from hx17.trans hk18)
  have EN := Lib.hid en
  have hn : n ≤ 2097152 := by
    rw [en]; have h1 := C.out.len; have := newS_len (c := cS) (s ++ o); rw [List.length_append] at this; omega
  clear hx17 hk18 hr18 hcl en
  go_wp2
  have Z18 := HX6.out.size
  go_loopw [13] (fun iv wr => ∃ i : Nat, i ≤ n ∧ iv = .int .i64 i ∧ Hid (Ext w18 wr)) (fun iv _ => n - (intOf iv).toNat)
  case atStart => exact ⟨0, Nat.zero_le _, rfl, Kp.refl _⟩
  case round =>
    obtain ⟨i, hi, rfl, hex⟩ := hrel
    by_cases hlt : i < n
    · obtain ⟨y, hy⟩ : ∃ y, (newS cS (s ++ o))[i]? = some y := ⟨_, List.getElem?_eq_getElem (by rw [← EN.out]; exact hlt)⟩
      have hyu := isIn_union (c := cS) (s := s) (o := o) cS_law y
      have hym := isIn_meet (c := cS) (s := s) (o := o) cS_law cS_tight y
      have hin : isIn cS (newS cS (s ++ o)) y = true := (isIn_mem cS_law cS_tight).2 (List.mem_of_getElem? hy)
      have hbl : below cS (newS cS (s ++ o)) y = i := by
        obtain ⟨h1, rfl⟩ := List.getElem?_eq_some_iff.1 hy
        exact (Strict.new cS_law (s ++ o)).below_at cS_law h1
      have HB := Lib.hid (fun w' (hw : Ext w18 w') => ts_below (C.out.hu.ext (HX18.out.trans hw)) (Strict.new cS_law (s ++ o)) y hbl)
      have HU := Lib.hid (fun w' (hw : Ext w18 w') => ts_has (C.out.hu.ext (HX18.out.trans hw)) (Strict.new cS_law (s ++ o)) y hin)
      obtain ⟨bs, hbs⟩ : ∃ r, isIn cS s y = r := ⟨_, rfl⟩
      obtain ⟨bo, hbo⟩ : ∃ r, isIn cS o y = r := ⟨_, rfl⟩
      have HS := Lib.hid (fun w' (hw : Ext w18 w') => ts_has (C.out.hs.ext (HX18.out.trans hw)) C.out.ss y hbs)
      have HO := Lib.hid (fun w' (hw : Ext w18 w') => ts_has (C.out.ho.ext (HX18.out.trans hw)) C.out.so y hbo)
      have HM := Lib.hid (fun w' (hw : Ext w18 w') => ts_has (C.out.hm.ext (HX18.out.trans hw)) C.out.ss.meet y hym)
      rw [hbs, hbo] at HM
      rw [hin, hbs, hbo] at hyu
      obtain ⟨g, og, eag, hcell⟩ := (HCL.out.ext hex.out) i (.string y) (by simp [strs, hy])
      subst eag
      have hx := hex.out
      clear hym hin hbl hbs hbo
      by_cases h0 : i = 0
      · have q0 : decide ((0 : Int) < (i : Int)) = false := by rw [decide_eq_false_iff_not]; omega
        have q00 : ¬ (0 : Int) < (i : Int) := by omega
        have q01 : decide (0 < i) = false := by rw [decide_eq_false_iff_not]; omega
        have q02 : ¬ 0 < i := by omega
        have q2 : (i : Int) < (n : Int) := by omega
        replace hx := hx.drew
        clear hy h0
        cases bs
        · (obtain rfl : bo = true := by simpa using hyu.symm)
          clear hyu
          go_wp2
          try simp only [List.append]
          refine wp_region_held_drew (S := fun w' => w'.cell? ⟨g, og + i, none⟩ = some (.string y)) (by kernel_rfl) (by assumption) (fun hHeld => ?_)
          (refine take_in (i := 0) (v := ?_) rfl ?_ ?_; rotate_left; (intro w hSw; (try dsimp only at hSw); go_simp; try with_reducible rfl)); (try simp only [Act.put, List.setIfInBounds_toArray, List.set_cons_zero, List.set_cons_succ])
          (refine take_in (i := 1) (v := ?_) rfl ?_ ?_; rotate_left; (intro w hSw; (try dsimp only at hSw); go_simp; try with_reducible rfl)); (try simp only [Act.put, List.setIfInBounds_toArray, List.set_cons_zero, List.set_cons_succ])
          (refine take_in (i := 2) (v := ?_) rfl ?_ ?_; rotate_left; (intro w hSw; (try dsimp only at hSw); go_simp; try with_reducible rfl)); (try simp only [Act.put, List.setIfInBounds_toArray, List.set_cons_zero, List.set_cons_succ])
          (first | (refine take_in (i := 3) (v := ?_) rfl ?_ ?_; rotate_left; (intro w hSw; (try dsimp only at hSw); go_simp; try with_reducible rfl)) | (refine take_out (i := 3) rfl ?_)); (try simp only [Act.put, List.setIfInBounds_toArray, List.set_cons_zero, List.set_cons_succ])
          (first | (refine take_in (i := 4) (v := ?_) rfl ?_ ?_; rotate_left; (intro w hSw; (try dsimp only at hSw); go_simp; try with_reducible rfl)) | (refine take_out (i := 4) rfl ?_)); (try simp only [Act.put, List.setIfInBounds_toArray, List.set_cons_zero, List.set_cons_succ])
          (first | (refine take_in (i := 5) (v := ?_) rfl ?_ ?_; rotate_left; (intro w hSw; (try dsimp only at hSw); go_simp; try with_reducible rfl)) | (refine take_out (i := 5) rfl ?_)); (try simp only [Act.put, List.setIfInBounds_toArray, List.set_cons_zero, List.set_cons_succ])
          (first | (refine take_in (i := 6) (v := ?_) rfl ?_ ?_; rotate_left; (intro w hSw; (try dsimp only at hSw); go_simp; try with_reducible rfl)) | (refine take_out (i := 6) rfl ?_)); (try simp only [Act.put, List.setIfInBounds_toArray, List.set_cons_zero, List.set_cons_succ])
          (first | (refine take_in (i := 7) (v := ?_) rfl ?_ ?_; rotate_left; (intro w hSw; (try dsimp only at hSw); go_simp; try with_reducible rfl)) | (refine take_out (i := 7) rfl ?_)); (try simp only [Act.put, List.setIfInBounds_toArray, List.set_cons_zero, List.set_cons_succ])
          (first | (refine take_in (i := 8) (v := ?_) rfl ?_ ?_; rotate_left; (intro w hSw; (try dsimp only at hSw); go_simp; try with_reducible rfl)) | (refine take_out (i := 8) rfl ?_)); (try simp only [Act.put, List.setIfInBounds_toArray, List.set_cons_zero, List.set_cons_succ])
          (first | (refine take_in (i := 9) (v := ?_) rfl ?_ ?_; rotate_left; (intro w hSw; (try dsimp only at hSw); go_simp; try with_reducible rfl)) | (refine take_out (i := 9) rfl ?_)); (try simp only [Act.put, List.setIfInBounds_toArray, List.set_cons_zero, List.set_cons_succ])
          (first | (refine take_in (i := 10) (v := ?_) rfl ?_ ?_; rotate_left; (intro w hSw; (try dsimp only at hSw); go_simp; try with_reducible rfl)) | (refine take_out (i := 10) rfl ?_)); (try simp only [Act.put, List.setIfInBounds_toArray, List.set_cons_zero, List.set_cons_succ])
          (first | (refine take_in (i := 11) (v := ?_) rfl ?_ ?_; rotate_left; (intro w hSw; (try dsimp only at hSw); go_simp; try with_reducible rfl)) | (refine take_out (i := 11) rfl ?_)); (try simp only [Act.put, List.setIfInBounds_toArray, List.set_cons_zero, List.set_cons_succ])
          (first | (refine take_in (i := 12) (v := ?_) rfl ?_ ?_; rotate_left; (intro w hSw; (try dsimp only at hSw); go_simp; try with_reducible rfl)) | (refine take_out (i := 12) rfl ?_)); (try simp only [Act.put, List.setIfInBounds_toArray, List.set_cons_zero, List.set_cons_succ])
          (first | (refine take_in (i := 13) (v := ?_) rfl ?_ ?_; rotate_left; (intro w hSw; (try dsimp only at hSw); go_simp; try with_reducible rfl)) | (refine take_out (i := 13) rfl ?_)); (try simp only [Act.put, List.setIfInBounds_toArray, List.set_cons_zero, List.set_cons_succ])
          (refine take_in (i := 14) (v := ?_) rfl ?_ ?_; rotate_left; (intro w hSw; (try dsimp only at hSw); go_simp; try with_reducible rfl)); (try simp only [Act.put, List.setIfInBounds_toArray, List.set_cons_zero, List.set_cons_succ])
          (refine take_in (i := 15) (v := ?_) rfl ?_ ?_; rotate_left; (intro w hSw; (try dsimp only at hSw); go_simp; try with_reducible rfl)); (try simp only [Act.put, List.setIfInBounds_toArray, List.set_cons_zero, List.set_cons_succ])
          (first | (refine take_in (i := 16) (v := ?_) rfl ?_ ?_; rotate_left; (intro w hSw; (try dsimp only at hSw); go_simp; try with_reducible rfl)) | (refine take_out (i := 16) rfl ?_)); (try simp only [Act.put, List.setIfInBounds_toArray, List.set_cons_zero, List.set_cons_succ])
          (first | (refine take_in (i := 17) (v := ?_) rfl ?_ ?_; rotate_left; (intro w hSw; (try dsimp only at hSw); go_simp; try with_reducible rfl)) | (refine take_out (i := 17) rfl ?_)); (try simp only [Act.put, List.setIfInBounds_toArray, List.set_cons_zero, List.set_cons_succ])
          (first | (refine take_in (i := 18) (v := ?_) rfl ?_ ?_; rotate_left; (intro w hSw; (try dsimp only at hSw); go_simp; try with_reducible rfl)) | (refine take_out (i := 18) rfl ?_)); (try simp only [Act.put, List.setIfInBounds_toArray, List.set_cons_zero, List.set_cons_succ])
          (first | (refine take_in (i := 19) (v := ?_) rfl ?_ ?_; rotate_left; (intro w hSw; (try dsimp only at hSw); go_simp; try with_reducible rfl)) | (refine take_out (i := 19) rfl ?_)); (try simp only [Act.put, List.setIfInBounds_toArray, List.set_cons_zero, List.set_cons_succ])
          (first | (refine take_in (i := 20) (v := ?_) rfl ?_ ?_; rotate_left; (intro w hSw; (try dsimp only at hSw); go_simp; try with_reducible rfl)) | (refine take_out (i := 20) rfl ?_)); (try simp only [Act.put, List.setIfInBounds_toArray, List.set_cons_zero, List.set_cons_succ])
          (first | (refine take_in (i := 22) (v := ?_) rfl ?_ ?_; rotate_left; (intro w hSw; (try dsimp only at hSw); go_simp; try with_reducible rfl)) | (refine take_out (i := 22) rfl ?_)); (try simp only [Act.put, List.setIfInBounds_toArray, List.set_cons_zero, List.set_cons_succ])
          (first | (refine take_out (i := 21) rfl ?_) | (refine take_call (i := 21) rfl (fun K hK => ?_); go_simp; ((with_reducible refine (HB.out _ hx).mono ?_); rintro e wa ⟨va, rfl, hka, rfl⟩; have hx := hx.trans hka; have hcell := (hka.cell (b := g) (o := og + i) hcell id)); go_wp2_with fail; refine hK.out _ _ ?_ (fun hHeld => ?_); (try dsimp only); (assumption); clear hK K)); (try simp only [Act.put, List.setIfInBounds_toArray, List.set_cons_zero, List.set_cons_succ])
          (first | (refine take_in (i := 23) (v := ?_) rfl ?_ ?_; rotate_left; (intro w hSw; (try dsimp only at hSw); go_simp; try with_reducible rfl)) | (refine take_out (i := 23) rfl ?_)); (try simp only [Act.put, List.setIfInBounds_toArray, List.set_cons_zero, List.set_cons_succ])
          (refine take_in (i := 24) (v := ?_) rfl ?_ ?_; rotate_left; (intro w hSw; (try dsimp only at hSw); go_simp; try with_reducible rfl)); (try simp only [Act.put, List.setIfInBounds_toArray, List.set_cons_zero, List.set_cons_succ])
          (refine take_in (i := 25) (v := ?_) rfl ?_ ?_; rotate_left; (intro w hSw; (try dsimp only at hSw); go_simp; try with_reducible rfl)); (try simp only [Act.put, List.setIfInBounds_toArray, List.set_cons_zero, List.set_cons_succ])
          (first | (refine take_in (i := 26) (v := ?_) rfl ?_ ?_; rotate_left; (intro w hSw; (try dsimp only at hSw); go_simp; try with_reducible rfl)) | (refine take_out (i := 26) rfl ?_)); (try simp only [Act.put, List.setIfInBounds_toArray, List.set_cons_zero, List.set_cons_succ])
          (first | (refine take_in (i := 27) (v := ?_) rfl ?_ ?_; rotate_left; (intro w hSw; (try dsimp only at hSw); go_simp; try with_reducible rfl)) | (refine take_out (i := 27) rfl ?_)); (try simp only [Act.put, List.setIfInBounds_toArray, List.set_cons_zero, List.set_cons_succ])
          (first | (refine take_in (i := 28) (v := ?_) rfl ?_ ?_; rotate_left; (intro w hSw; (try dsimp only at hSw); go_simp; try with_reducible rfl)) | (refine take_out (i := 28) rfl ?_)); (try simp only [Act.put, List.setIfInBounds_toArray, List.set_cons_zero, List.set_cons_succ])
          (first | (refine take_in (i := 29) (v := ?_) rfl ?_ ?_; rotate_left; (intro w hSw; (try dsimp only at hSw); go_simp; try with_reducible rfl)) | (refine take_out (i := 29) rfl ?_)); (try simp only [Act.put, List.setIfInBounds_toArray, List.set_cons_zero, List.set_cons_succ])
          (first | (refine take_in (i := 30) (v := ?_) rfl ?_ ?_; rotate_left; (intro w hSw; (try dsimp only at hSw); go_simp; try with_reducible rfl)) | (refine take_out (i := 30) rfl ?_)); (try simp only [Act.put, List.setIfInBounds_toArray, List.set_cons_zero, List.set_cons_succ])
          (first | (refine take_in (i := 32) (v := ?_) rfl ?_ ?_; rotate_left; (intro w hSw; (try dsimp only at hSw); go_simp; try with_reducible rfl)) | (refine take_out (i := 32) rfl ?_)); (try simp only [Act.put, List.setIfInBounds_toArray, List.set_cons_zero, List.set_cons_succ])
          (first | (refine take_in (i := 33) (v := ?_) rfl ?_ ?_; rotate_left; (intro w hSw; (try dsimp only at hSw); go_simp; try with_reducible rfl)) | (refine take_out (i := 33) rfl ?_)); (try simp only [Act.put, List.setIfInBounds_toArray, List.set_cons_zero, List.set_cons_succ])
          (first | (refine take_in (i := 34) (v := ?_) rfl ?_ ?_; rotate_left; (intro w hSw; (try dsimp only at hSw); go_simp; try with_reducible rfl)) | (refine take_out (i := 34) rfl ?_)); (try simp only [Act.put, List.setIfInBounds_toArray, List.set_cons_zero, List.set_cons_succ])
          (first | (refine take_in (i := 35) (v := ?_) rfl ?_ ?_; rotate_left; (intro w hSw; (try dsimp only at hSw); go_simp; try with_reducible rfl)) | (refine take_out (i := 35) rfl ?_)); (try simp only [Act.put, List.setIfInBounds_toArray, List.set_cons_zero, List.set_cons_succ])
          (first | (refine take_in (i := 36) (v := ?_) rfl ?_ ?_; rotate_left; (intro w hSw; (try dsimp only at hSw); go_simp; try with_reducible rfl)) | (refine take_out (i := 36) rfl ?_)); (try simp only [Act.put, List.setIfInBounds_toArray, List.set_cons_zero, List.set_cons_succ])
          (first | (refine take_out (i := 31) rfl ?_) | (refine take_call (i := 31) rfl (fun K hK => ?_); go_simp; (first | ((with_reducible refine (HU.out _ hx).mono ?_); rintro e wa ⟨va, rfl, hka, rfl⟩; have hx := hx.trans hka; have hcell := (hka.cell (b := g) (o := og + i) hcell id)) | ((with_reducible refine (HS.out _ hx).mono ?_); rintro e wa ⟨va, rfl, hka, rfl⟩; have hx := hx.trans hka; have hcell := (hka.cell (b := g) (o := og + i) hcell id)) | ((with_reducible refine (HO.out _ hx).mono ?_); rintro e wa ⟨va, rfl, hka, rfl⟩; have hx := hx.trans hka; have hcell := (hka.cell (b := g) (o := og + i) hcell id)) | ((with_reducible refine (HM.out _ hx).mono ?_); rintro e wa ⟨va, rfl, hka, rfl⟩; have hx := hx.trans hka; have hcell := (hka.cell (b := g) (o := og + i) hcell id))); go_wp2_with fail; refine hK.out _ _ ?_ (fun hHeld => ?_); (try dsimp only); (assumption); clear hK K)); (try simp only [Act.put, List.setIfInBounds_toArray, List.set_cons_zero, List.set_cons_succ])
          (first | (refine take_out (i := 37) rfl ?_) | (refine take_call (i := 37) rfl (fun K hK => ?_); go_simp; (first | ((with_reducible refine (HU.out _ hx).mono ?_); rintro e wa ⟨va, rfl, hka, rfl⟩; have hx := hx.trans hka; have hcell := (hka.cell (b := g) (o := og + i) hcell id)) | ((with_reducible refine (HS.out _ hx).mono ?_); rintro e wa ⟨va, rfl, hka, rfl⟩; have hx := hx.trans hka; have hcell := (hka.cell (b := g) (o := og + i) hcell id)) | ((with_reducible refine (HO.out _ hx).mono ?_); rintro e wa ⟨va, rfl, hka, rfl⟩; have hx := hx.trans hka; have hcell := (hka.cell (b := g) (o := og + i) hcell id)) | ((with_reducible refine (HM.out _ hx).mono ?_); rintro e wa ⟨va, rfl, hka, rfl⟩; have hx := hx.trans hka; have hcell := (hka.cell (b := g) (o := og + i) hcell id))); go_wp2_with fail; refine hK.out _ _ ?_ (fun hHeld => ?_); (try dsimp only); (assumption); clear hK K)); (try simp only [Act.put, List.setIfInBounds_toArray, List.set_cons_zero, List.set_cons_succ])
          (first | (refine take_in (i := 38) (v := ?_) rfl ?_ ?_; rotate_left; (intro w hSw; (try dsimp only at hSw); go_simp; try with_reducible rfl)) | (refine take_out (i := 38) rfl ?_)); (try simp only [Act.put, List.setIfInBounds_toArray, List.set_cons_zero, List.set_cons_succ])
          (first | (refine take_in (i := 39) (v := ?_) rfl ?_ ?_; rotate_left; (intro w hSw; (try dsimp only at hSw); go_simp; try with_reducible rfl)) | (refine take_out (i := 39) rfl ?_)); (try simp only [Act.put, List.setIfInBounds_toArray, List.set_cons_zero, List.set_cons_succ])
          (first | (refine take_in (i := 40) (v := ?_) rfl ?_ ?_; rotate_left; (intro w hSw; (try dsimp only at hSw); go_simp; try with_reducible rfl)) | (refine take_out (i := 40) rfl ?_)); (try simp only [Act.put, List.setIfInBounds_toArray, List.set_cons_zero, List.set_cons_succ])
          (first | (refine take_in (i := 41) (v := ?_) rfl ?_ ?_; rotate_left; (intro w hSw; (try dsimp only at hSw); go_simp; try with_reducible rfl)) | (refine take_out (i := 41) rfl ?_)); (try simp only [Act.put, List.setIfInBounds_toArray, List.set_cons_zero, List.set_cons_succ])
          (first | (refine take_in (i := 42) (v := ?_) rfl ?_ ?_; rotate_left; (intro w hSw; (try dsimp only at hSw); go_simp; try with_reducible rfl)) | (refine take_out (i := 42) rfl ?_)); (try simp only [Act.put, List.setIfInBounds_toArray, List.set_cons_zero, List.set_cons_succ])
          (first | (refine take_in (i := 43) (v := ?_) rfl ?_ ?_; rotate_left; (intro w hSw; (try dsimp only at hSw); go_simp; try with_reducible rfl)) | (refine take_out (i := 43) rfl ?_)); (try simp only [Act.put, List.setIfInBounds_toArray, List.set_cons_zero, List.set_cons_succ])
          (first | (refine take_out (i := 44) rfl ?_) | (refine take_call (i := 44) rfl (fun K hK => ?_); go_simp; (first | ((with_reducible refine (HU.out _ hx).mono ?_); rintro e wa ⟨va, rfl, hka, rfl⟩; have hx := hx.trans hka; have hcell := (hka.cell (b := g) (o := og + i) hcell id)) | ((with_reducible refine (HS.out _ hx).mono ?_); rintro e wa ⟨va, rfl, hka, rfl⟩; have hx := hx.trans hka; have hcell := (hka.cell (b := g) (o := og + i) hcell id)) | ((with_reducible refine (HO.out _ hx).mono ?_); rintro e wa ⟨va, rfl, hka, rfl⟩; have hx := hx.trans hka; have hcell := (hka.cell (b := g) (o := og + i) hcell id)) | ((with_reducible refine (HM.out _ hx).mono ?_); rintro e wa ⟨va, rfl, hka, rfl⟩; have hx := hx.trans hka; have hcell := (hka.cell (b := g) (o := og + i) hcell id))); go_wp2_with fail; refine hK.out _ _ ?_ (fun hHeld => ?_); (try dsimp only); (assumption); clear hK K)); (try simp only [Act.put, List.setIfInBounds_toArray, List.set_cons_zero, List.set_cons_succ])
          (first | (refine take_in (i := 45) (v := ?_) rfl ?_ ?_; rotate_left; (intro w hSw; (try dsimp only at hSw); go_simp; try with_reducible rfl)) | (refine take_out (i := 45) rfl ?_)); (try simp only [Act.put, List.setIfInBounds_toArray, List.set_cons_zero, List.set_cons_succ])
          (first | (refine take_in (i := 46) (v := ?_) rfl ?_ ?_; rotate_left; (intro w hSw; (try dsimp only at hSw); go_simp; try with_reducible rfl)) | (refine take_out (i := 46) rfl ?_)); (try simp only [Act.put, List.setIfInBounds_toArray, List.set_cons_zero, List.set_cons_succ])
          (refine take_in (i := 47) (v := ?_) rfl ?_ ?_; rotate_left; (intro w hSw; (try dsimp only at hSw); go_simp; try with_reducible rfl)); (try simp only [Act.put, List.setIfInBounds_toArray, List.set_cons_zero, List.set_cons_succ])
          (refine take_in (i := 48) (v := ?_) rfl ?_ ?_; rotate_left; (intro w hSw; (try dsimp only at hSw); go_simp; try with_reducible rfl)); (try simp only [Act.put, List.setIfInBounds_toArray, List.set_cons_zero, List.set_cons_succ])
          (first | (refine take_in (i := 49) (v := ?_) rfl ?_ ?_; rotate_left; (intro w hSw; (try dsimp only at hSw); go_simp; try with_reducible rfl)) | (refine take_out (i := 49) rfl ?_)); (try simp only [Act.put, List.setIfInBounds_toArray, List.set_cons_zero, List.set_cons_succ])
          (first | (refine take_in (i := 50) (v := ?_) rfl ?_ ?_; rotate_left; (intro w hSw; (try dsimp only at hSw); go_simp; try with_reducible rfl)) | (refine take_out (i := 50) rfl ?_)); (try simp only [Act.put, List.setIfInBounds_toArray, List.set_cons_zero, List.set_cons_succ])
          (first | (refine take_in (i := 51) (v := ?_) rfl ?_ ?_; rotate_left; (intro w hSw; (try dsimp only at hSw); go_simp; try with_reducible rfl)) | (refine take_out (i := 51) rfl ?_)); (try simp only [Act.put, List.setIfInBounds_toArray, List.set_cons_zero, List.set_cons_succ])
          (first | (refine take_in (i := 52) (v := ?_) rfl ?_ ?_; rotate_left; (intro w hSw; (try dsimp only at hSw); go_simp; try with_reducible rfl)) | (refine take_out (i := 52) rfl ?_)); (try simp only [Act.put, List.setIfInBounds_toArray, List.set_cons_zero, List.set_cons_succ])
          (first | (refine take_in (i := 53) (v := ?_) rfl ?_ ?_; rotate_left; (intro w hSw; (try dsimp only at hSw); go_simp; try with_reducible rfl)) | (refine take_out (i := 53) rfl ?_)); (try simp only [Act.put, List.setIfInBounds_toArray, List.set_cons_zero, List.set_cons_succ])
          (first | (refine take_in (i := 55) (v := ?_) rfl ?_ ?_; rotate_left; (intro w hSw; (try dsimp only at hSw); go_simp; try with_reducible rfl)) | (refine take_out (i := 55) rfl ?_)); (try simp only [Act.put, List.setIfInBounds_toArray, List.set_cons_zero, List.set_cons_succ])
          (first | (refine take_in (i := 56) (v := ?_) rfl ?_ ?_; rotate_left; (intro w hSw; (try dsimp only at hSw); go_simp; try with_reducible rfl)) | (refine take_out (i := 56) rfl ?_)); (try simp only [Act.put, List.setIfInBounds_toArray, List.set_cons_zero, List.set_cons_succ])
          (first | (refine take_in (i := 57) (v := ?_) rfl ?_ ?_; rotate_left; (intro w hSw; (try dsimp only at hSw); go_simp; try with_reducible rfl)) | (refine take_out (i := 57) rfl ?_)); (try simp only [Act.put, List.setIfInBounds_toArray, List.set_cons_zero, List.set_cons_succ])
          (first | (refine take_in (i := 58) (v := ?_) rfl ?_ ?_; rotate_left; (intro w hSw; (try dsimp only at hSw); go_simp; try with_reducible rfl)) | (refine take_out (i := 58) rfl ?_)); (try simp only [Act.put, List.setIfInBounds_toArray, List.set_cons_zero, List.set_cons_succ])
          (first | (refine take_in (i := 59) (v := ?_) rfl ?_ ?_; rotate_left; (intro w hSw; (try dsimp only at hSw); go_simp; try with_reducible rfl)) | (refine take_out (i := 59) rfl ?_)); (try simp only [Act.put, List.setIfInBounds_toArray, List.set_cons_zero, List.set_cons_succ])
          (first | (refine take_out (i := 54) rfl ?_) | (refine take_call (i := 54) rfl (fun K hK => ?_); go_simp; (first | ((with_reducible refine (HU.out _ hx).mono ?_); rintro e wa ⟨va, rfl, hka, rfl⟩; have hx := hx.trans hka; have hcell := (hka.cell (b := g) (o := og + i) hcell id)) | ((with_reducible refine (HS.out _ hx).mono ?_); rintro e wa ⟨va, rfl, hka, rfl⟩; have hx := hx.trans hka; have hcell := (hka.cell (b := g) (o := og + i) hcell id)) | ((with_reducible refine (HO.out _ hx).mono ?_); rintro e wa ⟨va, rfl, hka, rfl⟩; have hx := hx.trans hka; have hcell := (hka.cell (b := g) (o := og + i) hcell id)) | ((with_reducible refine (HM.out _ hx).mono ?_); rintro e wa ⟨va, rfl, hka, rfl⟩; have hx := hx.trans hka; have hcell := (hka.cell (b := g) (o := og + i) hcell id))); go_wp2_with fail; refine hK.out _ _ ?_ (fun hHeld => ?_); (try dsimp only); (assumption); clear hK K)); (try simp only [Act.put, List.setIfInBounds_toArray, List.set_cons_zero, List.set_cons_succ])
          (first | (refine take_out (i := 60) rfl ?_) | (refine take_call (i := 60) rfl (fun K hK => ?_); go_simp; (first | ((with_reducible refine (HU.out _ hx).mono ?_); rintro e wa ⟨va, rfl, hka, rfl⟩; have hx := hx.trans hka; have hcell := (hka.cell (b := g) (o := og + i) hcell id)) | ((with_reducible refine (HS.out _ hx).mono ?_); rintro e wa ⟨va, rfl, hka, rfl⟩; have hx := hx.trans hka; have hcell := (hka.cell (b := g) (o := og + i) hcell id)) | ((with_reducible refine (HO.out _ hx).mono ?_); rintro e wa ⟨va, rfl, hka, rfl⟩; have hx := hx.trans hka; have hcell := (hka.cell (b := g) (o := og + i) hcell id)) | ((with_reducible refine (HM.out _ hx).mono ?_); rintro e wa ⟨va, rfl, hka, rfl⟩; have hx := hx.trans hka; have hcell := (hka.cell (b := g) (o := og + i) hcell id))); go_wp2_with fail; refine hK.out _ _ ?_ (fun hHeld => ?_); (try dsimp only); (assumption); clear hK K)); (try simp only [Act.put, List.setIfInBounds_toArray, List.set_cons_zero, List.set_cons_succ])
          (first | (refine take_in (i := 61) (v := ?_) rfl ?_ ?_; rotate_left; (intro w hSw; (try dsimp only at hSw); go_simp; try with_reducible rfl)) | (refine take_out (i := 61) rfl ?_)); (try simp only [Act.put, List.setIfInBounds_toArray, List.set_cons_zero, List.set_cons_succ])
          (first | (refine take_in (i := 62) (v := ?_) rfl ?_ ?_; rotate_left; (intro w hSw; (try dsimp only at hSw); go_simp; try with_reducible rfl)) | (refine take_out (i := 62) rfl ?_)); (try simp only [Act.put, List.setIfInBounds_toArray, List.set_cons_zero, List.set_cons_succ])
          (first | (refine take_in (i := 63) (v := ?_) rfl ?_ ?_; rotate_left; (intro w hSw; (try dsimp only at hSw); go_simp; try with_reducible rfl)) | (refine take_out (i := 63) rfl ?_)); (try simp only [Act.put, List.setIfInBounds_toArray, List.set_cons_zero, List.set_cons_succ])
          (first | (refine take_in (i := 64) (v := ?_) rfl ?_ ?_; rotate_left; (intro w hSw; (try dsimp only at hSw); go_simp; try with_reducible rfl)) | (refine take_out (i := 64) rfl ?_)); (try simp only [Act.put, List.setIfInBounds_toArray, List.set_cons_zero, List.set_cons_succ])
          (first | (refine take_in (i := 65) (v := ?_) rfl ?_ ?_; rotate_left; (intro w hSw; (try dsimp only at hSw); go_simp; try with_reducible rfl)) | (refine take_out (i := 65) rfl ?_)); (try simp only [Act.put, List.setIfInBounds_toArray, List.set_cons_zero, List.set_cons_succ])
          (first | (refine take_in (i := 66) (v := ?_) rfl ?_ ?_; rotate_left; (intro w hSw; (try dsimp only at hSw); go_simp; try with_reducible rfl)) | (refine take_out (i := 66) rfl ?_)); (try simp only [Act.put, List.setIfInBounds_toArray, List.set_cons_zero, List.set_cons_succ])
          (first | (refine take_out (i := 67) rfl ?_) | (refine take_call (i := 67) rfl (fun K hK => ?_); go_simp; (first | ((with_reducible refine (HU.out _ hx).mono ?_); rintro e wa ⟨va, rfl, hka, rfl⟩; have hx := hx.trans hka; have hcell := (hka.cell (b := g) (o := og + i) hcell id)) | ((with_reducible refine (HS.out _ hx).mono ?_); rintro e wa ⟨va, rfl, hka, rfl⟩; have hx := hx.trans hka; have hcell := (hka.cell (b := g) (o := og + i) hcell id)) | ((with_reducible refine (HO.out _ hx).mono ?_); rintro e wa ⟨va, rfl, hka, rfl⟩; have hx := hx.trans hka; have hcell := (hka.cell (b := g) (o := og + i) hcell id)) | ((with_reducible refine (HM.out _ hx).mono ?_); rintro e wa ⟨va, rfl, hka, rfl⟩; have hx := hx.trans hka; have hcell := (hka.cell (b := g) (o := og + i) hcell id))); go_wp2_with fail; refine hK.out _ _ ?_ (fun hHeld => ?_); (try dsimp only); (assumption); clear hK K)); (try simp only [Act.put, List.setIfInBounds_toArray, List.set_cons_zero, List.set_cons_succ])
          (first | (refine take_in (i := 68) (v := ?_) rfl ?_ ?_; rotate_left; (intro w hSw; (try dsimp only at hSw); go_simp; try with_reducible rfl)) | (refine take_out (i := 68) rfl ?_)); (try simp only [Act.put, List.setIfInBounds_toArray, List.set_cons_zero, List.set_cons_succ])
          (first | (refine take_in (i := 69) (v := ?_) rfl ?_ ?_; rotate_left; (intro w hSw; (try dsimp only at hSw); go_simp; try with_reducible rfl)) | (refine take_out (i := 69) rfl ?_)); (try simp only [Act.put, List.setIfInBounds_toArray, List.set_cons_zero, List.set_cons_succ])
          (refine take_in (i := 70) (v := ?_) rfl ?_ ?_; rotate_left; (intro w hSw; (try dsimp only at hSw); go_simp; try with_reducible rfl)); (try simp only [Act.put, List.setIfInBounds_toArray, List.set_cons_zero, List.set_cons_succ])
          refine wpAnyH_done (by kernel_rfl) ?_ _
          go_wp2
          go_roundw
          case rel => exact ⟨i + 1, by omega, by first | rfl | (congr 1; done) | (congr 1; omega), Lib.hid hx⟩
          case measure => simp [intOf]; omega
        · skip
          clear hyu
          go_wp2
          try simp only [List.append]
          refine wp_region_held_drew (S := fun w' => w'.cell? ⟨g, og + i, none⟩ = some (.string y)) (by kernel_rfl) (by assumption) (fun hHeld => ?_)
          (refine take_in (i := 0) (v := ?_) rfl ?_ ?_; rotate_left; (intro w hSw; (try dsimp only at hSw); go_simp; try with_reducible rfl)); (try simp only [Act.put, List.setIfInBounds_toArray, List.set_cons_zero, List.set_cons_succ])
          (refine take_in (i := 1) (v := ?_) rfl ?_ ?_; rotate_left; (intro w hSw; (try dsimp only at hSw); go_simp; try with_reducible rfl)); (try simp only [Act.put, List.setIfInBounds_toArray, List.set_cons_zero, List.set_cons_succ])
          (refine take_in (i := 2) (v := ?_) rfl ?_ ?_; rotate_left; (intro w hSw; (try dsimp only at hSw); go_simp; try with_reducible rfl)); (try simp only [Act.put, List.setIfInBounds_toArray, List.set_cons_zero, List.set_cons_succ])
          (first | (refine take_in (i := 3) (v := ?_) rfl ?_ ?_; rotate_left; (intro w hSw; (try dsimp only at hSw); go_simp; try with_reducible rfl)) | (refine take_out (i := 3) rfl ?_)); (try simp only [Act.put, List.setIfInBounds_toArray, List.set_cons_zero, List.set_cons_succ])
          (first | (refine take_in (i := 4) (v := ?_) rfl ?_ ?_; rotate_left; (intro w hSw; (try dsimp only at hSw); go_simp; try with_reducible rfl)) | (refine take_out (i := 4) rfl ?_)); (try simp only [Act.put, List.setIfInBounds_toArray, List.set_cons_zero, List.set_cons_succ])
          (first | (refine take_in (i := 5) (v := ?_) rfl ?_ ?_; rotate_left; (intro w hSw; (try dsimp only at hSw); go_simp; try with_reducible rfl)) | (refine take_out (i := 5) rfl ?_)); (try simp only [Act.put, List.setIfInBounds_toArray, List.set_cons_zero, List.set_cons_succ])
          (first | (refine take_in (i := 6) (v := ?_) rfl ?_ ?_; rotate_left; (intro w hSw; (try dsimp only at hSw); go_simp; try with_reducible rfl)) | (refine take_out (i := 6) rfl ?_)); (try simp only [Act.put, List.setIfInBounds_toArray, List.set_cons_zero, List.set_cons_succ])
          (first | (refine take_in (i := 7) (v := ?_) rfl ?_ ?_; rotate_left; (intro w hSw; (try dsimp only at hSw); go_simp; try with_reducible rfl)) | (refine take_out (i := 7) rfl ?_)); (try simp only [Act.put, List.setIfInBounds_toArray, List.set_cons_zero, List.set_cons_succ])
          (first | (refine take_in (i := 8) (v := ?_) rfl ?_ ?_; rotate_left; (intro w hSw; (try dsimp only at hSw); go_simp; try with_reducible rfl)) | (refine take_out (i := 8) rfl ?_)); (try simp only [Act.put, List.setIfInBounds_toArray, List.set_cons_zero, List.set_cons_succ])
          (first | (refine take_in (i := 9) (v := ?_) rfl ?_ ?_; rotate_left; (intro w hSw; (try dsimp only at hSw); go_simp; try with_reducible rfl)) | (refine take_out (i := 9) rfl ?_)); (try simp only [Act.put, List.setIfInBounds_toArray, List.set_cons_zero, List.set_cons_succ])
          (first | (refine take_in (i := 10) (v := ?_) rfl ?_ ?_; rotate_left; (intro w hSw; (try dsimp only at hSw); go_simp; try with_reducible rfl)) | (refine take_out (i := 10) rfl ?_)); (try simp only [Act.put, List.setIfInBounds_toArray, List.set_cons_zero, List.set_cons_succ])
          (first | (refine take_in (i := 11) (v := ?_) rfl ?_ ?_; rotate_left; (intro w hSw; (try dsimp only at hSw); go_simp; try with_reducible rfl)) | (refine take_out (i := 11) rfl ?_)); (try simp only [Act.put, List.setIfInBounds_toArray, List.set_cons_zero, List.set_cons_succ])
          (first | (refine take_in (i := 12) (v := ?_) rfl ?_ ?_; rotate_left; (intro w hSw; (try dsimp only at hSw); go_simp; try with_reducible rfl)) | (refine take_out (i := 12) rfl ?_)); (try simp only [Act.put, List.setIfInBounds_toArray, List.set_cons_zero, List.set_cons_succ])
          (first | (refine take_in (i := 13) (v := ?_) rfl ?_ ?_; rotate_left; (intro w hSw; (try dsimp only at hSw); go_simp; try with_reducible rfl)) | (refine take_out (i := 13) rfl ?_)); (try simp only [Act.put, List.setIfInBounds_toArray, List.set_cons_zero, List.set_cons_succ])
          (refine take_in (i := 14) (v := ?_) rfl ?_ ?_; rotate_left; (intro w hSw; (try dsimp only at hSw); go_simp; try with_reducible rfl)); (try simp only [Act.put, List.setIfInBounds_toArray, List.set_cons_zero, List.set_cons_succ])
          (refine take_in (i := 15) (v := ?_) rfl ?_ ?_; rotate_left; (intro w hSw; (try dsimp only at hSw); go_simp; try with_reducible rfl)); (try simp only [Act.put, List.setIfInBounds_toArray, List.set_cons_zero, List.set_cons_succ])
          (first | (refine take_in (i := 16) (v := ?_) rfl ?_ ?_; rotate_left; (intro w hSw; (try dsimp only at hSw); go_simp; try with_reducible rfl)) | (refine take_out (i := 16) rfl ?_)); (try simp only [Act.put, List.setIfInBounds_toArray, List.set_cons_zero, List.set_cons_succ])
          (first | (refine take_in (i := 17) (v := ?_) rfl ?_ ?_; rotate_left; (intro w hSw; (try dsimp only at hSw); go_simp; try with_reducible rfl)) | (refine take_out (i := 17) rfl ?_)); (try simp only [Act.put, List.setIfInBounds_toArray, List.set_cons_zero, List.set_cons_succ])
          (first | (refine take_in (i := 18) (v := ?_) rfl ?_ ?_; rotate_left; (intro w hSw; (try dsimp only at hSw); go_simp; try with_reducible rfl)) | (refine take_out (i := 18) rfl ?_)); (try simp only [Act.put, List.setIfInBounds_toArray, List.set_cons_zero, List.set_cons_succ])
          (first | (refine take_in (i := 19) (v := ?_) rfl ?_ ?_; rotate_left; (intro w hSw; (try dsimp only at hSw); go_simp; try with_reducible rfl)) | (refine take_out (i := 19) rfl ?_)); (try simp only [Act.put, List.setIfInBounds_toArray, List.set_cons_zero, List.set_cons_succ])
          (first | (refine take_in (i := 20) (v := ?_) rfl ?_ ?_; rotate_left; (intro w hSw; (try dsimp only at hSw); go_simp; try with_reducible rfl)) | (refine take_out (i := 20) rfl ?_)); (try simp only [Act.put, List.setIfInBounds_toArray, List.set_cons_zero, List.set_cons_succ])
          (first | (refine take_in (i := 22) (v := ?_) rfl ?_ ?_; rotate_left; (intro w hSw; (try dsimp only at hSw); go_simp; try with_reducible rfl)) | (refine take_out (i := 22) rfl ?_)); (try simp only [Act.put, List.setIfInBounds_toArray, List.set_cons_zero, List.set_cons_succ])
          (first | (refine take_out (i := 21) rfl ?_) | (refine take_call (i := 21) rfl (fun K hK => ?_); go_simp; ((with_reducible refine (HB.out _ hx).mono ?_); rintro e wa ⟨va, rfl, hka, rfl⟩; have hx := hx.trans hka; have hcell := (hka.cell (b := g) (o := og + i) hcell id)); go_wp2_with fail; refine hK.out _ _ ?_ (fun hHeld => ?_); (try dsimp only); (assumption); clear hK K)); (try simp only [Act.put, List.setIfInBounds_toArray, List.set_cons_zero, List.set_cons_succ])
          (first | (refine take_in (i := 23) (v := ?_) rfl ?_ ?_; rotate_left; (intro w hSw; (try dsimp only at hSw); go_simp; try with_reducible rfl)) | (refine take_out (i := 23) rfl ?_)); (try simp only [Act.put, List.setIfInBounds_toArray, List.set_cons_zero, List.set_cons_succ])
          (refine take_in (i := 24) (v := ?_) rfl ?_ ?_; rotate_left; (intro w hSw; (try dsimp only at hSw); go_simp; try with_reducible rfl)); (try simp only [Act.put, List.setIfInBounds_toArray, List.set_cons_zero, List.set_cons_succ])
          (refine take_in (i := 25) (v := ?_) rfl ?_ ?_; rotate_left; (intro w hSw; (try dsimp only at hSw); go_simp; try with_reducible rfl)); (try simp only [Act.put, List.setIfInBounds_toArray, List.set_cons_zero, List.set_cons_succ])
          (first | (refine take_in (i := 26) (v := ?_) rfl ?_ ?_; rotate_left; (intro w hSw; (try dsimp only at hSw); go_simp; try with_reducible rfl)) | (refine take_out (i := 26) rfl ?_)); (try simp only [Act.put, List.setIfInBounds_toArray, List.set_cons_zero, List.set_cons_succ])
          (first | (refine take_in (i := 27) (v := ?_) rfl ?_ ?_; rotate_left; (intro w hSw; (try dsimp only at hSw); go_simp; try with_reducible rfl)) | (refine take_out (i := 27) rfl ?_)); (try simp only [Act.put, List.setIfInBounds_toArray, List.set_cons_zero, List.set_cons_succ])
          (first | (refine take_in (i := 28) (v := ?_) rfl ?_ ?_; rotate_left; (intro w hSw; (try dsimp only at hSw); go_simp; try with_reducible rfl)) | (refine take_out (i := 28) rfl ?_)); (try simp only [Act.put, List.setIfInBounds_toArray, List.set_cons_zero, List.set_cons_succ])
          (first | (refine take_in (i := 29) (v := ?_) rfl ?_ ?_; rotate_left; (intro w hSw; (try dsimp only at hSw); go_simp; try with_reducible rfl)) | (refine take_out (i := 29) rfl ?_)); (try simp only [Act.put, List.setIfInBounds_toArray, List.set_cons_zero, List.set_cons_succ])
          (first | (refine take_in (i := 30) (v := ?_) rfl ?_ ?_; rotate_left; (intro w hSw; (try dsimp only at hSw); go_simp; try with_reducible rfl)) | (refine take_out (i := 30) rfl ?_)); (try simp only [Act.put, List.setIfInBounds_toArray, List.set_cons_zero, List.set_cons_succ])
          (first | (refine take_in (i := 32) (v := ?_) rfl ?_ ?_; rotate_left; (intro w hSw; (try dsimp only at hSw); go_simp; try with_reducible rfl)) | (refine take_out (i := 32) rfl ?_)); (try simp only [Act.put, List.setIfInBounds_toArray, List.set_cons_zero, List.set_cons_succ])
          (first | (refine take_in (i := 33) (v := ?_) rfl ?_ ?_; rotate_left; (intro w hSw; (try dsimp only at hSw); go_simp; try with_reducible rfl)) | (refine take_out (i := 33) rfl ?_)); (try simp only [Act.put, List.setIfInBounds_toArray, List.set_cons_zero, List.set_cons_succ])
          (first | (refine take_in (i := 34) (v := ?_) rfl ?_ ?_; rotate_left; (intro w hSw; (try dsimp only at hSw); go_simp; try with_reducible rfl)) | (refine take_out (i := 34) rfl ?_)); (try simp only [Act.put, List.setIfInBounds_toArray, List.set_cons_zero, List.set_cons_succ])
          (first | (refine take_in (i := 35) (v := ?_) rfl ?_ ?_; rotate_left; (intro w hSw; (try dsimp only at hSw); go_simp; try with_reducible rfl)) | (refine take_out (i := 35) rfl ?_)); (try simp only [Act.put, List.setIfInBounds_toArray, List.set_cons_zero, List.set_cons_succ])
          (first | (refine take_in (i := 36) (v := ?_) rfl ?_ ?_; rotate_left; (intro w hSw; (try dsimp only at hSw); go_simp; try with_reducible rfl)) | (refine take_out (i := 36) rfl ?_)); (try simp only [Act.put, List.setIfInBounds_toArray, List.set_cons_zero, List.set_cons_succ])
          (first | (refine take_out (i := 31) rfl ?_) | (refine take_call (i := 31) rfl (fun K hK => ?_); go_simp; (first | ((with_reducible refine (HU.out _ hx).mono ?_); rintro e wa ⟨va, rfl, hka, rfl⟩; have hx := hx.trans hka; have hcell := (hka.cell (b := g) (o := og + i) hcell id)) | ((with_reducible refine (HS.out _ hx).mono ?_); rintro e wa ⟨va, rfl, hka, rfl⟩; have hx := hx.trans hka; have hcell := (hka.cell (b := g) (o := og + i) hcell id)) | ((with_reducible refine (HO.out _ hx).mono ?_); rintro e wa ⟨va, rfl, hka, rfl⟩; have hx := hx.trans hka; have hcell := (hka.cell (b := g) (o := og + i) hcell id)) | ((with_reducible refine (HM.out _ hx).mono ?_); rintro e wa ⟨va, rfl, hka, rfl⟩; have hx := hx.trans hka; have hcell := (hka.cell (b := g) (o := og + i) hcell id))); go_wp2_with fail; refine hK.out _ _ ?_ (fun hHeld => ?_); (try dsimp only); (assumption); clear hK K)); (try simp only [Act.put, List.setIfInBounds_toArray, List.set_cons_zero, List.set_cons_succ])
          (first | (refine take_out (i := 37) rfl ?_) | (refine take_call (i := 37) rfl (fun K hK => ?_); go_simp; (first | ((with_reducible refine (HU.out _ hx).mono ?_); rintro e wa ⟨va, rfl, hka, rfl⟩; have hx := hx.trans hka; have hcell := (hka.cell (b := g) (o := og + i) hcell id)) | ((with_reducible refine (HS.out _ hx).mono ?_); rintro e wa ⟨va, rfl, hka, rfl⟩; have hx := hx.trans hka; have hcell := (hka.cell (b := g) (o := og + i) hcell id)) | ((with_reducible refine (HO.out _ hx).mono ?_); rintro e wa ⟨va, rfl, hka, rfl⟩; have hx := hx.trans hka; have hcell := (hka.cell (b := g) (o := og + i) hcell id)) | ((with_reducible refine (HM.out _ hx).mono ?_); rintro e wa ⟨va, rfl, hka, rfl⟩; have hx := hx.trans hka; have hcell := (hka.cell (b := g) (o := og + i) hcell id))); go_wp2_with fail; refine hK.out _ _ ?_ (fun hHeld => ?_); (try dsimp only); (assumption); clear hK K)); (try simp only [Act.put, List.setIfInBounds_toArray, List.set_cons_zero, List.set_cons_succ])
          (first | (refine take_in (i := 38) (v := ?_) rfl ?_ ?_; rotate_left; (intro w hSw; (try dsimp only at hSw); go_simp; try with_reducible rfl)) | (refine take_out (i := 38) rfl ?_)); (try simp only [Act.put, List.setIfInBounds_toArray, List.set_cons_zero, List.set_cons_succ])
          (first | (refine take_in (i := 39) (v := ?_) rfl ?_ ?_; rotate_left; (intro w hSw; (try dsimp only at hSw); go_simp; try with_reducible rfl)) | (refine take_out (i := 39) rfl ?_)); (try simp only [Act.put, List.setIfInBounds_toArray, List.set_cons_zero, List.set_cons_succ])
          (first | (refine take_in (i := 40) (v := ?_) rfl ?_ ?_; rotate_left; (intro w hSw; (try dsimp only at hSw); go_simp; try with_reducible rfl)) | (refine take_out (i := 40) rfl ?_)); (try simp only [Act.put, List.setIfInBounds_toArray, List.set_cons_zero, List.set_cons_succ])
          (first | (refine take_in (i := 41) (v := ?_) rfl ?_ ?_; rotate_left; (intro w hSw; (try dsimp only at hSw); go_simp; try with_reducible rfl)) | (refine take_out (i := 41) rfl ?_)); (try simp only [Act.put, List.setIfInBounds_toArray, List.set_cons_zero, List.set_cons_succ])
          (first | (refine take_in (i := 42) (v := ?_) rfl ?_ ?_; rotate_left; (intro w hSw; (try dsimp only at hSw); go_simp; try with_reducible rfl)) | (refine take_out (i := 42) rfl ?_)); (try simp only [Act.put, List.setIfInBounds_toArray, List.set_cons_zero, List.set_cons_succ])
          (first | (refine take_in (i := 43) (v := ?_) rfl ?_ ?_; rotate_left; (intro w hSw; (try dsimp only at hSw); go_simp; try with_reducible rfl)) | (refine take_out (i := 43) rfl ?_)); (try simp only [Act.put, List.setIfInBounds_toArray, List.set_cons_zero, List.set_cons_succ])
          (first | (refine take_out (i := 44) rfl ?_) | (refine take_call (i := 44) rfl (fun K hK => ?_); go_simp; (first | ((with_reducible refine (HU.out _ hx).mono ?_); rintro e wa ⟨va, rfl, hka, rfl⟩; have hx := hx.trans hka; have hcell := (hka.cell (b := g) (o := og + i) hcell id)) | ((with_reducible refine (HS.out _ hx).mono ?_); rintro e wa ⟨va, rfl, hka, rfl⟩; have hx := hx.trans hka; have hcell := (hka.cell (b := g) (o := og + i) hcell id)) | ((with_reducible refine (HO.out _ hx).mono ?_); rintro e wa ⟨va, rfl, hka, rfl⟩; have hx := hx.trans hka; have hcell := (hka.cell (b := g) (o := og + i) hcell id)) | ((with_reducible refine (HM.out _ hx).mono ?_); rintro e wa ⟨va, rfl, hka, rfl⟩; have hx := hx.trans hka; have hcell := (hka.cell (b := g) (o := og + i) hcell id))); go_wp2_with fail; refine hK.out _ _ ?_ (fun hHeld => ?_); (try dsimp only); (assumption); clear hK K)); (try simp only [Act.put, List.setIfInBounds_toArray, List.set_cons_zero, List.set_cons_succ])
          (first | (refine take_in (i := 45) (v := ?_) rfl ?_ ?_; rotate_left; (intro w hSw; (try dsimp only at hSw); go_simp; try with_reducible rfl)) | (refine take_out (i := 45) rfl ?_)); (try simp only [Act.put, List.setIfInBounds_toArray, List.set_cons_zero, List.set_cons_succ])
          (first | (refine take_in (i := 46) (v := ?_) rfl ?_ ?_; rotate_left; (intro w hSw; (try dsimp only at hSw); go_simp; try with_reducible rfl)) | (refine take_out (i := 46) rfl ?_)); (try simp only [Act.put, List.setIfInBounds_toArray, List.set_cons_zero, List.set_cons_succ])
          (refine take_in (i := 47) (v := ?_) rfl ?_ ?_; rotate_left; (intro w hSw; (try dsimp only at hSw); go_simp; try with_reducible rfl)); (try simp only [Act.put, List.setIfInBounds_toArray, List.set_cons_zero, List.set_cons_succ])
          (refine take_in (i := 48) (v := ?_) rfl ?_ ?_; rotate_left; (intro w hSw; (try dsimp only at hSw); go_simp; try with_reducible rfl)); (try simp only [Act.put, List.setIfInBounds_toArray, List.set_cons_zero, List.set_cons_succ])
          (first | (refine take_in (i := 49) (v := ?_) rfl ?_ ?_; rotate_left; (intro w hSw; (try dsimp only at hSw); go_simp; try with_reducible rfl)) | (refine take_out (i := 49) rfl ?_)); (try simp only [Act.put, List.setIfInBounds_toArray, List.set_cons_zero, List.set_cons_succ])
          (first | (refine take_in (i := 50) (v := ?_) rfl ?_ ?_; rotate_left; (intro w hSw; (try dsimp only at hSw); go_simp; try with_reducible rfl)) | (refine take_out (i := 50) rfl ?_)); (try simp only [Act.put, List.setIfInBounds_toArray, List.set_cons_zero, List.set_cons_succ])
          (first | (refine take_in (i := 51) (v := ?_) rfl ?_ ?_; rotate_left; (intro w hSw; (try dsimp only at hSw); go_simp; try with_reducible rfl)) | (refine take_out (i := 51) rfl ?_)); (try simp only [Act.put, List.setIfInBounds_toArray, List.set_cons_zero, List.set_cons_succ])
          (first | (refine take_in (i := 52) (v := ?_) rfl ?_ ?_; rotate_left; (intro w hSw; (try dsimp only at hSw); go_simp; try with_reducible rfl)) | (refine take_out (i := 52) rfl ?_)); (try simp only [Act.put, List.setIfInBounds_toArray, List.set_cons_zero, List.set_cons_succ])
          (first | (refine take_in (i := 53) (v := ?_) rfl ?_ ?_; rotate_left; (intro w hSw; (try dsimp only at hSw); go_simp; try with_reducible rfl)) | (refine take_out (i := 53) rfl ?_)); (try simp only [Act.put, List.setIfInBounds_toArray, List.set_cons_zero, List.set_cons_succ])
          (first | (refine take_in (i := 55) (v := ?_) rfl ?_ ?_; rotate_left; (intro w hSw; (try dsimp only at hSw); go_simp; try with_reducible rfl)) | (refine take_out (i := 55) rfl ?_)); (try simp only [Act.put, List.setIfInBounds_toArray, List.set_cons_zero, List.set_cons_succ])
          (first | (refine take_in (i := 56) (v := ?_) rfl ?_ ?_; rotate_left; (intro w hSw; (try dsimp only at hSw); go_simp; try with_reducible rfl)) | (refine take_out (i := 56) rfl ?_)); (try simp only [Act.put, List.setIfInBounds_toArray, List.set_cons_zero, List.set_cons_succ])
          (first | (refine take_in (i := 57) (v := ?_) rfl ?_ ?_; rotate_left; (intro w hSw; (try dsimp only at hSw); go_simp; try with_reducible rfl)) | (refine take_out (i := 57) rfl ?_)); (try simp only [Act.put, List.setIfInBounds_toArray, List.set_cons_zero, List.set_cons_succ])
          (first | (refine take_in (i := 58) (v := ?_) rfl ?_ ?_; rotate_left; (intro w hSw; (try dsimp only at hSw); go_simp; try with_reducible rfl)) | (refine take_out (i := 58) rfl ?_)); (try simp only [Act.put, List.setIfInBounds_toArray, List.set_cons_zero, List.set_cons_succ])
          (first | (refine take_in (i := 59) (v := ?_) rfl ?_ ?_; rotate_left; (intro w hSw; (try dsimp only at hSw); go_simp; try with_reducible rfl)) | (refine take_out (i := 59) rfl ?_)); (try simp only [Act.put, List.setIfInBounds_toArray, List.set_cons_zero, List.set_cons_succ])
          (first | (refine take_out (i := 54) rfl ?_) | (refine take_call (i := 54) rfl (fun K hK => ?_); go_simp; (first | ((with_reducible refine (HU.out _ hx).mono ?_); rintro e wa ⟨va, rfl, hka, rfl⟩; have hx := hx.trans hka; have hcell := (hka.cell (b := g) (o := og + i) hcell id)) | ((with_reducible refine (HS.out _ hx).mono ?_); rintro e wa ⟨va, rfl, hka, rfl⟩; have hx := hx.trans hka; have hcell := (hka.cell (b := g) (o := og + i) hcell id)) | ((with_reducible refine (HO.out _ hx).mono ?_); rintro e wa ⟨va, rfl, hka, rfl⟩; have hx := hx.trans hka; have hcell := (hka.cell (b := g) (o := og + i) hcell id)) | ((with_reducible refine (HM.out _ hx).mono ?_); rintro e wa ⟨va, rfl, hka, rfl⟩; have hx := hx.trans hka; have hcell := (hka.cell (b := g) (o := og + i) hcell id))); go_wp2_with fail; refine hK.out _ _ ?_ (fun hHeld => ?_); (try dsimp only); (assumption); clear hK K)); (try simp only [Act.put, List.setIfInBounds_toArray, List.set_cons_zero, List.set_cons_succ])
          (first | (refine take_out (i := 60) rfl ?_) | (refine take_call (i := 60) rfl (fun K hK => ?_); go_simp; (first | ((with_reducible refine (HU.out _ hx).mono ?_); rintro e wa ⟨va, rfl, hka, rfl⟩; have hx := hx.trans hka; have hcell := (hka.cell (b := g) (o := og + i) hcell id)) | ((with_reducible refine (HS.out _ hx).mono ?_); rintro e wa ⟨va, rfl, hka, rfl⟩; have hx := hx.trans hka; have hcell := (hka.cell (b := g) (o := og + i) hcell id)) | ((with_reducible refine (HO.out _ hx).mono ?_); rintro e wa ⟨va, rfl, hka, rfl⟩; have hx := hx.trans hka; have hcell := (hka.cell (b := g) (o := og + i) hcell id)) | ((with_reducible refine (HM.out _ hx).mono ?_); rintro e wa ⟨va, rfl, hka, rfl⟩; have hx := hx.trans hka; have hcell := (hka.cell (b := g) (o := og + i) hcell id))); go_wp2_with fail; refine hK.out _ _ ?_ (fun hHeld => ?_); (try dsimp only); (assumption); clear hK K)); (try simp only [Act.put, List.setIfInBounds_toArray, List.set_cons_zero, List.set_cons_succ])
          (first | (refine take_in (i := 61) (v := ?_) rfl ?_ ?_; rotate_left; (intro w hSw; (try dsimp only at hSw); go_simp; try with_reducible rfl)) | (refine take_out (i := 61) rfl ?_)); (try simp only [Act.put, List.setIfInBounds_toArray, List.set_cons_zero, List.set_cons_succ])
          (first | (refine take_in (i := 62) (v := ?_) rfl ?_ ?_; rotate_left; (intro w hSw; (try dsimp only at hSw); go_simp; try with_reducible rfl)) | (refine take_out (i := 62) rfl ?_)); (try simp only [Act.put, List.setIfInBounds_toArray, List.set_cons_zero, List.set_cons_succ])
          (first | (refine take_in (i := 63) (v := ?_) rfl ?_ ?_; rotate_left; (intro w hSw; (try dsimp only at hSw); go_simp; try with_reducible rfl)) | (refine take_out (i := 63) rfl ?_)); (try simp only [Act.put, List.setIfInBounds_toArray, List.set_cons_zero, List.set_cons_succ])
          (first | (refine take_in (i := 64) (v := ?_) rfl ?_ ?_; rotate_left; (intro w hSw; (try dsimp only at hSw); go_simp; try with_reducible rfl)) | (refine take_out (i := 64) rfl ?_)); (try simp only [Act.put, List.setIfInBounds_toArray, List.set_cons_zero, List.set_cons_succ])
          (first | (refine take_in (i := 65) (v := ?_) rfl ?_ ?_; rotate_left; (intro w hSw; (try dsimp only at hSw); go_simp; try with_reducible rfl)) | (refine take_out (i := 65) rfl ?_)); (try simp only [Act.put, List.setIfInBounds_toArray, List.set_cons_zero, List.set_cons_succ])
          (first | (refine take_in (i := 66) (v := ?_) rfl ?_ ?_; rotate_left; (intro w hSw; (try dsimp only at hSw); go_simp; try with_reducible rfl)) | (refine take_out (i := 66) rfl ?_)); (try simp only [Act.put, List.setIfInBounds_toArray, List.set_cons_zero, List.set_cons_succ])
          (first | (refine take_out (i := 67) rfl ?_) | (refine take_call (i := 67) rfl (fun K hK => ?_); go_simp; (first | ((with_reducible refine (HU.out _ hx).mono ?_); rintro e wa ⟨va, rfl, hka, rfl⟩; have hx := hx.trans hka; have hcell := (hka.cell (b := g) (o := og + i) hcell id)) | ((with_reducible refine (HS.out _ hx).mono ?_); rintro e wa ⟨va, rfl, hka, rfl⟩; have hx := hx.trans hka; have hcell := (hka.cell (b := g) (o := og + i) hcell id)) | ((with_reducible refine (HO.out _ hx).mono ?_); rintro e wa ⟨va, rfl, hka, rfl⟩; have hx := hx.trans hka; have hcell := (hka.cell (b := g) (o := og + i) hcell id)) | ((with_reducible refine (HM.out _ hx).mono ?_); rintro e wa ⟨va, rfl, hka, rfl⟩; have hx := hx.trans hka; have hcell := (hka.cell (b := g) (o := og + i) hcell id))); go_wp2_with fail; refine hK.out _ _ ?_ (fun hHeld => ?_); (try dsimp only); (assumption); clear hK K)); (try simp only [Act.put, List.setIfInBounds_toArray, List.set_cons_zero, List.set_cons_succ])
          (first | (refine take_in (i := 68) (v := ?_) rfl ?_ ?_; rotate_left; (intro w hSw; (try dsimp only at hSw); go_simp; try with_reducible rfl)) | (refine take_out (i := 68) rfl ?_)); (try simp only [Act.put, List.setIfInBounds_toArray, List.set_cons_zero, List.set_cons_succ])
          (first | (refine take_in (i := 69) (v := ?_) rfl ?_ ?_; rotate_left; (intro w hSw; (try dsimp only at hSw); go_simp; try with_reducible rfl)) | (refine take_out (i := 69) rfl ?_)); (try simp only [Act.put, List.setIfInBounds_toArray, List.set_cons_zero, List.set_cons_succ])
          (refine take_in (i := 70) (v := ?_) rfl ?_ ?_; rotate_left; (intro w hSw; (try dsimp only at hSw); go_simp; try with_reducible rfl)); (try simp only [Act.put, List.setIfInBounds_toArray, List.set_cons_zero, List.set_cons_succ])
          refine wpAnyH_done (by kernel_rfl) ?_ _
          go_wp2
          go_roundw
          case rel => exact ⟨i + 1, by omega, by first | rfl | (congr 1; done) | (congr 1; omega), Lib.hid hx⟩
          case measure => simp [intOf]; omega
      · obtain ⟨j, ej⟩ : ∃ j, i = j + 1 := ⟨i - 1, by omega⟩
        obtain ⟨z, hz⟩ : ∃ z, (newS cS (s ++ o))[j]? = some z := ⟨_, List.getElem?_eq_getElem (by rw [← EN.out]; omega)⟩
        obtain ⟨g2, og2, eag2, hcell2⟩ := (HCL.out.ext hex.out) j (.string z) (by simp [strs, hz])
        cases eag2
        have hlt2 : Op.bytesLess z.toList y.toList = true := cS_lt (by
          obtain ⟨h1, rfl⟩ := List.getElem?_eq_some_iff.1 hy
          obtain ⟨h2, rfl⟩ := List.getElem?_eq_some_iff.1 hz
          exact List.pairwise_iff_getElem.1 (Strict.new cS_law (s ++ o)) j i h2 h1 (by omega))
        have q0 : decide ((0 : Int) < (i : Int)) = true := by rw [decide_eq_true_iff]; omega
        have q00 : (0 : Int) < (i : Int) := by omega
        have q01 : decide (0 < i) = true := by rw [decide_eq_true_iff]; omega
        have q02 : 0 < i := by omega
        have q1 : (j : Int) < (n : Int) := by omega
        have q2 : (i : Int) < (n : Int) := by omega
        have q3 : IntKind.i64.wrap ((i : Int) - 1) = (j : Int) := by rw [show (i : Int) - 1 = (j : Int) by omega]; exact IntWalk.i64_in _ (by omega)
        replace hx := hx.drew
        clear hy hz ej h0
        cases bs
        · (obtain rfl : bo = true := by simpa using hyu.symm)
          clear hyu
          go_wp2
          try simp only [List.append]
          refine wp_region_held_drew (S := fun w' => w'.cell? ⟨g, og + i, none⟩ = some (.string y) ∧ w'.cell? ⟨g, og + j, none⟩ = some (.string z)) (by kernel_rfl) (by exact ⟨by assumption, by assumption⟩) (fun hHeld => ?_)
          (refine take_in (i := 0) (v := ?_) rfl ?_ ?_; rotate_left; (intro w hSw; (try dsimp only at hSw); go_simp; try with_reducible rfl)); (try simp only [Act.put, List.setIfInBounds_toArray, List.set_cons_zero, List.set_cons_succ])
          (refine take_in (i := 1) (v := ?_) rfl ?_ ?_; rotate_left; (intro w hSw; (try dsimp only at hSw); go_simp; try with_reducible rfl)); (try simp only [Act.put, List.setIfInBounds_toArray, List.set_cons_zero, List.set_cons_succ])
          (refine take_in (i := 2) (v := ?_) rfl ?_ ?_; rotate_left; (intro w hSw; (try dsimp only at hSw); go_simp; try with_reducible rfl)); (try simp only [Act.put, List.setIfInBounds_toArray, List.set_cons_zero, List.set_cons_succ])
          (first | (refine take_in (i := 3) (v := ?_) rfl ?_ ?_; rotate_left; (intro w hSw; (try dsimp only at hSw); go_simp; try with_reducible rfl)) | (refine take_out (i := 3) rfl ?_)); (try simp only [Act.put, List.setIfInBounds_toArray, List.set_cons_zero, List.set_cons_succ])
          (first | (refine take_in (i := 4) (v := ?_) rfl ?_ ?_; rotate_left; (intro w hSw; (try dsimp only at hSw); go_simp; try with_reducible rfl)) | (refine take_out (i := 4) rfl ?_)); (try simp only [Act.put, List.setIfInBounds_toArray, List.set_cons_zero, List.set_cons_succ])
          (first | (refine take_in (i := 5) (v := ?_) rfl ?_ ?_; rotate_left; (intro w hSw; (try dsimp only at hSw); go_simp; try with_reducible rfl)) | (refine take_out (i := 5) rfl ?_)); (try simp only [Act.put, List.setIfInBounds_toArray, List.set_cons_zero, List.set_cons_succ])
          (first | (refine take_in (i := 6) (v := ?_) rfl ?_ ?_; rotate_left; (intro w hSw; (try dsimp only at hSw); go_simp; try with_reducible rfl)) | (refine take_out (i := 6) rfl ?_)); (try simp only [Act.put, List.setIfInBounds_toArray, List.set_cons_zero, List.set_cons_succ])
          (first | (refine take_in (i := 7) (v := ?_) rfl ?_ ?_; rotate_left; (intro w hSw; (try dsimp only at hSw); go_simp; try with_reducible rfl)) | (refine take_out (i := 7) rfl ?_)); (try simp only [Act.put, List.setIfInBounds_toArray, List.set_cons_zero, List.set_cons_succ])
          (first | (refine take_in (i := 8) (v := ?_) rfl ?_ ?_; rotate_left; (intro w hSw; (try dsimp only at hSw); go_simp; try with_reducible rfl)) | (refine take_out (i := 8) rfl ?_)); (try simp only [Act.put, List.setIfInBounds_toArray, List.set_cons_zero, List.set_cons_succ])
          (first | (refine take_in (i := 9) (v := ?_) rfl ?_ ?_; rotate_left; (intro w hSw; (try dsimp only at hSw); go_simp; try with_reducible rfl)) | (refine take_out (i := 9) rfl ?_)); (try simp only [Act.put, List.setIfInBounds_toArray, List.set_cons_zero, List.set_cons_succ])
          (first | (refine take_in (i := 10) (v := ?_) rfl ?_ ?_; rotate_left; (intro w hSw; (try dsimp only at hSw); go_simp; try with_reducible rfl)) | (refine take_out (i := 10) rfl ?_)); (try simp only [Act.put, List.setIfInBounds_toArray, List.set_cons_zero, List.set_cons_succ])
          (first | (refine take_in (i := 11) (v := ?_) rfl ?_ ?_; rotate_left; (intro w hSw; (try dsimp only at hSw); go_simp; try with_reducible rfl)) | (refine take_out (i := 11) rfl ?_)); (try simp only [Act.put, List.setIfInBounds_toArray, List.set_cons_zero, List.set_cons_succ])
          (first | (refine take_in (i := 12) (v := ?_) rfl ?_ ?_; rotate_left; (intro w hSw; (try dsimp only at hSw); go_simp; try with_reducible rfl)) | (refine take_out (i := 12) rfl ?_)); (try simp only [Act.put, List.setIfInBounds_toArray, List.set_cons_zero, List.set_cons_succ])
          (first | (refine take_in (i := 13) (v := ?_) rfl ?_ ?_; rotate_left; (intro w hSw; (try dsimp only at hSw); go_simp; try with_reducible rfl)) | (refine take_out (i := 13) rfl ?_)); (try simp only [Act.put, List.setIfInBounds_toArray, List.set_cons_zero, List.set_cons_succ])
          (refine take_in (i := 14) (v := ?_) rfl ?_ ?_; rotate_left; (intro w hSw; (try dsimp only at hSw); go_simp; try with_reducible rfl)); (try simp only [Act.put, List.setIfInBounds_toArray, List.set_cons_zero, List.set_cons_succ])
          (refine take_in (i := 15) (v := ?_) rfl ?_ ?_; rotate_left; (intro w hSw; (try dsimp only at hSw); go_simp; try with_reducible rfl)); (try simp only [Act.put, List.setIfInBounds_toArray, List.set_cons_zero, List.set_cons_succ])
          (first | (refine take_in (i := 16) (v := ?_) rfl ?_ ?_; rotate_left; (intro w hSw; (try dsimp only at hSw); go_simp; try with_reducible rfl)) | (refine take_out (i := 16) rfl ?_)); (try simp only [Act.put, List.setIfInBounds_toArray, List.set_cons_zero, List.set_cons_succ])
          (first | (refine take_in (i := 17) (v := ?_) rfl ?_ ?_; rotate_left; (intro w hSw; (try dsimp only at hSw); go_simp; try with_reducible rfl)) | (refine take_out (i := 17) rfl ?_)); (try simp only [Act.put, List.setIfInBounds_toArray, List.set_cons_zero, List.set_cons_succ])
          (first | (refine take_in (i := 18) (v := ?_) rfl ?_ ?_; rotate_left; (intro w hSw; (try dsimp only at hSw); go_simp; try with_reducible rfl)) | (refine take_out (i := 18) rfl ?_)); (try simp only [Act.put, List.setIfInBounds_toArray, List.set_cons_zero, List.set_cons_succ])
          (first | (refine take_in (i := 19) (v := ?_) rfl ?_ ?_; rotate_left; (intro w hSw; (try dsimp only at hSw); go_simp; try with_reducible rfl)) | (refine take_out (i := 19) rfl ?_)); (try simp only [Act.put, List.setIfInBounds_toArray, List.set_cons_zero, List.set_cons_succ])
          (first | (refine take_in (i := 20) (v := ?_) rfl ?_ ?_; rotate_left; (intro w hSw; (try dsimp only at hSw); go_simp; try with_reducible rfl)) | (refine take_out (i := 20) rfl ?_)); (try simp only [Act.put, List.setIfInBounds_toArray, List.set_cons_zero, List.set_cons_succ])
          (first | (refine take_in (i := 22) (v := ?_) rfl ?_ ?_; rotate_left; (intro w hSw; (try dsimp only at hSw); go_simp; try with_reducible rfl)) | (refine take_out (i := 22) rfl ?_)); (try simp only [Act.put, List.setIfInBounds_toArray, List.set_cons_zero, List.set_cons_succ])
          (first | (refine take_out (i := 21) rfl ?_) | (refine take_call (i := 21) rfl (fun K hK => ?_); go_simp; ((with_reducible refine (HB.out _ hx).mono ?_); rintro e wa ⟨va, rfl, hka, rfl⟩; have hx := hx.trans hka; have hcell := (hka.cell (b := g) (o := og + i) hcell id); have hcell2 := (hka.cell (b := g) (o := og + j) hcell2 id)); go_wp2_with fail; refine hK.out _ _ ?_ (fun hHeld => ?_); (try dsimp only); (exact ⟨by assumption, by assumption⟩); clear hK K)); (try simp only [Act.put, List.setIfInBounds_toArray, List.set_cons_zero, List.set_cons_succ])
          (first | (refine take_in (i := 23) (v := ?_) rfl ?_ ?_; rotate_left; (intro w hSw; (try dsimp only at hSw); go_simp; try with_reducible rfl)) | (refine take_out (i := 23) rfl ?_)); (try simp only [Act.put, List.setIfInBounds_toArray, List.set_cons_zero, List.set_cons_succ])
          (refine take_in (i := 24) (v := ?_) rfl ?_ ?_; rotate_left; (intro w hSw; (try dsimp only at hSw); go_simp; try with_reducible rfl)); (try simp only [Act.put, List.setIfInBounds_toArray, List.set_cons_zero, List.set_cons_succ])
          (refine take_in (i := 25) (v := ?_) rfl ?_ ?_; rotate_left; (intro w hSw; (try dsimp only at hSw); go_simp; try with_reducible rfl)); (try simp only [Act.put, List.setIfInBounds_toArray, List.set_cons_zero, List.set_cons_succ])
          (first | (refine take_in (i := 26) (v := ?_) rfl ?_ ?_; rotate_left; (intro w hSw; (try dsimp only at hSw); go_simp; try with_reducible rfl)) | (refine take_out (i := 26) rfl ?_)); (try simp only [Act.put, List.setIfInBounds_toArray, List.set_cons_zero, List.set_cons_succ])
          (first | (refine take_in (i := 27) (v := ?_) rfl ?_ ?_; rotate_left; (intro w hSw; (try dsimp only at hSw); go_simp; try with_reducible rfl)) | (refine take_out (i := 27) rfl ?_)); (try simp only [Act.put, List.setIfInBounds_toArray, List.set_cons_zero, List.set_cons_succ])
          (first | (refine take_in (i := 28) (v := ?_) rfl ?_ ?_; rotate_left; (intro w hSw; (try dsimp only at hSw); go_simp; try with_reducible rfl)) | (refine take_out (i := 28) rfl ?_)); (try simp only [Act.put, List.setIfInBounds_toArray, List.set_cons_zero, List.set_cons_succ])
          (first | (refine take_in (i := 29) (v := ?_) rfl ?_ ?_; rotate_left; (intro w hSw; (try dsimp only at hSw); go_simp; try with_reducible rfl)) | (refine take_out (i := 29) rfl ?_)); (try simp only [Act.put, List.setIfInBounds_toArray, List.set_cons_zero, List.set_cons_succ])
          (first | (refine take_in (i := 30) (v := ?_) rfl ?_ ?_; rotate_left; (intro w hSw; (try dsimp only at hSw); go_simp; try with_reducible rfl)) | (refine take_out (i := 30) rfl ?_)); (try simp only [Act.put, List.setIfInBounds_toArray, List.set_cons_zero, List.set_cons_succ])
          (first | (refine take_in (i := 32) (v := ?_) rfl ?_ ?_; rotate_left; (intro w hSw; (try dsimp only at hSw); go_simp; try with_reducible rfl)) | (refine take_out (i := 32) rfl ?_)); (try simp only [Act.put, List.setIfInBounds_toArray, List.set_cons_zero, List.set_cons_succ])
          (first | (refine take_in (i := 33) (v := ?_) rfl ?_ ?_; rotate_left; (intro w hSw; (try dsimp only at hSw); go_simp; try with_reducible rfl)) | (refine take_out (i := 33) rfl ?_)); (try simp only [Act.put, List.setIfInBounds_toArray, List.set_cons_zero, List.set_cons_succ])
          (first | (refine take_in (i := 34) (v := ?_) rfl ?_ ?_; rotate_left; (intro w hSw; (try dsimp only at hSw); go_simp; try with_reducible rfl)) | (refine take_out (i := 34) rfl ?_)); (try simp only [Act.put, List.setIfInBounds_toArray, List.set_cons_zero, List.set_cons_succ])
          (first | (refine take_in (i := 35) (v := ?_) rfl ?_ ?_; rotate_left; (intro w hSw; (try dsimp only at hSw); go_simp; try with_reducible rfl)) | (refine take_out (i := 35) rfl ?_)); (try simp only [Act.put, List.setIfInBounds_toArray, List.set_cons_zero, List.set_cons_succ])
          (first | (refine take_in (i := 36) (v := ?_) rfl ?_ ?_; rotate_left; (intro w hSw; (try dsimp only at hSw); go_simp; try with_reducible rfl)) | (refine take_out (i := 36) rfl ?_)); (try simp only [Act.put, List.setIfInBounds_toArray, List.set_cons_zero, List.set_cons_succ])
          (first | (refine take_out (i := 31) rfl ?_) | (refine take_call (i := 31) rfl (fun K hK => ?_); go_simp; (first | ((with_reducible refine (HU.out _ hx).mono ?_); rintro e wa ⟨va, rfl, hka, rfl⟩; have hx := hx.trans hka; have hcell := (hka.cell (b := g) (o := og + i) hcell id); have hcell2 := (hka.cell (b := g) (o := og + j) hcell2 id)) | ((with_reducible refine (HS.out _ hx).mono ?_); rintro e wa ⟨va, rfl, hka, rfl⟩; have hx := hx.trans hka; have hcell := (hka.cell (b := g) (o := og + i) hcell id); have hcell2 := (hka.cell (b := g) (o := og + j) hcell2 id)) | ((with_reducible refine (HO.out _ hx).mono ?_); rintro e wa ⟨va, rfl, hka, rfl⟩; have hx := hx.trans hka; have hcell := (hka.cell (b := g) (o := og + i) hcell id); have hcell2 := (hka.cell (b := g) (o := og + j) hcell2 id)) | ((with_reducible refine (HM.out _ hx).mono ?_); rintro e wa ⟨va, rfl, hka, rfl⟩; have hx := hx.trans hka; have hcell := (hka.cell (b := g) (o := og + i) hcell id); have hcell2 := (hka.cell (b := g) (o := og + j) hcell2 id))); go_wp2_with fail; refine hK.out _ _ ?_ (fun hHeld => ?_); (try dsimp only); (exact ⟨by assumption, by assumption⟩); clear hK K)); (try simp only [Act.put, List.setIfInBounds_toArray, List.set_cons_zero, List.set_cons_succ])
          (first | (refine take_out (i := 37) rfl ?_) | (refine take_call (i := 37) rfl (fun K hK => ?_); go_simp; (first | ((with_reducible refine (HU.out _ hx).mono ?_); rintro e wa ⟨va, rfl, hka, rfl⟩; have hx := hx.trans hka; have hcell := (hka.cell (b := g) (o := og + i) hcell id); have hcell2 := (hka.cell (b := g) (o := og + j) hcell2 id)) | ((with_reducible refine (HS.out _ hx).mono ?_); rintro e wa ⟨va, rfl, hka, rfl⟩; have hx := hx.trans hka; have hcell := (hka.cell (b := g) (o := og + i) hcell id); have hcell2 := (hka.cell (b := g) (o := og + j) hcell2 id)) | ((with_reducible refine (HO.out _ hx).mono ?_); rintro e wa ⟨va, rfl, hka, rfl⟩; have hx := hx.trans hka; have hcell := (hka.cell (b := g) (o := og + i) hcell id); have hcell2 := (hka.cell (b := g) (o := og + j) hcell2 id)) | ((with_reducible refine (HM.out _ hx).mono ?_); rintro e wa ⟨va, rfl, hka, rfl⟩; have hx := hx.trans hka; have hcell := (hka.cell (b := g) (o := og + i) hcell id); have hcell2 := (hka.cell (b := g) (o := og + j) hcell2 id))); go_wp2_with fail; refine hK.out _ _ ?_ (fun hHeld => ?_); (try dsimp only); (exact ⟨by assumption, by assumption⟩); clear hK K)); (try simp only [Act.put, List.setIfInBounds_toArray, List.set_cons_zero, List.set_cons_succ])
          (first | (refine take_in (i := 38) (v := ?_) rfl ?_ ?_; rotate_left; (intro w hSw; (try dsimp only at hSw); go_simp; try with_reducible rfl)) | (refine take_out (i := 38) rfl ?_)); (try simp only [Act.put, List.setIfInBounds_toArray, List.set_cons_zero, List.set_cons_succ])
          (first | (refine take_in (i := 39) (v := ?_) rfl ?_ ?_; rotate_left; (intro w hSw; (try dsimp only at hSw); go_simp; try with_reducible rfl)) | (refine take_out (i := 39) rfl ?_)); (try simp only [Act.put, List.setIfInBounds_toArray, List.set_cons_zero, List.set_cons_succ])
          (first | (refine take_in (i := 40) (v := ?_) rfl ?_ ?_; rotate_left; (intro w hSw; (try dsimp only at hSw); go_simp; try with_reducible rfl)) | (refine take_out (i := 40) rfl ?_)); (try simp only [Act.put, List.setIfInBounds_toArray, List.set_cons_zero, List.set_cons_succ])
          (first | (refine take_in (i := 41) (v := ?_) rfl ?_ ?_; rotate_left; (intro w hSw; (try dsimp only at hSw); go_simp; try with_reducible rfl)) | (refine take_out (i := 41) rfl ?_)); (try simp only [Act.put, List.setIfInBounds_toArray, List.set_cons_zero, List.set_cons_succ])
          (first | (refine take_in (i := 42) (v := ?_) rfl ?_ ?_; rotate_left; (intro w hSw; (try dsimp only at hSw); go_simp; try with_reducible rfl)) | (refine take_out (i := 42) rfl ?_)); (try simp only [Act.put, List.setIfInBounds_toArray, List.set_cons_zero, List.set_cons_succ])
          (first | (refine take_in (i := 43) (v := ?_) rfl ?_ ?_; rotate_left; (intro w hSw; (try dsimp only at hSw); go_simp; try with_reducible rfl)) | (refine take_out (i := 43) rfl ?_)); (try simp only [Act.put, List.setIfInBounds_toArray, List.set_cons_zero, List.set_cons_succ])
          (first | (refine take_out (i := 44) rfl ?_) | (refine take_call (i := 44) rfl (fun K hK => ?_); go_simp; (first | ((with_reducible refine (HU.out _ hx).mono ?_); rintro e wa ⟨va, rfl, hka, rfl⟩; have hx := hx.trans hka; have hcell := (hka.cell (b := g) (o := og + i) hcell id); have hcell2 := (hka.cell (b := g) (o := og + j) hcell2 id)) | ((with_reducible refine (HS.out _ hx).mono ?_); rintro e wa ⟨va, rfl, hka, rfl⟩; have hx := hx.trans hka; have hcell := (hka.cell (b := g) (o := og + i) hcell id); have hcell2 := (hka.cell (b := g) (o := og + j) hcell2 id)) | ((with_reducible refine (HO.out _ hx).mono ?_); rintro e wa ⟨va, rfl, hka, rfl⟩; have hx := hx.trans hka; have hcell := (hka.cell (b := g) (o := og + i) hcell id); have hcell2 := (hka.cell (b := g) (o := og + j) hcell2 id)) | ((with_reducible refine (HM.out _ hx).mono ?_); rintro e wa ⟨va, rfl, hka, rfl⟩; have hx := hx.trans hka; have hcell := (hka.cell (b := g) (o := og + i) hcell id); have hcell2 := (hka.cell (b := g) (o := og + j) hcell2 id))); go_wp2_with fail; refine hK.out _ _ ?_ (fun hHeld => ?_); (try dsimp only); (exact ⟨by assumption, by assumption⟩); clear hK K)); (try simp only [Act.put, List.setIfInBounds_toArray, List.set_cons_zero, List.set_cons_succ])
          (first | (refine take_in (i := 45) (v := ?_) rfl ?_ ?_; rotate_left; (intro w hSw; (try dsimp only at hSw); go_simp; try with_reducible rfl)) | (refine take_out (i := 45) rfl ?_)); (try simp only [Act.put, List.setIfInBounds_toArray, List.set_cons_zero, List.set_cons_succ])
          (first | (refine take_in (i := 46) (v := ?_) rfl ?_ ?_; rotate_left; (intro w hSw; (try dsimp only at hSw); go_simp; try with_reducible rfl)) | (refine take_out (i := 46) rfl ?_)); (try simp only [Act.put, List.setIfInBounds_toArray, List.set_cons_zero, List.set_cons_succ])
          (refine take_in (i := 47) (v := ?_) rfl ?_ ?_; rotate_left; (intro w hSw; (try dsimp only at hSw); go_simp; try with_reducible rfl)); (try simp only [Act.put, List.setIfInBounds_toArray, List.set_cons_zero, List.set_cons_succ])
          (refine take_in (i := 48) (v := ?_) rfl ?_ ?_; rotate_left; (intro w hSw; (try dsimp only at hSw); go_simp; try with_reducible rfl)); (try simp only [Act.put, List.setIfInBounds_toArray, List.set_cons_zero, List.set_cons_succ])
          (first | (refine take_in (i := 49) (v := ?_) rfl ?_ ?_; rotate_left; (intro w hSw; (try dsimp only at hSw); go_simp; try with_reducible rfl)) | (refine take_out (i := 49) rfl ?_)); (try simp only [Act.put, List.setIfInBounds_toArray, List.set_cons_zero, List.set_cons_succ])
          (first | (refine take_in (i := 50) (v := ?_) rfl ?_ ?_; rotate_left; (intro w hSw; (try dsimp only at hSw); go_simp; try with_reducible rfl)) | (refine take_out (i := 50) rfl ?_)); (try simp only [Act.put, List.setIfInBounds_toArray, List.set_cons_zero, List.set_cons_succ])
          (first | (refine take_in (i := 51) (v := ?_) rfl ?_ ?_; rotate_left; (intro w hSw; (try dsimp only at hSw); go_simp; try with_reducible rfl)) | (refine take_out (i := 51) rfl ?_)); (try simp only [Act.put, List.setIfInBounds_toArray, List.set_cons_zero, List.set_cons_succ])
          (first | (refine take_in (i := 52) (v := ?_) rfl ?_ ?_; rotate_left; (intro w hSw; (try dsimp only at hSw); go_simp; try with_reducible rfl)) | (refine take_out (i := 52) rfl ?_)); (try simp only [Act.put, List.setIfInBounds_toArray, List.set_cons_zero, List.set_cons_succ])
          (first | (refine take_in (i := 53) (v := ?_) rfl ?_ ?_; rotate_left; (intro w hSw; (try dsimp only at hSw); go_simp; try with_reducible rfl)) | (refine take_out (i := 53) rfl ?_)); (try simp only [Act.put, List.setIfInBounds_toArray, List.set_cons_zero, List.set_cons_succ])
          (first | (refine take_in (i := 55) (v := ?_) rfl ?_ ?_; rotate_left; (intro w hSw; (try dsimp only at hSw); go_simp; try with_reducible rfl)) | (refine take_out (i := 55) rfl ?_)); (try simp only [Act.put, List.setIfInBounds_toArray, List.set_cons_zero, List.set_cons_succ])
          (first | (refine take_in (i := 56) (v := ?_) rfl ?_ ?_; rotate_left; (intro w hSw; (try dsimp only at hSw); go_simp; try with_reducible rfl)) | (refine take_out (i := 56) rfl ?_)); (try simp only [Act.put, List.setIfInBounds_toArray, List.set_cons_zero, List.set_cons_succ])
          (first | (refine take_in (i := 57) (v := ?_) rfl ?_ ?_; rotate_left; (intro w hSw; (try dsimp only at hSw); go_simp; try with_reducible rfl)) | (refine take_out (i := 57) rfl ?_)); (try simp only [Act.put, List.setIfInBounds_toArray, List.set_cons_zero, List.set_cons_succ])
          (first | (refine take_in (i := 58) (v := ?_) rfl ?_ ?_; rotate_left; (intro w hSw; (try dsimp only at hSw); go_simp; try with_reducible rfl)) | (refine take_out (i := 58) rfl ?_)); (try simp only [Act.put, List.setIfInBounds_toArray, List.set_cons_zero, List.set_cons_succ])
          (first | (refine take_in (i := 59) (v := ?_) rfl ?_ ?_; rotate_left; (intro w hSw; (try dsimp only at hSw); go_simp; try with_reducible rfl)) | (refine take_out (i := 59) rfl ?_)); (try simp only [Act.put, List.setIfInBounds_toArray, List.set_cons_zero, List.set_cons_succ])
          (first | (refine take_out (i := 54) rfl ?_) | (refine take_call (i := 54) rfl (fun K hK => ?_); go_simp; (first | ((with_reducible refine (HU.out _ hx).mono ?_); rintro e wa ⟨va, rfl, hka, rfl⟩; have hx := hx.trans hka; have hcell := (hka.cell (b := g) (o := og + i) hcell id); have hcell2 := (hka.cell (b := g) (o := og + j) hcell2 id)) | ((with_reducible refine (HS.out _ hx).mono ?_); rintro e wa ⟨va, rfl, hka, rfl⟩; have hx := hx.trans hka; have hcell := (hka.cell (b := g) (o := og + i) hcell id); have hcell2 := (hka.cell (b := g) (o := og + j) hcell2 id)) | ((with_reducible refine (HO.out _ hx).mono ?_); rintro e wa ⟨va, rfl, hka, rfl⟩; have hx := hx.trans hka; have hcell := (hka.cell (b := g) (o := og + i) hcell id); have hcell2 := (hka.cell (b := g) (o := og + j) hcell2 id)) | ((with_reducible refine (HM.out _ hx).mono ?_); rintro e wa ⟨va, rfl, hka, rfl⟩; have hx := hx.trans hka; have hcell := (hka.cell (b := g) (o := og + i) hcell id); have hcell2 := (hka.cell (b := g) (o := og + j) hcell2 id))); go_wp2_with fail; refine hK.out _ _ ?_ (fun hHeld => ?_); (try dsimp only); (exact ⟨by assumption, by assumption⟩); clear hK K)); (try simp only [Act.put, List.setIfInBounds_toArray, List.set_cons_zero, List.set_cons_succ])
          (first | (refine take_out (i := 60) rfl ?_) | (refine take_call (i := 60) rfl (fun K hK => ?_); go_simp; (first | ((with_reducible refine (HU.out _ hx).mono ?_); rintro e wa ⟨va, rfl, hka, rfl⟩; have hx := hx.trans hka; have hcell := (hka.cell (b := g) (o := og + i) hcell id); have hcell2 := (hka.cell (b := g) (o := og + j) hcell2 id)) | ((with_reducible refine (HS.out _ hx).mono ?_); rintro e wa ⟨va, rfl, hka, rfl⟩; have hx := hx.trans hka; have hcell := (hka.cell (b := g) (o := og + i) hcell id); have hcell2 := (hka.cell (b := g) (o := og + j) hcell2 id)) | ((with_reducible refine (HO.out _ hx).mono ?_); rintro e wa ⟨va, rfl, hka, rfl⟩; have hx := hx.trans hka; have hcell := (hka.cell (b := g) (o := og + i) hcell id); have hcell2 := (hka.cell (b := g) (o := og + j) hcell2 id)) | ((with_reducible refine (HM.out _ hx).mono ?_); rintro e wa ⟨va, rfl, hka, rfl⟩; have hx := hx.trans hka; have hcell := (hka.cell (b := g) (o := og + i) hcell id); have hcell2 := (hka.cell (b := g) (o := og + j) hcell2 id))); go_wp2_with fail; refine hK.out _ _ ?_ (fun hHeld => ?_); (try dsimp only); (exact ⟨by assumption, by assumption⟩); clear hK K)); (try simp only [Act.put, List.setIfInBounds_toArray, List.set_cons_zero, List.set_cons_succ])
          (first | (refine take_in (i := 61) (v := ?_) rfl ?_ ?_; rotate_left; (intro w hSw; (try dsimp only at hSw); go_simp; try with_reducible rfl)) | (refine take_out (i := 61) rfl ?_)); (try simp only [Act.put, List.setIfInBounds_toArray, List.set_cons_zero, List.set_cons_succ])
          (first | (refine take_in (i := 62) (v := ?_) rfl ?_ ?_; rotate_left; (intro w hSw; (try dsimp only at hSw); go_simp; try with_reducible rfl)) | (refine take_out (i := 62) rfl ?_)); (try simp only [Act.put, List.setIfInBounds_toArray, List.set_cons_zero, List.set_cons_succ])
          (first | (refine take_in (i := 63) (v := ?_) rfl ?_ ?_; rotate_left; (intro w hSw; (try dsimp only at hSw); go_simp; try with_reducible rfl)) | (refine take_out (i := 63) rfl ?_)); (try simp only [Act.put, List.setIfInBounds_toArray, List.set_cons_zero, List.set_cons_succ])
          (first | (refine take_in (i := 64) (v := ?_) rfl ?_ ?_; rotate_left; (intro w hSw; (try dsimp only at hSw); go_simp; try with_reducible rfl)) | (refine take_out (i := 64) rfl ?_)); (try simp only [Act.put, List.setIfInBounds_toArray, List.set_cons_zero, List.set_cons_succ])
          (first | (refine take_in (i := 65) (v := ?_) rfl ?_ ?_; rotate_left; (intro w hSw; (try dsimp only at hSw); go_simp; try with_reducible rfl)) | (refine take_out (i := 65) rfl ?_)); (try simp only [Act.put, List.setIfInBounds_toArray, List.set_cons_zero, List.set_cons_succ])
          (first | (refine take_in (i := 66) (v := ?_) rfl ?_ ?_; rotate_left; (intro w hSw; (try dsimp only at hSw); go_simp; try with_reducible rfl)) | (refine take_out (i := 66) rfl ?_)); (try simp only [Act.put, List.setIfInBounds_toArray, List.set_cons_zero, List.set_cons_succ])
          (first | (refine take_out (i := 67) rfl ?_) | (refine take_call (i := 67) rfl (fun K hK => ?_); go_simp; (first | ((with_reducible refine (HU.out _ hx).mono ?_); rintro e wa ⟨va, rfl, hka, rfl⟩; have hx := hx.trans hka; have hcell := (hka.cell (b := g) (o := og + i) hcell id); have hcell2 := (hka.cell (b := g) (o := og + j) hcell2 id)) | ((with_reducible refine (HS.out _ hx).mono ?_); rintro e wa ⟨va, rfl, hka, rfl⟩; have hx := hx.trans hka; have hcell := (hka.cell (b := g) (o := og + i) hcell id); have hcell2 := (hka.cell (b := g) (o := og + j) hcell2 id)) | ((with_reducible refine (HO.out _ hx).mono ?_); rintro e wa ⟨va, rfl, hka, rfl⟩; have hx := hx.trans hka; have hcell := (hka.cell (b := g) (o := og + i) hcell id); have hcell2 := (hka.cell (b := g) (o := og + j) hcell2 id)) | ((with_reducible refine (HM.out _ hx).mono ?_); rintro e wa ⟨va, rfl, hka, rfl⟩; have hx := hx.trans hka; have hcell := (hka.cell (b := g) (o := og + i) hcell id); have hcell2 := (hka.cell (b := g) (o := og + j) hcell2 id))); go_wp2_with fail; refine hK.out _ _ ?_ (fun hHeld => ?_); (try dsimp only); (exact ⟨by assumption, by assumption⟩); clear hK K)); (try simp only [Act.put, List.setIfInBounds_toArray, List.set_cons_zero, List.set_cons_succ])
          (first | (refine take_in (i := 68) (v := ?_) rfl ?_ ?_; rotate_left; (intro w hSw; (try dsimp only at hSw); go_simp; try with_reducible rfl)) | (refine take_out (i := 68) rfl ?_)); (try simp only [Act.put, List.setIfInBounds_toArray, List.set_cons_zero, List.set_cons_succ])
          (first | (refine take_in (i := 69) (v := ?_) rfl ?_ ?_; rotate_left; (intro w hSw; (try dsimp only at hSw); go_simp; try with_reducible rfl)) | (refine take_out (i := 69) rfl ?_)); (try simp only [Act.put, List.setIfInBounds_toArray, List.set_cons_zero, List.set_cons_succ])
          (refine take_in (i := 70) (v := ?_) rfl ?_ ?_; rotate_left; (intro w hSw; (try dsimp only at hSw); go_simp; try with_reducible rfl)); (try simp only [Act.put, List.setIfInBounds_toArray, List.set_cons_zero, List.set_cons_succ])
          refine wpAnyH_done (by kernel_rfl) ?_ _
          go_wp2
          go_roundw
          case rel => exact ⟨i + 1, by omega, by first | rfl | (congr 1; done) | (congr 1; omega), Lib.hid hx⟩
          case measure => simp [intOf]; omega
        · skip
          clear hyu
          go_wp2
          try simp only [List.append]
          refine wp_region_held_drew (S := fun w' => w'.cell? ⟨g, og + i, none⟩ = some (.string y) ∧ w'.cell? ⟨g, og + j, none⟩ = some (.string z)) (by kernel_rfl) (by exact ⟨by assumption, by assumption⟩) (fun hHeld => ?_)
          (refine take_in (i := 0) (v := ?_) rfl ?_ ?_; rotate_left; (intro w hSw; (try dsimp only at hSw); go_simp; try with_reducible rfl)); (try simp only [Act.put, List.setIfInBounds_toArray, List.set_cons_zero, List.set_cons_succ])
          (refine take_in (i := 1) (v := ?_) rfl ?_ ?_; rotate_left; (intro w hSw; (try dsimp only at hSw); go_simp; try with_reducible rfl)); (try simp only [Act.put, List.setIfInBounds_toArray, List.set_cons_zero, List.set_cons_succ])
          (refine take_in (i := 2) (v := ?_) rfl ?_ ?_; rotate_left; (intro w hSw; (try dsimp only at hSw); go_simp; try with_reducible rfl)); (try simp only [Act.put, List.setIfInBounds_toArray, List.set_cons_zero, List.set_cons_succ])
          (first | (refine take_in (i := 3) (v := ?_) rfl ?_ ?_; rotate_left; (intro w hSw; (try dsimp only at hSw); go_simp; try with_reducible rfl)) | (refine take_out (i := 3) rfl ?_)); (try simp only [Act.put, List.setIfInBounds_toArray, List.set_cons_zero, List.set_cons_succ])
          (first | (refine take_in (i := 4) (v := ?_) rfl ?_ ?_; rotate_left; (intro w hSw; (try dsimp only at hSw); go_simp; try with_reducible rfl)) | (refine take_out (i := 4) rfl ?_)); (try simp only [Act.put, List.setIfInBounds_toArray, List.set_cons_zero, List.set_cons_succ])
          (first | (refine take_in (i := 5) (v := ?_) rfl ?_ ?_; rotate_left; (intro w hSw; (try dsimp only at hSw); go_simp; try with_reducible rfl)) | (refine take_out (i := 5) rfl ?_)); (try simp only [Act.put, List.setIfInBounds_toArray, List.set_cons_zero, List.set_cons_succ])
          (first | (refine take_in (i := 6) (v := ?_) rfl ?_ ?_; rotate_left; (intro w hSw; (try dsimp only at hSw); go_simp; try with_reducible rfl)) | (refine take_out (i := 6) rfl ?_)); (try simp only [Act.put, List.setIfInBounds_toArray, List.set_cons_zero, List.set_cons_succ])
          (first | (refine take_in (i := 7) (v := ?_) rfl ?_ ?_; rotate_left; (intro w hSw; (try dsimp only at hSw); go_simp; try with_reducible rfl)) | (refine take_out (i := 7) rfl ?_)); (try simp only [Act.put, List.setIfInBounds_toArray, List.set_cons_zero, List.set_cons_succ])
          (first | (refine take_in (i := 8) (v := ?_) rfl ?_ ?_; rotate_left; (intro w hSw; (try dsimp only at hSw); go_simp; try with_reducible rfl)) | (refine take_out (i := 8) rfl ?_)); (try simp only [Act.put, List.setIfInBounds_toArray, List.set_cons_zero, List.set_cons_succ])
          (first | (refine take_in (i := 9) (v := ?_) rfl ?_ ?_; rotate_left; (intro w hSw; (try dsimp only at hSw); go_simp; try with_reducible rfl)) | (refine take_out (i := 9) rfl ?_)); (try simp only [Act.put, List.setIfInBounds_toArray, List.set_cons_zero, List.set_cons_succ])
          (first | (refine take_in (i := 10) (v := ?_) rfl ?_ ?_; rotate_left; (intro w hSw; (try dsimp only at hSw); go_simp; try with_reducible rfl)) | (refine take_out (i := 10) rfl ?_)); (try simp only [Act.put, List.setIfInBounds_toArray, List.set_cons_zero, List.set_cons_succ])
          (first | (refine take_in (i := 11) (v := ?_) rfl ?_ ?_; rotate_left; (intro w hSw; (try dsimp only at hSw); go_simp; try with_reducible rfl)) | (refine take_out (i := 11) rfl ?_)); (try simp only [Act.put, List.setIfInBounds_toArray, List.set_cons_zero, List.set_cons_succ])
          (first | (refine take_in (i := 12) (v := ?_) rfl ?_ ?_; rotate_left; (intro w hSw; (try dsimp only at hSw); go_simp; try with_reducible rfl)) | (refine take_out (i := 12) rfl ?_)); (try simp only [Act.put, List.setIfInBounds_toArray, List.set_cons_zero, List.set_cons_succ])
          (first | (refine take_in (i := 13) (v := ?_) rfl ?_ ?_; rotate_left; (intro w hSw; (try dsimp only at hSw); go_simp; try with_reducible rfl)) | (refine take_out (i := 13) rfl ?_)); (try simp only [Act.put, List.setIfInBounds_toArray, List.set_cons_zero, List.set_cons_succ])
          (refine take_in (i := 14) (v := ?_) rfl ?_ ?_; rotate_left; (intro w hSw; (try dsimp only at hSw); go_simp; try with_reducible rfl)); (try simp only [Act.put, List.setIfInBounds_toArray, List.set_cons_zero, List.set_cons_succ])
          (refine take_in (i := 15) (v := ?_) rfl ?_ ?_; rotate_left; (intro w hSw; (try dsimp only at hSw); go_simp; try with_reducible rfl)); (try simp only [Act.put, List.setIfInBounds_toArray, List.set_cons_zero, List.set_cons_succ])
          (first | (refine take_in (i := 16) (v := ?_) rfl ?_ ?_; rotate_left; (intro w hSw; (try dsimp only at hSw); go_simp; try with_reducible rfl)) | (refine take_out (i := 16) rfl ?_)); (try simp only [Act.put, List.setIfInBounds_toArray, List.set_cons_zero, List.set_cons_succ])
          (first | (refine take_in (i := 17) (v := ?_) rfl ?_ ?_; rotate_left; (intro w hSw; (try dsimp only at hSw); go_simp; try with_reducible rfl)) | (refine take_out (i := 17) rfl ?_)); (try simp only [Act.put, List.setIfInBounds_toArray, List.set_cons_zero, List.set_cons_succ])
          (first | (refine take_in (i := 18) (v := ?_) rfl ?_ ?_; rotate_left; (intro w hSw; (try dsimp only at hSw); go_simp; try with_reducible rfl)) | (refine take_out (i := 18) rfl ?_)); (try simp only [Act.put, List.setIfInBounds_toArray, List.set_cons_zero, List.set_cons_succ])
          (first | (refine take_in (i := 19) (v := ?_) rfl ?_ ?_; rotate_left; (intro w hSw; (try dsimp only at hSw); go_simp; try with_reducible rfl)) | (refine take_out (i := 19) rfl ?_)); (try simp only [Act.put, List.setIfInBounds_toArray, List.set_cons_zero, List.set_cons_succ])
          (first | (refine take_in (i := 20) (v := ?_) rfl ?_ ?_; rotate_left; (intro w hSw; (try dsimp only at hSw); go_simp; try with_reducible rfl)) | (refine take_out (i := 20) rfl ?_)); (try simp only [Act.put, List.setIfInBounds_toArray, List.set_cons_zero, List.set_cons_succ])
          (first | (refine take_in (i := 22) (v := ?_) rfl ?_ ?_; rotate_left; (intro w hSw; (try dsimp only at hSw); go_simp; try with_reducible rfl)) | (refine take_out (i := 22) rfl ?_)); (try simp only [Act.put, List.setIfInBounds_toArray, List.set_cons_zero, List.set_cons_succ])
          (first | (refine take_out (i := 21) rfl ?_) | (refine take_call (i := 21) rfl (fun K hK => ?_); go_simp; ((with_reducible refine (HB.out _ hx).mono ?_); rintro e wa ⟨va, rfl, hka, rfl⟩; have hx := hx.trans hka; have hcell := (hka.cell (b := g) (o := og + i) hcell id); have hcell2 := (hka.cell (b := g) (o := og + j) hcell2 id)); go_wp2_with fail; refine hK.out _ _ ?_ (fun hHeld => ?_); (try dsimp only); (exact ⟨by assumption, by assumption⟩); clear hK K)); (try simp only [Act.put, List.setIfInBounds_toArray, List.set_cons_zero, List.set_cons_succ])
          (first | (refine take_in (i := 23) (v := ?_) rfl ?_ ?_; rotate_left; (intro w hSw; (try dsimp only at hSw); go_simp; try with_reducible rfl)) | (refine take_out (i := 23) rfl ?_)); (try simp only [Act.put, List.setIfInBounds_toArray, List.set_cons_zero, List.set_cons_succ])
          (refine take_in (i := 24) (v := ?_) rfl ?_ ?_; rotate_left; (intro w hSw; (try dsimp only at hSw); go_simp; try with_reducible rfl)); (try simp only [Act.put, List.setIfInBounds_toArray, List.set_cons_zero, List.set_cons_succ])
          (refine take_in (i := 25) (v := ?_) rfl ?_ ?_; rotate_left; (intro w hSw; (try dsimp only at hSw); go_simp; try with_reducible rfl)); (try simp only [Act.put, List.setIfInBounds_toArray, List.set_cons_zero, List.set_cons_succ])
          (first | (refine take_in (i := 26) (v := ?_) rfl ?_ ?_; rotate_left; (intro w hSw; (try dsimp only at hSw); go_simp; try with_reducible rfl)) | (refine take_out (i := 26) rfl ?_)); (try simp only [Act.put, List.setIfInBounds_toArray, List.set_cons_zero, List.set_cons_succ])
          (first | (refine take_in (i := 27) (v := ?_) rfl ?_ ?_; rotate_left; (intro w hSw; (try dsimp only at hSw); go_simp; try with_reducible rfl)) | (refine take_out (i := 27) rfl ?_)); (try simp only [Act.put, List.setIfInBounds_toArray, List.set_cons_zero, List.set_cons_succ])
          (first | (refine take_in (i := 28) (v := ?_) rfl ?_ ?_; rotate_left; (intro w hSw; (try dsimp only at hSw); go_simp; try with_reducible rfl)) | (refine take_out (i := 28) rfl ?_)); (try simp only [Act.put, List.setIfInBounds_toArray, List.set_cons_zero, List.set_cons_succ])
          (first | (refine take_in (i := 29) (v := ?_) rfl ?_ ?_; rotate_left; (intro w hSw; (try dsimp only at hSw); go_simp; try with_reducible rfl)) | (refine take_out (i := 29) rfl ?_)); (try simp only [Act.put, List.setIfInBounds_toArray, List.set_cons_zero, List.set_cons_succ])
          (first | (refine take_in (i := 30) (v := ?_) rfl ?_ ?_; rotate_left; (intro w hSw; (try dsimp only at hSw); go_simp; try with_reducible rfl)) | (refine take_out (i := 30) rfl ?_)); (try simp only [Act.put, List.setIfInBounds_toArray, List.set_cons_zero, List.set_cons_succ])
          (first | (refine take_in (i := 32) (v := ?_) rfl ?_ ?_; rotate_left; (intro w hSw; (try dsimp only at hSw); go_simp; try with_reducible rfl)) | (refine take_out (i := 32) rfl ?_)); (try simp only [Act.put, List.setIfInBounds_toArray, List.set_cons_zero, List.set_cons_succ])
          (first | (refine take_in (i := 33) (v := ?_) rfl ?_ ?_; rotate_left; (intro w hSw; (try dsimp only at hSw); go_simp; try with_reducible rfl)) | (refine take_out (i := 33) rfl ?_)); (try simp only [Act.put, List.setIfInBounds_toArray, List.set_cons_zero, List.set_cons_succ])
          (first | (refine take_in (i := 34) (v := ?_) rfl ?_ ?_; rotate_left; (intro w hSw; (try dsimp only at hSw); go_simp; try with_reducible rfl)) | (refine take_out (i := 34) rfl ?_)); (try simp only [Act.put, List.setIfInBounds_toArray, List.set_cons_zero, List.set_cons_succ])
          (first | (refine take_in (i := 35) (v := ?_) rfl ?_ ?_; rotate_left; (intro w hSw; (try dsimp only at hSw); go_simp; try with_reducible rfl)) | (refine take_out (i := 35) rfl ?_)); (try simp only [Act.put, List.setIfInBounds_toArray, List.set_cons_zero, List.set_cons_succ])
          (first | (refine take_in (i := 36) (v := ?_) rfl ?_ ?_; rotate_left; (intro w hSw; (try dsimp only at hSw); go_simp; try with_reducible rfl)) | (refine take_out (i := 36) rfl ?_)); (try simp only [Act.put, List.setIfInBounds_toArray, List.set_cons_zero, List.set_cons_succ])
          (first | (refine take_out (i := 31) rfl ?_) | (refine take_call (i := 31) rfl (fun K hK => ?_); go_simp; (first | ((with_reducible refine (HU.out _ hx).mono ?_); rintro e wa ⟨va, rfl, hka, rfl⟩; have hx := hx.trans hka; have hcell := (hka.cell (b := g) (o := og + i) hcell id); have hcell2 := (hka.cell (b := g) (o := og + j) hcell2 id)) | ((with_reducible refine (HS.out _ hx).mono ?_); rintro e wa ⟨va, rfl, hka, rfl⟩; have hx := hx.trans hka; have hcell := (hka.cell (b := g) (o := og + i) hcell id); have hcell2 := (hka.cell (b := g) (o := og + j) hcell2 id)) | ((with_reducible refine (HO.out _ hx).mono ?_); rintro e wa ⟨va, rfl, hka, rfl⟩; have hx := hx.trans hka; have hcell := (hka.cell (b := g) (o := og + i) hcell id); have hcell2 := (hka.cell (b := g) (o := og + j) hcell2 id)) | ((with_reducible refine (HM.out _ hx).mono ?_); rintro e wa ⟨va, rfl, hka, rfl⟩; have hx := hx.trans hka; have hcell := (hka.cell (b := g) (o := og + i) hcell id); have hcell2 := (hka.cell (b := g) (o := og + j) hcell2 id))); go_wp2_with fail; refine hK.out _ _ ?_ (fun hHeld => ?_); (try dsimp only); (exact ⟨by assumption, by assumption⟩); clear hK K)); (try simp only [Act.put, List.setIfInBounds_toArray, List.set_cons_zero, List.set_cons_succ])
          (first | (refine take_out (i := 37) rfl ?_) | (refine take_call (i := 37) rfl (fun K hK => ?_); go_simp; (first | ((with_reducible refine (HU.out _ hx).mono ?_); rintro e wa ⟨va, rfl, hka, rfl⟩; have hx := hx.trans hka; have hcell := (hka.cell (b := g) (o := og + i) hcell id); have hcell2 := (hka.cell (b := g) (o := og + j) hcell2 id)) | ((with_reducible refine (HS.out _ hx).mono ?_); rintro e wa ⟨va, rfl, hka, rfl⟩; have hx := hx.trans hka; have hcell := (hka.cell (b := g) (o := og + i) hcell id); have hcell2 := (hka.cell (b := g) (o := og + j) hcell2 id)) | ((with_reducible refine (HO.out _ hx).mono ?_); rintro e wa ⟨va, rfl, hka, rfl⟩; have hx := hx.trans hka; have hcell := (hka.cell (b := g) (o := og + i) hcell id); have hcell2 := (hka.cell (b := g) (o := og + j) hcell2 id)) | ((with_reducible refine (HM.out _ hx).mono ?_); rintro e wa ⟨va, rfl, hka, rfl⟩; have hx := hx.trans hka; have hcell := (hka.cell (b := g) (o := og + i) hcell id); have hcell2 := (hka.cell (b := g) (o := og + j) hcell2 id))); go_wp2_with fail; refine hK.out _ _ ?_ (fun hHeld => ?_); (try dsimp only); (exact ⟨by assumption, by assumption⟩); clear hK K)); (try simp only [Act.put, List.setIfInBounds_toArray, List.set_cons_zero, List.set_cons_succ])
          (first | (refine take_in (i := 38) (v := ?_) rfl ?_ ?_; rotate_left; (intro w hSw; (try dsimp only at hSw); go_simp; try with_reducible rfl)) | (refine take_out (i := 38) rfl ?_)); (try simp only [Act.put, List.setIfInBounds_toArray, List.set_cons_zero, List.set_cons_succ])
          (first | (refine take_in (i := 39) (v := ?_) rfl ?_ ?_; rotate_left; (intro w hSw; (try dsimp only at hSw); go_simp; try with_reducible rfl)) | (refine take_out (i := 39) rfl ?_)); (try simp only [Act.put, List.setIfInBounds_toArray, List.set_cons_zero, List.set_cons_succ])
          (first | (refine take_in (i := 40) (v := ?_) rfl ?_ ?_; rotate_left; (intro w hSw; (try dsimp only at hSw); go_simp; try with_reducible rfl)) | (refine take_out (i := 40) rfl ?_)); (try simp only [Act.put, List.setIfInBounds_toArray, List.set_cons_zero, List.set_cons_succ])
          (first | (refine take_in (i := 41) (v := ?_) rfl ?_ ?_; rotate_left; (intro w hSw; (try dsimp only at hSw); go_simp; try with_reducible rfl)) | (refine take_out (i := 41) rfl ?_)); (try simp only [Act.put, List.setIfInBounds_toArray, List.set_cons_zero, List.set_cons_succ])
          (first | (refine take_in (i := 42) (v := ?_) rfl ?_ ?_; rotate_left; (intro w hSw; (try dsimp only at hSw); go_simp; try with_reducible rfl)) | (refine take_out (i := 42) rfl ?_)); (try simp only [Act.put, List.setIfInBounds_toArray, List.set_cons_zero, List.set_cons_succ])
          (first | (refine take_in (i := 43) (v := ?_) rfl ?_ ?_; rotate_left; (intro w hSw; (try dsimp only at hSw); go_simp; try with_reducible rfl)) | (refine take_out (i := 43) rfl ?_)); (try simp only [Act.put, List.setIfInBounds_toArray, List.set_cons_zero, List.set_cons_succ])
          (first | (refine take_out (i := 44) rfl ?_) | (refine take_call (i := 44) rfl (fun K hK => ?_); go_simp; (first | ((with_reducible refine (HU.out _ hx).mono ?_); rintro e wa ⟨va, rfl, hka, rfl⟩; have hx := hx.trans hka; have hcell := (hka.cell (b := g) (o := og + i) hcell id); have hcell2 := (hka.cell (b := g) (o := og + j) hcell2 id)) | ((with_reducible refine (HS.out _ hx).mono ?_); rintro e wa ⟨va, rfl, hka, rfl⟩; have hx := hx.trans hka; have hcell := (hka.cell (b := g) (o := og + i) hcell id); have hcell2 := (hka.cell (b := g) (o := og + j) hcell2 id)) | ((with_reducible refine (HO.out _ hx).mono ?_); rintro e wa ⟨va, rfl, hka, rfl⟩; have hx := hx.trans hka; have hcell := (hka.cell (b := g) (o := og + i) hcell id); have hcell2 := (hka.cell (b := g) (o := og + j) hcell2 id)) | ((with_reducible refine (HM.out _ hx).mono ?_); rintro e wa ⟨va, rfl, hka, rfl⟩; have hx := hx.trans hka; have hcell := (hka.cell (b := g) (o := og + i) hcell id); have hcell2 := (hka.cell (b := g) (o := og + j) hcell2 id))); go_wp2_with fail; refine hK.out _ _ ?_ (fun hHeld => ?_); (try dsimp only); (exact ⟨by assumption, by assumption⟩); clear hK K)); (try simp only [Act.put, List.setIfInBounds_toArray, List.set_cons_zero, List.set_cons_succ])
          (first | (refine take_in (i := 45) (v := ?_) rfl ?_ ?_; rotate_left; (intro w hSw; (try dsimp only at hSw); go_simp; try with_reducible rfl)) | (refine take_out (i := 45) rfl ?_)); (try simp only [Act.put, List.setIfInBounds_toArray, List.set_cons_zero, List.set_cons_succ])
          (first | (refine take_in (i := 46) (v := ?_) rfl ?_ ?_; rotate_left; (intro w hSw; (try dsimp only at hSw); go_simp; try with_reducible rfl)) | (refine take_out (i := 46) rfl ?_)); (try simp only [Act.put, List.setIfInBounds_toArray, List.set_cons_zero, List.set_cons_succ])
          (refine take_in (i := 47) (v := ?_) rfl ?_ ?_; rotate_left; (intro w hSw; (try dsimp only at hSw); go_simp; try with_reducible rfl)); (try simp only [Act.put, List.setIfInBounds_toArray, List.set_cons_zero, List.set_cons_succ])
          (refine take_in (i := 48) (v := ?_) rfl ?_ ?_; rotate_left; (intro w hSw; (try dsimp only at hSw); go_simp; try with_reducible rfl)); (try simp only [Act.put, List.setIfInBounds_toArray, List.set_cons_zero, List.set_cons_succ])
          (first | (refine take_in (i := 49) (v := ?_) rfl ?_ ?_; rotate_left; (intro w hSw; (try dsimp only at hSw); go_simp; try with_reducible rfl)) | (refine take_out (i := 49) rfl ?_)); (try simp only [Act.put, List.setIfInBounds_toArray, List.set_cons_zero, List.set_cons_succ])
          (first | (refine take_in (i := 50) (v := ?_) rfl ?_ ?_; rotate_left; (intro w hSw; (try dsimp only at hSw); go_simp; try with_reducible rfl)) | (refine take_out (i := 50) rfl ?_)); (try simp only [Act.put, List.setIfInBounds_toArray, List.set_cons_zero, List.set_cons_succ])
          (first | (refine take_in (i := 51) (v := ?_) rfl ?_ ?_; rotate_left; (intro w hSw; (try dsimp only at hSw); go_simp; try with_reducible rfl)) | (refine take_out (i := 51) rfl ?_)); (try simp only [Act.put, List.setIfInBounds_toArray, List.set_cons_zero, List.set_cons_succ])
          (first | (refine take_in (i := 52) (v := ?_) rfl ?_ ?_; rotate_left; (intro w hSw; (try dsimp only at hSw); go_simp; try with_reducible rfl)) | (refine take_out (i := 52) rfl ?_)); (try simp only [Act.put, List.setIfInBounds_toArray, List.set_cons_zero, List.set_cons_succ])
          (first | (refine take_in (i := 53) (v := ?_) rfl ?_ ?_; rotate_left; (intro w hSw; (try dsimp only at hSw); go_simp; try with_reducible rfl)) | (refine take_out (i := 53) rfl ?_)); (try simp only [Act.put, List.setIfInBounds_toArray, List.set_cons_zero, List.set_cons_succ])
          (first | (refine take_in (i := 55) (v := ?_) rfl ?_ ?_; rotate_left; (intro w hSw; (try dsimp only at hSw); go_simp; try with_reducible rfl)) | (refine take_out (i := 55) rfl ?_)); (try simp only [Act.put, List.setIfInBounds_toArray, List.set_cons_zero, List.set_cons_succ])
          (first | (refine take_in (i := 56) (v := ?_) rfl ?_ ?_; rotate_left; (intro w hSw; (try dsimp only at hSw); go_simp; try with_reducible rfl)) | (refine take_out (i := 56) rfl ?_)); (try simp only [Act.put, List.setIfInBounds_toArray, List.set_cons_zero, List.set_cons_succ])
          (first | (refine take_in (i := 57) (v := ?_) rfl ?_ ?_; rotate_left; (intro w hSw; (try dsimp only at hSw); go_simp; try with_reducible rfl)) | (refine take_out (i := 57) rfl ?_)); (try simp only [Act.put, List.setIfInBounds_toArray, List.set_cons_zero, List.set_cons_succ])
          (first | (refine take_in (i := 58) (v := ?_) rfl ?_ ?_; rotate_left; (intro w hSw; (try dsimp only at hSw); go_simp; try with_reducible rfl)) | (refine take_out (i := 58) rfl ?_)); (try simp only [Act.put, List.setIfInBounds_toArray, List.set_cons_zero, List.set_cons_succ])
          (first | (refine take_in (i := 59) (v := ?_) rfl ?_ ?_; rotate_left; (intro w hSw; (try dsimp only at hSw); go_simp; try with_reducible rfl)) | (refine take_out (i := 59) rfl ?_)); (try simp only [Act.put, List.setIfInBounds_toArray, List.set_cons_zero, List.set_cons_succ])
          (first | (refine take_out (i := 54) rfl ?_) | (refine take_call (i := 54) rfl (fun K hK => ?_); go_simp; (first | ((with_reducible refine (HU.out _ hx).mono ?_); rintro e wa ⟨va, rfl, hka, rfl⟩; have hx := hx.trans hka; have hcell := (hka.cell (b := g) (o := og + i) hcell id); have hcell2 := (hka.cell (b := g) (o := og + j) hcell2 id)) | ((with_reducible refine (HS.out _ hx).mono ?_); rintro e wa ⟨va, rfl, hka, rfl⟩; have hx := hx.trans hka; have hcell := (hka.cell (b := g) (o := og + i) hcell id); have hcell2 := (hka.cell (b := g) (o := og + j) hcell2 id)) | ((with_reducible refine (HO.out _ hx).mono ?_); rintro e wa ⟨va, rfl, hka, rfl⟩; have hx := hx.trans hka; have hcell := (hka.cell (b := g) (o := og + i) hcell id); have hcell2 := (hka.cell (b := g) (o := og + j) hcell2 id)) | ((with_reducible refine (HM.out _ hx).mono ?_); rintro e wa ⟨va, rfl, hka, rfl⟩; have hx := hx.trans hka; have hcell := (hka.cell (b := g) (o := og + i) hcell id); have hcell2 := (hka.cell (b := g) (o := og + j) hcell2 id))); go_wp2_with fail; refine hK.out _ _ ?_ (fun hHeld => ?_); (try dsimp only); (exact ⟨by assumption, by assumption⟩); clear hK K)); (try simp only [Act.put, List.setIfInBounds_toArray, List.set_cons_zero, List.set_cons_succ])
          (first | (refine take_out (i := 60) rfl ?_) | (refine take_call (i := 60) rfl (fun K hK => ?_); go_simp; (first | ((with_reducible refine (HU.out _ hx).mono ?_); rintro e wa ⟨va, rfl, hka, rfl⟩; have hx := hx.trans hka; have hcell := (hka.cell (b := g) (o := og + i) hcell id); have hcell2 := (hka.cell (b := g) (o := og + j) hcell2 id)) | ((with_reducible refine (HS.out _ hx).mono ?_); rintro e wa ⟨va, rfl, hka, rfl⟩; have hx := hx.trans hka; have hcell := (hka.cell (b := g) (o := og + i) hcell id); have hcell2 := (hka.cell (b := g) (o := og + j) hcell2 id)) | ((with_reducible refine (HO.out _ hx).mono ?_); rintro e wa ⟨va, rfl, hka, rfl⟩; have hx := hx.trans hka; have hcell := (hka.cell (b := g) (o := og + i) hcell id); have hcell2 := (hka.cell (b := g) (o := og + j) hcell2 id)) | ((with_reducible refine (HM.out _ hx).mono ?_); rintro e wa ⟨va, rfl, hka, rfl⟩; have hx := hx.trans hka; have hcell := (hka.cell (b := g) (o := og + i) hcell id); have hcell2 := (hka.cell (b := g) (o := og + j) hcell2 id))); go_wp2_with fail; refine hK.out _ _ ?_ (fun hHeld => ?_); (try dsimp only); (exact ⟨by assumption, by assumption⟩); clear hK K)); (try simp only [Act.put, List.setIfInBounds_toArray, List.set_cons_zero, List.set_cons_succ])
          (first | (refine take_in (i := 61) (v := ?_) rfl ?_ ?_; rotate_left; (intro w hSw; (try dsimp only at hSw); go_simp; try with_reducible rfl)) | (refine take_out (i := 61) rfl ?_)); (try simp only [Act.put, List.setIfInBounds_toArray, List.set_cons_zero, List.set_cons_succ])
          (first | (refine take_in (i := 62) (v := ?_) rfl ?_ ?_; rotate_left; (intro w hSw; (try dsimp only at hSw); go_simp; try with_reducible rfl)) | (refine take_out (i := 62) rfl ?_)); (try simp only [Act.put, List.setIfInBounds_toArray, List.set_cons_zero, List.set_cons_succ])
          (first | (refine take_in (i := 63) (v := ?_) rfl ?_ ?_; rotate_left; (intro w hSw; (try dsimp only at hSw); go_simp; try with_reducible rfl)) | (refine take_out (i := 63) rfl ?_)); (try simp only [Act.put, List.setIfInBounds_toArray, List.set_cons_zero, List.set_cons_succ])
          (first | (refine take_in (i := 64) (v := ?_) rfl ?_ ?_; rotate_left; (intro w hSw; (try dsimp only at hSw); go_simp; try with_reducible rfl)) | (refine take_out (i := 64) rfl ?_)); (try simp only [Act.put, List.setIfInBounds_toArray, List.set_cons_zero, List.set_cons_succ])
          (first | (refine take_in (i := 65) (v := ?_) rfl ?_ ?_; rotate_left; (intro w hSw; (try dsimp only at hSw); go_simp; try with_reducible rfl)) | (refine take_out (i := 65) rfl ?_)); (try simp only [Act.put, List.setIfInBounds_toArray, List.set_cons_zero, List.set_cons_succ])
          (first | (refine take_in (i := 66) (v := ?_) rfl ?_ ?_; rotate_left; (intro w hSw; (try dsimp only at hSw); go_simp; try with_reducible rfl)) | (refine take_out (i := 66) rfl ?_)); (try simp only [Act.put, List.setIfInBounds_toArray, List.set_cons_zero, List.set_cons_succ])
          (first | (refine take_out (i := 67) rfl ?_) | (refine take_call (i := 67) rfl (fun K hK => ?_); go_simp; (first | ((with_reducible refine (HU.out _ hx).mono ?_); rintro e wa ⟨va, rfl, hka, rfl⟩; have hx := hx.trans hka; have hcell := (hka.cell (b := g) (o := og + i) hcell id); have hcell2 := (hka.cell (b := g) (o := og + j) hcell2 id)) | ((with_reducible refine (HS.out _ hx).mono ?_); rintro e wa ⟨va, rfl, hka, rfl⟩; have hx := hx.trans hka; have hcell := (hka.cell (b := g) (o := og + i) hcell id); have hcell2 := (hka.cell (b := g) (o := og + j) hcell2 id)) | ((with_reducible refine (HO.out _ hx).mono ?_); rintro e wa ⟨va, rfl, hka, rfl⟩; have hx := hx.trans hka; have hcell := (hka.cell (b := g) (o := og + i) hcell id); have hcell2 := (hka.cell (b := g) (o := og + j) hcell2 id)) | ((with_reducible refine (HM.out _ hx).mono ?_); rintro e wa ⟨va, rfl, hka, rfl⟩; have hx := hx.trans hka; have hcell := (hka.cell (b := g) (o := og + i) hcell id); have hcell2 := (hka.cell (b := g) (o := og + j) hcell2 id))); go_wp2_with fail; refine hK.out _ _ ?_ (fun hHeld => ?_); (try dsimp only); (exact ⟨by assumption, by assumption⟩); clear hK K)); (try simp only [Act.put, List.setIfInBounds_toArray, List.set_cons_zero, List.set_cons_succ])
          (first | (refine take_in (i := 68) (v := ?_) rfl ?_ ?_; rotate_left; (intro w hSw; (try dsimp only at hSw); go_simp; try with_reducible rfl)) | (refine take_out (i := 68) rfl ?_)); (try simp only [Act.put, List.setIfInBounds_toArray, List.set_cons_zero, List.set_cons_succ])
          (first | (refine take_in (i := 69) (v := ?_) rfl ?_ ?_; rotate_left; (intro w hSw; (try dsimp only at hSw); go_simp; try with_reducible rfl)) | (refine take_out (i := 69) rfl ?_)); (try simp only [Act.put, List.setIfInBounds_toArray, List.set_cons_zero, List.set_cons_succ])
          (refine take_in (i := 70) (v := ?_) rfl ?_ ?_; rotate_left; (intro w hSw; (try dsimp only at hSw); go_simp; try with_reducible rfl)); (try simp only [Act.put, List.setIfInBounds_toArray, List.set_cons_zero, List.set_cons_succ])
          refine wpAnyH_done (by kernel_rfl) ?_ _
          go_wp2
          go_roundw
          case rel => exact ⟨i + 1, by omega, by first | rfl | (congr 1; done) | (congr 1; omega), Lib.hid hx⟩
          case measure => simp [intOf]; omega
    · have hx6 := HX18.out.trans hex.out
      go_wp2_with fail
      clear hlt hi
      refine (ts_below (C.out.hs.ext hx6) C.out.ss x rfl).mono ?_
      rintro e wa ⟨v, rfl, hka, rfl⟩
      have hxa := hx6.trans hka
      have HXA := Lib.hid hxa
      clear hx6 hka hxa hex
      obtain ⟨ib, eib⟩ : ∃ ib, ib = below cS s x := ⟨_, rfl⟩
      rw [← eib]
      have HAT := Lib.hid (show (isIn cS s x = true ∧ s[ib]? = some x) ∨ (isIn cS s x = false ∧ ((∃ y, s[ib]? = some y ∧ y ≠ x) ∨ s.length ≤ ib)) by
        have hth := there_iff cS_law cS_tight C.out.ss x
        rw [← eib] at hth
        cases hi : isIn cS s x with
        | true => exact .inl ⟨rfl, hth.1 hi⟩
        | false =>
          refine .inr ⟨rfl, ?_⟩
          cases hy : s[ib]? with
          | none => exact .inr (List.getElem?_eq_none_iff.1 hy)
          | some y =>
            refine .inl ⟨y, rfl, fun e => ?_⟩
            subst e
            rw [hth.2 hy] at hi; cases hi)
      clear eib
      rcases HAT.out with ⟨hr, hy⟩ | ⟨hr, ⟨y, hy, hne⟩ | hlen⟩
      · have HR := Lib.hid hr; have HY := Lib.hid hy; clear hr hy
        go_wp2_with fail
        refine (ts_at (C.out.hs.ext HXA.out) ib x HY.out).mono ?_
        rintro e w' ⟨rfl, rfl⟩
        go_wp2_with fail
        refine (ts_has (C.out.hs.ext HXA.out) C.out.ss x HR.out).mono ?_
        rintro e wb ⟨vb, rfl, hkb, rfl⟩
        have hxb := HXA.out.trans hkb
        have HSB := Lib.hid (C.out.hs.ext hxb)
        have HXB := Lib.hid (HX6.out.trans hxb)
        clear hxb hkb
        go_wp2_with fail
        refine (ts_copy HSB.out).mono ?_
        rintro e wc ⟨vt, rfl, hkc, ht⟩
        go_wp2_with fail
        refine (ts_add ht C.out.ss x HR.out hkc.size (by have := C.out.len; omega)).mono ?_
        rintro e wd ⟨vd1, rfl, hkd, rfl, ht2⟩
        have hkbd : Kp (fun k => wb.heap.size ≤ k) wb wd := (Ext.kp hkc).trans hkd
        have H2 := Lib.hid (And.intro hkbd ht2)
        clear hkc ht hkd hkbd ht2
        go_wp2_with fail
        refine (ts_has (HSB.out.old H2.out.1 fun _ h => h) C.out.ss x HR.out).mono ?_
        rintro e we ⟨ve1, rfl, hke, rfl⟩
        have H3 := Lib.hid (And.intro (H2.out.1.ext hke) (H2.out.2.ext hke))
        clear hke
        go_wp2_with fail
        refine (ts_drop H3.out.2 (C.out.ss.add cS_law x) x (isIn_add_self cS_law x)).mono ?_
        rintro e wf ⟨vf, rfl, hkf, rfl, ht4⟩
        have H4 := Lib.hid (And.intro (H3.out.1.trans hkf) ht4)
        clear hkf ht4
        go_wp2_with fail
        refine (ts_has H4.out.2 ((C.out.ss.add cS_law x).drop cS_law x) x (isIn_drop_self cS_law cS_tight C.out.ss x)).mono ?_
        rintro e wg ⟨vg, rfl, hkg, rfl⟩
        have H5 := Lib.hid (And.intro (H4.out.1.ext hkg) (H4.out.2.ext hkg))
        clear hkg
        go_wp2_with fail
        refine (one_new x _ (some ⟨wg.heap.size, 0, none⟩) 1 (CellsAt.one wg (.string x) 9)).mono ?_
        rintro e wh ⟨vh, rfl, hkh, hp⟩
        have hkh' := ((Kp.refl wg).alloc (.cells #[.string x] 9)).trans hkh
        have H6 := Lib.hid (And.intro (H5.out.1.ext hkh') (And.intro (H5.out.2.ext hkh') hp))
        clear hkh hkh' hp
        go_wp2_with fail
        refine (ts_minus (HSB.out.old H6.out.1 fun _ h => h) H6.out.2.2).mono ?_
        rintro e wi ⟨vi, rfl, hki, hmi⟩
        have H7 := Lib.hid (And.intro (H6.out.1.ext hki) (And.intro (H6.out.2.1.ext hki) hmi))
        clear hki hmi
        go_wp2_with fail
        refine (ts_same H7.out.2.1 H7.out.2.2 (drop_add cS_law cS_tight C.out.ss x)).mono ?_
        rintro e wj ⟨vj, rfl, hkj, rfl⟩
        have H8 := Lib.hid (H7.out.1.ext hkj)
        clear hkj
        go_wp2
        go_ret
        exact ⟨rfl, HXB.out.trans' H8.out (fun i hi h => by have := HXB.out.size; omega)⟩
      · have HR := Lib.hid hr; have HY := Lib.hid hy; clear hr hy
        have n1 : (y.toList == x.toList) = false := by
          cases h : (y.toList == x.toList)
          · rfl
          · exact absurd (toList_inj (eq_of_beq h)) hne
        clear hne
        go_wp2_with fail
        refine (ts_at (C.out.hs.ext HXA.out) ib y HY.out).mono ?_
        rintro e w' ⟨rfl, rfl⟩
        go_wp2_with fail
        refine (ts_has (C.out.hs.ext HXA.out) C.out.ss x HR.out).mono ?_
        rintro e wb ⟨vb, rfl, hkb, rfl⟩
        have hxb := HXA.out.trans hkb
        have HSB := Lib.hid (C.out.hs.ext hxb)
        have HXB := Lib.hid (HX6.out.trans hxb)
        clear hxb hkb
        go_wp2_with fail
        refine (ts_copy HSB.out).mono ?_
        rintro e wc ⟨vt, rfl, hkc, ht⟩
        go_wp2_with fail
        refine (ts_add ht C.out.ss x HR.out hkc.size (by have := C.out.len; omega)).mono ?_
        rintro e wd ⟨vd1, rfl, hkd, rfl, ht2⟩
        have hkbd : Kp (fun k => wb.heap.size ≤ k) wb wd := (Ext.kp hkc).trans hkd
        have H2 := Lib.hid (And.intro hkbd ht2)
        clear hkc ht hkd hkbd ht2
        go_wp2_with fail
        refine (ts_has (HSB.out.old H2.out.1 fun _ h => h) C.out.ss x HR.out).mono ?_
        rintro e we ⟨ve1, rfl, hke, rfl⟩
        have H3 := Lib.hid (And.intro (H2.out.1.ext hke) (H2.out.2.ext hke))
        clear hke
        go_wp2_with fail
        refine (ts_drop H3.out.2 (C.out.ss.add cS_law x) x (isIn_add_self cS_law x)).mono ?_
        rintro e wf ⟨vf, rfl, hkf, rfl, ht4⟩
        have H4 := Lib.hid (And.intro (H3.out.1.trans hkf) ht4)
        clear hkf ht4
        go_wp2_with fail
        refine (ts_has H4.out.2 ((C.out.ss.add cS_law x).drop cS_law x) x (isIn_drop_self cS_law cS_tight C.out.ss x)).mono ?_
        rintro e wg ⟨vg, rfl, hkg, rfl⟩
        have H5 := Lib.hid (And.intro (H4.out.1.ext hkg) (H4.out.2.ext hkg))
        clear hkg
        go_wp2_with fail
        refine (one_new x _ (some ⟨wg.heap.size, 0, none⟩) 1 (CellsAt.one wg (.string x) 9)).mono ?_
        rintro e wh ⟨vh, rfl, hkh, hp⟩
        have hkh' := ((Kp.refl wg).alloc (.cells #[.string x] 9)).trans hkh
        have H6 := Lib.hid (And.intro (H5.out.1.ext hkh') (And.intro (H5.out.2.ext hkh') hp))
        clear hkh hkh' hp
        go_wp2_with fail
        refine (ts_minus (HSB.out.old H6.out.1 fun _ h => h) H6.out.2.2).mono ?_
        rintro e wi ⟨vi, rfl, hki, hmi⟩
        have H7 := Lib.hid (And.intro (H6.out.1.ext hki) (And.intro (H6.out.2.1.ext hki) hmi))
        clear hki hmi
        go_wp2_with fail
        refine (ts_same H7.out.2.1 H7.out.2.2 (drop_add cS_law cS_tight C.out.ss x)).mono ?_
        rintro e wj ⟨vj, rfl, hkj, rfl⟩
        have H8 := Lib.hid (H7.out.1.ext hkj)
        clear hkj
        go_wp2
        go_ret
        exact ⟨rfl, HXB.out.trans' H8.out (fun i hi h => by have := HXB.out.size; omega)⟩
      · have HR := Lib.hid hr; have HY := Lib.hid hlen; clear hr hlen
        go_wp2_with fail
        refine (ts_out (C.out.hs.ext HXA.out) ib HY.out).mono ?_
        rintro e w' ⟨rfl, rfl⟩
        go_wp2_with fail
        refine (ts_has (C.out.hs.ext HXA.out) C.out.ss x HR.out).mono ?_
        rintro e wb ⟨vb, rfl, hkb, rfl⟩
        have hxb := HXA.out.trans hkb
        have HSB := Lib.hid (C.out.hs.ext hxb)
        have HXB := Lib.hid (HX6.out.trans hxb)
        clear hxb hkb
        go_wp2_with fail
        refine (ts_copy HSB.out).mono ?_
        rintro e wc ⟨vt, rfl, hkc, ht⟩
        go_wp2_with fail
        refine (ts_add ht C.out.ss x HR.out hkc.size (by have := C.out.len; omega)).mono ?_
        rintro e wd ⟨vd1, rfl, hkd, rfl, ht2⟩
        have hkbd : Kp (fun k => wb.heap.size ≤ k) wb wd := (Ext.kp hkc).trans hkd
        have H2 := Lib.hid (And.intro hkbd ht2)
        clear hkc ht hkd hkbd ht2
        go_wp2_with fail
        refine (ts_has (HSB.out.old H2.out.1 fun _ h => h) C.out.ss x HR.out).mono ?_
        rintro e we ⟨ve1, rfl, hke, rfl⟩
        have H3 := Lib.hid (And.intro (H2.out.1.ext hke) (H2.out.2.ext hke))
        clear hke
        go_wp2_with fail
        refine (ts_drop H3.out.2 (C.out.ss.add cS_law x) x (isIn_add_self cS_law x)).mono ?_
        rintro e wf ⟨vf, rfl, hkf, rfl, ht4⟩
        have H4 := Lib.hid (And.intro (H3.out.1.trans hkf) ht4)
        clear hkf ht4
        go_wp2_with fail
        refine (ts_has H4.out.2 ((C.out.ss.add cS_law x).drop cS_law x) x (isIn_drop_self cS_law cS_tight C.out.ss x)).mono ?_
        rintro e wg ⟨vg, rfl, hkg, rfl⟩
        have H5 := Lib.hid (And.intro (H4.out.1.ext hkg) (H4.out.2.ext hkg))
        clear hkg
        go_wp2_with fail
        refine (one_new x _ (some ⟨wg.heap.size, 0, none⟩) 1 (CellsAt.one wg (.string x) 9)).mono ?_
        rintro e wh ⟨vh, rfl, hkh, hp⟩
        have hkh' := ((Kp.refl wg).alloc (.cells #[.string x] 9)).trans hkh
        have H6 := Lib.hid (And.intro (H5.out.1.ext hkh') (And.intro (H5.out.2.ext hkh') hp))
        clear hkh hkh' hp
        go_wp2_with fail
        refine (ts_minus (HSB.out.old H6.out.1 fun _ h => h) H6.out.2.2).mono ?_
        rintro e wi ⟨vi, rfl, hki, hmi⟩
        have H7 := Lib.hid (And.intro (H6.out.1.ext hki) (And.intro (H6.out.2.1.ext hki) hmi))
        clear hki hmi
        go_wp2_with fail
        refine (ts_same H7.out.2.1 H7.out.2.2 (drop_add cS_law cS_tight C.out.ss x)).mono ?_
        rintro e wj ⟨vj, rfl, hkj, rfl⟩
        have H8 := Lib.hid (H7.out.1.ext hkj)
        clear hkj
        go_wp2
        go_ret
        exact ⟨rfl, HXB.out.trans' H8.out (fun i hi h => by have := HXB.out.size; omega)⟩
end Go.Proofs.YtfkhelihepbehaaGreat

/- Proved here: the statement TupleLawsUptoSaid: the law returns true for every input of the bound that the row names and leaves its arguments as they were. No condition of its own. -/
namespace Go.Proofs.YtfkhelihepbehaaGreat.lawTupleLaws
open Go.ChangeShapes Go.WideShapes Go.ChangeAt Go.RowKit
open Go.ChangeMaps (open_string shut_string)
set_option linter.unusedVariables false

theorem laws_walk' (v0 v1 v2 : Value) (W : World)
    (h0 : ∃ ao cap xs, v0 = .slice ao xs.length cap ∧ xs.length ≤ cap ∧ ElemsAt shL W (fun k => k < W.heap.size) ao xs ∧ bulkL shL.bulk xs + 1 ≤ 1048576)
    (h1 : ∃ ao cap xs, v1 = .slice ao xs.length cap ∧ xs.length ≤ cap ∧ ElemsAt shL W (fun k => k < W.heap.size) ao xs ∧ bulkL shL.bulk xs + 1 ≤ 1048576) (h2 : ∃ s, v2 = .string s ∧ s.size + 1 ≤ 1048576) :
    Calls Tryz.prog 3 #[v0, v1, v2] W (fun e w' => e = .returned (.bool true) ∧ Below W.heap.size W w') := by
  obtain ⟨a0, c0, x0, rfl, _, e0, b0⟩ := h0
  obtain ⟨a1, c1, x1, rfl, _, e1, b1⟩ := h1
  obtain ⟨x, rfl, _⟩ := h2
  have l0 := bulkL_len shL.bulk (fun x => by show 1 ≤ bulkL _ x + 1; omega) x0
  have l1 := bulkL_len shL.bulk (fun x => by show 1 ≤ bulkL _ x + 1; omega) x1
  refine (laws_walk x0 x1 a0 a1 x0.length x1.length c0 c1 x W (fun k => k < W.heap.size) rfl rfl e0 e1 (by omega) (by omega)).mono ?_
  rintro e w' ⟨h, hk⟩
  exact ⟨h, hk.below⟩
theorem own : ownKnob Tryz.prog.godebug = none := by kernel_rfl
theorem laidOut : laidOutB Tryz.prog = true := by kernel_rfl

set_option maxRecDepth 100000 in
theorem lifted (os : Os) (started : os.Started) (H : Type) (enc : TypeId × Value → H) (F : Stop.Interp) :
    ReturnsInHanded {} Tryz.checked os 3 .any ((Rows.OpenSpec.upto Rows.tupleLawsSpec).pre6 enc Tryz.prog Tryz.f3 Rows.tupleLawsUptoRow.domain false) (((Rows.OpenSpec.upto Rows.tupleLawsSpec).at F).post enc Tryz.prog Tryz.f3 false true false false) := by
  refine returnsInHanded_of_cond (C := Tryz.checked) (s := Rows.OpenSpec.upto Rows.tupleLawsSpec) (k := Rows.uptoSmall) rfl own started (by kernel_rfl) Tryz.func3
    (OpenSpec.witness (enc := enc) (C := Tryz.checked) (s := Rows.OpenSpec.upto Rows.tupleLawsSpec) (k := Rows.uptoSmall) rfl false ⟨#[], #[.slice none 0 0, .slice none 0 0, .string ⟨#[]⟩], []⟩ 8 (by kernel_rfl) (by kernel_rfl) (by kernel_rfl)
      (x := ([.nil, .nil, .lit (.string [])], [], [])) (by kernel_rfl) rfl (by kernel_rfl)) ?_
  intro W base args ds gs before hval0 hW hcnd hk0 _
  have hk : Rows.uptoSmall H (ds ++ gs) = true := hk0
  clear hk0
  have hval : ∀ (j : Nat) t v, Tryz.f3.params[j]? = some t → args[j]? = some v → Value.okWide Tryz.prog W .any base t v := hval0
  have hW' := hW
  obtain ⟨p, q, hA0, hV, rfl, hfz, hnd⟩ := hW
  have hA : DataW.TrodAll enc Tryz.prog W 0 (fun _ => true) true Tryz.f3.params.toList args.toList ds p := hA0
  rw [Tryz.params3] at hA hval
  obtain ⟨v0, vs0, d0, ds0, p0, q0, hargs, rfl, rfl, h0, r0⟩ := trodAll_cons hA
  obtain ⟨v1, vs1, d1, ds1, p1, q1, rfl, rfl, rfl, h1, r1⟩ := trodAll_cons r0
  obtain ⟨v2, vs2, d2, ds2, p2, q2, rfl, rfl, rfl, h2, r2⟩ := trodAll_cons r1
  obtain ⟨rfl, rfl, rfl⟩ := trodAll_nil r2
  obtain rfl : args = #[v0, v1, v2] := by cases args; simp_all
  obtain ⟨rfl, rfl⟩ := trodVars_none hV
  have lt0 : ∀ x ∈ p0, x.block < W.heap.size := by obtain ⟨m, hm⟩ := h0; exact DataW.trod_lt m _ _ _ hm
  have lt1 : ∀ x ∈ p1, x.block < W.heap.size := by obtain ⟨m, hm⟩ := h1; exact DataW.trod_lt m _ _ _ hm
  have lt2 : ∀ x ∈ p2, x.block < W.heap.size := by obtain ⟨m, hm⟩ := h2; exact DataW.trod_lt m _ _ _ hm
  clear hA0 hval0
  simp only [List.append_nil] at hk
  have hk1 : Rows.uptoBulkAll [d0, d1, d2] ≤ 1048576 := of_decide_eq_true hk
  clear hk
  have x0 := arg_slice (s := shL) Tryz.underlying22 (by kernel_rfl) (by decide) (hval 0 22 v0 rfl rfl) h0 (N := 1048576) (bulk_in hk1 (by simp))
  have x1 := arg_slice (s := shL) Tryz.underlying22 (by kernel_rfl) (by decide) (hval 1 22 v1 rfl rfl) h1 (N := 1048576) (bulk_in hk1 (by simp))
  have x2 := arg_str Tryz.underlying9 (by kernel_rfl) (hval 2 9 v2 rfl rfl) h2 (N := 1048576) (bulk_in hk1 (by simp))
  refine (laws_walk' v0 v1 v2 W x0 x1 x2).mono fun e W' ⟨he, bel⟩ => ?_
  subst he
  exact ⟨_, rfl, _, _, _, [], _, [], hW', trodAll_mk1 (shut_bool Tryz.underlying4 _), (trodAll_cons_mk (Below.trod laidOut (by kernel_rfl) (of_decide_eq_true (by kernel_rfl)) h0 bel lt0) (trodAll_cons_mk (Below.trod laidOut (by kernel_rfl) (of_decide_eq_true (by kernel_rfl)) h1 bel lt1) (trodAll_cons_mk (Below.trod laidOut (by kernel_rfl) (of_decide_eq_true (by kernel_rfl)) h2 bel lt2) trodAll_mk0))), rfl, bel.frame _, fun h => by cases h⟩

theorem over : Rows.tupleLawsUptoRow.holds Tryz.pinned (Rows.OpenSpec.upto Rows.tupleLawsSpec) :=
  OpenClaim.holds_of_cond 3 Tryz.f3 rfl rfl rfl rfl rfl rfl rfl ⟨rfl, rfl, rfl, rfl, rfl⟩ rfl rfl rfl rfl rfl (by kernel_rfl) Tryz.func3 (by kernel_rfl)
    (of_decide_eq_true (by kernel_rfl)) (by unfold Func.isWrapper; first | (rw [if_pos (by decide +kernel)]; kernel_rfl) | (rw [if_neg (by decide +kernel)]; exact ⟨rfl, rfl⟩))
    (fun os started H enc _ F => lifted os started H enc F)

theorem proved : Rows.TupleLawsUptoSaid := over
#print axioms proved
end Go.Proofs.YtfkhelihepbehaaGreat.lawTupleLaws
