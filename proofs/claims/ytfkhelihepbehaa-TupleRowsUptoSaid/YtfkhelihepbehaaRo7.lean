/- Proved here: the statement TupleRowsUptoSaid: the law returns true for every input of the bound that the row names and leaves its arguments as they were. No condition of its own. -/
import Derived.Test.YtfkhelihepbehaaRo6
import Derived.Test.YtfkhelihepbehaaRows
import Derived.Deep.CondSized
/- bench.step: Union. -/
namespace Go.Proofs.Ytfkhelihepbehaa
open Go.RowKit Go.Shelf
set_option linter.unusedVariables false

set_option maxRecDepth 100000 in
set_option maxHeartbeats 8000000 in
theorem stepUnion_any {lo bd : Nat} {S : Nat → Prop} {D : Bench3} {ao : Option Addr} {cap : Nat} {ss : List ByteArray} {w : World} (h : StepIn lo bd S D ao ss w) (who N : Int) :
    Calls Try.prog 24 #[.pointer (some ⟨bd, 0, none⟩), .agg #[.int .i64 5, .int .i64 who, .int .i64 N, .slice ao ss.length cap]] w (RetF (fun g => lo ≤ g) w (StepPost lo bd)) := by
  obtain ⟨i, ei⟩ : ∃ i, placeN who 3 = i := ⟨_, rfl⟩
  have hi : i < 3 := by rw [← ei]; exact placeN_lt _ _ (by decide)
  have EI := Lib.hid (fun W => place_any who 3 (by decide) (by decide) W)
  rw [ei] at EI
  have hss := h.len
  have H := Lib.hid h
  have hb0 := Blk.new w [.int .i64 5, .int .i64 who, .int .i64 N, .slice ao ss.length cap] 73
  obtain ⟨W0, eW0⟩ : ∃ W0, w.alloc (.cells #[.int .i64 5, .int .i64 who, .int .i64 N, .slice ao ss.length cap] 73) = W0 := ⟨_, rfl⟩
  have x0 : Ext w W0 := by rw [← eW0]; exact (Kp.refl w).alloc _
  rw [show w.alloc (.cells [Value.int .i64 5, .int .i64 who, .int .i64 N, .slice ao ss.length cap].toArray 73) = W0 from eW0] at hb0
  have c1 : W0.cell? ⟨w.heap.size, 1, none⟩ = some (.int .i64 who) := by rw [hb0.cell']; rfl
  have c3 : W0.cell? ⟨w.heap.size, 3, none⟩ = some (.slice ao ss.length cap) := by rw [hb0.cell']; rfl
  have c0 : W0.cell? ⟨w.heap.size, 0, none⟩ = some (.int .i64 5) := by rw [hb0.cell']; rfl
  have c2 : W0.cell? ⟨w.heap.size, 2, none⟩ = some (.int .i64 N) := by rw [hb0.cell']; rfl
  have HX0 := Lib.hid (And.intro x0 hb0)
  obtain ⟨p, ep⟩ := (h.b.rows i hi).ptr
  obtain ⟨q, eq⟩ := (h.b.refs i hi).ptr
  have d1 := (h.b.ext x0).cr hi
  have d2 := (h.b.ext x0).cm hi
  rw [ep] at d1
  rw [eq] at d2
  have HEP := Lib.hid (And.intro ep eq)
  have i3 : (i : Int) < 3 := by omega
  clear h ei x0 hb0 ep eq
  go_enter Try.func24, Try.ntmps24
  go_wp2_with fail
  refine (EI.out _).mono ?_
  rintro e w' ⟨rfl, rfl⟩
  clear EI eW0
  go_wp2_with fail
  go_region_held3 (fun w' => w'.cell? ⟨bd, i, none⟩ = some (.pointer p) ∧ w'.cell? ⟨bd, 3 + i, none⟩ = some (.pointer q)) (first | exact ⟨by assumption, by assumption⟩ | go_keep) (fail)
  obtain ⟨W1, eW1⟩ : ∃ W1, W1 = W0.drew := ⟨_, rfl⟩
  rw [← eW1]
  have x1 : Ext W0 W1 := by rw [eW1]; exact (Kp.refl W0).drew
  have c0' := x1.cell c0 id
  have c2' := x1.cell c2 id
  have c3' := x1.cell c3 id
  have HX1 := Lib.hid (And.intro (HX0.out.1.trans x1) (HX0.out.2.ext x1))
  clear c0 c1 c2 c3 eW1 x1 HX0 d1 d2
  go_wp2_with fail
  refine (lent_any ss ao cap W1 (H.out.row.ext HX1.out.1) hss).mono ?_
  rintro e W2 ⟨vl, rfl, hkl, gi, capi, rest, rfl, hgi, hgB, hcapi, hcm⟩
  obtain ⟨S0, eS0⟩ : ∃ S0, S0 = S := ⟨_, rfl⟩
  have hst : StB lo w bd gi w.heap.size (strs (ss ++ [mark1, mark2]) ++ rest) [.int .i64 5, .int .i64 who, .int .i64 N, .slice ao ss.length cap] S D W2 := by
    have hx := HX1.out.1.trans hkl
    have hz := HX1.out.1.size
    have hg : ∀ g, w.heap.size ≤ g → OffB S D bd g := fun g hg => ⟨fun hs => by have := H.out.b.inS g hs; omega, fun e => by have := H.out.b.blk.lt; omega, fun k hk => ⟨fun ho => by have := (H.out.b.rows k hk).ownLt g ho; omega, fun ho => by have := (H.out.b.refs k hk).lt g ho; omega⟩⟩
    exact ⟨H.out.b.ext hx, H.out.l, Ext.kp hx, hgB, hg gi (by omega), by have := H.out.lw; omega, HX1.out.2.ext hkl, hg _ (Nat.le_refl _), H.out.lw⟩
  have HST := Lib.hid hst
  have c0 := hkl.cell c0' id
  have c2 := hkl.cell c2' id
  have c3 := hkl.cell c3' id
  have HROW := Lib.hid (show ∀ W, Kp (fun g => lo ≤ g) w W → CellsAt W ao (strs ss) from fun W hW => by
    rcases H.out.rlo with e0 | hr
    · rw [e0]; exact CellsAt.nil _ _
    · exact H.out.row.kp hW fun a e hf => by have := hr a e; omega)
  have hcap2 : ss.length + 2 ≤ capi := by omega
  have HSZ := Lib.hid H.out.size
  clear hst hkl hgB c0' c2' c3' HX1 hgi hcapi hcm
  obtain ⟨j, ej⟩ : ∃ j, j = (i + 1) % 3 := ⟨_, rfl⟩
  have hj : j < 3 := by omega
  have hij : i ≠ j := by omega
  have ew1 : wrap64 ((i : Int) + 1) = (i : Int) + 1 := by unfold wrap64; omega
  have ew3 : IntKind.i64.wrap ((i : Int) + 1) = (i : Int) + 1 := IntWalk.i64_in _ (by omega)
  have ew2 : ((i : Int) + 1).tmod 3 = (j : Int) := by
    have := Int.tmod_eq_emod_of_nonneg (a := (i : Int) + 1) (b := 3) (by omega)
    omega
  obtain ⟨pj, epj⟩ := (HST.out.b.rows j hj).ptr
  obtain ⟨qj, eqj⟩ := (HST.out.b.refs j hj).ptr
  have d1 := HST.out.b.cr hj
  have d2 := HST.out.b.cm hj
  rw [epj] at d1
  rw [eqj] at d2
  have HEJ := Lib.hid (And.intro epj eqj)
  have j3 : (j : Int) < 3 := by omega
  obtain ⟨L, eL⟩ : ∃ L, L = newS cmpRow (D.LL i ++ D.LL j) := ⟨_, rfl⟩
  have gi' := HST.out.b.good i hi
  have gj' := HST.out.b.good j hj
  have eLm : unionR (D.LL i) (D.LL j) = L := by rw [eL]; exact (newS_union gi'.1 _).symm
  obtain ⟨er, eer⟩ : ∃ er, er = withE (D.rv i) (D.rv j) (D.ar i) (D.ar j) L := ⟨_, rfl⟩
  have eem : withE (D.mv i) (D.mv j) (D.ar i) (D.ar j) L = er := by rw [eer, withE_nil (HST.out.b.both i hi) (HST.out.b.both j hj)]
  have HMW := Lib.hid (show ∀ W, StB lo w bd gi w.heap.size (strs (ss ++ [mark1, mark2]) ++ rest) [.int .i64 5, .int .i64 who, .int .i64 N, .slice ao ss.length cap] S D W → Calls Try.prog 69 #[.pointer q, .pointer qj, .int .i64 0] W (RetN W fun w' v => ∃ r, v = .tuple #[r, .int .i64 (er : Nat)] ∧ NewM S W (D.ar i) L er w' r) from fun W h => by
    have := refP_with (x := 0) (L := L) (h.b.refs i hi) (h.b.refs j hj) gi'.1 gj'.1 gj'.2.1 gi'.2.2 (.inl ⟨rfl, eLm.symm⟩)
    rwa [eem, HEP.out.2, HEJ.out.2] at this)
  have HPW := Lib.hid (show ∀ W, StB lo w bd gi w.heap.size (strs (ss ++ [mark1, mark2]) ++ rest) [.int .i64 5, .int .i64 who, .int .i64 N, .slice ao ss.length cap] S D W → Calls Try.prog 70 #[.pointer p, .pointer pj] W (RetF (fun k => FP (D.rv i) k ∨ FP (D.rv j) k) W fun w' v => StB lo w bd gi w.heap.size (strs (ss ++ [mark1, mark2]) ++ rest) [.int .i64 5, .int .i64 who, .int .i64 N, .slice ao ss.length cap] S D w' ∧ ∃ r, v = .tuple #[r, .int .i64 (er : Nat)] ∧ NewP S W (D.ar i) L er w' r) from fun W h => by
    have := rowsP_Union (h.b.rows i hi) (h.b.rows j hj) (h.b.apart i j hi hj hij) (by omega)
    rw [← eL, ← eer] at this
    rw [show (#[D.rv i, D.rv j] : Array Value) = #[.pointer p, .pointer pj] from by rw [HEP.out.1, HEJ.out.1]] at this
    refine this.mono ?_
    rintro e w' ⟨v, rfl, hk, h1, h2, h3⟩
    exact RetF.mk hk ⟨h.call2 hi hj hk h1 h2, h3⟩)
  have HL := Lib.hid (And.intro gi' (And.intro gj' (And.intro eL (And.intro eer eLm))))
  clear gi' gj' eLm eem epj eqj ej hij eL eer
  by_cases her : er = 0
  · subst her
    go_wp2_with fail
    refine wp_region_held_drew (S := fun w' => w'.cell? ⟨bd, 3 + j, none⟩ = some (.pointer qj) ∧ w'.cell? ⟨w.heap.size, 0, none⟩ = some (.int .i64 5)) (by kernel_rfl) ⟨by assumption, by assumption⟩ (fun hHeld => ?_)
    (refine take_in (i := 0) (v := ?_) rfl ?_ ?_; rotate_left; (intro w hSw; (try dsimp only at hSw); go_simp; try with_reducible rfl)); (try simp only [Act.put, List.setIfInBounds_toArray, List.set_cons_zero, List.set_cons_succ])
    (refine take_in (i := 1) (v := ?_) rfl ?_ ?_; rotate_left; (intro w hSw; (try dsimp only at hSw); go_simp; try with_reducible rfl)); (try simp only [Act.put, List.setIfInBounds_toArray, List.set_cons_zero, List.set_cons_succ])
    (refine take_in (i := 2) (v := ?_) rfl ?_ ?_; rotate_left; (intro w hSw; (try dsimp only at hSw); go_simp; try with_reducible rfl)); (try simp only [Act.put, List.setIfInBounds_toArray, List.set_cons_zero, List.set_cons_succ])
    (refine take_in (i := 3) (v := ?_) rfl ?_ ?_; rotate_left; (intro w hSw; (try dsimp only at hSw); go_simp; try with_reducible rfl)); (try simp only [Act.put, List.setIfInBounds_toArray, List.set_cons_zero, List.set_cons_succ])
    (refine take_in (i := 4) (v := ?_) rfl ?_ ?_; rotate_left; (intro w hSw; (try dsimp only at hSw); go_simp; try with_reducible rfl)); (try simp only [Act.put, List.setIfInBounds_toArray, List.set_cons_zero, List.set_cons_succ])
    (refine take_in (i := 5) (v := ?_) rfl ?_ ?_; rotate_left; (intro w hSw; (try dsimp only at hSw); go_simp; try with_reducible rfl)); (try simp only [Act.put, List.setIfInBounds_toArray, List.set_cons_zero, List.set_cons_succ])
    (refine take_in (i := 6) (v := ?_) rfl ?_ ?_; rotate_left; (intro w hSw; (try dsimp only at hSw); go_simp; try with_reducible rfl)); (try simp only [Act.put, List.setIfInBounds_toArray, List.set_cons_zero, List.set_cons_succ])
    (refine take_in (i := 7) (v := ?_) rfl ?_ ?_; rotate_left; (intro w hSw; (try dsimp only at hSw); go_simp; try with_reducible rfl)); (try simp only [Act.put, List.setIfInBounds_toArray, List.set_cons_zero, List.set_cons_succ])
    (refine take_in (i := 8) (v := ?_) rfl ?_ ?_; rotate_left; (intro w hSw; (try dsimp only at hSw); go_simp; try with_reducible rfl)); (try simp only [Act.put, List.setIfInBounds_toArray, List.set_cons_zero, List.set_cons_succ])
    (refine take_in (i := 9) (v := ?_) rfl ?_ ?_; rotate_left; (intro w hSw; (try dsimp only at hSw); go_simp; try with_reducible rfl)); (try simp only [Act.put, List.setIfInBounds_toArray, List.set_cons_zero, List.set_cons_succ])
    (refine take_in (i := 10) (v := ?_) rfl ?_ ?_; rotate_left; (intro w hSw; (try dsimp only at hSw); go_simp; try with_reducible rfl)); (try simp only [Act.put, List.setIfInBounds_toArray, List.set_cons_zero, List.set_cons_succ])
    (refine take_in (i := 11) (v := ?_) rfl ?_ ?_; rotate_left; (intro w hSw; (try dsimp only at hSw); go_simp; try with_reducible rfl)); (try simp only [Act.put, List.setIfInBounds_toArray, List.set_cons_zero, List.set_cons_succ])
    (refine take_call (i := 12) rfl (fun K hK => ?_); go_simp; ((refine (HMW.out _ ?_).mono ?_); exact HST.out.ext (Kp.refl W2).drew; rintro e W3 ⟨v3, rfl, hk3, r3, rfl, hnew3⟩; obtain ⟨c, S3, rfl, hc3, hg3, hm3⟩ := hnew3.get; have kx3 : Ext W2 W3 := (Kp.refl W2).drew.trans hk3; have d2 := kx3.cell d2 id; have c0 := kx3.cell c0 id; have HK3 := Lib.hid (And.intro kx3 (And.intro (show W2.heap.size ≤ c from hc3) (And.intro (show Grows W2 S S3 from hg3) hm3))); clear hk3 hnew3 hc3 hg3 hm3 kx3); go_wp2_with fail; refine hK.out _ _ ?_ (fun hHeld => ?_); (try dsimp only); (exact ⟨by assumption, by assumption⟩); clear hK K); (try simp only [Act.put, List.setIfInBounds_toArray, List.set_cons_zero, List.set_cons_succ])
    (refine take_in (i := 13) (v := ?_) rfl ?_ ?_; rotate_left; (intro w hSw; (try dsimp only at hSw); go_simp; try with_reducible rfl)); (try simp only [Act.put, List.setIfInBounds_toArray, List.set_cons_zero, List.set_cons_succ])
    (refine take_in (i := 14) (v := ?_) rfl ?_ ?_; rotate_left; (intro w hSw; (try dsimp only at hSw); go_simp; try with_reducible rfl)); (try simp only [Act.put, List.setIfInBounds_toArray, List.set_cons_zero, List.set_cons_succ])
    (refine take_in (i := 16) (v := ?_) rfl ?_ ?_; rotate_left; (intro w hSw; (try dsimp only at hSw); go_simp; try with_reducible rfl)); (try simp only [Act.put, List.setIfInBounds_toArray, List.set_cons_zero, List.set_cons_succ])
    (refine take_in (i := 15) (v := ?_) rfl ?_ ?_; rotate_left; (intro w hSw; (try dsimp only at hSw); go_simp; try with_reducible rfl)); (try simp only [Act.put, List.setIfInBounds_toArray, List.set_cons_zero, List.set_cons_succ])
    (refine take_in (i := 17) (v := ?_) rfl ?_ ?_; rotate_left; (intro w hSw; (try dsimp only at hSw); go_simp; try with_reducible rfl)); (try simp only [Act.put, List.setIfInBounds_toArray, List.set_cons_zero, List.set_cons_succ])
    refine wpAnyH_done (by kernel_rfl) ?_ _
    all_goals
      have hst3 := HST.out.ext HK3.out.1
      have hz23 := HK3.out.1.size
      have hnm : ∀ w : World, (binOp .eql 54 (.pointer (some ⟨c, 0, none⟩)) (.pointer none)).run Try.prog w = .ok (.bool false) w := fun _ => by kernel_rfl
      have HS3 := Lib.hid hst3
      clear hst3 d1 d2
      go_wp2_with fail
      refine (HPW.out _ HS3.out).mono ?_
      rintro e W4 ⟨v4, rfl, hk4, hst4, r4, rfl, hnew4⟩
      obtain ⟨b4, iv4, rfl, hbn4, hrn4⟩ := hnew4.get
      have hnp : ∀ w : World, (binOp .eql 52 (.pointer (some ⟨b4, 0, none⟩)) (.pointer none)).run Try.prog w = .ok (.bool false) w := fun _ => by kernel_rfl
      have HK4 := Lib.hid (And.intro hk4 (And.intro hst4 (And.intro hbn4 hrn4)))
      have hz34 := hk4.size
      have s1 := hst4.b.cr (k := 0) (by decide)
      have s4 := hst4.b.cm (k := 0) (by decide)
      have z1 := hst4.b.blk.free 0
      have z4 := hst4.b.blk.free 3
      clear hk4 hst4 hbn4 hrn4 hnew4 c3 c0
      go_wp2_with fail
      refine (num_any _ _).mono ?_
      rintro e w' ⟨rfl, rfl⟩
      go_wp2_with fail
      go_region
      all_goals
        generalize hW6 : World.setCell (World.setCell W4 _ _) _ _ = W6
        obtain ⟨S', D', hst'⟩ : ∃ S' D', StB lo w bd gi w.heap.size (strs (ss ++ [mark1, mark2]) ++ rest) [.int .i64 5, .int .i64 who, .int .i64 N, .slice ao ss.length cap] S' D' W6 := by
          obtain ⟨hk4, hst4, hbn4, hrn4⟩ := HK4.out
          obtain ⟨hk3, hc3, hg3, hm3⟩ := HK3.out
          obtain ⟨gi', gj', eL, eer, eLm⟩ := HL.out
          have hz0 := withE_zero eer.symm
          have hm3' := hm3.trim
          have hcw : c < W3.heap.size := hm3.lt c rfl
          have bw := HST.out.b.blk.lt
          obtain ⟨hk6, hb6⟩ := StB.stored (i := 0) (rv := .pointer (some ⟨b4, 0, none⟩)) (mv := .pointer (some ⟨c, 0, none⟩)) (iv := iv4) (ar := D.ar i) (LL := L) hst4 (by decide) (W3 := W6) (by first | exact .inl hW6.symm | exact .inr hW6.symm)
          have nS : ∀ g, g < W2.heap.size → S3 g → S g := fun g hg hs => (hg3.2 g hs).elim id fun h => by omega
          have hm4 := hm3'.kp hk4 (fun g hg hm => by
              cases hm
              rcases hg with hg | hg
              · have := (HST.out.below i hi).1 _ (FP.own hg); omega
              · have := (HST.out.below j hj).1 _ (FP.own hg); omega) (fun g hg hs => by
              rcases hg with hg | hg
              · exact (HST.out.b.rows i hi).notS g (FP.own hg) (nS g ((HST.out.below i hi).1 _ (FP.own hg)) hs.1)
              · exact (HST.out.b.rows j hj).notS g (FP.own hg) (nS g ((HST.out.below j hj).1 _ (FP.own hg)) hs.1))
          have hm6 := hm4.kp hk6 (fun g e hm => by cases hm; omega) (fun g e hs => HST.out.b.offS (by subst e; exact nS _ bw hs.1))
          refine StB.put' HST.out hst4 (by decide) (by omega) hk6 hb6 (S' := fun k => S3 k ∧ k < W3.heap.size) ⟨fun k hk => ⟨hg3.1 k hk, by have := HST.out.b.inS k hk; omega⟩, fun k hk => hg3.2 k hk.1⟩ hrn4 hm6 (fun g hg => by have := hbn4 g hg; omega) (fun g hg => by cases hg; omega) (fun g ho hs => by have := hbn4 g ho; omega) (fun g hg ho => by cases hg; have := hbn4 _ ho; omega) rfl ?_
          rw [← eLm]; exact good_union gi' (fun s hs => by rw [hz0.1]; exact gj'.2.1 s hs) (by rw [eLm]; exact hz0.2)
        have HST := Lib.hid (hst'.ext (Kp.refl W6).drew)
        have c3 : W6.cell? ⟨w.heap.size, 3, none⟩ = some (.slice ao ss.length cap) := by rw [hst'.oB.cell']; rfl
        clear hst' hW6
        go_wp2_with fail
        refine (kept_any ss gi capi ao cap rest _ HST.out.gB hcap2 (HROW.out _ HST.out.kp) hss HSZ.out).mono ?_
        rintro e wk ⟨vk, rfl, hkk, rfl⟩
        have hbk := HST.out.b.kp hkk (fun e => HST.out.gO.2.1 e.symm) (fun g e k hk => by subst e; exact HST.out.gO.2.2 k hk) (fun g e => by subst e; exact HST.out.gO.1)
        have hkw : Kp (fun g => lo ≤ g) w wk := HST.out.kp.trans (hkk.mono fun g _ e => by subst e; exact HST.out.gL)
        have HBK := Lib.hid (And.intro hbk hkw)
        have HLO := Lib.hid (show ∀ g, BenchF D' g → lo ≤ g from fun g hg => by obtain ⟨k, hk, hf⟩ := hg; exact (HST.out.l.2 k hk).1 g (FP.own hf))
        clear hbk hkw hkk c3
        go_wp2_with fail
        refine (benchTold_any HBK.out.1 (k := 0) (by decide)).mono ?_
        rintro e wt ⟨vt, rfl, hkt, rfl, hbt⟩
        have HB0 := Lib.hid (And.intro hbt (HBK.out.2.trans (hkt.mono fun g _ hg => HLO.out g hg)))
        clear hbt hkt
        go_wp2_with fail
        refine (benchTold_any HB0.out.1 (k := 1) (by decide)).mono ?_
        rintro e wt1 ⟨vt, rfl, hkt, rfl, hbt⟩
        have HB1 := Lib.hid (And.intro hbt (HB0.out.2.trans (hkt.mono fun g _ hg => HLO.out g hg)))
        clear hbt hkt
        go_wp2_with fail
        refine (benchTold_any HB1.out.1 (k := 2) (by decide)).mono ?_
        rintro e wt2 ⟨vt, rfl, hkt, rfl, hbt⟩
        have HB2 := Lib.hid (And.intro hbt (HB1.out.2.trans (hkt.mono fun g _ hg => HLO.out g hg)))
        clear hbt hkt
        go_wp2
        go_ret
        exact RetF.mk HB2.out.2 ⟨rfl, S', D', HB2.out.1, HST.out.l⟩
  · go_wp2_with fail
    refine wp_region_held_drew (S := fun w' => w'.cell? ⟨bd, 3 + j, none⟩ = some (.pointer qj) ∧ w'.cell? ⟨w.heap.size, 0, none⟩ = some (.int .i64 5)) (by kernel_rfl) ⟨by assumption, by assumption⟩ (fun hHeld => ?_)
    (refine take_in (i := 0) (v := ?_) rfl ?_ ?_; rotate_left; (intro w hSw; (try dsimp only at hSw); go_simp; try with_reducible rfl)); (try simp only [Act.put, List.setIfInBounds_toArray, List.set_cons_zero, List.set_cons_succ])
    (refine take_in (i := 1) (v := ?_) rfl ?_ ?_; rotate_left; (intro w hSw; (try dsimp only at hSw); go_simp; try with_reducible rfl)); (try simp only [Act.put, List.setIfInBounds_toArray, List.set_cons_zero, List.set_cons_succ])
    (refine take_in (i := 2) (v := ?_) rfl ?_ ?_; rotate_left; (intro w hSw; (try dsimp only at hSw); go_simp; try with_reducible rfl)); (try simp only [Act.put, List.setIfInBounds_toArray, List.set_cons_zero, List.set_cons_succ])
    (refine take_in (i := 3) (v := ?_) rfl ?_ ?_; rotate_left; (intro w hSw; (try dsimp only at hSw); go_simp; try with_reducible rfl)); (try simp only [Act.put, List.setIfInBounds_toArray, List.set_cons_zero, List.set_cons_succ])
    (refine take_in (i := 4) (v := ?_) rfl ?_ ?_; rotate_left; (intro w hSw; (try dsimp only at hSw); go_simp; try with_reducible rfl)); (try simp only [Act.put, List.setIfInBounds_toArray, List.set_cons_zero, List.set_cons_succ])
    (refine take_in (i := 5) (v := ?_) rfl ?_ ?_; rotate_left; (intro w hSw; (try dsimp only at hSw); go_simp; try with_reducible rfl)); (try simp only [Act.put, List.setIfInBounds_toArray, List.set_cons_zero, List.set_cons_succ])
    (refine take_in (i := 6) (v := ?_) rfl ?_ ?_; rotate_left; (intro w hSw; (try dsimp only at hSw); go_simp; try with_reducible rfl)); (try simp only [Act.put, List.setIfInBounds_toArray, List.set_cons_zero, List.set_cons_succ])
    (refine take_in (i := 7) (v := ?_) rfl ?_ ?_; rotate_left; (intro w hSw; (try dsimp only at hSw); go_simp; try with_reducible rfl)); (try simp only [Act.put, List.setIfInBounds_toArray, List.set_cons_zero, List.set_cons_succ])
    (refine take_in (i := 8) (v := ?_) rfl ?_ ?_; rotate_left; (intro w hSw; (try dsimp only at hSw); go_simp; try with_reducible rfl)); (try simp only [Act.put, List.setIfInBounds_toArray, List.set_cons_zero, List.set_cons_succ])
    (refine take_in (i := 9) (v := ?_) rfl ?_ ?_; rotate_left; (intro w hSw; (try dsimp only at hSw); go_simp; try with_reducible rfl)); (try simp only [Act.put, List.setIfInBounds_toArray, List.set_cons_zero, List.set_cons_succ])
    (refine take_in (i := 10) (v := ?_) rfl ?_ ?_; rotate_left; (intro w hSw; (try dsimp only at hSw); go_simp; try with_reducible rfl)); (try simp only [Act.put, List.setIfInBounds_toArray, List.set_cons_zero, List.set_cons_succ])
    (refine take_in (i := 11) (v := ?_) rfl ?_ ?_; rotate_left; (intro w hSw; (try dsimp only at hSw); go_simp; try with_reducible rfl)); (try simp only [Act.put, List.setIfInBounds_toArray, List.set_cons_zero, List.set_cons_succ])
    (refine take_call (i := 12) rfl (fun K hK => ?_); go_simp; ((refine (HMW.out _ ?_).mono ?_); exact HST.out.ext (Kp.refl W2).drew; rintro e W3 ⟨v3, rfl, hk3, r3, rfl, hnew3⟩; obtain rfl : r3 = .pointer none := (hnew3.elim (fun h => h.2) (fun h => absurd h.1 her)); have kx3 : Ext W2 W3 := (Kp.refl W2).drew.trans hk3; have d2 := kx3.cell d2 id; have c0 := kx3.cell c0 id; have HK3 := Lib.hid kx3; clear hk3 hnew3 kx3); go_wp2_with fail; refine hK.out _ _ ?_ (fun hHeld => ?_); (try dsimp only); (exact ⟨by assumption, by assumption⟩); clear hK K); (try simp only [Act.put, List.setIfInBounds_toArray, List.set_cons_zero, List.set_cons_succ])
    (refine take_in (i := 13) (v := ?_) rfl ?_ ?_; rotate_left; (intro w hSw; (try dsimp only at hSw); go_simp; try with_reducible rfl)); (try simp only [Act.put, List.setIfInBounds_toArray, List.set_cons_zero, List.set_cons_succ])
    (refine take_in (i := 14) (v := ?_) rfl ?_ ?_; rotate_left; (intro w hSw; (try dsimp only at hSw); go_simp; try with_reducible rfl)); (try simp only [Act.put, List.setIfInBounds_toArray, List.set_cons_zero, List.set_cons_succ])
    (refine take_in (i := 16) (v := ?_) rfl ?_ ?_; rotate_left; (intro w hSw; (try dsimp only at hSw); go_simp; try with_reducible rfl)); (try simp only [Act.put, List.setIfInBounds_toArray, List.set_cons_zero, List.set_cons_succ])
    (refine take_in (i := 15) (v := ?_) rfl ?_ ?_; rotate_left; (intro w hSw; (try dsimp only at hSw); go_simp; try with_reducible rfl)); (try simp only [Act.put, List.setIfInBounds_toArray, List.set_cons_zero, List.set_cons_succ])
    (refine take_in (i := 17) (v := ?_) rfl ?_ ?_; rotate_left; (intro w hSw; (try dsimp only at hSw); go_simp; try with_reducible rfl)); (try simp only [Act.put, List.setIfInBounds_toArray, List.set_cons_zero, List.set_cons_succ])
    refine wpAnyH_done (by kernel_rfl) ?_ _
    all_goals
      have HS3 := Lib.hid (HST.out.ext HK3.out)
      clear d1 d2
      go_wp2_with fail
      refine (HPW.out _ HS3.out).mono ?_
      rintro e W4 ⟨v4, rfl, hk4, hst4, r4, rfl, hnew4⟩
      obtain rfl : r4 = .pointer none := (hnew4.elim (fun h => h.2) (fun h => absurd h.1 her))
      have HST := Lib.hid hst4
      have c3 : W4.cell? ⟨w.heap.size, 3, none⟩ = some (.slice ao ss.length cap) := by rw [hst4.oB.cell']; rfl
      clear hk4 hst4 hnew4 c0
      go_wp2_with fail
      refine (num_any _ _).mono ?_
      rintro e w' ⟨rfl, rfl⟩
      go_wp2_with fail
      refine (kept_any ss gi capi ao cap rest _ HST.out.gB hcap2 (HROW.out _ HST.out.kp) hss HSZ.out).mono ?_
      rintro e wk ⟨vk, rfl, hkk, rfl⟩
      have hbk := HST.out.b.kp hkk (fun e => HST.out.gO.2.1 e.symm) (fun g e k hk => by subst e; exact HST.out.gO.2.2 k hk) (fun g e => by subst e; exact HST.out.gO.1)
      have hkw : Kp (fun g => lo ≤ g) w wk := HST.out.kp.trans (hkk.mono fun g _ e => by subst e; exact HST.out.gL)
      have HBK := Lib.hid (And.intro hbk hkw)
      have HLO := Lib.hid (show ∀ g, BenchF D g → lo ≤ g from fun g hg => by obtain ⟨k, hk, hf⟩ := hg; exact (HST.out.l.2 k hk).1 g (FP.own hf))
      clear hbk hkw hkk c3
      go_wp2_with fail
      refine (benchTold_any HBK.out.1 (k := 0) (by decide)).mono ?_
      rintro e wt ⟨vt, rfl, hkt, rfl, hbt⟩
      have HB0 := Lib.hid (And.intro hbt (HBK.out.2.trans (hkt.mono fun g _ hg => HLO.out g hg)))
      clear hbt hkt
      go_wp2_with fail
      refine (benchTold_any HB0.out.1 (k := 1) (by decide)).mono ?_
      rintro e wt1 ⟨vt, rfl, hkt, rfl, hbt⟩
      have HB1 := Lib.hid (And.intro hbt (HB0.out.2.trans (hkt.mono fun g _ hg => HLO.out g hg)))
      clear hbt hkt
      go_wp2_with fail
      refine (benchTold_any HB1.out.1 (k := 2) (by decide)).mono ?_
      rintro e wt2 ⟨vt, rfl, hkt, rfl, hbt⟩
      have HB2 := Lib.hid (And.intro hbt (HB1.out.2.trans (hkt.mono fun g _ hg => HLO.out g hg)))
      clear hbt hkt
      go_wp2
      go_ret
      exact RetF.mk HB2.out.2 ⟨rfl, S, D, HB2.out.1, HST.out.l⟩
end Go.Proofs.Ytfkhelihepbehaa

/- bench.step: Minus. -/
namespace Go.Proofs.Ytfkhelihepbehaa
open Go.RowKit Go.Shelf
set_option linter.unusedVariables false

set_option maxRecDepth 100000 in
set_option maxHeartbeats 8000000 in
theorem stepMinus_any {lo bd : Nat} {S : Nat → Prop} {D : Bench3} {ao : Option Addr} {cap : Nat} {ss : List ByteArray} {w : World} (h : StepIn lo bd S D ao ss w) (who N : Int) :
    Calls Try.prog 24 #[.pointer (some ⟨bd, 0, none⟩), .agg #[.int .i64 6, .int .i64 who, .int .i64 N, .slice ao ss.length cap]] w (RetF (fun g => lo ≤ g) w (StepPost lo bd)) := by
  obtain ⟨i, ei⟩ : ∃ i, placeN who 3 = i := ⟨_, rfl⟩
  have hi : i < 3 := by rw [← ei]; exact placeN_lt _ _ (by decide)
  have EI := Lib.hid (fun W => place_any who 3 (by decide) (by decide) W)
  rw [ei] at EI
  have hss := h.len
  have H := Lib.hid h
  have hb0 := Blk.new w [.int .i64 6, .int .i64 who, .int .i64 N, .slice ao ss.length cap] 73
  obtain ⟨W0, eW0⟩ : ∃ W0, w.alloc (.cells #[.int .i64 6, .int .i64 who, .int .i64 N, .slice ao ss.length cap] 73) = W0 := ⟨_, rfl⟩
  have x0 : Ext w W0 := by rw [← eW0]; exact (Kp.refl w).alloc _
  rw [show w.alloc (.cells [Value.int .i64 6, .int .i64 who, .int .i64 N, .slice ao ss.length cap].toArray 73) = W0 from eW0] at hb0
  have c1 : W0.cell? ⟨w.heap.size, 1, none⟩ = some (.int .i64 who) := by rw [hb0.cell']; rfl
  have c3 : W0.cell? ⟨w.heap.size, 3, none⟩ = some (.slice ao ss.length cap) := by rw [hb0.cell']; rfl
  have c0 : W0.cell? ⟨w.heap.size, 0, none⟩ = some (.int .i64 6) := by rw [hb0.cell']; rfl
  have c2 : W0.cell? ⟨w.heap.size, 2, none⟩ = some (.int .i64 N) := by rw [hb0.cell']; rfl
  have HX0 := Lib.hid (And.intro x0 hb0)
  obtain ⟨p, ep⟩ := (h.b.rows i hi).ptr
  obtain ⟨q, eq⟩ := (h.b.refs i hi).ptr
  have d1 := (h.b.ext x0).cr hi
  have d2 := (h.b.ext x0).cm hi
  rw [ep] at d1
  rw [eq] at d2
  have HEP := Lib.hid (And.intro ep eq)
  have i3 : (i : Int) < 3 := by omega
  clear h ei x0 hb0 ep eq
  go_enter Try.func24, Try.ntmps24
  go_wp2_with fail
  refine (EI.out _).mono ?_
  rintro e w' ⟨rfl, rfl⟩
  clear EI eW0
  go_wp2_with fail
  go_region_held3 (fun w' => w'.cell? ⟨bd, i, none⟩ = some (.pointer p) ∧ w'.cell? ⟨bd, 3 + i, none⟩ = some (.pointer q)) (first | exact ⟨by assumption, by assumption⟩ | go_keep) (fail)
  obtain ⟨W1, eW1⟩ : ∃ W1, W1 = W0.drew := ⟨_, rfl⟩
  rw [← eW1]
  have x1 : Ext W0 W1 := by rw [eW1]; exact (Kp.refl W0).drew
  have c0' := x1.cell c0 id
  have c2' := x1.cell c2 id
  have c3' := x1.cell c3 id
  have HX1 := Lib.hid (And.intro (HX0.out.1.trans x1) (HX0.out.2.ext x1))
  clear c0 c1 c2 c3 eW1 x1 HX0 d1 d2
  go_wp2_with fail
  refine (lent_any ss ao cap W1 (H.out.row.ext HX1.out.1) hss).mono ?_
  rintro e W2 ⟨vl, rfl, hkl, gi, capi, rest, rfl, hgi, hgB, hcapi, hcm⟩
  obtain ⟨S0, eS0⟩ : ∃ S0, S0 = S := ⟨_, rfl⟩
  have hst : StB lo w bd gi w.heap.size (strs (ss ++ [mark1, mark2]) ++ rest) [.int .i64 6, .int .i64 who, .int .i64 N, .slice ao ss.length cap] S D W2 := by
    have hx := HX1.out.1.trans hkl
    have hz := HX1.out.1.size
    have hg : ∀ g, w.heap.size ≤ g → OffB S D bd g := fun g hg => ⟨fun hs => by have := H.out.b.inS g hs; omega, fun e => by have := H.out.b.blk.lt; omega, fun k hk => ⟨fun ho => by have := (H.out.b.rows k hk).ownLt g ho; omega, fun ho => by have := (H.out.b.refs k hk).lt g ho; omega⟩⟩
    exact ⟨H.out.b.ext hx, H.out.l, Ext.kp hx, hgB, hg gi (by omega), by have := H.out.lw; omega, HX1.out.2.ext hkl, hg _ (Nat.le_refl _), H.out.lw⟩
  have HST := Lib.hid hst
  have c0 := hkl.cell c0' id
  have c2 := hkl.cell c2' id
  have c3 := hkl.cell c3' id
  have HROW := Lib.hid (show ∀ W, Kp (fun g => lo ≤ g) w W → CellsAt W ao (strs ss) from fun W hW => by
    rcases H.out.rlo with e0 | hr
    · rw [e0]; exact CellsAt.nil _ _
    · exact H.out.row.kp hW fun a e hf => by have := hr a e; omega)
  have hcap2 : ss.length + 2 ≤ capi := by omega
  have HSZ := Lib.hid H.out.size
  clear hst hkl hgB c0' c2' c3' HX1 hgi hcapi hcm
  obtain ⟨j, ej⟩ : ∃ j, j = (i + 1) % 3 := ⟨_, rfl⟩
  have hj : j < 3 := by omega
  have hij : i ≠ j := by omega
  have ew1 : wrap64 ((i : Int) + 1) = (i : Int) + 1 := by unfold wrap64; omega
  have ew3 : IntKind.i64.wrap ((i : Int) + 1) = (i : Int) + 1 := IntWalk.i64_in _ (by omega)
  have ew2 : ((i : Int) + 1).tmod 3 = (j : Int) := by
    have := Int.tmod_eq_emod_of_nonneg (a := (i : Int) + 1) (b := 3) (by omega)
    omega
  obtain ⟨pj, epj⟩ := (HST.out.b.rows j hj).ptr
  obtain ⟨qj, eqj⟩ := (HST.out.b.refs j hj).ptr
  have d1 := HST.out.b.cr hj
  have d2 := HST.out.b.cm hj
  rw [epj] at d1
  rw [eqj] at d2
  have HEJ := Lib.hid (And.intro epj eqj)
  have j3 : (j : Int) < 3 := by omega
  obtain ⟨L, eL⟩ : ∃ L, L = (D.LL i).filter fun x => !isIn cmpRow (D.LL j) x := ⟨_, rfl⟩
  have gi' := HST.out.b.good i hi
  have gj' := HST.out.b.good j hj
  have eLm : ((D.LL i).filter fun y => isIn cmpRow (D.LL j) y == ((1 : Int) == 2)) = L := by rw [eL]; exact List.filter_congr fun y _ => by cases isIn cmpRow (D.LL j) y <;> rfl
  obtain ⟨er, eer⟩ : ∃ er, er = withE (D.rv i) (D.rv j) (D.ar i) (D.ar j) L := ⟨_, rfl⟩
  have eem : withE (D.mv i) (D.mv j) (D.ar i) (D.ar j) L = er := by rw [eer, withE_nil (HST.out.b.both i hi) (HST.out.b.both j hj)]
  have HMW := Lib.hid (show ∀ W, StB lo w bd gi w.heap.size (strs (ss ++ [mark1, mark2]) ++ rest) [.int .i64 6, .int .i64 who, .int .i64 N, .slice ao ss.length cap] S D W → Calls Try.prog 69 #[.pointer q, .pointer qj, .int .i64 1] W (RetN W fun w' v => ∃ r, v = .tuple #[r, .int .i64 (er : Nat)] ∧ NewM S W (D.ar i) L er w' r) from fun W h => by
    have := refP_with (x := 1) (L := L) (h.b.refs i hi) (h.b.refs j hj) gi'.1 gj'.1 gj'.2.1 gi'.2.2 (.inr ⟨.inl rfl, eLm.symm⟩)
    rwa [eem, HEP.out.2, HEJ.out.2] at this)
  have HPW := Lib.hid (show ∀ W, StB lo w bd gi w.heap.size (strs (ss ++ [mark1, mark2]) ++ rest) [.int .i64 6, .int .i64 who, .int .i64 N, .slice ao ss.length cap] S D W → Calls Try.prog 71 #[.pointer p, .pointer pj] W (RetF (fun k => FP (D.rv i) k ∨ FP (D.rv j) k) W fun w' v => StB lo w bd gi w.heap.size (strs (ss ++ [mark1, mark2]) ++ rest) [.int .i64 6, .int .i64 who, .int .i64 N, .slice ao ss.length cap] S D w' ∧ ∃ r, v = .tuple #[r, .int .i64 (er : Nat)] ∧ NewP S W (D.ar i) L er w' r) from fun W h => by
    have := rowsP_Minus (h.b.rows i hi) (h.b.rows j hj) (h.b.apart i j hi hj hij) (by omega)
    rw [← eL, ← eer] at this
    rw [show (#[D.rv i, D.rv j] : Array Value) = #[.pointer p, .pointer pj] from by rw [HEP.out.1, HEJ.out.1]] at this
    refine this.mono ?_
    rintro e w' ⟨v, rfl, hk, h1, h2, h3⟩
    exact RetF.mk hk ⟨h.call2 hi hj hk h1 h2, h3⟩)
  have HL := Lib.hid (And.intro gi' (And.intro gj' (And.intro eL (And.intro eer eLm))))
  clear gi' gj' eLm eem epj eqj ej hij eL eer
  by_cases her : er = 0
  · subst her
    go_wp2_with fail
    refine wp_region_held_drew (S := fun w' => w'.cell? ⟨bd, 3 + j, none⟩ = some (.pointer qj) ∧ w'.cell? ⟨w.heap.size, 0, none⟩ = some (.int .i64 6)) (by kernel_rfl) ⟨by assumption, by assumption⟩ (fun hHeld => ?_)
    (refine take_in (i := 0) (v := ?_) rfl ?_ ?_; rotate_left; (intro w hSw; (try dsimp only at hSw); go_simp; try with_reducible rfl)); (try simp only [Act.put, List.setIfInBounds_toArray, List.set_cons_zero, List.set_cons_succ])
    (refine take_in (i := 1) (v := ?_) rfl ?_ ?_; rotate_left; (intro w hSw; (try dsimp only at hSw); go_simp; try with_reducible rfl)); (try simp only [Act.put, List.setIfInBounds_toArray, List.set_cons_zero, List.set_cons_succ])
    (refine take_in (i := 2) (v := ?_) rfl ?_ ?_; rotate_left; (intro w hSw; (try dsimp only at hSw); go_simp; try with_reducible rfl)); (try simp only [Act.put, List.setIfInBounds_toArray, List.set_cons_zero, List.set_cons_succ])
    (refine take_in (i := 3) (v := ?_) rfl ?_ ?_; rotate_left; (intro w hSw; (try dsimp only at hSw); go_simp; try with_reducible rfl)); (try simp only [Act.put, List.setIfInBounds_toArray, List.set_cons_zero, List.set_cons_succ])
    (refine take_in (i := 4) (v := ?_) rfl ?_ ?_; rotate_left; (intro w hSw; (try dsimp only at hSw); go_simp; try with_reducible rfl)); (try simp only [Act.put, List.setIfInBounds_toArray, List.set_cons_zero, List.set_cons_succ])
    (refine take_in (i := 5) (v := ?_) rfl ?_ ?_; rotate_left; (intro w hSw; (try dsimp only at hSw); go_simp; try with_reducible rfl)); (try simp only [Act.put, List.setIfInBounds_toArray, List.set_cons_zero, List.set_cons_succ])
    (refine take_in (i := 6) (v := ?_) rfl ?_ ?_; rotate_left; (intro w hSw; (try dsimp only at hSw); go_simp; try with_reducible rfl)); (try simp only [Act.put, List.setIfInBounds_toArray, List.set_cons_zero, List.set_cons_succ])
    (refine take_in (i := 7) (v := ?_) rfl ?_ ?_; rotate_left; (intro w hSw; (try dsimp only at hSw); go_simp; try with_reducible rfl)); (try simp only [Act.put, List.setIfInBounds_toArray, List.set_cons_zero, List.set_cons_succ])
    (refine take_in (i := 8) (v := ?_) rfl ?_ ?_; rotate_left; (intro w hSw; (try dsimp only at hSw); go_simp; try with_reducible rfl)); (try simp only [Act.put, List.setIfInBounds_toArray, List.set_cons_zero, List.set_cons_succ])
    (refine take_in (i := 9) (v := ?_) rfl ?_ ?_; rotate_left; (intro w hSw; (try dsimp only at hSw); go_simp; try with_reducible rfl)); (try simp only [Act.put, List.setIfInBounds_toArray, List.set_cons_zero, List.set_cons_succ])
    (refine take_in (i := 10) (v := ?_) rfl ?_ ?_; rotate_left; (intro w hSw; (try dsimp only at hSw); go_simp; try with_reducible rfl)); (try simp only [Act.put, List.setIfInBounds_toArray, List.set_cons_zero, List.set_cons_succ])
    (refine take_in (i := 11) (v := ?_) rfl ?_ ?_; rotate_left; (intro w hSw; (try dsimp only at hSw); go_simp; try with_reducible rfl)); (try simp only [Act.put, List.setIfInBounds_toArray, List.set_cons_zero, List.set_cons_succ])
    (refine take_call (i := 12) rfl (fun K hK => ?_); go_simp; ((refine (HMW.out _ ?_).mono ?_); exact HST.out.ext (Kp.refl W2).drew; rintro e W3 ⟨v3, rfl, hk3, r3, rfl, hnew3⟩; obtain ⟨c, S3, rfl, hc3, hg3, hm3⟩ := hnew3.get; have kx3 : Ext W2 W3 := (Kp.refl W2).drew.trans hk3; have d2 := kx3.cell d2 id; have c0 := kx3.cell c0 id; have HK3 := Lib.hid (And.intro kx3 (And.intro (show W2.heap.size ≤ c from hc3) (And.intro (show Grows W2 S S3 from hg3) hm3))); clear hk3 hnew3 hc3 hg3 hm3 kx3); go_wp2_with fail; refine hK.out _ _ ?_ (fun hHeld => ?_); (try dsimp only); (exact ⟨by assumption, by assumption⟩); clear hK K); (try simp only [Act.put, List.setIfInBounds_toArray, List.set_cons_zero, List.set_cons_succ])
    (refine take_in (i := 13) (v := ?_) rfl ?_ ?_; rotate_left; (intro w hSw; (try dsimp only at hSw); go_simp; try with_reducible rfl)); (try simp only [Act.put, List.setIfInBounds_toArray, List.set_cons_zero, List.set_cons_succ])
    (refine take_in (i := 14) (v := ?_) rfl ?_ ?_; rotate_left; (intro w hSw; (try dsimp only at hSw); go_simp; try with_reducible rfl)); (try simp only [Act.put, List.setIfInBounds_toArray, List.set_cons_zero, List.set_cons_succ])
    (refine take_in (i := 16) (v := ?_) rfl ?_ ?_; rotate_left; (intro w hSw; (try dsimp only at hSw); go_simp; try with_reducible rfl)); (try simp only [Act.put, List.setIfInBounds_toArray, List.set_cons_zero, List.set_cons_succ])
    (refine take_in (i := 15) (v := ?_) rfl ?_ ?_; rotate_left; (intro w hSw; (try dsimp only at hSw); go_simp; try with_reducible rfl)); (try simp only [Act.put, List.setIfInBounds_toArray, List.set_cons_zero, List.set_cons_succ])
    (refine take_in (i := 17) (v := ?_) rfl ?_ ?_; rotate_left; (intro w hSw; (try dsimp only at hSw); go_simp; try with_reducible rfl)); (try simp only [Act.put, List.setIfInBounds_toArray, List.set_cons_zero, List.set_cons_succ])
    refine wpAnyH_done (by kernel_rfl) ?_ _
    all_goals
      have hst3 := HST.out.ext HK3.out.1
      have hz23 := HK3.out.1.size
      have hnm : ∀ w : World, (binOp .eql 54 (.pointer (some ⟨c, 0, none⟩)) (.pointer none)).run Try.prog w = .ok (.bool false) w := fun _ => by kernel_rfl
      have HS3 := Lib.hid hst3
      clear hst3 d1 d2
      go_wp2_with fail
      refine (HPW.out _ HS3.out).mono ?_
      rintro e W4 ⟨v4, rfl, hk4, hst4, r4, rfl, hnew4⟩
      obtain ⟨b4, iv4, rfl, hbn4, hrn4⟩ := hnew4.get
      have hnp : ∀ w : World, (binOp .eql 52 (.pointer (some ⟨b4, 0, none⟩)) (.pointer none)).run Try.prog w = .ok (.bool false) w := fun _ => by kernel_rfl
      have HK4 := Lib.hid (And.intro hk4 (And.intro hst4 (And.intro hbn4 hrn4)))
      have hz34 := hk4.size
      have s1 := hst4.b.cr (k := 0) (by decide)
      have s4 := hst4.b.cm (k := 0) (by decide)
      have z1 := hst4.b.blk.free 0
      have z4 := hst4.b.blk.free 3
      clear hk4 hst4 hbn4 hrn4 hnew4 c3 c0
      go_wp2_with fail
      refine (num_any _ _).mono ?_
      rintro e w' ⟨rfl, rfl⟩
      go_wp2_with fail
      go_region
      all_goals
        generalize hW6 : World.setCell (World.setCell W4 _ _) _ _ = W6
        obtain ⟨S', D', hst'⟩ : ∃ S' D', StB lo w bd gi w.heap.size (strs (ss ++ [mark1, mark2]) ++ rest) [.int .i64 6, .int .i64 who, .int .i64 N, .slice ao ss.length cap] S' D' W6 := by
          obtain ⟨hk4, hst4, hbn4, hrn4⟩ := HK4.out
          obtain ⟨hk3, hc3, hg3, hm3⟩ := HK3.out
          obtain ⟨gi', gj', eL, eer, eLm⟩ := HL.out
          have hz0 := withE_zero eer.symm
          have hm3' := hm3.trim
          have hcw : c < W3.heap.size := hm3.lt c rfl
          have bw := HST.out.b.blk.lt
          obtain ⟨hk6, hb6⟩ := StB.stored (i := 0) (rv := .pointer (some ⟨b4, 0, none⟩)) (mv := .pointer (some ⟨c, 0, none⟩)) (iv := iv4) (ar := D.ar i) (LL := L) hst4 (by decide) (W3 := W6) (by first | exact .inl hW6.symm | exact .inr hW6.symm)
          have nS : ∀ g, g < W2.heap.size → S3 g → S g := fun g hg hs => (hg3.2 g hs).elim id fun h => by omega
          have hm4 := hm3'.kp hk4 (fun g hg hm => by
              cases hm
              rcases hg with hg | hg
              · have := (HST.out.below i hi).1 _ (FP.own hg); omega
              · have := (HST.out.below j hj).1 _ (FP.own hg); omega) (fun g hg hs => by
              rcases hg with hg | hg
              · exact (HST.out.b.rows i hi).notS g (FP.own hg) (nS g ((HST.out.below i hi).1 _ (FP.own hg)) hs.1)
              · exact (HST.out.b.rows j hj).notS g (FP.own hg) (nS g ((HST.out.below j hj).1 _ (FP.own hg)) hs.1))
          have hm6 := hm4.kp hk6 (fun g e hm => by cases hm; omega) (fun g e hs => HST.out.b.offS (by subst e; exact nS _ bw hs.1))
          refine StB.put' HST.out hst4 (by decide) (by omega) hk6 hb6 (S' := fun k => S3 k ∧ k < W3.heap.size) ⟨fun k hk => ⟨hg3.1 k hk, by have := HST.out.b.inS k hk; omega⟩, fun k hk => hg3.2 k hk.1⟩ hrn4 hm6 (fun g hg => by have := hbn4 g hg; omega) (fun g hg => by cases hg; omega) (fun g ho hs => by have := hbn4 g ho; omega) (fun g hg ho => by cases hg; have := hbn4 _ ho; omega) rfl ?_
          rw [eL]; exact good_sub gi' List.filter_sublist
        have HST := Lib.hid (hst'.ext (Kp.refl W6).drew)
        have c3 : W6.cell? ⟨w.heap.size, 3, none⟩ = some (.slice ao ss.length cap) := by rw [hst'.oB.cell']; rfl
        clear hst' hW6
        go_wp2_with fail
        refine (kept_any ss gi capi ao cap rest _ HST.out.gB hcap2 (HROW.out _ HST.out.kp) hss HSZ.out).mono ?_
        rintro e wk ⟨vk, rfl, hkk, rfl⟩
        have hbk := HST.out.b.kp hkk (fun e => HST.out.gO.2.1 e.symm) (fun g e k hk => by subst e; exact HST.out.gO.2.2 k hk) (fun g e => by subst e; exact HST.out.gO.1)
        have hkw : Kp (fun g => lo ≤ g) w wk := HST.out.kp.trans (hkk.mono fun g _ e => by subst e; exact HST.out.gL)
        have HBK := Lib.hid (And.intro hbk hkw)
        have HLO := Lib.hid (show ∀ g, BenchF D' g → lo ≤ g from fun g hg => by obtain ⟨k, hk, hf⟩ := hg; exact (HST.out.l.2 k hk).1 g (FP.own hf))
        clear hbk hkw hkk c3
        go_wp2_with fail
        refine (benchTold_any HBK.out.1 (k := 0) (by decide)).mono ?_
        rintro e wt ⟨vt, rfl, hkt, rfl, hbt⟩
        have HB0 := Lib.hid (And.intro hbt (HBK.out.2.trans (hkt.mono fun g _ hg => HLO.out g hg)))
        clear hbt hkt
        go_wp2_with fail
        refine (benchTold_any HB0.out.1 (k := 1) (by decide)).mono ?_
        rintro e wt1 ⟨vt, rfl, hkt, rfl, hbt⟩
        have HB1 := Lib.hid (And.intro hbt (HB0.out.2.trans (hkt.mono fun g _ hg => HLO.out g hg)))
        clear hbt hkt
        go_wp2_with fail
        refine (benchTold_any HB1.out.1 (k := 2) (by decide)).mono ?_
        rintro e wt2 ⟨vt, rfl, hkt, rfl, hbt⟩
        have HB2 := Lib.hid (And.intro hbt (HB1.out.2.trans (hkt.mono fun g _ hg => HLO.out g hg)))
        clear hbt hkt
        go_wp2
        go_ret
        exact RetF.mk HB2.out.2 ⟨rfl, S', D', HB2.out.1, HST.out.l⟩
  · go_wp2_with fail
    refine wp_region_held_drew (S := fun w' => w'.cell? ⟨bd, 3 + j, none⟩ = some (.pointer qj) ∧ w'.cell? ⟨w.heap.size, 0, none⟩ = some (.int .i64 6)) (by kernel_rfl) ⟨by assumption, by assumption⟩ (fun hHeld => ?_)
    (refine take_in (i := 0) (v := ?_) rfl ?_ ?_; rotate_left; (intro w hSw; (try dsimp only at hSw); go_simp; try with_reducible rfl)); (try simp only [Act.put, List.setIfInBounds_toArray, List.set_cons_zero, List.set_cons_succ])
    (refine take_in (i := 1) (v := ?_) rfl ?_ ?_; rotate_left; (intro w hSw; (try dsimp only at hSw); go_simp; try with_reducible rfl)); (try simp only [Act.put, List.setIfInBounds_toArray, List.set_cons_zero, List.set_cons_succ])
    (refine take_in (i := 2) (v := ?_) rfl ?_ ?_; rotate_left; (intro w hSw; (try dsimp only at hSw); go_simp; try with_reducible rfl)); (try simp only [Act.put, List.setIfInBounds_toArray, List.set_cons_zero, List.set_cons_succ])
    (refine take_in (i := 3) (v := ?_) rfl ?_ ?_; rotate_left; (intro w hSw; (try dsimp only at hSw); go_simp; try with_reducible rfl)); (try simp only [Act.put, List.setIfInBounds_toArray, List.set_cons_zero, List.set_cons_succ])
    (refine take_in (i := 4) (v := ?_) rfl ?_ ?_; rotate_left; (intro w hSw; (try dsimp only at hSw); go_simp; try with_reducible rfl)); (try simp only [Act.put, List.setIfInBounds_toArray, List.set_cons_zero, List.set_cons_succ])
    (refine take_in (i := 5) (v := ?_) rfl ?_ ?_; rotate_left; (intro w hSw; (try dsimp only at hSw); go_simp; try with_reducible rfl)); (try simp only [Act.put, List.setIfInBounds_toArray, List.set_cons_zero, List.set_cons_succ])
    (refine take_in (i := 6) (v := ?_) rfl ?_ ?_; rotate_left; (intro w hSw; (try dsimp only at hSw); go_simp; try with_reducible rfl)); (try simp only [Act.put, List.setIfInBounds_toArray, List.set_cons_zero, List.set_cons_succ])
    (refine take_in (i := 7) (v := ?_) rfl ?_ ?_; rotate_left; (intro w hSw; (try dsimp only at hSw); go_simp; try with_reducible rfl)); (try simp only [Act.put, List.setIfInBounds_toArray, List.set_cons_zero, List.set_cons_succ])
    (refine take_in (i := 8) (v := ?_) rfl ?_ ?_; rotate_left; (intro w hSw; (try dsimp only at hSw); go_simp; try with_reducible rfl)); (try simp only [Act.put, List.setIfInBounds_toArray, List.set_cons_zero, List.set_cons_succ])
    (refine take_in (i := 9) (v := ?_) rfl ?_ ?_; rotate_left; (intro w hSw; (try dsimp only at hSw); go_simp; try with_reducible rfl)); (try simp only [Act.put, List.setIfInBounds_toArray, List.set_cons_zero, List.set_cons_succ])
    (refine take_in (i := 10) (v := ?_) rfl ?_ ?_; rotate_left; (intro w hSw; (try dsimp only at hSw); go_simp; try with_reducible rfl)); (try simp only [Act.put, List.setIfInBounds_toArray, List.set_cons_zero, List.set_cons_succ])
    (refine take_in (i := 11) (v := ?_) rfl ?_ ?_; rotate_left; (intro w hSw; (try dsimp only at hSw); go_simp; try with_reducible rfl)); (try simp only [Act.put, List.setIfInBounds_toArray, List.set_cons_zero, List.set_cons_succ])
    (refine take_call (i := 12) rfl (fun K hK => ?_); go_simp; ((refine (HMW.out _ ?_).mono ?_); exact HST.out.ext (Kp.refl W2).drew; rintro e W3 ⟨v3, rfl, hk3, r3, rfl, hnew3⟩; obtain rfl : r3 = .pointer none := (hnew3.elim (fun h => h.2) (fun h => absurd h.1 her)); have kx3 : Ext W2 W3 := (Kp.refl W2).drew.trans hk3; have d2 := kx3.cell d2 id; have c0 := kx3.cell c0 id; have HK3 := Lib.hid kx3; clear hk3 hnew3 kx3); go_wp2_with fail; refine hK.out _ _ ?_ (fun hHeld => ?_); (try dsimp only); (exact ⟨by assumption, by assumption⟩); clear hK K); (try simp only [Act.put, List.setIfInBounds_toArray, List.set_cons_zero, List.set_cons_succ])
    (refine take_in (i := 13) (v := ?_) rfl ?_ ?_; rotate_left; (intro w hSw; (try dsimp only at hSw); go_simp; try with_reducible rfl)); (try simp only [Act.put, List.setIfInBounds_toArray, List.set_cons_zero, List.set_cons_succ])
    (refine take_in (i := 14) (v := ?_) rfl ?_ ?_; rotate_left; (intro w hSw; (try dsimp only at hSw); go_simp; try with_reducible rfl)); (try simp only [Act.put, List.setIfInBounds_toArray, List.set_cons_zero, List.set_cons_succ])
    (refine take_in (i := 16) (v := ?_) rfl ?_ ?_; rotate_left; (intro w hSw; (try dsimp only at hSw); go_simp; try with_reducible rfl)); (try simp only [Act.put, List.setIfInBounds_toArray, List.set_cons_zero, List.set_cons_succ])
    (refine take_in (i := 15) (v := ?_) rfl ?_ ?_; rotate_left; (intro w hSw; (try dsimp only at hSw); go_simp; try with_reducible rfl)); (try simp only [Act.put, List.setIfInBounds_toArray, List.set_cons_zero, List.set_cons_succ])
    (refine take_in (i := 17) (v := ?_) rfl ?_ ?_; rotate_left; (intro w hSw; (try dsimp only at hSw); go_simp; try with_reducible rfl)); (try simp only [Act.put, List.setIfInBounds_toArray, List.set_cons_zero, List.set_cons_succ])
    refine wpAnyH_done (by kernel_rfl) ?_ _
    all_goals
      have HS3 := Lib.hid (HST.out.ext HK3.out)
      clear d1 d2
      go_wp2_with fail
      refine (HPW.out _ HS3.out).mono ?_
      rintro e W4 ⟨v4, rfl, hk4, hst4, r4, rfl, hnew4⟩
      obtain rfl : r4 = .pointer none := (hnew4.elim (fun h => h.2) (fun h => absurd h.1 her))
      have HST := Lib.hid hst4
      have c3 : W4.cell? ⟨w.heap.size, 3, none⟩ = some (.slice ao ss.length cap) := by rw [hst4.oB.cell']; rfl
      clear hk4 hst4 hnew4 c0
      go_wp2_with fail
      refine (num_any _ _).mono ?_
      rintro e w' ⟨rfl, rfl⟩
      go_wp2_with fail
      refine (kept_any ss gi capi ao cap rest _ HST.out.gB hcap2 (HROW.out _ HST.out.kp) hss HSZ.out).mono ?_
      rintro e wk ⟨vk, rfl, hkk, rfl⟩
      have hbk := HST.out.b.kp hkk (fun e => HST.out.gO.2.1 e.symm) (fun g e k hk => by subst e; exact HST.out.gO.2.2 k hk) (fun g e => by subst e; exact HST.out.gO.1)
      have hkw : Kp (fun g => lo ≤ g) w wk := HST.out.kp.trans (hkk.mono fun g _ e => by subst e; exact HST.out.gL)
      have HBK := Lib.hid (And.intro hbk hkw)
      have HLO := Lib.hid (show ∀ g, BenchF D g → lo ≤ g from fun g hg => by obtain ⟨k, hk, hf⟩ := hg; exact (HST.out.l.2 k hk).1 g (FP.own hf))
      clear hbk hkw hkk c3
      go_wp2_with fail
      refine (benchTold_any HBK.out.1 (k := 0) (by decide)).mono ?_
      rintro e wt ⟨vt, rfl, hkt, rfl, hbt⟩
      have HB0 := Lib.hid (And.intro hbt (HBK.out.2.trans (hkt.mono fun g _ hg => HLO.out g hg)))
      clear hbt hkt
      go_wp2_with fail
      refine (benchTold_any HB0.out.1 (k := 1) (by decide)).mono ?_
      rintro e wt1 ⟨vt, rfl, hkt, rfl, hbt⟩
      have HB1 := Lib.hid (And.intro hbt (HB0.out.2.trans (hkt.mono fun g _ hg => HLO.out g hg)))
      clear hbt hkt
      go_wp2_with fail
      refine (benchTold_any HB1.out.1 (k := 2) (by decide)).mono ?_
      rintro e wt2 ⟨vt, rfl, hkt, rfl, hbt⟩
      have HB2 := Lib.hid (And.intro hbt (HB1.out.2.trans (hkt.mono fun g _ hg => HLO.out g hg)))
      clear hbt hkt
      go_wp2
      go_ret
      exact RetF.mk HB2.out.2 ⟨rfl, S, D, HB2.out.1, HST.out.l⟩
end Go.Proofs.Ytfkhelihepbehaa

/- bench.step: Meet. -/
namespace Go.Proofs.Ytfkhelihepbehaa
open Go.RowKit Go.Shelf
set_option linter.unusedVariables false

set_option maxRecDepth 100000 in
set_option maxHeartbeats 8000000 in
theorem stepMeet_any {lo bd : Nat} {S : Nat → Prop} {D : Bench3} {ao : Option Addr} {cap : Nat} {ss : List ByteArray} {w : World} (h : StepIn lo bd S D ao ss w) (who N : Int) :
    Calls Try.prog 24 #[.pointer (some ⟨bd, 0, none⟩), .agg #[.int .i64 7, .int .i64 who, .int .i64 N, .slice ao ss.length cap]] w (RetF (fun g => lo ≤ g) w (StepPost lo bd)) := by
  obtain ⟨i, ei⟩ : ∃ i, placeN who 3 = i := ⟨_, rfl⟩
  have hi : i < 3 := by rw [← ei]; exact placeN_lt _ _ (by decide)
  have EI := Lib.hid (fun W => place_any who 3 (by decide) (by decide) W)
  rw [ei] at EI
  have hss := h.len
  have H := Lib.hid h
  have hb0 := Blk.new w [.int .i64 7, .int .i64 who, .int .i64 N, .slice ao ss.length cap] 73
  obtain ⟨W0, eW0⟩ : ∃ W0, w.alloc (.cells #[.int .i64 7, .int .i64 who, .int .i64 N, .slice ao ss.length cap] 73) = W0 := ⟨_, rfl⟩
  have x0 : Ext w W0 := by rw [← eW0]; exact (Kp.refl w).alloc _
  rw [show w.alloc (.cells [Value.int .i64 7, .int .i64 who, .int .i64 N, .slice ao ss.length cap].toArray 73) = W0 from eW0] at hb0
  have c1 : W0.cell? ⟨w.heap.size, 1, none⟩ = some (.int .i64 who) := by rw [hb0.cell']; rfl
  have c3 : W0.cell? ⟨w.heap.size, 3, none⟩ = some (.slice ao ss.length cap) := by rw [hb0.cell']; rfl
  have c0 : W0.cell? ⟨w.heap.size, 0, none⟩ = some (.int .i64 7) := by rw [hb0.cell']; rfl
  have c2 : W0.cell? ⟨w.heap.size, 2, none⟩ = some (.int .i64 N) := by rw [hb0.cell']; rfl
  have HX0 := Lib.hid (And.intro x0 hb0)
  obtain ⟨p, ep⟩ := (h.b.rows i hi).ptr
  obtain ⟨q, eq⟩ := (h.b.refs i hi).ptr
  have d1 := (h.b.ext x0).cr hi
  have d2 := (h.b.ext x0).cm hi
  rw [ep] at d1
  rw [eq] at d2
  have HEP := Lib.hid (And.intro ep eq)
  have i3 : (i : Int) < 3 := by omega
  clear h ei x0 hb0 ep eq
  go_enter Try.func24, Try.ntmps24
  go_wp2_with fail
  refine (EI.out _).mono ?_
  rintro e w' ⟨rfl, rfl⟩
  clear EI eW0
  go_wp2_with fail
  go_region_held3 (fun w' => w'.cell? ⟨bd, i, none⟩ = some (.pointer p) ∧ w'.cell? ⟨bd, 3 + i, none⟩ = some (.pointer q)) (first | exact ⟨by assumption, by assumption⟩ | go_keep) (fail)
  obtain ⟨W1, eW1⟩ : ∃ W1, W1 = W0.drew := ⟨_, rfl⟩
  rw [← eW1]
  have x1 : Ext W0 W1 := by rw [eW1]; exact (Kp.refl W0).drew
  have c0' := x1.cell c0 id
  have c2' := x1.cell c2 id
  have c3' := x1.cell c3 id
  have HX1 := Lib.hid (And.intro (HX0.out.1.trans x1) (HX0.out.2.ext x1))
  clear c0 c1 c2 c3 eW1 x1 HX0 d1 d2
  go_wp2_with fail
  refine (lent_any ss ao cap W1 (H.out.row.ext HX1.out.1) hss).mono ?_
  rintro e W2 ⟨vl, rfl, hkl, gi, capi, rest, rfl, hgi, hgB, hcapi, hcm⟩
  obtain ⟨S0, eS0⟩ : ∃ S0, S0 = S := ⟨_, rfl⟩
  have hst : StB lo w bd gi w.heap.size (strs (ss ++ [mark1, mark2]) ++ rest) [.int .i64 7, .int .i64 who, .int .i64 N, .slice ao ss.length cap] S D W2 := by
    have hx := HX1.out.1.trans hkl
    have hz := HX1.out.1.size
    have hg : ∀ g, w.heap.size ≤ g → OffB S D bd g := fun g hg => ⟨fun hs => by have := H.out.b.inS g hs; omega, fun e => by have := H.out.b.blk.lt; omega, fun k hk => ⟨fun ho => by have := (H.out.b.rows k hk).ownLt g ho; omega, fun ho => by have := (H.out.b.refs k hk).lt g ho; omega⟩⟩
    exact ⟨H.out.b.ext hx, H.out.l, Ext.kp hx, hgB, hg gi (by omega), by have := H.out.lw; omega, HX1.out.2.ext hkl, hg _ (Nat.le_refl _), H.out.lw⟩
  have HST := Lib.hid hst
  have c0 := hkl.cell c0' id
  have c2 := hkl.cell c2' id
  have c3 := hkl.cell c3' id
  have HROW := Lib.hid (show ∀ W, Kp (fun g => lo ≤ g) w W → CellsAt W ao (strs ss) from fun W hW => by
    rcases H.out.rlo with e0 | hr
    · rw [e0]; exact CellsAt.nil _ _
    · exact H.out.row.kp hW fun a e hf => by have := hr a e; omega)
  have hcap2 : ss.length + 2 ≤ capi := by omega
  have HSZ := Lib.hid H.out.size
  clear hst hkl hgB c0' c2' c3' HX1 hgi hcapi hcm
  obtain ⟨j, ej⟩ : ∃ j, j = (i + 1) % 3 := ⟨_, rfl⟩
  have hj : j < 3 := by omega
  have hij : i ≠ j := by omega
  have ew1 : wrap64 ((i : Int) + 1) = (i : Int) + 1 := by unfold wrap64; omega
  have ew3 : IntKind.i64.wrap ((i : Int) + 1) = (i : Int) + 1 := IntWalk.i64_in _ (by omega)
  have ew2 : ((i : Int) + 1).tmod 3 = (j : Int) := by
    have := Int.tmod_eq_emod_of_nonneg (a := (i : Int) + 1) (b := 3) (by omega)
    omega
  obtain ⟨pj, epj⟩ := (HST.out.b.rows j hj).ptr
  obtain ⟨qj, eqj⟩ := (HST.out.b.refs j hj).ptr
  have d1 := HST.out.b.cr hj
  have d2 := HST.out.b.cm hj
  rw [epj] at d1
  rw [eqj] at d2
  have HEJ := Lib.hid (And.intro epj eqj)
  have j3 : (j : Int) < 3 := by omega
  obtain ⟨L, eL⟩ : ∃ L, L = (D.LL i).filter fun x => isIn cmpRow (D.LL j) x := ⟨_, rfl⟩
  have gi' := HST.out.b.good i hi
  have gj' := HST.out.b.good j hj
  have eLm : ((D.LL i).filter fun y => isIn cmpRow (D.LL j) y == ((2 : Int) == 2)) = L := by rw [eL]; exact List.filter_congr fun y _ => by cases isIn cmpRow (D.LL j) y <;> rfl
  obtain ⟨er, eer⟩ : ∃ er, er = withE (D.rv i) (D.rv j) (D.ar i) (D.ar j) L := ⟨_, rfl⟩
  have eem : withE (D.mv i) (D.mv j) (D.ar i) (D.ar j) L = er := by rw [eer, withE_nil (HST.out.b.both i hi) (HST.out.b.both j hj)]
  have HMW := Lib.hid (show ∀ W, StB lo w bd gi w.heap.size (strs (ss ++ [mark1, mark2]) ++ rest) [.int .i64 7, .int .i64 who, .int .i64 N, .slice ao ss.length cap] S D W → Calls Try.prog 69 #[.pointer q, .pointer qj, .int .i64 2] W (RetN W fun w' v => ∃ r, v = .tuple #[r, .int .i64 (er : Nat)] ∧ NewM S W (D.ar i) L er w' r) from fun W h => by
    have := refP_with (x := 2) (L := L) (h.b.refs i hi) (h.b.refs j hj) gi'.1 gj'.1 gj'.2.1 gi'.2.2 (.inr ⟨.inr rfl, eLm.symm⟩)
    rwa [eem, HEP.out.2, HEJ.out.2] at this)
  have HPW := Lib.hid (show ∀ W, StB lo w bd gi w.heap.size (strs (ss ++ [mark1, mark2]) ++ rest) [.int .i64 7, .int .i64 who, .int .i64 N, .slice ao ss.length cap] S D W → Calls Try.prog 72 #[.pointer p, .pointer pj] W (RetF (fun k => FP (D.rv i) k ∨ FP (D.rv j) k) W fun w' v => StB lo w bd gi w.heap.size (strs (ss ++ [mark1, mark2]) ++ rest) [.int .i64 7, .int .i64 who, .int .i64 N, .slice ao ss.length cap] S D w' ∧ ∃ r, v = .tuple #[r, .int .i64 (er : Nat)] ∧ NewP S W (D.ar i) L er w' r) from fun W h => by
    have := rowsP_Meet (h.b.rows i hi) (h.b.rows j hj) (h.b.apart i j hi hj hij) (by omega)
    rw [← eL, ← eer] at this
    rw [show (#[D.rv i, D.rv j] : Array Value) = #[.pointer p, .pointer pj] from by rw [HEP.out.1, HEJ.out.1]] at this
    refine this.mono ?_
    rintro e w' ⟨v, rfl, hk, h1, h2, h3⟩
    exact RetF.mk hk ⟨h.call2 hi hj hk h1 h2, h3⟩)
  have HL := Lib.hid (And.intro gi' (And.intro gj' (And.intro eL (And.intro eer eLm))))
  clear gi' gj' eLm eem epj eqj ej hij eL eer
  by_cases her : er = 0
  · subst her
    go_wp2_with fail
    refine wp_region_held_drew (S := fun w' => w'.cell? ⟨bd, 3 + j, none⟩ = some (.pointer qj) ∧ w'.cell? ⟨w.heap.size, 0, none⟩ = some (.int .i64 7)) (by kernel_rfl) ⟨by assumption, by assumption⟩ (fun hHeld => ?_)
    (refine take_in (i := 0) (v := ?_) rfl ?_ ?_; rotate_left; (intro w hSw; (try dsimp only at hSw); go_simp; try with_reducible rfl)); (try simp only [Act.put, List.setIfInBounds_toArray, List.set_cons_zero, List.set_cons_succ])
    (refine take_in (i := 1) (v := ?_) rfl ?_ ?_; rotate_left; (intro w hSw; (try dsimp only at hSw); go_simp; try with_reducible rfl)); (try simp only [Act.put, List.setIfInBounds_toArray, List.set_cons_zero, List.set_cons_succ])
    (refine take_in (i := 2) (v := ?_) rfl ?_ ?_; rotate_left; (intro w hSw; (try dsimp only at hSw); go_simp; try with_reducible rfl)); (try simp only [Act.put, List.setIfInBounds_toArray, List.set_cons_zero, List.set_cons_succ])
    (refine take_in (i := 3) (v := ?_) rfl ?_ ?_; rotate_left; (intro w hSw; (try dsimp only at hSw); go_simp; try with_reducible rfl)); (try simp only [Act.put, List.setIfInBounds_toArray, List.set_cons_zero, List.set_cons_succ])
    (refine take_in (i := 4) (v := ?_) rfl ?_ ?_; rotate_left; (intro w hSw; (try dsimp only at hSw); go_simp; try with_reducible rfl)); (try simp only [Act.put, List.setIfInBounds_toArray, List.set_cons_zero, List.set_cons_succ])
    (refine take_in (i := 5) (v := ?_) rfl ?_ ?_; rotate_left; (intro w hSw; (try dsimp only at hSw); go_simp; try with_reducible rfl)); (try simp only [Act.put, List.setIfInBounds_toArray, List.set_cons_zero, List.set_cons_succ])
    (refine take_in (i := 6) (v := ?_) rfl ?_ ?_; rotate_left; (intro w hSw; (try dsimp only at hSw); go_simp; try with_reducible rfl)); (try simp only [Act.put, List.setIfInBounds_toArray, List.set_cons_zero, List.set_cons_succ])
    (refine take_in (i := 7) (v := ?_) rfl ?_ ?_; rotate_left; (intro w hSw; (try dsimp only at hSw); go_simp; try with_reducible rfl)); (try simp only [Act.put, List.setIfInBounds_toArray, List.set_cons_zero, List.set_cons_succ])
    (refine take_in (i := 8) (v := ?_) rfl ?_ ?_; rotate_left; (intro w hSw; (try dsimp only at hSw); go_simp; try with_reducible rfl)); (try simp only [Act.put, List.setIfInBounds_toArray, List.set_cons_zero, List.set_cons_succ])
    (refine take_in (i := 9) (v := ?_) rfl ?_ ?_; rotate_left; (intro w hSw; (try dsimp only at hSw); go_simp; try with_reducible rfl)); (try simp only [Act.put, List.setIfInBounds_toArray, List.set_cons_zero, List.set_cons_succ])
    (refine take_in (i := 10) (v := ?_) rfl ?_ ?_; rotate_left; (intro w hSw; (try dsimp only at hSw); go_simp; try with_reducible rfl)); (try simp only [Act.put, List.setIfInBounds_toArray, List.set_cons_zero, List.set_cons_succ])
    (refine take_in (i := 11) (v := ?_) rfl ?_ ?_; rotate_left; (intro w hSw; (try dsimp only at hSw); go_simp; try with_reducible rfl)); (try simp only [Act.put, List.setIfInBounds_toArray, List.set_cons_zero, List.set_cons_succ])
    (refine take_call (i := 12) rfl (fun K hK => ?_); go_simp; ((refine (HMW.out _ ?_).mono ?_); exact HST.out.ext (Kp.refl W2).drew; rintro e W3 ⟨v3, rfl, hk3, r3, rfl, hnew3⟩; obtain ⟨c, S3, rfl, hc3, hg3, hm3⟩ := hnew3.get; have kx3 : Ext W2 W3 := (Kp.refl W2).drew.trans hk3; have d2 := kx3.cell d2 id; have c0 := kx3.cell c0 id; have HK3 := Lib.hid (And.intro kx3 (And.intro (show W2.heap.size ≤ c from hc3) (And.intro (show Grows W2 S S3 from hg3) hm3))); clear hk3 hnew3 hc3 hg3 hm3 kx3); go_wp2_with fail; refine hK.out _ _ ?_ (fun hHeld => ?_); (try dsimp only); (exact ⟨by assumption, by assumption⟩); clear hK K); (try simp only [Act.put, List.setIfInBounds_toArray, List.set_cons_zero, List.set_cons_succ])
    (refine take_in (i := 13) (v := ?_) rfl ?_ ?_; rotate_left; (intro w hSw; (try dsimp only at hSw); go_simp; try with_reducible rfl)); (try simp only [Act.put, List.setIfInBounds_toArray, List.set_cons_zero, List.set_cons_succ])
    (refine take_in (i := 14) (v := ?_) rfl ?_ ?_; rotate_left; (intro w hSw; (try dsimp only at hSw); go_simp; try with_reducible rfl)); (try simp only [Act.put, List.setIfInBounds_toArray, List.set_cons_zero, List.set_cons_succ])
    (refine take_in (i := 16) (v := ?_) rfl ?_ ?_; rotate_left; (intro w hSw; (try dsimp only at hSw); go_simp; try with_reducible rfl)); (try simp only [Act.put, List.setIfInBounds_toArray, List.set_cons_zero, List.set_cons_succ])
    (refine take_in (i := 15) (v := ?_) rfl ?_ ?_; rotate_left; (intro w hSw; (try dsimp only at hSw); go_simp; try with_reducible rfl)); (try simp only [Act.put, List.setIfInBounds_toArray, List.set_cons_zero, List.set_cons_succ])
    (refine take_in (i := 17) (v := ?_) rfl ?_ ?_; rotate_left; (intro w hSw; (try dsimp only at hSw); go_simp; try with_reducible rfl)); (try simp only [Act.put, List.setIfInBounds_toArray, List.set_cons_zero, List.set_cons_succ])
    refine wpAnyH_done (by kernel_rfl) ?_ _
    all_goals
      have hst3 := HST.out.ext HK3.out.1
      have hz23 := HK3.out.1.size
      have hnm : ∀ w : World, (binOp .eql 54 (.pointer (some ⟨c, 0, none⟩)) (.pointer none)).run Try.prog w = .ok (.bool false) w := fun _ => by kernel_rfl
      have HS3 := Lib.hid hst3
      clear hst3 d1 d2
      go_wp2_with fail
      refine (HPW.out _ HS3.out).mono ?_
      rintro e W4 ⟨v4, rfl, hk4, hst4, r4, rfl, hnew4⟩
      obtain ⟨b4, iv4, rfl, hbn4, hrn4⟩ := hnew4.get
      have hnp : ∀ w : World, (binOp .eql 52 (.pointer (some ⟨b4, 0, none⟩)) (.pointer none)).run Try.prog w = .ok (.bool false) w := fun _ => by kernel_rfl
      have HK4 := Lib.hid (And.intro hk4 (And.intro hst4 (And.intro hbn4 hrn4)))
      have hz34 := hk4.size
      have s1 := hst4.b.cr (k := 0) (by decide)
      have s4 := hst4.b.cm (k := 0) (by decide)
      have z1 := hst4.b.blk.free 0
      have z4 := hst4.b.blk.free 3
      clear hk4 hst4 hbn4 hrn4 hnew4 c3 c0
      go_wp2_with fail
      refine (num_any _ _).mono ?_
      rintro e w' ⟨rfl, rfl⟩
      go_wp2_with fail
      go_region
      all_goals
        generalize hW6 : World.setCell (World.setCell W4 _ _) _ _ = W6
        obtain ⟨S', D', hst'⟩ : ∃ S' D', StB lo w bd gi w.heap.size (strs (ss ++ [mark1, mark2]) ++ rest) [.int .i64 7, .int .i64 who, .int .i64 N, .slice ao ss.length cap] S' D' W6 := by
          obtain ⟨hk4, hst4, hbn4, hrn4⟩ := HK4.out
          obtain ⟨hk3, hc3, hg3, hm3⟩ := HK3.out
          obtain ⟨gi', gj', eL, eer, eLm⟩ := HL.out
          have hz0 := withE_zero eer.symm
          have hm3' := hm3.trim
          have hcw : c < W3.heap.size := hm3.lt c rfl
          have bw := HST.out.b.blk.lt
          obtain ⟨hk6, hb6⟩ := StB.stored (i := 0) (rv := .pointer (some ⟨b4, 0, none⟩)) (mv := .pointer (some ⟨c, 0, none⟩)) (iv := iv4) (ar := D.ar i) (LL := L) hst4 (by decide) (W3 := W6) (by first | exact .inl hW6.symm | exact .inr hW6.symm)
          have nS : ∀ g, g < W2.heap.size → S3 g → S g := fun g hg hs => (hg3.2 g hs).elim id fun h => by omega
          have hm4 := hm3'.kp hk4 (fun g hg hm => by
              cases hm
              rcases hg with hg | hg
              · have := (HST.out.below i hi).1 _ (FP.own hg); omega
              · have := (HST.out.below j hj).1 _ (FP.own hg); omega) (fun g hg hs => by
              rcases hg with hg | hg
              · exact (HST.out.b.rows i hi).notS g (FP.own hg) (nS g ((HST.out.below i hi).1 _ (FP.own hg)) hs.1)
              · exact (HST.out.b.rows j hj).notS g (FP.own hg) (nS g ((HST.out.below j hj).1 _ (FP.own hg)) hs.1))
          have hm6 := hm4.kp hk6 (fun g e hm => by cases hm; omega) (fun g e hs => HST.out.b.offS (by subst e; exact nS _ bw hs.1))
          refine StB.put' HST.out hst4 (by decide) (by omega) hk6 hb6 (S' := fun k => S3 k ∧ k < W3.heap.size) ⟨fun k hk => ⟨hg3.1 k hk, by have := HST.out.b.inS k hk; omega⟩, fun k hk => hg3.2 k hk.1⟩ hrn4 hm6 (fun g hg => by have := hbn4 g hg; omega) (fun g hg => by cases hg; omega) (fun g ho hs => by have := hbn4 g ho; omega) (fun g hg ho => by cases hg; have := hbn4 _ ho; omega) rfl ?_
          rw [eL]; exact good_sub gi' List.filter_sublist
        have HST := Lib.hid (hst'.ext (Kp.refl W6).drew)
        have c3 : W6.cell? ⟨w.heap.size, 3, none⟩ = some (.slice ao ss.length cap) := by rw [hst'.oB.cell']; rfl
        clear hst' hW6
        go_wp2_with fail
        refine (kept_any ss gi capi ao cap rest _ HST.out.gB hcap2 (HROW.out _ HST.out.kp) hss HSZ.out).mono ?_
        rintro e wk ⟨vk, rfl, hkk, rfl⟩
        have hbk := HST.out.b.kp hkk (fun e => HST.out.gO.2.1 e.symm) (fun g e k hk => by subst e; exact HST.out.gO.2.2 k hk) (fun g e => by subst e; exact HST.out.gO.1)
        have hkw : Kp (fun g => lo ≤ g) w wk := HST.out.kp.trans (hkk.mono fun g _ e => by subst e; exact HST.out.gL)
        have HBK := Lib.hid (And.intro hbk hkw)
        have HLO := Lib.hid (show ∀ g, BenchF D' g → lo ≤ g from fun g hg => by obtain ⟨k, hk, hf⟩ := hg; exact (HST.out.l.2 k hk).1 g (FP.own hf))
        clear hbk hkw hkk c3
        go_wp2_with fail
        refine (benchTold_any HBK.out.1 (k := 0) (by decide)).mono ?_
        rintro e wt ⟨vt, rfl, hkt, rfl, hbt⟩
        have HB0 := Lib.hid (And.intro hbt (HBK.out.2.trans (hkt.mono fun g _ hg => HLO.out g hg)))
        clear hbt hkt
        go_wp2_with fail
        refine (benchTold_any HB0.out.1 (k := 1) (by decide)).mono ?_
        rintro e wt1 ⟨vt, rfl, hkt, rfl, hbt⟩
        have HB1 := Lib.hid (And.intro hbt (HB0.out.2.trans (hkt.mono fun g _ hg => HLO.out g hg)))
        clear hbt hkt
        go_wp2_with fail
        refine (benchTold_any HB1.out.1 (k := 2) (by decide)).mono ?_
        rintro e wt2 ⟨vt, rfl, hkt, rfl, hbt⟩
        have HB2 := Lib.hid (And.intro hbt (HB1.out.2.trans (hkt.mono fun g _ hg => HLO.out g hg)))
        clear hbt hkt
        go_wp2
        go_ret
        exact RetF.mk HB2.out.2 ⟨rfl, S', D', HB2.out.1, HST.out.l⟩
  · go_wp2_with fail
    refine wp_region_held_drew (S := fun w' => w'.cell? ⟨bd, 3 + j, none⟩ = some (.pointer qj) ∧ w'.cell? ⟨w.heap.size, 0, none⟩ = some (.int .i64 7)) (by kernel_rfl) ⟨by assumption, by assumption⟩ (fun hHeld => ?_)
    (refine take_in (i := 0) (v := ?_) rfl ?_ ?_; rotate_left; (intro w hSw; (try dsimp only at hSw); go_simp; try with_reducible rfl)); (try simp only [Act.put, List.setIfInBounds_toArray, List.set_cons_zero, List.set_cons_succ])
    (refine take_in (i := 1) (v := ?_) rfl ?_ ?_; rotate_left; (intro w hSw; (try dsimp only at hSw); go_simp; try with_reducible rfl)); (try simp only [Act.put, List.setIfInBounds_toArray, List.set_cons_zero, List.set_cons_succ])
    (refine take_in (i := 2) (v := ?_) rfl ?_ ?_; rotate_left; (intro w hSw; (try dsimp only at hSw); go_simp; try with_reducible rfl)); (try simp only [Act.put, List.setIfInBounds_toArray, List.set_cons_zero, List.set_cons_succ])
    (refine take_in (i := 3) (v := ?_) rfl ?_ ?_; rotate_left; (intro w hSw; (try dsimp only at hSw); go_simp; try with_reducible rfl)); (try simp only [Act.put, List.setIfInBounds_toArray, List.set_cons_zero, List.set_cons_succ])
    (refine take_in (i := 4) (v := ?_) rfl ?_ ?_; rotate_left; (intro w hSw; (try dsimp only at hSw); go_simp; try with_reducible rfl)); (try simp only [Act.put, List.setIfInBounds_toArray, List.set_cons_zero, List.set_cons_succ])
    (refine take_in (i := 5) (v := ?_) rfl ?_ ?_; rotate_left; (intro w hSw; (try dsimp only at hSw); go_simp; try with_reducible rfl)); (try simp only [Act.put, List.setIfInBounds_toArray, List.set_cons_zero, List.set_cons_succ])
    (refine take_in (i := 6) (v := ?_) rfl ?_ ?_; rotate_left; (intro w hSw; (try dsimp only at hSw); go_simp; try with_reducible rfl)); (try simp only [Act.put, List.setIfInBounds_toArray, List.set_cons_zero, List.set_cons_succ])
    (refine take_in (i := 7) (v := ?_) rfl ?_ ?_; rotate_left; (intro w hSw; (try dsimp only at hSw); go_simp; try with_reducible rfl)); (try simp only [Act.put, List.setIfInBounds_toArray, List.set_cons_zero, List.set_cons_succ])
    (refine take_in (i := 8) (v := ?_) rfl ?_ ?_; rotate_left; (intro w hSw; (try dsimp only at hSw); go_simp; try with_reducible rfl)); (try simp only [Act.put, List.setIfInBounds_toArray, List.set_cons_zero, List.set_cons_succ])
    (refine take_in (i := 9) (v := ?_) rfl ?_ ?_; rotate_left; (intro w hSw; (try dsimp only at hSw); go_simp; try with_reducible rfl)); (try simp only [Act.put, List.setIfInBounds_toArray, List.set_cons_zero, List.set_cons_succ])
    (refine take_in (i := 10) (v := ?_) rfl ?_ ?_; rotate_left; (intro w hSw; (try dsimp only at hSw); go_simp; try with_reducible rfl)); (try simp only [Act.put, List.setIfInBounds_toArray, List.set_cons_zero, List.set_cons_succ])
    (refine take_in (i := 11) (v := ?_) rfl ?_ ?_; rotate_left; (intro w hSw; (try dsimp only at hSw); go_simp; try with_reducible rfl)); (try simp only [Act.put, List.setIfInBounds_toArray, List.set_cons_zero, List.set_cons_succ])
    (refine take_call (i := 12) rfl (fun K hK => ?_); go_simp; ((refine (HMW.out _ ?_).mono ?_); exact HST.out.ext (Kp.refl W2).drew; rintro e W3 ⟨v3, rfl, hk3, r3, rfl, hnew3⟩; obtain rfl : r3 = .pointer none := (hnew3.elim (fun h => h.2) (fun h => absurd h.1 her)); have kx3 : Ext W2 W3 := (Kp.refl W2).drew.trans hk3; have d2 := kx3.cell d2 id; have c0 := kx3.cell c0 id; have HK3 := Lib.hid kx3; clear hk3 hnew3 kx3); go_wp2_with fail; refine hK.out _ _ ?_ (fun hHeld => ?_); (try dsimp only); (exact ⟨by assumption, by assumption⟩); clear hK K); (try simp only [Act.put, List.setIfInBounds_toArray, List.set_cons_zero, List.set_cons_succ])
    (refine take_in (i := 13) (v := ?_) rfl ?_ ?_; rotate_left; (intro w hSw; (try dsimp only at hSw); go_simp; try with_reducible rfl)); (try simp only [Act.put, List.setIfInBounds_toArray, List.set_cons_zero, List.set_cons_succ])
    (refine take_in (i := 14) (v := ?_) rfl ?_ ?_; rotate_left; (intro w hSw; (try dsimp only at hSw); go_simp; try with_reducible rfl)); (try simp only [Act.put, List.setIfInBounds_toArray, List.set_cons_zero, List.set_cons_succ])
    (refine take_in (i := 16) (v := ?_) rfl ?_ ?_; rotate_left; (intro w hSw; (try dsimp only at hSw); go_simp; try with_reducible rfl)); (try simp only [Act.put, List.setIfInBounds_toArray, List.set_cons_zero, List.set_cons_succ])
    (refine take_in (i := 15) (v := ?_) rfl ?_ ?_; rotate_left; (intro w hSw; (try dsimp only at hSw); go_simp; try with_reducible rfl)); (try simp only [Act.put, List.setIfInBounds_toArray, List.set_cons_zero, List.set_cons_succ])
    (refine take_in (i := 17) (v := ?_) rfl ?_ ?_; rotate_left; (intro w hSw; (try dsimp only at hSw); go_simp; try with_reducible rfl)); (try simp only [Act.put, List.setIfInBounds_toArray, List.set_cons_zero, List.set_cons_succ])
    refine wpAnyH_done (by kernel_rfl) ?_ _
    all_goals
      have HS3 := Lib.hid (HST.out.ext HK3.out)
      clear d1 d2
      go_wp2_with fail
      refine (HPW.out _ HS3.out).mono ?_
      rintro e W4 ⟨v4, rfl, hk4, hst4, r4, rfl, hnew4⟩
      obtain rfl : r4 = .pointer none := (hnew4.elim (fun h => h.2) (fun h => absurd h.1 her))
      have HST := Lib.hid hst4
      have c3 : W4.cell? ⟨w.heap.size, 3, none⟩ = some (.slice ao ss.length cap) := by rw [hst4.oB.cell']; rfl
      clear hk4 hst4 hnew4 c0
      go_wp2_with fail
      refine (num_any _ _).mono ?_
      rintro e w' ⟨rfl, rfl⟩
      go_wp2_with fail
      refine (kept_any ss gi capi ao cap rest _ HST.out.gB hcap2 (HROW.out _ HST.out.kp) hss HSZ.out).mono ?_
      rintro e wk ⟨vk, rfl, hkk, rfl⟩
      have hbk := HST.out.b.kp hkk (fun e => HST.out.gO.2.1 e.symm) (fun g e k hk => by subst e; exact HST.out.gO.2.2 k hk) (fun g e => by subst e; exact HST.out.gO.1)
      have hkw : Kp (fun g => lo ≤ g) w wk := HST.out.kp.trans (hkk.mono fun g _ e => by subst e; exact HST.out.gL)
      have HBK := Lib.hid (And.intro hbk hkw)
      have HLO := Lib.hid (show ∀ g, BenchF D g → lo ≤ g from fun g hg => by obtain ⟨k, hk, hf⟩ := hg; exact (HST.out.l.2 k hk).1 g (FP.own hf))
      clear hbk hkw hkk c3
      go_wp2_with fail
      refine (benchTold_any HBK.out.1 (k := 0) (by decide)).mono ?_
      rintro e wt ⟨vt, rfl, hkt, rfl, hbt⟩
      have HB0 := Lib.hid (And.intro hbt (HBK.out.2.trans (hkt.mono fun g _ hg => HLO.out g hg)))
      clear hbt hkt
      go_wp2_with fail
      refine (benchTold_any HB0.out.1 (k := 1) (by decide)).mono ?_
      rintro e wt1 ⟨vt, rfl, hkt, rfl, hbt⟩
      have HB1 := Lib.hid (And.intro hbt (HB0.out.2.trans (hkt.mono fun g _ hg => HLO.out g hg)))
      clear hbt hkt
      go_wp2_with fail
      refine (benchTold_any HB1.out.1 (k := 2) (by decide)).mono ?_
      rintro e wt2 ⟨vt, rfl, hkt, rfl, hbt⟩
      have HB2 := Lib.hid (And.intro hbt (HB1.out.2.trans (hkt.mono fun g _ hg => HLO.out g hg)))
      clear hbt hkt
      go_wp2
      go_ret
      exact RetF.mk HB2.out.2 ⟨rfl, S, D, HB2.out.1, HST.out.l⟩
end Go.Proofs.Ytfkhelihepbehaa

/- bench.step: Copy. -/
namespace Go.Proofs.Ytfkhelihepbehaa
open Go.RowKit Go.Shelf
set_option linter.unusedVariables false

set_option maxRecDepth 100000 in
set_option maxHeartbeats 8000000 in
theorem stepCopy_any {lo bd : Nat} {S : Nat → Prop} {D : Bench3} {ao : Option Addr} {cap : Nat} {ss : List ByteArray} {w : World} (h : StepIn lo bd S D ao ss w) (who N : Int) :
    Calls Try.prog 24 #[.pointer (some ⟨bd, 0, none⟩), .agg #[.int .i64 8, .int .i64 who, .int .i64 N, .slice ao ss.length cap]] w (RetF (fun g => lo ≤ g) w (StepPost lo bd)) := by
  obtain ⟨i, ei⟩ : ∃ i, placeN who 3 = i := ⟨_, rfl⟩
  have hi : i < 3 := by rw [← ei]; exact placeN_lt _ _ (by decide)
  have EI := Lib.hid (fun W => place_any who 3 (by decide) (by decide) W)
  rw [ei] at EI
  have hss := h.len
  have H := Lib.hid h
  have hb0 := Blk.new w [.int .i64 8, .int .i64 who, .int .i64 N, .slice ao ss.length cap] 73
  obtain ⟨W0, eW0⟩ : ∃ W0, w.alloc (.cells #[.int .i64 8, .int .i64 who, .int .i64 N, .slice ao ss.length cap] 73) = W0 := ⟨_, rfl⟩
  have x0 : Ext w W0 := by rw [← eW0]; exact (Kp.refl w).alloc _
  rw [show w.alloc (.cells [Value.int .i64 8, .int .i64 who, .int .i64 N, .slice ao ss.length cap].toArray 73) = W0 from eW0] at hb0
  have c1 : W0.cell? ⟨w.heap.size, 1, none⟩ = some (.int .i64 who) := by rw [hb0.cell']; rfl
  have c3 : W0.cell? ⟨w.heap.size, 3, none⟩ = some (.slice ao ss.length cap) := by rw [hb0.cell']; rfl
  have c0 : W0.cell? ⟨w.heap.size, 0, none⟩ = some (.int .i64 8) := by rw [hb0.cell']; rfl
  have c2 : W0.cell? ⟨w.heap.size, 2, none⟩ = some (.int .i64 N) := by rw [hb0.cell']; rfl
  have HX0 := Lib.hid (And.intro x0 hb0)
  obtain ⟨p, ep⟩ := (h.b.rows i hi).ptr
  obtain ⟨q, eq⟩ := (h.b.refs i hi).ptr
  have d1 := (h.b.ext x0).cr hi
  have d2 := (h.b.ext x0).cm hi
  rw [ep] at d1
  rw [eq] at d2
  have HEP := Lib.hid (And.intro ep eq)
  have i3 : (i : Int) < 3 := by omega
  clear h ei x0 hb0 ep eq
  go_enter Try.func24, Try.ntmps24
  go_wp2_with fail
  refine (EI.out _).mono ?_
  rintro e w' ⟨rfl, rfl⟩
  clear EI eW0
  go_wp2_with fail
  go_region_held3 (fun w' => w'.cell? ⟨bd, i, none⟩ = some (.pointer p) ∧ w'.cell? ⟨bd, 3 + i, none⟩ = some (.pointer q)) (first | exact ⟨by assumption, by assumption⟩ | go_keep) (fail)
  obtain ⟨W1, eW1⟩ : ∃ W1, W1 = W0.drew := ⟨_, rfl⟩
  rw [← eW1]
  have x1 : Ext W0 W1 := by rw [eW1]; exact (Kp.refl W0).drew
  have c0' := x1.cell c0 id
  have c2' := x1.cell c2 id
  have c3' := x1.cell c3 id
  have HX1 := Lib.hid (And.intro (HX0.out.1.trans x1) (HX0.out.2.ext x1))
  clear c0 c1 c2 c3 eW1 x1 HX0 d1 d2
  go_wp2_with fail
  refine (lent_any ss ao cap W1 (H.out.row.ext HX1.out.1) hss).mono ?_
  rintro e W2 ⟨vl, rfl, hkl, gi, capi, rest, rfl, hgi, hgB, hcapi, hcm⟩
  obtain ⟨S0, eS0⟩ : ∃ S0, S0 = S := ⟨_, rfl⟩
  have hst : StB lo w bd gi w.heap.size (strs (ss ++ [mark1, mark2]) ++ rest) [.int .i64 8, .int .i64 who, .int .i64 N, .slice ao ss.length cap] S D W2 := by
    have hx := HX1.out.1.trans hkl
    have hz := HX1.out.1.size
    have hg : ∀ g, w.heap.size ≤ g → OffB S D bd g := fun g hg => ⟨fun hs => by have := H.out.b.inS g hs; omega, fun e => by have := H.out.b.blk.lt; omega, fun k hk => ⟨fun ho => by have := (H.out.b.rows k hk).ownLt g ho; omega, fun ho => by have := (H.out.b.refs k hk).lt g ho; omega⟩⟩
    exact ⟨H.out.b.ext hx, H.out.l, Ext.kp hx, hgB, hg gi (by omega), by have := H.out.lw; omega, HX1.out.2.ext hkl, hg _ (Nat.le_refl _), H.out.lw⟩
  have HST := Lib.hid hst
  have c0 := hkl.cell c0' id
  have c2 := hkl.cell c2' id
  have c3 := hkl.cell c3' id
  have HROW := Lib.hid (show ∀ W, Kp (fun g => lo ≤ g) w W → CellsAt W ao (strs ss) from fun W hW => by
    rcases H.out.rlo with e0 | hr
    · rw [e0]; exact CellsAt.nil _ _
    · exact H.out.row.kp hW fun a e hf => by have := hr a e; omega)
  have hcap2 : ss.length + 2 ≤ capi := by omega
  have HSZ := Lib.hid H.out.size
  clear hst hkl hgB c0' c2' c3' HX1 hgi hcapi hcm
  have hbn := HST.out.b.both i hi
  rw [HEP.out.1, HEP.out.2] at hbn
  have HCP := Lib.hid (rowsP_copy (HST.out.b.rows i hi))
  rw [show (#[D.rv i] : Array Value) = #[.pointer p] from by rw [HEP.out.1]] at HCP
  obtain ⟨rfl, rfl⟩ | ⟨pa, qa, rfl, rfl⟩ := isNil_cases hbn
  · go_wp2_with fail
    refine HCP.out.mono ?_
    rintro e W3 ⟨v3, rfl, hk3, hr3, hnew⟩
    obtain rfl : v3 = .pointer none := by
      rcases hnew with ⟨_, h⟩ | ⟨h0, _⟩
      · exact h
      · rw [HEP.out.1] at h0; simp [isNil] at h0
    have hst3 := HST.out.call hi hk3 hr3
    have HST := Lib.hid hst3
    have c3 : W3.cell? ⟨w.heap.size, 3, none⟩ = some (.slice ao ss.length cap) := by rw [hst3.oB.cell']; rfl
    clear hst3 hk3 hr3 hnew hbn HCP
    go_wp2_with fail
    refine (kept_any ss gi capi ao cap rest _ HST.out.gB hcap2 (HROW.out _ HST.out.kp) hss HSZ.out).mono ?_
    rintro e wk ⟨vk, rfl, hkk, rfl⟩
    have hbk := HST.out.b.kp hkk (fun e => HST.out.gO.2.1 e.symm) (fun g e k hk => by subst e; exact HST.out.gO.2.2 k hk) (fun g e => by subst e; exact HST.out.gO.1)
    have hkw : Kp (fun g => lo ≤ g) w wk := HST.out.kp.trans (hkk.mono fun g _ e => by subst e; exact HST.out.gL)
    have HBK := Lib.hid (And.intro hbk hkw)
    have HLO := Lib.hid (show ∀ g, BenchF D g → lo ≤ g from fun g hg => by obtain ⟨k, hk, hf⟩ := hg; exact (HST.out.l.2 k hk).1 g (FP.own hf))
    clear hbk hkw hkk c3
    go_wp2_with fail
    refine (benchTold_any HBK.out.1 (k := 0) (by decide)).mono ?_
    rintro e wt ⟨vt, rfl, hkt, rfl, hbt⟩
    have HB0 := Lib.hid (And.intro hbt (HBK.out.2.trans (hkt.mono fun g _ hg => HLO.out g hg)))
    clear hbt hkt
    go_wp2_with fail
    refine (benchTold_any HB0.out.1 (k := 1) (by decide)).mono ?_
    rintro e wt1 ⟨vt, rfl, hkt, rfl, hbt⟩
    have HB1 := Lib.hid (And.intro hbt (HB0.out.2.trans (hkt.mono fun g _ hg => HLO.out g hg)))
    clear hbt hkt
    go_wp2_with fail
    refine (benchTold_any HB1.out.1 (k := 2) (by decide)).mono ?_
    rintro e wt2 ⟨vt, rfl, hkt, rfl, hbt⟩
    have HB2 := Lib.hid (And.intro hbt (HB1.out.2.trans (hkt.mono fun g _ hg => HLO.out g hg)))
    clear hbt hkt
    go_wp2
    go_ret
    exact RetF.mk HB2.out.2 ⟨rfl, S, D, HB2.out.1, HST.out.l⟩
  · have e0 : (if isNil (D.rv i) = true then 1 else 0) = 0 := by rw [HEP.out.1]; simp [isNil]
    have e0m : (if isNil (D.mv i) = true then 1 else 0) = 0 := by rw [HEP.out.2]; simp [isNil]
    rw [e0] at HCP
    have hnq : ∀ w : World, (binOp .eql 54 (.pointer (some qa)) (.pointer none)).run Try.prog w = .ok (.bool false) w := fun _ => by kernel_rfl
    go_wp2_with fail
    refine HCP.out.mono ?_
    rintro e W3 ⟨v3, rfl, hk3, hr3, hnew⟩
    obtain ⟨b3, iv3, rfl, hbn3, hrn3⟩ := hnew.get
    have hst3 := HST.out.call hi hk3 hr3
    have hz23 := hk3.size
    have HMC := Lib.hid (show ∀ W, Kp (fun g => g = bd) W3 W → Calls Try.prog 74 #[.pointer (some qa)] W (RetN W fun w' v => NewM S W (D.ar i) (D.LL i) 0 w' v) from fun W hW => by
      have := refP_copy ((hst3.b.refs i hi).kp hW (fun g e hm => (hst3.b.off i hi).2 (by subst e; exact hm)) (fun g e hs => hst3.b.offS (by subst e; exact hs)))
      rwa [e0m, HEP.out.2] at this)
    have HK3 := Lib.hid (And.intro hst3 (And.intro hbn3 hrn3))
    have s1 := hst3.b.cr (k := 1) (by decide)
    have s4 := hst3.b.cm (k := 1) (by decide)
    have z1 := hst3.b.blk.free 1
    have z4 := hst3.b.blk.free 4
    clear hst3 hbn3 hrn3 hk3 hr3 hnew e0 e0m HCP hbn c3
    have hnp : ∀ w : World, (binOp .eql 52 (.pointer (some ⟨b3, 0, none⟩)) (.pointer none)).run Try.prog w = .ok (.bool false) w := fun _ => by kernel_rfl
    go_wp2_with fail
    go_region_with
      (first
        | (go_at_call 74; (with_reducible refine (HMC.out W3.drew ?_).mono ?_); exact (Kp.refl W3).drew; rintro e W4 ⟨v4, rfl, hk4, hnew4⟩; obtain ⟨c, S4, rfl, hc4, hg4, hm4⟩ := hnew4.get; have hb4 := HK3.out.1.b.blk.drew.ext hk4; have y1 : W4.cell? ⟨bd, 1, none⟩ = some (D.rv 1) := (by rw [hb4.cell']; rfl); have y4 : W4.cell? ⟨bd, 4, none⟩ = some (D.mv 1) := (by rw [hb4.cell']; rfl); have x1 := hb4.free 1; have x4 := hb4.free 4; have HA4 := Lib.hid (And.intro ((show Ext W3 W3.drew from (Kp.refl W3).drew).trans hk4) (And.intro (show W3.heap.size ≤ c from hc4) (And.intro (show Grows W3 S S4 from hg4) hm4))); clear hk4 hc4 hg4 hm4 hb4 hnew4)
        | (go_at_call 74; (with_reducible refine (HMC.out (W3.setCell ⟨bd, 1, none⟩ (.pointer (some ⟨b3, 0, none⟩))).drew ?_).mono ?_); exact (Kp.setCell (F := fun g => g = bd) (Kp.refl W3) (fun _ => rfl) _).drew; rintro e W4 ⟨v4, rfl, hk4, hnew4⟩; obtain ⟨c, S4, rfl, hc4, hg4, hm4⟩ := hnew4.get; have hb5 := (HK3.out.1.b.blk.set 1 (.pointer (some ⟨b3, 0, none⟩))).drew.ext hk4; have y4 : W4.cell? ⟨bd, 4, none⟩ = some (D.mv 1) := (by rw [hb5.cell']; rfl); have x4 := hb5.free 4; have HA5 := Lib.hid (And.intro ((show Kp (fun g => g = bd) W3 _ from (Kp.setCell (F := fun g => g = bd) (Kp.refl W3) (fun _ => rfl) _).drew).trans (Ext.kp hk4)) (And.intro (show W3.heap.size ≤ c from (by simpa using hc4)) (And.intro (show Grows W3 S S4 from ⟨hg4.1, fun k hk => (hg4.2 k hk).imp id (fun h => (by simpa using h))⟩) (And.intro hm4 hb5)))); clear hk4 hc4 hg4 hm4 hb5 hnew4))
    all_goals
      first
        | generalize hW6 : World.setCell (World.setCell W4 _ _) _ _ = W6
        | generalize hW6 : World.setCell W4 _ _ = W6
      have key : ∃ S' D', StB lo w bd gi w.heap.size (strs (ss ++ [mark1, mark2]) ++ rest) [.int .i64 8, .int .i64 who, .int .i64 N, .slice ao ss.length cap] S' D' W6 := by
        obtain ⟨hst3, hbn3, hrn3⟩ := HK3.out
        have hkb : Kp (fun g => g = bd) W3 W6 ∧ Blk W6 bd [(D.upd 1 (.pointer (some ⟨b3, 0, none⟩)) iv3 (.pointer (some ⟨c, 0, none⟩)) (D.ar i) (D.LL i)).rv 0, (D.upd 1 (.pointer (some ⟨b3, 0, none⟩)) iv3 (.pointer (some ⟨c, 0, none⟩)) (D.ar i) (D.LL i)).rv 1, (D.upd 1 (.pointer (some ⟨b3, 0, none⟩)) iv3 (.pointer (some ⟨c, 0, none⟩)) (D.ar i) (D.LL i)).rv 2, (D.upd 1 (.pointer (some ⟨b3, 0, none⟩)) iv3 (.pointer (some ⟨c, 0, none⟩)) (D.ar i) (D.LL i)).mv 0, (D.upd 1 (.pointer (some ⟨b3, 0, none⟩)) iv3 (.pointer (some ⟨c, 0, none⟩)) (D.ar i) (D.LL i)).mv 1, (D.upd 1 (.pointer (some ⟨b3, 0, none⟩)) iv3 (.pointer (some ⟨c, 0, none⟩)) (D.ar i) (D.LL i)).mv 2] 57 ∧ W3.heap.size ≤ c ∧ Grows W3 S S4 ∧ RefP S4 W6 (.pointer (some ⟨c, 0, none⟩)) (D.ar i) (D.LL i) := by
          first
            | (obtain ⟨hk4, hc4, hg4, hm4⟩ := HA4.out
               have hst4 := hst3.ext hk4
               have hsk := StB.stored (i := 1) (rv := .pointer (some ⟨b3, 0, none⟩)) (mv := .pointer (some ⟨c, 0, none⟩)) (iv := iv3) (ar := D.ar i) (LL := D.LL i) hst4 (by decide) (W3 := W6) (by first | exact .inl hW6.symm | exact .inr hW6.symm)
               exact ⟨(Ext.kp hk4).trans hsk.1, hsk.2, hc4, hg4, hm4.kp hsk.1 (fun g e hm => by cases hm; have := hst3.b.blk.lt; omega) (fun g e hs => by
                 rcases hg4.2 g hs with hs | hs
                 · exact hst3.b.offS (e ▸ hs)
                 · have := hst3.b.blk.lt; omega)⟩)
            | (obtain ⟨hk4, hc4, hg4, hm4, hb5⟩ := HA5.out
               have hks : Kp (fun g => g = bd) W4 W6 := by rw [← hW6]; exact Kp.setCell (F := fun g => g = bd) (Kp.refl W4) (fun _ => rfl) _
               exact ⟨hk4.trans hks, by rw [← hW6]; exact hb5.set 4 _, hc4, hg4, hm4.kp hks (fun g e hm => by cases hm; have := hst3.b.blk.lt; omega) (fun g e hs => by
                 rcases hg4.2 g hs with hs | hs
                 · exact hst3.b.offS (e ▸ hs)
                 · have := hst3.b.blk.lt; omega)⟩)
        obtain ⟨hk6, hb6, hc4, hg4, hm6⟩ := hkb
        refine StB.put' HST.out hst3 (by decide) (by omega) hk6 hb6 ⟨hg4.1, fun k hk => (hg4.2 k hk).imp id fun h => by omega⟩ hrn3 hm6 (fun g hg => hbn3 g hg) (fun g hg => by cases hg; omega) (fun g ho hs => ?_) (fun g hg ho => ?_) rfl (HST.out.b.good i hi)
        · rcases hg4.2 g hs with hs | hs
          · exact hrn3.notS g ho hs
          · have := hrn3.ownLt g ho; omega
        · cases hg; have := hrn3.ownLt _ ho; omega
      obtain ⟨S', D', hst'⟩ := key
      have HST := Lib.hid hst'
      have c3 : W6.cell? ⟨w.heap.size, 3, none⟩ = some (.slice ao ss.length cap) := by rw [hst'.oB.cell']; rfl
      clear hst' hW6
      go_wp2_with fail
      refine (kept_any ss gi capi ao cap rest _ HST.out.gB hcap2 (HROW.out _ HST.out.kp) hss HSZ.out).mono ?_
      rintro e wk ⟨vk, rfl, hkk, rfl⟩
      have hbk := HST.out.b.kp hkk (fun e => HST.out.gO.2.1 e.symm) (fun g e k hk => by subst e; exact HST.out.gO.2.2 k hk) (fun g e => by subst e; exact HST.out.gO.1)
      have hkw : Kp (fun g => lo ≤ g) w wk := HST.out.kp.trans (hkk.mono fun g _ e => by subst e; exact HST.out.gL)
      have HBK := Lib.hid (And.intro hbk hkw)
      have HLO := Lib.hid (show ∀ g, BenchF D' g → lo ≤ g from fun g hg => by obtain ⟨k, hk, hf⟩ := hg; exact (HST.out.l.2 k hk).1 g (FP.own hf))
      clear hbk hkw hkk c3
      go_wp2_with fail
      refine (benchTold_any HBK.out.1 (k := 0) (by decide)).mono ?_
      rintro e wt ⟨vt, rfl, hkt, rfl, hbt⟩
      have HB0 := Lib.hid (And.intro hbt (HBK.out.2.trans (hkt.mono fun g _ hg => HLO.out g hg)))
      clear hbt hkt
      go_wp2_with fail
      refine (benchTold_any HB0.out.1 (k := 1) (by decide)).mono ?_
      rintro e wt1 ⟨vt, rfl, hkt, rfl, hbt⟩
      have HB1 := Lib.hid (And.intro hbt (HB0.out.2.trans (hkt.mono fun g _ hg => HLO.out g hg)))
      clear hbt hkt
      go_wp2_with fail
      refine (benchTold_any HB1.out.1 (k := 2) (by decide)).mono ?_
      rintro e wt2 ⟨vt, rfl, hkt, rfl, hbt⟩
      have HB2 := Lib.hid (And.intro hbt (HB1.out.2.trans (hkt.mono fun g _ hg => HLO.out g hg)))
      clear hbt hkt
      go_wp2
      go_ret
      exact RetF.mk HB2.out.2 ⟨rfl, S', D', HB2.out.1, HST.out.l⟩
end Go.Proofs.Ytfkhelihepbehaa

/- TupleRows walked. -/
namespace Go.Proofs.Ytfkhelihepbehaa
open Go.RowKit Go.Shelf
set_option linter.unusedVariables false

theorem stepBench_any {lo bd : Nat} {S : Nat → Prop} {D : Bench3} {ao : Option Addr} {cap : Nat} {ss : List ByteArray} {w : World} (h : StepIn lo bd S D ao ss w) (kd who N : Int) :
    Calls Try.prog 24 #[.pointer (some ⟨bd, 0, none⟩), .agg #[.int .i64 kd, .int .i64 who, .int .i64 N, .slice ao ss.length cap]] w (RetF (fun g => lo ≤ g) w (StepPost lo bd)) := by
  by_cases hk : 1 ≤ kd ∧ kd ≤ 8
  · have h8 : kd = 1 ∨ kd = 2 ∨ kd = 3 ∨ kd = 4 ∨ kd = 5 ∨ kd = 6 ∨ kd = 7 ∨ kd = 8 := by omega
    rcases h8 with rfl | rfl | rfl | rfl | rfl | rfl | rfl | rfl
    · exact stepAdd_any h who N
    · exact stepDrop_any h who N
    · exact stepHas_any h who N
    · exact stepNew_any h who N
    · exact stepUnion_any h who N
    · exact stepMinus_any h who N
    · exact stepMeet_any h who N
    · exact stepCopy_any h who N
  · exact stepOther_any h kd who N hk

/-- An operation of a script, as it is read. -/
abbrev OpZ := Int × Int × Int × List ByteArray × Unit
noncomputable def shOp : Shp Try.prog OpZ := shStruct 73 (fdCons (shInt 3 .i64 Try.underlying3 (by kernel_rfl)) (fdCons (shInt 3 .i64 Try.underlying3 (by kernel_rfl)) (fdCons (shInt 3 .i64 Try.underlying3 (by kernel_rfl)) (fdCons (shSlice 22 (shStr 9 Try.underlying9 (by kernel_rfl)) Try.underlying22 (by kernel_rfl) (by decide)) fdNil)))) (fs := _) Try.underlying73 ⟨_, _, rfl, rfl, rfl, _, _, rfl, rfl, rfl, _, _, rfl, rfl, rfl, _, _, rfl, rfl, rfl, rfl⟩ (by kernel_rfl)
set_option maxRecDepth 100000 in
theorem op_at' {w : World} {G : Nat → Prop} {ao : Option Addr} {xs : List OpZ} (h : ElemsAt shOp w G ao xs) {i : Nat} {x : OpZ} (hi : xs[i]? = some x) :
    ∃ b off rao rcap, ao = some ⟨b, off, none⟩ ∧ w.cell? ⟨b, off + i * 4, none⟩ = some (.int .i64 x.1) ∧ w.cell? ⟨b, off + i * 4 + 1, none⟩ = some (.int .i64 x.2.1) ∧ w.cell? ⟨b, off + i * 4 + 2, none⟩ = some (.int .i64 x.2.2.1) ∧
      w.cell? ⟨b, off + i * 4 + 3, none⟩ = some (.slice rao x.2.2.2.1.length rcap) ∧ ElemsAt (shStr 9 Try.underlying9 (by kernel_rfl)) w G rao x.2.2.2.1 := by
  obtain ⟨b, off, es, e, _, _, ⟨a1, b1, e1, ⟨f1, _⟩, ⟨a2, b2, e2, ⟨f2, _⟩, ⟨a3, b3, e3, ⟨f3, _⟩, ⟨a4, b4, e4, ⟨rao, rcap, f4, _, _, he⟩, e5⟩⟩⟩⟩, hcell⟩ := h i x hi
  subst f1 f2 f3 f4
  rw [e5] at e4
  rw [e4] at e3
  rw [e3] at e2
  rw [e2] at e1
  have h0 := hcell 0 (.int .i64 x.1) (by rw [e1]; rfl)
  have h1 := hcell 1 (.int .i64 x.2.1) (by rw [e1]; rfl)
  have h2 := hcell 2 (.int .i64 x.2.2.1) (by rw [e1]; rfl)
  have h3 := hcell 3 (.slice rao x.2.2.2.1.length rcap) (by rw [e1]; rfl)
  rw [show shOp.n = 4 from rfl] at h0 h1 h2 h3
  exact ⟨b, off, rao, rcap, e, by simpa using h0, by rw [Nat.add_assoc]; exact h1, by rw [Nat.add_assoc]; exact h2, by rw [Nat.add_assoc]; exact h3, he⟩

/-- A bench with nothing in it. -/
def bench0 : Bench3 := ⟨fun _ => .pointer none, fun _ => .slice none 0 0, fun _ => .pointer none, fun _ => 0, fun _ => []⟩
theorem bench0_at (w : World) : BenchAt (fun _ => False) (w.alloc (.cells #[.pointer none, .pointer none, .pointer none, .pointer none, .pointer none, .pointer none] 57)) w.heap.size bench0 := by
  refine ⟨Blk.new w [_, _, _, _, _, _] _, fun k _ => .inl ⟨rfl, rfl, rfl, rfl⟩, fun k _ => .inl ⟨rfl, rfl, rfl⟩, fun k _ => rfl, fun i j _ _ _ g h => ?_, fun i j _ _ g h => ?_, fun i j _ _ _ g h => ?_, fun k _ => ⟨fun h => ?_, fun h => ?_⟩, id, fun k h => h.elim, fun k _ => good_nil⟩
  · obtain ⟨b, e, _⟩ := h; cases e
  · cases h
  · cases h
  · obtain ⟨b, e, _⟩ := h; cases e
  · cases h
theorem bench0_lo {lo : Nat} {w : World} (h : lo ≤ w.heap.size) : BenchLo lo bench0 w.heap.size := by
  refine ⟨h, fun k _ => ⟨fun g h => ?_, fun g h => ?_⟩⟩
  · obtain ⟨b, e, _⟩ := h; cases e
  · cases h
theorem BenchAt.below {S : Nat → Prop} {W : World} {bd : Nat} {D : Bench3} (h : BenchAt S W bd D) : ∀ k, k < 3 → (∀ g, OwnP (D.rv k) (D.iv k) g → g < W.heap.size) ∧ ∀ g, FP (D.mv k) g → g < W.heap.size :=
  fun k hk => ⟨(h.rows k hk).ownLt, (h.refs k hk).lt⟩
section
variable {S S' : Nat → Prop} {w w' W : World} {bd lo : Nat} {D : Bench3} {i : Nat} {rv iv mv : Value} {ar : Nat} {LL : List (List ByteArray)}
theorem BenchAt.turnZ (h : BenchAt S w bd D) {Z : Nat → Prop} (hz : ∀ k, k < 3 → (∀ g, OwnP (D.rv k) (D.iv k) g → ¬ Z g) ∧ ∀ g, FP (D.mv k) g → ¬ Z g) (bw : ¬ Z bd) (hi : i < 3) (hk : Kp (fun g => OwnP (D.rv i) (D.iv i) g ∨ FP (D.mv i) g ∨ g = bd) w W)
    (hB : Blk W bd [(D.upd i rv iv mv ar LL).rv 0, (D.upd i rv iv mv ar LL).rv 1, (D.upd i rv iv mv ar LL).rv 2, (D.upd i rv iv mv ar LL).mv 0, (D.upd i rv iv mv ar LL).mv 1, (D.upd i rv iv mv ar LL).mv 2] 57)
    (hS : (∀ k, S k → S' k) ∧ ∀ k, S' k → S k ∨ Z k) (hSW : ∀ k, S' k → k < W.heap.size) (hr : RowsP S' W rv iv ar LL) (hm : RefP S' W mv ar LL) (hro : ∀ g, OwnP rv iv g → OwnP (D.rv i) (D.iv i) g ∨ Z g) (hmo : ∀ g, FP mv g → FP (D.mv i) g ∨ Z g)
    (hrm : ∀ g, FP mv g → ¬ OwnP rv iv g) (hb : isNil rv = isNil mv) (hg : Strict cmpRow LL ∧ (∀ ss ∈ LL, ss.length = ar ∧ textsC ss = true) ∧ LL.length ≤ 65536) : BenchAt S' W bd (D.upd i rv iv mv ar LL) := by
  have ow : ∀ {k g}, k < 3 → OwnP (D.rv k) (D.iv k) g → ¬ Z g := fun hk ho => (hz _ hk).1 _ ho
  have mw : ∀ {k g}, k < 3 → FP (D.mv k) g → ¬ Z g := fun hk ho => (hz _ hk).2 _ ho
  have hFS : ∀ g, (OwnP (D.rv i) (D.iv i) g ∨ FP (D.mv i) g ∨ g = bd) → ¬ S g := fun g hg => by
    rcases hg with hg | hg | rfl
    · exact (h.rows i hi).notS g hg
    · exact (h.refs i hi).notS g hg
    · exact h.offS
  have rows' : ∀ k, k < 3 → k ≠ i → RowsP S' W (D.rv k) (D.iv k) (D.ar k) (D.LL k) := fun k hk' ne => by
    refine ((h.rows k hk').kp hk (fun g hg ho => ?_) hFS).wide hS.1 hSW fun g ho hs => ?_
    · rcases hg with hg | hg | rfl
      · exact h.apart i k hi hk' (fun e => ne e.symm) g hg ho
      · exact h.mapart i k hi hk' g hg ho
      · exact (h.off k hk').1 ho
    · rcases hS.2 g hs with hs | hs
      · exact (h.rows k hk').notS g ho hs
      · exact ow hk' ho (by assumption)
  have refs' : ∀ k, k < 3 → k ≠ i → RefP S' W (D.mv k) (D.ar k) (D.LL k) := fun k hk' ne => by
    refine ((h.refs k hk').kp hk (fun g hg ho => ?_) hFS).wide hS.1 hSW fun g ho hs => ?_
    · rcases hg with hg | hg | rfl
      · exact h.mapart k i hk' hi g ho hg
      · exact h.mm i k hi hk' (fun e => ne e.symm) g hg ho
      · exact (h.off k hk').2 ho
    · rcases hS.2 g hs with hs | hs
      · exact (h.refs k hk').notS g ho hs
      · exact mw hk' ho (by assumption)
  refine ⟨hB, fun k hk' => ?_, fun k hk' => ?_, fun k hk' => ?_, fun a b ha hb' hab g hg hg' => ?_, fun a b ha hb' g hg hg' => ?_, fun a b ha hb' hab g hg hg' => ?_, fun k hk' => ?_, fun hs => ?_, hSW, fun k hk' => ?_⟩
  · unfold Bench3.upd
    by_cases e : k = i
    · simp only [e, if_true]; exact hr
    · simp only [e, if_false]; exact rows' k hk' e
  · unfold Bench3.upd
    by_cases e : k = i
    · simp only [e, if_true]; exact hm
    · simp only [e, if_false]; exact refs' k hk' e
  · unfold Bench3.upd
    by_cases e : k = i
    · simp only [e, if_true]; exact hb
    · simp only [e, if_false]; exact h.both k hk'
  · unfold Bench3.upd at hg hg'
    by_cases ea : a = i <;> by_cases eb : b = i <;> simp only [ea, eb, if_true, if_false] at hg hg'
    · omega
    · rcases hro g hg with hg | hg
      · exact h.apart i b hi hb' (fun e => eb e.symm) g hg hg'
      · exact ow hb' hg' (by assumption)
    · rcases hro g hg' with hg' | hg'
      · exact h.apart a i ha hi ea g hg hg'
      · exact ow ha hg (by assumption)
    · exact h.apart a b ha hb' hab g hg hg'
  · unfold Bench3.upd at hg hg'
    by_cases ea : a = i <;> by_cases eb : b = i <;> simp only [ea, eb, if_true, if_false] at hg hg'
    · exact hrm g hg hg'
    · rcases hmo g hg with hg | hg
      · exact h.mapart i b hi hb' g hg hg'
      · exact ow hb' hg' (by assumption)
    · rcases hro g hg' with hg' | hg'
      · exact h.mapart a i ha hi g hg hg'
      · exact mw ha hg (by assumption)
    · exact h.mapart a b ha hb' g hg hg'
  · unfold Bench3.upd at hg hg'
    by_cases ea : a = i <;> by_cases eb : b = i <;> simp only [ea, eb, if_true, if_false] at hg hg'
    · omega
    · rcases hmo g hg with hg | hg
      · exact h.mm i b hi hb' (fun e => eb e.symm) g hg hg'
      · exact mw hb' hg' (by assumption)
    · rcases hmo g hg' with hg' | hg'
      · exact h.mm a i ha hi ea g hg hg'
      · exact mw ha hg (by assumption)
    · exact h.mm a b ha hb' hab g hg hg'
  · unfold Bench3.upd
    by_cases e : k = i
    · simp only [e, if_true]
      refine ⟨fun ho => ?_, fun ho => ?_⟩
      · rcases hro _ ho with ho | ho
        · exact (h.off i hi).1 ho
        · exact bw ho
      · rcases hmo _ ho with ho | ho
        · exact (h.off i hi).2 ho
        · exact bw ho
    · simp only [e, if_false]; exact h.off k hk'
  · rcases hS.2 _ hs with hs | hs
    · exact h.offS hs
    · exact bw hs
  · unfold Bench3.upd
    by_cases e : k = i
    · simp only [e, if_true]; exact hg
    · simp only [e, if_false]; exact h.good k hk'
end
theorem BenchAt.stored {S : Nat → Prop} {W2 W3 : World} {bd i : Nat} {D : Bench3} {rv iv mv : Value} {ar : Nat} {LL : List (List ByteArray)} (h : BenchAt S W2 bd D) (hi : i < 3) (h3 : W3 = (W2.setCell ⟨bd, i, none⟩ rv).setCell ⟨bd, 3 + i, none⟩ mv ∨ W3 = (W2.setCell ⟨bd, 3 + i, none⟩ mv).setCell ⟨bd, i, none⟩ rv) :
    Kp (fun g => g = bd) W2 W3 ∧ Blk W3 bd [(D.upd i rv iv mv ar LL).rv 0, (D.upd i rv iv mv ar LL).rv 1, (D.upd i rv iv mv ar LL).rv 2, (D.upd i rv iv mv ar LL).mv 0, (D.upd i rv iv mv ar LL).mv 1, (D.upd i rv iv mv ar LL).mv 2] 57 := by
  refine ⟨?_, ?_⟩
  · rcases h3 with rfl | rfl
    · exact Kp.setCell (F := fun g => g = bd) (Kp.setCell (F := fun g => g = bd) (Kp.refl _) (fun _ => rfl) _) (fun _ => rfl) _
    · exact Kp.setCell (F := fun g => g = bd) (Kp.setCell (F := fun g => g = bd) (Kp.refl _) (fun _ => rfl) _) (fun _ => rfl) _
  · have hb0 := h.blk
    rcases h3 with rfl | rfl
    all_goals
      match i, hi with
      | 0, _ => exact (hb0.set _ _).set _ _
      | 1, _ => exact (hb0.set _ _).set _ _
      | 2, _ => exact (hb0.set _ _).set _ _
/-- Zero Rows, of both, at the second place. -/
theorem bench_zero {S : Nat → Prop} {W4 W6 : World} {bd lo : Nat} {D : Bench3} (h : BenchAt S W4 bd D) (hl : BenchLo lo D bd) (hlw : lo ≤ W4.heap.size)
    (h6 : W6 = (((W4.setCell ⟨bd, 1, none⟩ (.pointer (some ⟨W4.heap.size, 0, none⟩))).setCell ⟨bd, 4, none⟩ (.pointer (some ⟨W4.heap.size + 1, 0, none⟩))).alloc (.cells #[.nilFunc, .slice none 0 0, .int .i64 0] 68)).alloc (.cells #[.int .i64 0, .slice none 0 0] 70) ∨
      W6 = (((W4.setCell ⟨bd, 1, none⟩ (.pointer (some ⟨W4.heap.size + 1, 0, none⟩))).setCell ⟨bd, 4, none⟩ (.pointer (some ⟨W4.heap.size, 0, none⟩))).alloc (.cells #[.int .i64 0, .slice none 0 0] 70)).alloc (.cells #[.nilFunc, .slice none 0 0, .int .i64 0] 68)) :
    Kp (fun g => g = bd) W4 W6 ∧ ∃ D', BenchAt S W6 bd D' ∧ BenchLo lo D' bd ∧ W4.heap.size ≤ W6.heap.size ∧ ∀ k, k < 3 → (∀ g, OwnP (D'.rv k) (D'.iv k) g → OwnP (D.rv k) (D.iv k) g ∨ W4.heap.size ≤ g) ∧ ∀ g, FP (D'.mv k) g → FP (D.mv k) g ∨ W4.heap.size ≤ g := by
  have key : ∃ b c, W4.heap.size ≤ b ∧ W4.heap.size ≤ c ∧ b ≠ c ∧ Kp (fun g => g = bd) W4 W6 ∧ Blk W6 bd [D.rv 0, .pointer (some ⟨b, 0, none⟩), D.rv 2, D.mv 0, .pointer (some ⟨c, 0, none⟩), D.mv 2] 57 ∧
      Blk W6 b [.nilFunc, .slice none 0 0, .int .i64 0] 68 ∧ Blk W6 c [.int .i64 0, .slice none 0 0] 70 := by
    rcases h6 with rfl | rfl
    · refine ⟨W4.heap.size, W4.heap.size + 1, Nat.le_refl _, by omega, by omega, ((Kp.setCell (F := fun g => g = bd) (Kp.setCell (F := fun g => g = bd) (Kp.refl _) (fun _ => rfl) _) (fun _ => rfl) _).alloc _).alloc _, (((h.blk.set 1 _).set 4 _).alloc _).alloc _, ?_, ?_⟩
      · have := (Blk.new ((W4.setCell ⟨bd, 1, none⟩ (.pointer (some ⟨W4.heap.size, 0, none⟩))).setCell ⟨bd, 4, none⟩ (.pointer (some ⟨W4.heap.size + 1, 0, none⟩))) [.nilFunc, .slice none 0 0, .int .i64 0] 68).alloc (.cells #[.int .i64 0, .slice none 0 0] 70)
        simpa using this
      · have := Blk.new (((W4.setCell ⟨bd, 1, none⟩ (.pointer (some ⟨W4.heap.size, 0, none⟩))).setCell ⟨bd, 4, none⟩ (.pointer (some ⟨W4.heap.size + 1, 0, none⟩))).alloc (.cells #[.nilFunc, .slice none 0 0, .int .i64 0] 68)) [.int .i64 0, .slice none 0 0] 70
        simpa using this
    · refine ⟨W4.heap.size + 1, W4.heap.size, by omega, Nat.le_refl _, by omega, ((Kp.setCell (F := fun g => g = bd) (Kp.setCell (F := fun g => g = bd) (Kp.refl _) (fun _ => rfl) _) (fun _ => rfl) _).alloc _).alloc _, (((h.blk.set 1 _).set 4 _).alloc _).alloc _, ?_, ?_⟩
      · have := Blk.new (((W4.setCell ⟨bd, 1, none⟩ (.pointer (some ⟨W4.heap.size + 1, 0, none⟩))).setCell ⟨bd, 4, none⟩ (.pointer (some ⟨W4.heap.size, 0, none⟩))).alloc (.cells #[.int .i64 0, .slice none 0 0] 70)) [.nilFunc, .slice none 0 0, .int .i64 0] 68
        simpa using this
      · have := (Blk.new ((W4.setCell ⟨bd, 1, none⟩ (.pointer (some ⟨W4.heap.size + 1, 0, none⟩))).setCell ⟨bd, 4, none⟩ (.pointer (some ⟨W4.heap.size, 0, none⟩))) [.int .i64 0, .slice none 0 0] 70).alloc (.cells #[.nilFunc, .slice none 0 0, .int .i64 0] 68)
        simpa using this
  obtain ⟨b, c, hb, hc, hbc, hk, hB, hR, hM⟩ := key
  have hz := hk.size
  have hro : ∀ g, OwnP (.pointer (some ⟨b, 0, none⟩)) (.slice none 0 0) g → OwnP (D.rv 1) (D.iv 1) g ∨ W4.heap.size ≤ g := by
    rintro g ⟨b', e, ho⟩
    cases e
    rcases ho with rfl | ho
    · exact .inr hb
    · cases ho
  have hmo : ∀ g, FP (.pointer (some ⟨c, 0, none⟩)) g → FP (D.mv 1) g ∨ W4.heap.size ≤ g := fun g hg => by cases hg; exact .inr hc
  have nS : ∀ g, W4.heap.size ≤ g → ¬ S g := fun g hg hs => by have := h.inS g hs; omega
  refine ⟨hk, D.upd 1 (.pointer (some ⟨b, 0, none⟩)) (.slice none 0 0) (.pointer (some ⟨c, 0, none⟩)) 0 [], h.turn (z := W4.heap.size) h.below h.blk.lt (by decide) (hk.mono fun g _ e => .inr (.inr e)) hB ⟨fun k h => h, fun k h => .inl h⟩ (fun k hk' => Nat.lt_of_lt_of_le (h.inS k hk') hz)
    (.inr ⟨b, rfl, .inr ⟨trivial, rfl, rfl, hR, fun k hk' => Nat.lt_of_lt_of_le (h.inS k hk') hz, nS b hb⟩⟩) (.inr ⟨c, rfl, none, 0, hM, RowsIn.nil _ _, ⟨Nat.le_refl _, by decide, .inl ⟨rfl, rfl⟩⟩, nS c hc, fun k hk' => Nat.lt_of_lt_of_le (h.inS k hk') hz, by simp⟩) hro hmo (fun g hg ho => ?_) rfl good_nil, hl.turn (by decide) hlw hro hmo, hz, fun k hk' => ?_⟩
  rotate_left
  · unfold Bench3.upd
    by_cases e : k = 1
    · subst e; simp only [if_true]; exact ⟨hro, hmo⟩
    · simp only [e, if_false]; exact ⟨fun g h => .inl h, fun g h => .inl h⟩
  obtain ⟨b', e, ho⟩ := ho
  cases e
  cases hg
  rcases ho with ho | ho
  · exact hbc ho.symm
  · cases ho

/-- Between two rounds of the script. -/
def RowsLoop (lo : Nat) (w0 : World) (bd n : Nat) (kv : Value) (w : World) : Prop := ∃ i : Nat, i ≤ n ∧ kv = .int .i64 i ∧ Ext w0 w ∧ ∃ S D, BenchAt S w bd D ∧ BenchLo lo D bd

set_option maxRecDepth 100000 in
set_option maxHeartbeats 8000000 in
theorem rows_walk (arity : Int) (xs : List OpZ) (ao : Option Addr) (n cap : Nat) (w : World) (hn : n = xs.length) (he : ElemsAt shOp w (fun k => k < w.heap.size) ao xs) (hb : bulkL shOp.bulk xs + 1 ≤ 1048576) :
    Calls Try.prog 6 #[.int .i64 arity, .slice ao n cap] w (RetN w fun w' v => v = .bool true) := by
  have HE := Lib.hid (And.intro he (And.intro hb hn))
  have hnl : n ≤ 1048576 := by
    have := bulkL_len shOp.bulk (fun x => by show 1 ≤ _ + 1; omega) xs
    omega
  clear he hb hn
  have h0 := bench0_at w
  obtain ⟨W1, e1⟩ : ∃ W1, w.alloc (.cells #[.pointer none, .pointer none, .pointer none, .pointer none, .pointer none, .pointer none] 57) = W1 := ⟨_, rfl⟩
  have x1 : Ext w W1 := by rw [← e1]; exact (Kp.refl w).alloc _
  rw [e1] at h0
  have HB := Lib.hid h0
  have hzw : w.heap.size < W1.heap.size := h0.blk.lt
  have HX := Lib.hid x1
  clear h0 x1
  by_cases ha : 0 ≤ arity ∧ arity ≤ 64
  · obtain ⟨a, rfl⟩ := Int.eq_ofNat_of_zero_le ha.1
    have ha' : a ≤ 64 := by omega
    have HNW := Lib.hid (newRows_any (fun _ => False) W1 a ha' (fun _ h => h.elim))
    clear ha
    go_enter Try.func6, Try.ntmps6
    go_wp2_with fail
    refine HNW.out.mono ?_
    rintro e W3 ⟨v3, rfl, hk3, rfl, hr3⟩
    have hz3 := hk3.size
    have HRN := Lib.hid (refNewRows_any (fun _ => False) W3 a ha' (fun _ h => h.elim))
    have HK3 := Lib.hid (And.intro (HB.out.ext hk3) (And.intro hr3 hk3))
    clear hk3 hr3
    go_wp2_with fail
    refine HRN.out.mono ?_
    rintro e W4 ⟨v4, rfl, hk4, rfl, hm4⟩
    have hz4 := hk4.size
    have HK4 := Lib.hid (And.intro (HK3.out.1.ext hk4) (And.intro (HK3.out.2.1.ext hk4) (And.intro hm4 (HK3.out.2.2.trans hk4))))
    have hnn : ∀ w : World, (binOp .eql 52 (.pointer (some ⟨W1.heap.size, 0, none⟩)) (.pointer none)).run Try.prog w = .ok (.bool false) w := fun _ => by kernel_rfl
    have hnm : ∀ w : World, (binOp .eql 54 (.pointer (some ⟨W3.heap.size, 0, none⟩)) (.pointer none)).run Try.prog w = .ok (.bool false) w := fun _ => by kernel_rfl
    clear hk4 hm4 e1
    go_wp2_with fail
    refine (num_any _ _).mono ?_
    rintro e w' ⟨rfl, rfl⟩
    have s1 := HK4.out.1.cr (k := 1) (by decide)
    have s4 := HK4.out.1.cm (k := 1) (by decide)
    have z1 := HK4.out.1.blk.free 1
    have z4 := HK4.out.1.blk.free 4
    have hbd : w.heap.size < W4.heap.size := by omega
    go_wp2_with fail
    go_region
    all_goals
      generalize hW6 : World.alloc (World.alloc _ _) _ = W6
      obtain ⟨hk6, D6, hb6, hl6, hz6, hn6⟩ := bench_zero HK4.out.1 (bench0_lo (Nat.le_refl _)) (by omega) (W6 := W6) (by first | exact .inl hW6.symm | exact .inr hW6.symm)
      have hr6 : RowsAt (fun _ => False) W6 W1.heap.size (.slice none 0 0) a [] := HK4.out.2.1.move hk6 (fun k e ho => by
        subst e
        rcases ho with ho | ho
        · omega
        · cases ho) (fun k _ h => h) (fun _ h => h) (fun k h => h.elim) (fun k _ h => h)
      have hm6 := HK4.out.2.2.1.kp hk6 (fun e => by omega) (fun k _ h => h)
      have hx6 : Ext w W6 := (HX.out.trans HK4.out.2.2.2).trans' hk6 fun k hk e => by omega
      have s0 := hb6.cr (k := 0) (by decide)
      have s3 := hb6.cm (k := 0) (by decide)
      have z0 := hb6.blk.free 0
      have z3 := hb6.blk.free 3
      have hlt13 : W1.heap.size < W3.heap.size := HK3.out.2.1.blk.lt
      have hlt34 : W3.heap.size < W4.heap.size := HK4.out.2.2.1.lt
      have HK6 := Lib.hid (And.intro hb6 (And.intro hl6 (And.intro hn6 (And.intro hr6 (And.intro hm6 hx6)))))
      clear hk6 hb6 hl6 hn6 hr6 hm6 hx6 hW6 s1 s4 z1 z4
      go_wp2_with fail
      go_region
      all_goals
        generalize hW8 : World.setCell (World.setCell W6 _ _) _ _ = W8
        obtain ⟨D8, hb8, hl8, hx8⟩ : ∃ D8, BenchAt (fun _ => False) W8 w.heap.size D8 ∧ BenchLo w.heap.size D8 w.heap.size ∧ Ext w W8 := by
          obtain ⟨hb6, hl6, hn6, hr6, hm6, hx6⟩ := HK6.out
          obtain ⟨hk8, hB8⟩ := BenchAt.stored (i := 0) (rv := .pointer (some ⟨W1.heap.size, 0, none⟩)) (mv := .pointer (some ⟨W3.heap.size, 0, none⟩)) (iv := .slice none 0 0) (ar := a) (LL := []) hb6 (by decide) (W3 := W8) (by first | exact .inl hW8.symm | exact .inr hW8.symm)
          have hro : ∀ g, OwnP (.pointer (some ⟨W1.heap.size, 0, none⟩)) (.slice none 0 0) g → OwnP (D6.rv 0) (D6.iv 0) g ∨ (g = W1.heap.size ∨ g = W3.heap.size) := by
            rintro g ⟨b, e, ho⟩
            cases e
            rcases ho with rfl | ho
            · exact .inr (.inl rfl)
            · cases ho
          have hmo : ∀ g, FP (.pointer (some ⟨W3.heap.size, 0, none⟩)) g → FP (D6.mv 0) g ∨ (g = W1.heap.size ∨ g = W3.heap.size) := fun g hg => by cases hg; exact .inr (.inr rfl)
          have hZ : ∀ k, k < 3 → (∀ g, OwnP (D6.rv k) (D6.iv k) g → ¬ (g = W1.heap.size ∨ g = W3.heap.size)) ∧ ∀ g, FP (D6.mv k) g → ¬ (g = W1.heap.size ∨ g = W3.heap.size) := fun k hk => ⟨fun g hg hz => by
            rcases (hn6 k hk).1 g hg with h | h
            · obtain ⟨b, e, _⟩ := h; cases e
            · omega, fun g hg hz => by
            rcases (hn6 k hk).2 g hg with h | h
            · cases h
            · omega⟩
          refine ⟨_, hb6.turnZ (Z := fun g => g = W1.heap.size ∨ g = W3.heap.size) hZ (by omega) (by decide) (hk8.mono fun g _ e => .inr (.inr e)) hB8 ⟨fun k h => h, fun k h => .inl h⟩ (fun k h => h.elim) (hr6.move hk8 (fun k e ho => by
              subst e
              rcases ho with ho | ho
              · omega
              · cases ho) (fun k _ h => h) (fun _ h => h) (fun k h => h.elim) (fun k _ h => h)).p (.inr ⟨_, rfl, hm6.kp hk8 (fun e => by omega) (fun k _ h => h)⟩) hro hmo (fun g hg ho => ?_) rfl good_nil, ?_, hx6.trans' hk8 fun k hk e => by omega⟩
          · obtain ⟨b, e, ho⟩ := ho
            cases e
            cases hg
            rcases ho with ho | ho
            · omega
            · cases ho
          · refine ⟨Nat.le_refl _, fun k hk => ?_⟩
            unfold Bench3.upd
            by_cases e : k = 0
            · simp only [e, if_true]
              refine ⟨fun g hg => ?_, fun g hg => ?_⟩
              · obtain ⟨b, e, ho⟩ := hg
                cases e
                rcases ho with ho | ho
                · omega
                · cases ho
              · cases hg; omega
            · simp only [e, if_false]; exact hl6.2 k hk
        have HBF := Lib.hid (And.intro (hb8.ext (Kp.refl W8).drew.drew) (And.intro hl8 (show Ext w W8.drew.drew from hx8.drew.drew)))
        clear hb8 hl8 hx8 hW8 s0 s3 z0 z3
        go_wp2_with fail
        go_loopw [10] (RowsLoop w.heap.size w w.heap.size n) (fun kv _ => n - (intOf kv).toNat)
        case atStart => exact ⟨0, Nat.zero_le _, rfl, HBF.out.2.2, _, D8, HBF.out.1, HBF.out.2.1⟩
        case round =>
          obtain ⟨i, hi, rfl, hex, S, D, hb, hl⟩ := hrel
          obtain ⟨W9, rfl⟩ : ∃ W9, W9 = wr := ⟨wr, rfl⟩
          by_cases hlt : i < n
          · obtain ⟨⟨kd, who, N, ss, u⟩, hx⟩ : ∃ x, xs[i]? = some x := ⟨_, List.getElem?_eq_getElem (by have := HE.out.2.2; omega)⟩
            obtain ⟨g, o, rao, rcap, eao, c0, c1, c2, c3, her⟩ := op_at' (HE.out.1.ext hex) hx
            subst eao
            simp only at c0 c1 c2 c3 her
            have hbk := bulkL_mem shOp.bulk (List.mem_of_getElem? hx)
            have hbk2 : shOp.bulk (kd, who, N, ss, u) = 1 + (1 + (1 + ((bulkL (shStr (P := Try.prog) 9 Try.underlying9 (by kernel_rfl)).bulk ss + 1) + 0))) + 1 := rfl
            have hlen := bulkL_len (shStr (P := Try.prog) 9 Try.underlying9 (by kernel_rfl)).bulk (fun x => by show 1 ≤ x.size + 1; omega) ss
            have hST := stepBench_any (cap := rcap) (show StepIn w.heap.size w.heap.size S D rao ss W9 from ⟨hb, hl, hex.size, elems_strs her, by
              cases ss with
              | nil => exact .inl rfl
              | cons s ss =>
                refine .inr fun a e => ?_
                obtain ⟨b0, off, es, e0, hg0, _⟩ := her 0 s rfl
                rw [e0] at e; cases e; exact hg0, by have := HE.out.2.1; omega, fun s hs => by
              have h1 := bulkL_mem (shStr (P := Try.prog) 9 Try.underlying9 (by kernel_rfl)).bulk hs
              have h2 : (shStr (P := Try.prog) 9 Try.underlying9 (by kernel_rfl)).bulk s = s.size + 1 := rfl
              have := HE.out.2.1
              omega⟩) kd who N
            have HST := Lib.hid hST
            have i1 : (i : Int) < (n : Int) := by omega
            have i2 : (0 : Int) ≤ (i : Int) := by omega
            clear hST hbk hbk2 hlen hx her hb hl
            go_wp2_with fail
            refine HST.out.mono ?_
            rintro e w6 ⟨v, rfl, hk6, rfl, S', D', hb', hl'⟩
            have HR := Lib.hid (And.intro hk6 (And.intro hb' hl')); clear hk6 hb' hl' c0 c1 c2 c3
            go_wp2
            go_roundw
            case rel => exact ⟨i + 1, by omega, by first | rfl | (congr 1; done) | (congr 1; omega), hex.trans' HR.out.1 (fun k hk h => by omega), S', D', HR.out.2.1, HR.out.2.2⟩
            case measure => simp [intOf]; omega
          · have HL := Lib.hid (And.intro hb (And.intro hl hex))
            have hlo : ∀ g, BenchF D g → w.heap.size ≤ g := fun g hg => by obtain ⟨k, hk, hf⟩ := hg; exact (hl.2 k hk).1 g (FP.own hf)
            have HLO := Lib.hid hlo
            have ei : n = i := by omega
            clear hb hl hlt hi hlo
            subst ei
            go_wp2_with fail
            refine (benchTold_any HL.out.1 (k := 0) (by decide)).mono ?_
            rintro e wt ⟨vt, rfl, hkt, rfl, hbt⟩
            have HB0 := Lib.hid (And.intro hbt (hex.trans' hkt fun k hk h => by have := HLO.out k h; omega))
            clear hbt hkt
            go_wp2_with fail
            refine (benchTold_any HB0.out.1 (k := 1) (by decide)).mono ?_
            rintro e wt1 ⟨vt, rfl, hkt, rfl, hbt⟩
            have HB1 := Lib.hid (And.intro hbt (HB0.out.2.trans' hkt fun k hk h => by have := HLO.out k h; omega))
            clear hbt hkt
            go_wp2_with fail
            refine (benchTold_any HB1.out.1 (k := 2) (by decide)).mono ?_
            rintro e wt2 ⟨vt, rfl, hkt, rfl, hbt⟩
            have HB2 := Lib.hid (And.intro hbt (HB1.out.2.trans' hkt fun k hk h => by have := HLO.out k h; omega))
            clear hbt hkt
            go_wp2
            go_ret
            exact RetN.mk HB2.out.2 rfl
  · have hbad : arity < 0 ∨ 64 < arity := by omega
    have HNW := Lib.hid (newRows_bad arity W1 hbad)
    have HRN := Lib.hid (refNewRows_bad arity W1 hbad)
    clear ha
    go_enter Try.func6, Try.ntmps6
    go_wp2_with fail
    refine HNW.out.mono ?_
    rintro e W3 ⟨rfl, rfl⟩
    go_wp2_with fail
    refine HRN.out.mono ?_
    rintro e W3 ⟨rfl, rfl⟩
    go_wp2_with fail
    refine (num_any _ _).mono ?_
    rintro e w' ⟨rfl, rfl⟩
    have s1 := HB.out.cr (k := 1) (by decide)
    have s4 := HB.out.cm (k := 1) (by decide)
    have z1 := HB.out.blk.free 1
    have z4 := HB.out.blk.free 4
    clear e1
    go_wp2_with fail
    go_region
    all_goals
      generalize hW6 : World.alloc (World.alloc _ _) _ = W6
      obtain ⟨hk6, D6, hb6, hl6, hz6, hn6⟩ := bench_zero HB.out (bench0_lo (Nat.le_refl _)) (by omega) (W6 := W6) (by first | exact .inl hW6.symm | exact .inr hW6.symm)
      have hx6 : Ext w W6 := HX.out.trans' hk6 fun k hk e => by omega
      have HBF := Lib.hid (And.intro (hb6.ext (Kp.refl W6).drew) (And.intro hl6 (show Ext w W6.drew from hx6.drew)))
      clear hk6 hb6 hl6 hn6 hx6 hW6 s1 s4 z1 z4
      go_wp2_with fail
      go_loopw [10] (RowsLoop w.heap.size w w.heap.size n) (fun kv _ => n - (intOf kv).toNat)
      case atStart => exact ⟨0, Nat.zero_le _, rfl, HBF.out.2.2, _, D6, HBF.out.1, HBF.out.2.1⟩
      case round =>
        obtain ⟨i, hi, rfl, hex, S, D, hb, hl⟩ := hrel
        obtain ⟨W9, rfl⟩ : ∃ W9, W9 = wr := ⟨wr, rfl⟩
        by_cases hlt : i < n
        · obtain ⟨⟨kd, who, N, ss, u⟩, hx⟩ : ∃ x, xs[i]? = some x := ⟨_, List.getElem?_eq_getElem (by have := HE.out.2.2; omega)⟩
          obtain ⟨g, o, rao, rcap, eao, c0, c1, c2, c3, her⟩ := op_at' (HE.out.1.ext hex) hx
          subst eao
          simp only at c0 c1 c2 c3 her
          have hbk := bulkL_mem shOp.bulk (List.mem_of_getElem? hx)
          have hbk2 : shOp.bulk (kd, who, N, ss, u) = 1 + (1 + (1 + ((bulkL (shStr (P := Try.prog) 9 Try.underlying9 (by kernel_rfl)).bulk ss + 1) + 0))) + 1 := rfl
          have hlen := bulkL_len (shStr (P := Try.prog) 9 Try.underlying9 (by kernel_rfl)).bulk (fun x => by show 1 ≤ x.size + 1; omega) ss
          have hST := stepBench_any (cap := rcap) (show StepIn w.heap.size w.heap.size S D rao ss W9 from ⟨hb, hl, hex.size, elems_strs her, by
            cases ss with
            | nil => exact .inl rfl
            | cons s ss =>
              refine .inr fun a e => ?_
              obtain ⟨b0, off, es, e0, hg0, _⟩ := her 0 s rfl
              rw [e0] at e; cases e; exact hg0, by have := HE.out.2.1; omega, fun s hs => by
            have h1 := bulkL_mem (shStr (P := Try.prog) 9 Try.underlying9 (by kernel_rfl)).bulk hs
            have h2 : (shStr (P := Try.prog) 9 Try.underlying9 (by kernel_rfl)).bulk s = s.size + 1 := rfl
            have := HE.out.2.1
            omega⟩) kd who N
          have HST := Lib.hid hST
          have i1 : (i : Int) < (n : Int) := by omega
          have i2 : (0 : Int) ≤ (i : Int) := by omega
          clear hST hbk hbk2 hlen hx her hb hl
          go_wp2_with fail
          refine HST.out.mono ?_
          rintro e w6 ⟨v, rfl, hk6, rfl, S', D', hb', hl'⟩
          have HR := Lib.hid (And.intro hk6 (And.intro hb' hl')); clear hk6 hb' hl' c0 c1 c2 c3
          go_wp2
          go_roundw
          case rel => exact ⟨i + 1, by omega, by first | rfl | (congr 1; done) | (congr 1; omega), hex.trans' HR.out.1 (fun k hk h => by omega), S', D', HR.out.2.1, HR.out.2.2⟩
          case measure => simp [intOf]; omega
        · have HL := Lib.hid (And.intro hb (And.intro hl hex))
          have hlo : ∀ g, BenchF D g → w.heap.size ≤ g := fun g hg => by obtain ⟨k, hk, hf⟩ := hg; exact (hl.2 k hk).1 g (FP.own hf)
          have HLO := Lib.hid hlo
          have ei : n = i := by omega
          clear hb hl hlt hi hlo
          subst ei
          go_wp2_with fail
          refine (benchTold_any HL.out.1 (k := 0) (by decide)).mono ?_
          rintro e wt ⟨vt, rfl, hkt, rfl, hbt⟩
          have HB0 := Lib.hid (And.intro hbt (hex.trans' hkt fun k hk h => by have := HLO.out k h; omega))
          clear hbt hkt
          go_wp2_with fail
          refine (benchTold_any HB0.out.1 (k := 1) (by decide)).mono ?_
          rintro e wt1 ⟨vt, rfl, hkt, rfl, hbt⟩
          have HB1 := Lib.hid (And.intro hbt (HB0.out.2.trans' hkt fun k hk h => by have := HLO.out k h; omega))
          clear hbt hkt
          go_wp2_with fail
          refine (benchTold_any HB1.out.1 (k := 2) (by decide)).mono ?_
          rintro e wt2 ⟨vt, rfl, hkt, rfl, hbt⟩
          have HB2 := Lib.hid (And.intro hbt (HB1.out.2.trans' hkt fun k hk h => by have := HLO.out k h; omega))
          clear hbt hkt
          go_wp2
          go_ret
          exact RetN.mk HB2.out.2 rfl
end Go.Proofs.Ytfkhelihepbehaa

/- Proved here: the statement TupleRowsUptoSaid: the law returns true for every input of the bound that the row names and leaves its arguments as they were. No condition of its own. -/
namespace Go.Proofs.Ytfkhelihepbehaa.lawTupleRows
open Go.ChangeShapes Go.WideShapes Go.ChangeAt Go.RowKit
open Go.ChangeMaps (open_string shut_string)
set_option linter.unusedVariables false

theorem rows_walk' (v0 v1 : Value) (W : World) (h0 : ∃ z : Int, v0 = .int .i64 z)
    (h1 : ∃ ao cap xs, v1 = .slice ao xs.length cap ∧ xs.length ≤ cap ∧ ElemsAt shOp W (fun k => k < W.heap.size) ao xs ∧ bulkL shOp.bulk xs + 1 ≤ 1048576) :
    Calls Try.prog 6 #[v0, v1] W (fun e w' => e = .returned (.bool true) ∧ Below W.heap.size W w') := by
  obtain ⟨z, rfl⟩ := h0
  obtain ⟨ao, cap, xs, rfl, _, he, hb⟩ := h1
  refine (rows_walk z xs ao xs.length cap W rfl he hb).mono ?_
  rintro e w' ⟨v, rfl, hk, rfl⟩
  exact ⟨rfl, hk.below⟩
set_option maxRecDepth 100000 in
theorem argInt {H : Type} {enc : TypeId × Value → H} {W : World} {base : Nat} {v : Value} {d : DataW H} {p : List MemPlace}
    (hok : Value.okWide Try.prog W .any base 3 v) (h : DataW.Trod enc Try.prog W 0 (fun _ => true) true 3 v d p) : ∃ z : Int, v = .int .i64 z := by
  obtain ⟨z, e, _⟩ := open_int Try.underlying3 hok h
  exact ⟨z, e⟩
theorem own : ownKnob Try.prog.godebug = none := by kernel_rfl
theorem laidOut : laidOutB Try.prog = true := by kernel_rfl

set_option maxRecDepth 100000 in
theorem lifted (os : Os) (started : os.Started) (H : Type) (enc : TypeId × Value → H) (F : Stop.Interp) :
    ReturnsInHanded {} Try.checked os 6 .any ((Rows.OpenSpec.upto Rows.tupleRowsSpec).pre6 enc Try.prog Try.f6 Rows.tupleRowsUptoRow.domain false) (((Rows.OpenSpec.upto Rows.tupleRowsSpec).at F).post enc Try.prog Try.f6 false true false false) := by
  refine returnsInHanded_of_cond (C := Try.checked) (s := Rows.OpenSpec.upto Rows.tupleRowsSpec) (k := Rows.uptoSmall) rfl own started (by kernel_rfl) Try.func6
    (OpenSpec.witness (enc := enc) (C := Try.checked) (s := Rows.OpenSpec.upto Rows.tupleRowsSpec) (k := Rows.uptoSmall) rfl false ⟨#[], #[.int .i64 0, .slice none 0 0], []⟩ 8 (by kernel_rfl) (by kernel_rfl) (by kernel_rfl)
      (x := ([.lit (.int .i64 0), .nil], [], [])) (by kernel_rfl) rfl (by kernel_rfl)) ?_
  intro W base args ds gs before hval0 hW hcnd hk0 _
  have hk : Rows.uptoSmall H (ds ++ gs) = true := hk0
  clear hk0
  have hval : ∀ (j : Nat) t v, Try.f6.params[j]? = some t → args[j]? = some v → Value.okWide Try.prog W .any base t v := hval0
  have hW' := hW
  obtain ⟨p, q, hA0, hV, rfl, hfz, hnd⟩ := hW
  have hA : DataW.TrodAll enc Try.prog W 0 (fun _ => true) true Try.f6.params.toList args.toList ds p := hA0
  rw [Try.params6] at hA hval
  obtain ⟨v0, vs0, d0, ds0, p0, q0, hargs, rfl, rfl, h0, r0⟩ := trodAll_cons hA
  obtain ⟨v1, vs1, d1, ds1, p1, q1, rfl, rfl, rfl, h1, r1⟩ := trodAll_cons r0
  obtain ⟨rfl, rfl, rfl⟩ := trodAll_nil r1
  obtain rfl : args = #[v0, v1] := by cases args; simp_all
  obtain ⟨rfl, rfl⟩ := trodVars_none hV
  have lt0 : ∀ x ∈ p0, x.block < W.heap.size := by obtain ⟨m, hm⟩ := h0; exact DataW.trod_lt m _ _ _ hm
  have lt1 : ∀ x ∈ p1, x.block < W.heap.size := by obtain ⟨m, hm⟩ := h1; exact DataW.trod_lt m _ _ _ hm
  clear hA0 hval0
  simp only [List.append_nil] at hk
  have hk1 : Rows.uptoBulkAll [d0, d1] ≤ 1048576 := of_decide_eq_true hk
  clear hk
  have x0 := argInt (hval 0 3 v0 rfl rfl) h0
  have x1 := arg_slice (s := shOp) Try.underlying50 (by kernel_rfl) (by decide) (hval 1 50 v1 rfl rfl) h1 (N := 1048576) (bulk_in hk1 (by simp))
  refine (rows_walk' v0 v1 W x0 x1).mono fun e W' ⟨he, bel⟩ => ?_
  subst he
  exact ⟨_, rfl, _, _, _, [], _, [], hW', trodAll_mk1 (shut_bool Try.underlying4 _), (trodAll_cons_mk (Below.trod laidOut (by kernel_rfl) (of_decide_eq_true (by kernel_rfl)) h0 bel lt0) (trodAll_cons_mk (Below.trod laidOut (by kernel_rfl) (of_decide_eq_true (by kernel_rfl)) h1 bel lt1) trodAll_mk0)), rfl, bel.frame _, fun h => by cases h⟩

theorem over : Rows.tupleRowsUptoRow.holds Try.pinned (Rows.OpenSpec.upto Rows.tupleRowsSpec) :=
  OpenClaim.holds_of_cond 6 Try.f6 rfl rfl rfl rfl rfl rfl rfl ⟨rfl, rfl, rfl, rfl, rfl⟩ rfl rfl rfl rfl rfl (by kernel_rfl) Try.func6 (by kernel_rfl)
    (of_decide_eq_true (by kernel_rfl)) (by unfold Func.isWrapper; first | (rw [if_pos (by decide +kernel)]; kernel_rfl) | (rw [if_neg (by decide +kernel)]; exact ⟨rfl, rfl⟩))
    (fun os started H enc _ F => lifted os started H enc F)

theorem proved : Rows.TupleRowsUptoSaid := over
#print axioms proved
end Go.Proofs.Ytfkhelihepbehaa.lawTupleRows
