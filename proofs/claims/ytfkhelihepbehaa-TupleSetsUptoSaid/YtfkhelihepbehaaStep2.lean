/- desk.step walked. -/
import Derived.Test.YtfkhelihepbehaaStep
import Derived.Deep.RegionHeld3
import Derived.Deep.RegionWith
namespace Go.Proofs.Ytfkhelihepbehaa
open Go.RowKit
set_option linter.unusedVariables false

/-- The same operation on both sets of a place. -/
theorem DeskAt.both {S : Nat → Prop} {U : List Int} {L : Nat → Prop} {bd : Nat} {w W w1 w2 : World} {sv mv : Nat → Value} {G : Nat → Nat → Prop} {i : Nat} {which : Int} {o' : Option (List Int)} {A1 A2 : Nat → Prop}
    (h : DeskAt S U L bd w sv mv G) (hi : i < 4) (hd : ∀ k, A1 k → ¬ A2 k) (hA1 : ∀ k, A1 k → G i k) (hA2 : ∀ k, A2 k → G i k) (hW : Ext w W)
    (hk1 : Kp A1 W w1) (hs : SetP S U which w1 (sv i) o' fun k => A1 k ∨ W.heap.size ≤ k) (hk2 : Kp A2 w1 w2) (hr : RefP U which w2 (mv i) o' fun k => A2 k ∨ w1.heap.size ≤ k) :
    Desk S U L bd w2 ∧ Kp L w w2 := by
  have hsz := hW.size
  have hsz1 := hk1.size
  have l2 : ∀ k, A2 k → k < w.heap.size := fun k hk => (h.own i hi k (hA2 k hk)).2.2.1
  have kk : Kp (G i) w w2 := ((Ext.kp hW).trans (hk1.mono fun k _ => hA1 k)).trans (hk2.mono fun k _ => hA2 k)
  exact ⟨h.turn hi kk ⟨which, o', fun k => (A1 k ∨ w.heap.size ≤ k) ∧ k < w1.heap.size, fun k => A2 k ∨ w1.heap.size ≤ k,
    ((hs.mono fun k hk hg => (⟨hg.imp id (Nat.le_trans hsz), hk⟩ : (A1 k ∨ w.heap.size ≤ k) ∧ k < w1.heap.size)).kp hk2 (fun k h2 hg => by
      rcases hg.1 with h1 | h1
      · exact hd k h1 h2
      · have := l2 k h2; omega) (fun k h2 => (h.own i hi k (hA2 k h2)).2.1)), hr,
    fun k h1 h2 => by
      rcases h2 with h2 | h2
      · rcases h1.1 with h3 | h3
        · exact hd k h3 h2
        · have := l2 k h2; omega
      · omega,
    fun k h1 => h1.1.imp (hA1 k) id, fun k h2 => h2.imp (hA2 k) (fun h => by omega)⟩, kk.mono fun k _ hg => (h.own i hi k hg).2.2.2⟩

theorem SetP.isPtr {S : Nat → Prop} {U : List Int} {which : Int} {w : World} {v : Value} {o : Option (List Int)} {G : Nat → Prop} (h : SetP S U which w v o G) : ∃ p, v = .pointer p := by
  rcases h with ⟨e, _⟩ | ⟨b, ov, iv, zs, e, _⟩ <;> exact ⟨_, e⟩
theorem RefP.isPtr {U : List Int} {which : Int} {w : World} {v : Value} {o : Option (List Int)} {G : Nat → Prop} (h : RefP U which w v o G) : ∃ p, v = .pointer p := by
  rcases h with ⟨e, _⟩ | ⟨b, lv, zs, e, _⟩ <;> exact ⟨_, e⟩
/-- New sets, of the same kind on both sides, go to a place. -/
theorem DeskAt.put2 {S : Nat → Prop} {U : List Int} {L : Nat → Prop} {bd : Nat} {w W w1 w2 : World} {sv mv : Nat → Value} {G : Nat → Nat → Prop} {i : Nat} {which : Int} {o : Option (List Int)} {s m : Value}
    (h : DeskAt S U L bd w sv mv G) (hi : i < 4) (hW : Ext w W) (hk1 : Ext W w1) (hs : SetP S U which w1 s o fun k => W.heap.size ≤ k) (hk2 : Ext w1 w2) (hr : RefP U which w2 m o fun k => w1.heap.size ≤ k) :
    Desk S U L bd ((w2.setCell ⟨bd, i, none⟩ s).setCell ⟨bd, 4 + i, none⟩ m) ∧ Kp L w ((w2.setCell ⟨bd, i, none⟩ s).setCell ⟨bd, 4 + i, none⟩ m) := by
  have hsz := hW.size
  have hsz1 := hk1.size
  have E := (hW.trans hk1).trans hk2
  refine ⟨h.put hi E ⟨which, o, fun k => w.heap.size ≤ k ∧ k < w1.heap.size, fun k => w1.heap.size ≤ k, (hs.mono fun k hk hg => ⟨Nat.le_trans hsz hg, hk⟩).ext hk2, hr, fun k h1 h2 => by omega, fun k h1 => h1.1, fun k h2 => by omega⟩, ?_⟩
  exact Kp.setCell (Kp.setCell (Ext.kp E) (fun _ => h.lob) s) (fun _ => h.lob) m

set_option maxRecDepth 100000 in
set_option maxHeartbeats 4000000 in
theorem step_any {S : Nat → Prop} {U : List Int} {L : Nat → Prop} {bd : Nat} {w : World} (hU : U.length ≤ 4194304) (kd who wi x : Int) (hx : x ∈ U) (h : Desk S U L bd w) :
    Calls Try.prog 17 #[.pointer (some ⟨bd, 0, none⟩), .agg #[.int .i64 kd, .int .i64 who, .int .i64 wi, .int .i64 x]] w
      (RetF L w fun w' v => v = .bool true ∧ Desk S U L bd w') := by
  obtain ⟨sv, mv, G, h⟩ := h
  obtain ⟨i, ei⟩ : ∃ i, placeN who 4 = i := ⟨_, rfl⟩
  obtain ⟨j, ej⟩ : ∃ j, placeN wi 4 = j := ⟨_, rfl⟩
  have hi : i < 4 := by rw [← ei]; exact placeN_lt _ _ (by decide)
  have hj : j < 4 := by rw [← ej]; exact placeN_lt _ _ (by decide)
  have EI := Lib.hid (And.intro (place4 who) (place4 wi)); rw [ei, ej] at EI
  obtain ⟨nb, enb⟩ : ∃ nb, nb = w.heap.size := ⟨_, rfl⟩
  have hb0 := Blk.new w [.int .i64 kd, .int .i64 who, .int .i64 wi, .int .i64 x] 45
  obtain ⟨W0, eW0⟩ : ∃ W0, w.alloc (.cells #[.int .i64 kd, .int .i64 who, .int .i64 wi, .int .i64 x] 45) = W0 := ⟨_, rfl⟩
  have x0 : Ext w W0 := by rw [← eW0]; exact (Kp.refl w).alloc _
  rw [show w.alloc (.cells [Value.int .i64 kd, .int .i64 who, .int .i64 wi, .int .i64 x].toArray 45) = W0 from eW0] at hb0
  have HB := Lib.hid hb0
  have HD := Lib.hid (h.ext x0)
  have c1 := hb0.cell 1 (by simp)
  have c2 := hb0.cell 2 (by simp)
  simp only [List.getElem_cons_succ, List.getElem_cons_zero] at c1 c2
  have c0 : W0.cell? ⟨w.heap.size, 0, none⟩ = some (.int .i64 kd) := by rw [hb0.cell']; rfl
  have c3 : W0.cell? ⟨w.heap.size, 3, none⟩ = some (.int .i64 x) := by rw [hb0.cell']; rfl
  have HX := Lib.hid x0
  have HN := Lib.hid (show ∀ i, i < 4 → ∀ k, G i k → k ≠ w.heap.size from fun i hi k hg => by have := (h.own i hi k hg).2.2.1; omega)
  clear h hb0 ei ej enb x0
  go_enter Try.func17, Try.ntmps17
  go_wp2_with fail
  go_region_held3 (fun w' => w'.cell? ⟨w.heap.size, 1, none⟩ = some (.int .i64 who) ∧ w'.cell? ⟨w.heap.size, 2, none⟩ = some (.int .i64 wi)) (first | exact ⟨by assumption, by assumption⟩ | go_keep)
    (first
      | (go_at_call 11; (with_reducible refine (EI.out.1 _).mono ?_); rintro e w' ⟨rfl, rfl⟩)
      | (go_at_call 11; (with_reducible refine (EI.out.2 _).mono ?_); rintro e w' ⟨rfl, rfl⟩))
  go_wp2_with fail
  have x1 : Ext W0 W0.drew := (Kp.refl W0).drew
  generalize W0.drew = W1 at x1 ⊢
  have c0' := x1.cell c0 id
  have c3' := x1.cell c3 id
  clear c0 c1 c2 c3
  have HD1 := Lib.hid (HD.out.ext x1)
  obtain ⟨d1, d2⟩ := HD1.out.cells hi
  obtain ⟨e1, e2⟩ := HD1.out.cells hj
  have i0 : (i : Int) < 4 := by omega
  have j0 : (j : Int) < 4 := by omega
  go_quiet (fail)
  have x2 : Ext W1 (W1.drewN nq) := (Kp.refl W1).drewN _
  generalize W1.drewN nq = W2 at x2 ⊢
  have c0 := x2.cell c0' id
  have c3 := x2.cell c3' id
  have HX2 := Lib.hid ((HX.out.trans x1).trans x2)
  have HD2 := Lib.hid (HD1.out.ext x2)
  clear d1 d2 e1 e2 c0' c3' HD HD1 x1 x2 HX
  obtain ⟨k, ek⟩ : ∃ k, k = (i + 1) % 3 := ⟨_, rfl⟩
  have hk : k < 4 := by omega
  have w1 : wrap64 ((i : Int) + 1) = (i : Int) + 1 := by unfold wrap64; omega
  have w2 : ((i : Int) + 1).tmod 3 = (k : Int) := by
    have := Int.tmod_eq_emod_of_nonneg (a := (i : Int) + 1) (b := 3) (by omega)
    omega
  clear ek
  obtain ⟨qi, oi, A1, A2, hsi, hri, hdi, hA1, hA2⟩ := HD2.out.slot i hi
  obtain ⟨qj, oj, B1, B2, hsj, hrj, _, _, _⟩ := HD2.out.slot j hj
  have HI := Lib.hid (And.intro hsi hri)
  have HJ := Lib.hid (And.intro hsj hrj)
  have HA := Lib.hid (And.intro hdi (And.intro hA1 hA2))
  have HM := Lib.hid (show ∀ k, A2 k → ¬ S k from fun k h => (HD2.out.own i hi k (hA2 k h)).2.1)
  have HM1 := Lib.hid (show ∀ k, A1 k → ¬ k = w.heap.size from fun k h => HN.out i hi k (hA1 k h))
  have HXU := Lib.hid hx
  clear hsi hri hdi hA1 hA2 hsj hrj hx EI HB eW0
  by_cases h1 : kd = 1
  · subst h1
    have HSA := Lib.hid (show ∀ W, Ext W2 W → Calls Try.prog 35 #[sv i, .int .i64 x] W (RetF A1 W fun w' r => r = .bool (addR qi oi x) ∧ SetP S U qi w' (sv i) (addO qi x oi) fun k => A1 k ∨ W.heap.size ≤ k) from fun W hW => setAdd_p hU HXU.out (HI.out.1.ext hW))
    have HRA := Lib.hid (show ∀ W W', Ext W2 W → Kp A1 W W' → Calls Try.prog 34 #[mv i, .int .i64 x] W' (RetF A2 W' fun w' r => r = .bool (addR qi oi x) ∧ RefP U qi w' (mv i) (addO qi x oi) fun k => A2 k ∨ W'.heap.size ≤ k) from fun W W' hW hk => refAdd_p hU HXU.out ((HI.out.2.ext hW).kp hk HA.out.1))
    go_wp2_with fail
    go_region_held3 (fun w' => w'.cell? ⟨w.heap.size, 3, none⟩ = some (.int .i64 x)) (first | assumption | go_keep)
      (first
        | (go_at_call 35; refine (HSA.out _ (by (first | exact Kp.refl _ | exact (Kp.refl _).drew | exact (Kp.refl _).drewN _))).mono ?_; rintro e w1 ⟨r1, rfl, hk1, rfl, hs1⟩; have d3 := hk1.cell (b := w.heap.size) (o := 3) c3 (fun h => HM1.out _ h rfl))
        | (go_at_call 34; refine (HRA.out _ _ (by (first | exact Kp.refl _ | exact (Kp.refl _).drew | exact (Kp.refl _).drewN _)) hk1).mono ?_; rintro e w3 ⟨r3, rfl, hk3, rfl, hr3⟩; have d4 := hk3.cell (b := w.heap.size) (o := 3) d3 (fun h => HN.out i hi _ (HA.out.2.2 _ h) rfl)))
    have hDK := HD2.out.both hi HA.out.1 HA.out.2.1 HA.out.2.2 (by (first | exact Kp.refl _ | exact (Kp.refl _).drew | exact (Kp.refl _).drewN _)) hk1 hs1 hk3 hr3
    obtain ⟨sv', mv', G', hT⟩ := hDK.1
    have HT := Lib.hid (And.intro hT hDK.2); clear hT hDK
    go_wp2_with fail
    refine (told_slot HT.out.1 hi).mono ?_
    rintro e w4 ⟨v4, rfl, hk4, rfl⟩
    go_wp2_with fail
    refine (told_slot (HT.out.1.ext hk4) hj).mono ?_
    rintro e w5 ⟨v5, rfl, hk5, rfl⟩
    go_wp2_with fail
    refine (told_slot ((HT.out.1.ext hk4).ext hk5) hk).mono ?_
    rintro e w6 ⟨v6, rfl, hk6, rfl⟩
    go_wp2
    go_ret
    exact RetF.mk (((((Ext.kp HX2.out).trans HT.out.2).ext hk4).ext hk5).ext hk6) ⟨rfl, _, _, _, ((HT.out.1.ext hk4).ext hk5).ext hk6⟩
  by_cases h2 : kd = 2
  · subst h2
    have HSA := Lib.hid (show ∀ W, Ext W2 W → Calls Try.prog 36 #[sv i, .int .i64 x] W (RetF A1 W fun w' r => r = .bool (hasR qi oi x) ∧ SetP S U qi w' (sv i) (dropO qi x oi) fun k => A1 k ∨ W.heap.size ≤ k) from fun W hW => setDrop_p HXU.out (HI.out.1.ext hW))
    have HRA := Lib.hid (show ∀ W W', Ext W2 W → Kp A1 W W' → Calls Try.prog 37 #[mv i, .int .i64 x] W' (RetF A2 W' fun w' r => r = .bool (hasR qi oi x) ∧ RefP U qi w' (mv i) (dropO qi x oi) fun k => A2 k ∨ W'.heap.size ≤ k) from fun W W' hW hk => refDrop_p ((HI.out.2.ext hW).kp hk HA.out.1))
    go_wp2_with fail
    go_region_held3 (fun w' => w'.cell? ⟨w.heap.size, 3, none⟩ = some (.int .i64 x)) (first | assumption | go_keep)
      (first
        | (go_at_call 36; refine (HSA.out _ (by (first | exact Kp.refl _ | exact (Kp.refl _).drew | exact (Kp.refl _).drewN _))).mono ?_; rintro e w1 ⟨r1, rfl, hk1, rfl, hs1⟩; have d3 := hk1.cell (b := w.heap.size) (o := 3) c3 (fun h => HM1.out _ h rfl))
        | (go_at_call 37; refine (HRA.out _ _ (by (first | exact Kp.refl _ | exact (Kp.refl _).drew | exact (Kp.refl _).drewN _)) hk1).mono ?_; rintro e w3 ⟨r3, rfl, hk3, rfl, hr3⟩; have d4 := hk3.cell (b := w.heap.size) (o := 3) d3 (fun h => HN.out i hi _ (HA.out.2.2 _ h) rfl)))
    have hDK := HD2.out.both hi HA.out.1 HA.out.2.1 HA.out.2.2 (by (first | exact Kp.refl _ | exact (Kp.refl _).drew | exact (Kp.refl _).drewN _)) hk1 hs1 hk3 hr3
    obtain ⟨sv', mv', G', hT⟩ := hDK.1
    have HT := Lib.hid (And.intro hT hDK.2); clear hT hDK
    go_wp2_with fail
    refine (told_slot HT.out.1 hi).mono ?_
    rintro e w4 ⟨v4, rfl, hk4, rfl⟩
    go_wp2_with fail
    refine (told_slot (HT.out.1.ext hk4) hj).mono ?_
    rintro e w5 ⟨v5, rfl, hk5, rfl⟩
    go_wp2_with fail
    refine (told_slot ((HT.out.1.ext hk4).ext hk5) hk).mono ?_
    rintro e w6 ⟨v6, rfl, hk6, rfl⟩
    go_wp2
    go_ret
    exact RetF.mk (((((Ext.kp HX2.out).trans HT.out.2).ext hk4).ext hk5).ext hk6) ⟨rfl, _, _, _, ((HT.out.1.ext hk4).ext hk5).ext hk6⟩
  by_cases h3 : kd = 3
  · subst h3
    have HSA := Lib.hid (show ∀ W, Ext W2 W → Calls Try.prog 38 #[sv i, .int .i64 x] W (RetF (fun _ => False) W fun w' r => r = .bool (hasR qi oi x)) from fun W hW => setHas_p HXU.out (HI.out.1.ext hW))
    have HRA := Lib.hid (show ∀ W, Ext W2 W → Calls Try.prog 39 #[mv i, .int .i64 x] W (RetF (fun _ => False) W fun w' r => r = .bool (hasR qi oi x)) from fun W hW => refHas_p (HI.out.2.ext hW))
    go_wp2_with fail
    go_region_held3 (fun w' => w'.cell? ⟨w.heap.size, 3, none⟩ = some (.int .i64 x)) (first | assumption | go_keep)
      (first
        | (go_at_call 38; refine (HSA.out _ (by (first | exact Kp.refl _ | exact (Kp.refl _).drew | exact (Kp.refl _).drewN _))).mono ?_; rintro e w1 ⟨r1, rfl, hk1, rfl⟩; have d3 := hk1.cell (b := w.heap.size) (o := 3) c3 id)
        | (go_at_call 39; refine (HRA.out _ (by (first | exact (Kp.refl _).trans hk1 | exact (Kp.refl _).drew.trans hk1 | exact ((Kp.refl _).drewN _).trans hk1))).mono ?_; rintro e w3 ⟨r3, rfl, hk3, rfl⟩; have d4 := hk3.cell (b := w.heap.size) (o := 3) d3 id))
    have hE : Ext W2 w3 := Kp.trans (by (first | exact (Kp.refl _).trans hk1 | exact (Kp.refl _).drew.trans hk1 | exact ((Kp.refl _).drewN _).trans hk1)) hk3
    have hDK : Desk S U L bd w3 ∧ Kp L W2 w3 := ⟨⟨_, _, _, HD2.out.ext hE⟩, Ext.kp hE⟩
    obtain ⟨sv', mv', G', hT⟩ := hDK.1
    have HT := Lib.hid (And.intro hT hDK.2); clear hT hDK
    go_wp2_with fail
    refine (told_slot HT.out.1 hi).mono ?_
    rintro e w4 ⟨v4, rfl, hk4, rfl⟩
    go_wp2_with fail
    refine (told_slot (HT.out.1.ext hk4) hj).mono ?_
    rintro e w5 ⟨v5, rfl, hk5, rfl⟩
    go_wp2_with fail
    refine (told_slot ((HT.out.1.ext hk4).ext hk5) hk).mono ?_
    rintro e w6 ⟨v6, rfl, hk6, rfl⟩
    go_wp2
    go_ret
    exact RetF.mk (((((Ext.kp HX2.out).trans HT.out.2).ext hk4).ext hk5).ext hk6) ⟨rfl, _, _, _, ((HT.out.1.ext hk4).ext hk5).ext hk6⟩
  by_cases h4 : kd = 4
  · subst h4
    have HSA := Lib.hid (show ∀ W, Ext W2 W → Calls Try.prog 40 #[sv i, .int .i64 x] W (RetF (fun _ => False) W fun w' r => r = .int .i64 (belowR qi oi x : Nat)) from fun W hW => setBelow_p HXU.out (HI.out.1.ext hW))
    have HRA := Lib.hid (show ∀ W, Ext W2 W → Calls Try.prog 41 #[mv i, .int .i64 x] W (RetF (fun _ => False) W fun w' r => r = .int .i64 (belowR qi oi x : Nat)) from fun W hW => refBelow_p (HI.out.2.ext hW))
    go_wp2_with fail
    go_region_held3 (fun w' => w'.cell? ⟨w.heap.size, 3, none⟩ = some (.int .i64 x)) (first | assumption | go_keep)
      (first
        | (go_at_call 40; refine (HSA.out _ (by (first | exact Kp.refl _ | exact (Kp.refl _).drew | exact (Kp.refl _).drewN _))).mono ?_; rintro e w1 ⟨r1, rfl, hk1, rfl⟩; have d3 := hk1.cell (b := w.heap.size) (o := 3) c3 id)
        | (go_at_call 41; refine (HRA.out _ (by (first | exact (Kp.refl _).trans hk1 | exact (Kp.refl _).drew.trans hk1 | exact ((Kp.refl _).drewN _).trans hk1))).mono ?_; rintro e w3 ⟨r3, rfl, hk3, rfl⟩; have d4 := hk3.cell (b := w.heap.size) (o := 3) d3 id))
    have hE : Ext W2 w3 := Kp.trans (by (first | exact (Kp.refl _).trans hk1 | exact (Kp.refl _).drew.trans hk1 | exact ((Kp.refl _).drewN _).trans hk1)) hk3
    have hDK : Desk S U L bd w3 ∧ Kp L W2 w3 := ⟨⟨_, _, _, HD2.out.ext hE⟩, Ext.kp hE⟩
    obtain ⟨sv', mv', G', hT⟩ := hDK.1
    have HT := Lib.hid (And.intro hT hDK.2); clear hT hDK
    go_wp2_with fail
    refine (told_slot HT.out.1 hi).mono ?_
    rintro e w4 ⟨v4, rfl, hk4, rfl⟩
    go_wp2_with fail
    refine (told_slot (HT.out.1.ext hk4) hj).mono ?_
    rintro e w5 ⟨v5, rfl, hk5, rfl⟩
    go_wp2_with fail
    refine (told_slot ((HT.out.1.ext hk4).ext hk5) hk).mono ?_
    rintro e w6 ⟨v6, rfl, hk6, rfl⟩
    go_wp2
    go_ret
    exact RetF.mk (((((Ext.kp HX2.out).trans HT.out.2).ext hk4).ext hk5).ext hk6) ⟨rfl, _, _, _, ((HT.out.1.ext hk4).ext hk5).ext hk6⟩
  by_cases h6 : kd = 6
  · subst h6
    have HSA := Lib.hid (show ∀ W, Ext W2 W → Calls Try.prog 42 #[sv i, sv j] W (RetN W fun w' r => SetP S U qi w' r (unionO qi oi oj) fun k => W.heap.size ≤ k) from fun W hW => setUnion_p hU (HI.out.1.ext hW) (HJ.out.1.ext hW))
    have HRA := Lib.hid (show ∀ W, Ext W2 W → Calls Try.prog 43 #[mv i, mv j] W (RetN W fun w' r => RefP U qi w' r (unionO qi oi oj) fun k => W.heap.size ≤ k) from fun W hW => refUnion_p hU (HI.out.2.ext hW) (HJ.out.2.ext hW))
    have k0 : (k : Int) < 4 := by omega
    go_wp2_with fail
    go_region_held3 (fun _ => True) (first | trivial | go_keep)
      (first
        | (go_at_call 42; refine (HSA.out _ (by (first | exact Kp.refl _ | exact (Kp.refl _).drew | exact (Kp.refl _).drewN _))).mono ?_; rintro e w1 ⟨r1, rfl, hk1, hs1⟩; obtain ⟨p1, rfl⟩ := hs1.isPtr)
        | (go_at_call 43; refine (HRA.out _ (by (first | exact (Kp.refl _).trans hk1 | exact (Kp.refl _).drew.trans hk1 | exact ((Kp.refl _).drewN _).trans hk1))).mono ?_; rintro e w3 ⟨r3, rfl, hk3, hr3⟩; obtain ⟨p3, rfl⟩ := hr3.isPtr; have hE : Ext W2 w3 := Kp.trans (by (first | exact (Kp.refl _).trans hk1 | exact (Kp.refl _).drew.trans hk1 | exact ((Kp.refl _).drewN _).trans hk1)) hk3; have hB3 := HD2.out.blk.ext hE; have f1 := ((HD2.out.ext hE).cells hk).1; have f2 := ((HD2.out.ext hE).cells hk).2; have f3 := hB3.free k; have f4 := hB3.free (4 + k); have f6 := (hB3.set k (.pointer p1)).free (4 + k); have f5 : (w3.setCell ⟨bd, k, none⟩ (.pointer p1)).cell? ⟨bd, 4 + k, none⟩ = some (mv k) := (by rw [(hB3.set k (.pointer p1)).cell', List.getElem?_set_ne (by omega), ← hB3.cell']; exact f2)))
    have hDK := HD2.out.put2 hk (by (first | exact Kp.refl _ | exact (Kp.refl _).drew | exact (Kp.refl _).drewN _)) hk1 hs1 hk3 hr3
    obtain ⟨sv', mv', G', hT⟩ := hDK.1
    have HT := Lib.hid (And.intro hT hDK.2); clear hT hDK
    go_wp2_with fail
    refine (told_slot HT.out.1 hi).mono ?_
    rintro e w4 ⟨v4, rfl, hk4, rfl⟩
    go_wp2_with fail
    refine (told_slot (HT.out.1.ext hk4) hj).mono ?_
    rintro e w5 ⟨v5, rfl, hk5, rfl⟩
    go_wp2_with fail
    refine (told_slot ((HT.out.1.ext hk4).ext hk5) hk).mono ?_
    rintro e w6 ⟨v6, rfl, hk6, rfl⟩
    go_wp2
    go_ret
    exact RetF.mk (((((Ext.kp HX2.out).trans HT.out.2).ext hk4).ext hk5).ext hk6) ⟨rfl, _, _, _, ((HT.out.1.ext hk4).ext hk5).ext hk6⟩
  by_cases h7 : kd = 7
  · subst h7
    have HSA := Lib.hid (show ∀ W, Ext W2 W → Calls Try.prog 44 #[sv i, sv j] W (RetN W fun w' r => SetP S U qi w' r (minusO qi oi oj) fun k => W.heap.size ≤ k) from fun W hW => setMinus_p (HI.out.1.ext hW) (HJ.out.1.ext hW))
    have HRA := Lib.hid (show ∀ W, Ext W2 W → Calls Try.prog 45 #[mv i, mv j] W (RetN W fun w' r => RefP U qi w' r (minusO qi oi oj) fun k => W.heap.size ≤ k) from fun W hW => refMinus_p hU (HI.out.2.ext hW) (HJ.out.2.ext hW))
    have k0 : (k : Int) < 4 := by omega
    go_wp2_with fail
    go_region_held3 (fun _ => True) (first | trivial | go_keep)
      (first
        | (go_at_call 44; refine (HSA.out _ (by (first | exact Kp.refl _ | exact (Kp.refl _).drew | exact (Kp.refl _).drewN _))).mono ?_; rintro e w1 ⟨r1, rfl, hk1, hs1⟩; obtain ⟨p1, rfl⟩ := hs1.isPtr)
        | (go_at_call 45; refine (HRA.out _ (by (first | exact (Kp.refl _).trans hk1 | exact (Kp.refl _).drew.trans hk1 | exact ((Kp.refl _).drewN _).trans hk1))).mono ?_; rintro e w3 ⟨r3, rfl, hk3, hr3⟩; obtain ⟨p3, rfl⟩ := hr3.isPtr; have hE : Ext W2 w3 := Kp.trans (by (first | exact (Kp.refl _).trans hk1 | exact (Kp.refl _).drew.trans hk1 | exact ((Kp.refl _).drewN _).trans hk1)) hk3; have hB3 := HD2.out.blk.ext hE; have f1 := ((HD2.out.ext hE).cells hk).1; have f2 := ((HD2.out.ext hE).cells hk).2; have f3 := hB3.free k; have f4 := hB3.free (4 + k); have f6 := (hB3.set k (.pointer p1)).free (4 + k); have f5 : (w3.setCell ⟨bd, k, none⟩ (.pointer p1)).cell? ⟨bd, 4 + k, none⟩ = some (mv k) := (by rw [(hB3.set k (.pointer p1)).cell', List.getElem?_set_ne (by omega), ← hB3.cell']; exact f2)))
    have hDK := HD2.out.put2 hk (by (first | exact Kp.refl _ | exact (Kp.refl _).drew | exact (Kp.refl _).drewN _)) hk1 hs1 hk3 hr3
    obtain ⟨sv', mv', G', hT⟩ := hDK.1
    have HT := Lib.hid (And.intro hT hDK.2); clear hT hDK
    go_wp2_with fail
    refine (told_slot HT.out.1 hi).mono ?_
    rintro e w4 ⟨v4, rfl, hk4, rfl⟩
    go_wp2_with fail
    refine (told_slot (HT.out.1.ext hk4) hj).mono ?_
    rintro e w5 ⟨v5, rfl, hk5, rfl⟩
    go_wp2_with fail
    refine (told_slot ((HT.out.1.ext hk4).ext hk5) hk).mono ?_
    rintro e w6 ⟨v6, rfl, hk6, rfl⟩
    go_wp2
    go_ret
    exact RetF.mk (((((Ext.kp HX2.out).trans HT.out.2).ext hk4).ext hk5).ext hk6) ⟨rfl, _, _, _, ((HT.out.1.ext hk4).ext hk5).ext hk6⟩
  by_cases h8 : kd = 8
  · subst h8
    have HSA := Lib.hid (show ∀ W, Ext W2 W → Calls Try.prog 46 #[sv i, sv j] W (RetN W fun w' r => SetP S U qi w' r (meetO qi oi oj) fun k => W.heap.size ≤ k) from fun W hW => setMeet_p (HI.out.1.ext hW) (HJ.out.1.ext hW))
    have HRA := Lib.hid (show ∀ W, Ext W2 W → Calls Try.prog 47 #[mv i, mv j] W (RetN W fun w' r => RefP U qi w' r (meetO qi oi oj) fun k => W.heap.size ≤ k) from fun W hW => refMeet_p hU (HI.out.2.ext hW) (HJ.out.2.ext hW))
    have k0 : (k : Int) < 4 := by omega
    go_wp2_with fail
    go_region_held3 (fun _ => True) (first | trivial | go_keep)
      (first
        | (go_at_call 46; refine (HSA.out _ (by (first | exact Kp.refl _ | exact (Kp.refl _).drew | exact (Kp.refl _).drewN _))).mono ?_; rintro e w1 ⟨r1, rfl, hk1, hs1⟩; obtain ⟨p1, rfl⟩ := hs1.isPtr)
        | (go_at_call 47; refine (HRA.out _ (by (first | exact (Kp.refl _).trans hk1 | exact (Kp.refl _).drew.trans hk1 | exact ((Kp.refl _).drewN _).trans hk1))).mono ?_; rintro e w3 ⟨r3, rfl, hk3, hr3⟩; obtain ⟨p3, rfl⟩ := hr3.isPtr; have hE : Ext W2 w3 := Kp.trans (by (first | exact (Kp.refl _).trans hk1 | exact (Kp.refl _).drew.trans hk1 | exact ((Kp.refl _).drewN _).trans hk1)) hk3; have hB3 := HD2.out.blk.ext hE; have f1 := ((HD2.out.ext hE).cells hk).1; have f2 := ((HD2.out.ext hE).cells hk).2; have f3 := hB3.free k; have f4 := hB3.free (4 + k); have f6 := (hB3.set k (.pointer p1)).free (4 + k); have f5 : (w3.setCell ⟨bd, k, none⟩ (.pointer p1)).cell? ⟨bd, 4 + k, none⟩ = some (mv k) := (by rw [(hB3.set k (.pointer p1)).cell', List.getElem?_set_ne (by omega), ← hB3.cell']; exact f2)))
    have hDK := HD2.out.put2 hk (by (first | exact Kp.refl _ | exact (Kp.refl _).drew | exact (Kp.refl _).drewN _)) hk1 hs1 hk3 hr3
    obtain ⟨sv', mv', G', hT⟩ := hDK.1
    have HT := Lib.hid (And.intro hT hDK.2); clear hT hDK
    go_wp2_with fail
    refine (told_slot HT.out.1 hi).mono ?_
    rintro e w4 ⟨v4, rfl, hk4, rfl⟩
    go_wp2_with fail
    refine (told_slot (HT.out.1.ext hk4) hj).mono ?_
    rintro e w5 ⟨v5, rfl, hk5, rfl⟩
    go_wp2_with fail
    refine (told_slot ((HT.out.1.ext hk4).ext hk5) hk).mono ?_
    rintro e w6 ⟨v6, rfl, hk6, rfl⟩
    go_wp2
    go_ret
    exact RetF.mk (((((Ext.kp HX2.out).trans HT.out.2).ext hk4).ext hk5).ext hk6) ⟨rfl, _, _, _, ((HT.out.1.ext hk4).ext hk5).ext hk6⟩
  by_cases h9 : kd = 9
  · subst h9
    have HSA := Lib.hid (show ∀ W, Ext W2 W → Calls Try.prog 48 #[sv i] W (RetN W fun w' r => SetP S U qi w' r (oi) fun k => W.heap.size ≤ k) from fun W hW => setCopy_p (HI.out.1.ext hW))
    have HRA := Lib.hid (show ∀ W, Ext W2 W → Calls Try.prog 49 #[mv i] W (RetN W fun w' r => RefP U qi w' r (oi) fun k => W.heap.size ≤ k) from fun W hW => refCopy_p (HI.out.2.ext hW))
    have k0 : (k : Int) < 4 := by omega
    go_wp2_with fail
    go_region_held3 (fun _ => True) (first | trivial | go_keep)
      (first
        | (go_at_call 48; refine (HSA.out _ (by (first | exact Kp.refl _ | exact (Kp.refl _).drew | exact (Kp.refl _).drewN _))).mono ?_; rintro e w1 ⟨r1, rfl, hk1, hs1⟩; obtain ⟨p1, rfl⟩ := hs1.isPtr)
        | (go_at_call 49; refine (HRA.out _ (by (first | exact (Kp.refl _).trans hk1 | exact (Kp.refl _).drew.trans hk1 | exact ((Kp.refl _).drewN _).trans hk1))).mono ?_; rintro e w3 ⟨r3, rfl, hk3, hr3⟩; obtain ⟨p3, rfl⟩ := hr3.isPtr; have hE : Ext W2 w3 := Kp.trans (by (first | exact (Kp.refl _).trans hk1 | exact (Kp.refl _).drew.trans hk1 | exact ((Kp.refl _).drewN _).trans hk1)) hk3; have hB3 := HD2.out.blk.ext hE; have f1 := ((HD2.out.ext hE).cells hk).1; have f2 := ((HD2.out.ext hE).cells hk).2; have f3 := hB3.free k; have f4 := hB3.free (4 + k); have f6 := (hB3.set k (.pointer p1)).free (4 + k); have f5 : (w3.setCell ⟨bd, k, none⟩ (.pointer p1)).cell? ⟨bd, 4 + k, none⟩ = some (mv k) := (by rw [(hB3.set k (.pointer p1)).cell', List.getElem?_set_ne (by omega), ← hB3.cell']; exact f2)))
    have hDK := HD2.out.put2 hk (by (first | exact Kp.refl _ | exact (Kp.refl _).drew | exact (Kp.refl _).drewN _)) hk1 hs1 hk3 hr3
    obtain ⟨sv', mv', G', hT⟩ := hDK.1
    have HT := Lib.hid (And.intro hT hDK.2); clear hT hDK
    go_wp2_with fail
    refine (told_slot HT.out.1 hi).mono ?_
    rintro e w4 ⟨v4, rfl, hk4, rfl⟩
    go_wp2_with fail
    refine (told_slot (HT.out.1.ext hk4) hj).mono ?_
    rintro e w5 ⟨v5, rfl, hk5, rfl⟩
    go_wp2_with fail
    refine (told_slot ((HT.out.1.ext hk4).ext hk5) hk).mono ?_
    rintro e w6 ⟨v6, rfl, hk6, rfl⟩
    go_wp2
    go_ret
    exact RetF.mk (((((Ext.kp HX2.out).trans HT.out.2).ext hk4).ext hk5).ext hk6) ⟨rfl, _, _, _, ((HT.out.1.ext hk4).ext hk5).ext hk6⟩
  by_cases h10 : kd = 10
  · subst h10
    have HSA := Lib.hid (show ∀ W, Ext W2 W → Calls Try.prog 50 #[sv i, sv j] W (RetF (fun _ => False) W fun w' r => BoolIs (sameR qi oi oj) r) from fun W hW => setSame_p (HI.out.1.ext hW) (HJ.out.1.ext hW))
    have HRA := Lib.hid (show ∀ W, Ext W2 W → Calls Try.prog 51 #[mv i, mv j] W (RetF (fun _ => False) W fun w' r => BoolIs (sameR qi oi oj) r) from fun W hW => refSame_p hU (HI.out.2.ext hW) (HJ.out.2.ext hW))
    go_wp2_with fail
    refine (HSA.out _ (by (first | exact Kp.refl _ | exact (Kp.refl _).drew | exact (Kp.refl _).drewN _))).mono ?_
    rintro e w1 ⟨r1, rfl, hk1, hb1⟩
    go_wp2_with fail
    refine (HRA.out _ (by (first | exact (Kp.refl _).trans hk1 | exact (Kp.refl _).drew.trans hk1 | exact ((Kp.refl _).drewN _).trans hk1))).mono ?_
    rintro e w3 ⟨r3, rfl, hk3, hb3⟩
    have hE : Ext W2 w3 := Kp.trans (by (first | exact (Kp.refl _).trans hk1 | exact (Kp.refl _).drew.trans hk1 | exact ((Kp.refl _).drewN _).trans hk1)) hk3
    obtain ⟨r, rfl, rfl⟩ := hb1.same hb3
    clear hb1 hb3
    have t0 : (r == r) = true := by simp
    have hDK : Desk S U L bd w3 ∧ Kp L W2 w3 := ⟨⟨_, _, _, HD2.out.ext hE⟩, Ext.kp hE⟩
    obtain ⟨sv', mv', G', hT⟩ := hDK.1
    have HT := Lib.hid (And.intro hT hDK.2); clear hT hDK
    go_wp2_with fail
    refine (told_slot HT.out.1 hi).mono ?_
    rintro e w4 ⟨v4, rfl, hk4, rfl⟩
    go_wp2_with fail
    refine (told_slot (HT.out.1.ext hk4) hj).mono ?_
    rintro e w5 ⟨v5, rfl, hk5, rfl⟩
    go_wp2_with fail
    refine (told_slot ((HT.out.1.ext hk4).ext hk5) hk).mono ?_
    rintro e w6 ⟨v6, rfl, hk6, rfl⟩
    go_wp2
    go_ret
    exact RetF.mk (((((Ext.kp HX2.out).trans HT.out.2).ext hk4).ext hk5).ext hk6) ⟨rfl, _, _, _, ((HT.out.1.ext hk4).ext hk5).ext hk6⟩
  · have hDK : Desk S U L bd W2 ∧ Kp L W2 W2 := ⟨⟨_, _, _, HD2.out⟩, Kp.refl _⟩
    obtain ⟨sv', mv', G', hT⟩ := hDK.1
    have HT := Lib.hid (And.intro hT hDK.2); clear hT hDK
    go_wp2_with fail
    refine (told_slot HT.out.1 hi).mono ?_
    rintro e w4 ⟨v4, rfl, hk4, rfl⟩
    go_wp2_with fail
    refine (told_slot (HT.out.1.ext hk4) hj).mono ?_
    rintro e w5 ⟨v5, rfl, hk5, rfl⟩
    go_wp2_with fail
    refine (told_slot ((HT.out.1.ext hk4).ext hk5) hk).mono ?_
    rintro e w6 ⟨v6, rfl, hk6, rfl⟩
    go_wp2
    go_ret
    exact RetF.mk (((((Ext.kp HX2.out).trans HT.out.2).ext hk4).ext hk5).ext hk6) ⟨rfl, _, _, _, ((HT.out.1.ext hk4).ext hk5).ext hk6⟩
end Go.Proofs.Ytfkhelihepbehaa
