/- Proved here: the statement TupleBasesUptoSaid: the law returns true for every input of the bound that the row names and leaves its arguments as they were. No condition of its own. -/
import Derived.Test.YtfkhelihepbehaaGreatBa7
import Derived.Test.YtfkhelihepbehaaGreatRows
import Derived.Deep.CondSized
/- shelf.step: any other kind. -/
namespace Go.Proofs.YtfkhelihepbehaaGreat
open Go.RowKit Go.Shelf
set_option linter.unusedVariables false

set_option maxRecDepth 100000 in
set_option maxHeartbeats 8000000 in
theorem stepSOther_any {lo sd : Nat} {NM : List ByteArray} {S : Nat → Prop} {D : Nat → Place} {name : ByteArray} {ao : Option Addr} {cap : Nat} {ss : List ByteArray} {la : Option Addr} {L : List RelZ} {lcap : Nat} {w : World} (h : StepInS lo sd NM S D name ao ss la L w) (kd who N : Int) (hk : ¬ (1 ≤ kd ∧ kd ≤ 7)) :
    Calls Tryz.prog 32 #[.pointer (some ⟨sd, 0, none⟩), .agg #[.int .i64 kd, .int .i64 who, .int .i64 N, .string name, .slice ao ss.length cap, .slice la L.length lcap]] w (RetF (fun g => lo ≤ g) w (StepPostS lo sd NM)) := by
  have k1 : (kd == 1) = false := by simp; omega
  have k2 : (kd == 2) = false := by simp; omega
  have k3 : (kd == 3) = false := by simp; omega
  have k4 : (kd == 4) = false := by simp; omega
  have k5 : (kd == 5) = false := by simp; omega
  have k6 : (kd == 6) = false := by simp; omega
  have k7 : (kd == 7) = false := by simp; omega
  clear hk
  obtain ⟨i, ei⟩ : ∃ i, placeN who 3 = i := ⟨_, rfl⟩
  have hi : i < 3 := by rw [← ei]; exact placeN_lt _ _ (by decide)
  have EI := Lib.hid (fun W => place_any who 3 (by decide) (by decide) W)
  rw [ei] at EI
  have HI := Lib.hid hi
  have H := Lib.hid h
  have hb0 := Blk.new w [.int .i64 kd, .int .i64 who, .int .i64 N, .string name, .slice ao ss.length cap, .slice la L.length lcap] 68
  obtain ⟨W0, eW0⟩ : ∃ W0, w.alloc (.cells #[.int .i64 kd, .int .i64 who, .int .i64 N, .string name, .slice ao ss.length cap, .slice la L.length lcap] 68) = W0 := ⟨_, rfl⟩
  have x0 : Ext w W0 := by rw [← eW0]; exact (Kp.refl w).alloc _
  rw [show w.alloc (.cells ([.int .i64 kd, .int .i64 who, .int .i64 N, .string name, .slice ao ss.length cap, .slice la L.length lcap] : List Value).toArray 68) = W0 from eW0] at hb0
  have c1 : W0.cell? ⟨w.heap.size, 1, none⟩ = some (.int .i64 who) := by rw [hb0.cell']; rfl
  have c4 : W0.cell? ⟨w.heap.size, 4, none⟩ = some (.slice ao ss.length cap) := by rw [hb0.cell']; rfl
  have c0 : W0.cell? ⟨w.heap.size, 0, none⟩ = some (.int .i64 kd) := by rw [hb0.cell']; rfl
  have HX0 := Lib.hid (And.intro x0 hb0)
  obtain ⟨p, q, ep, eq⟩ := (h.b.place i hi).ptrs
  have d1 := (h.b.ext x0).cb hi
  have d2 := (h.b.ext x0).cm hi
  rw [ep] at d1
  rw [eq] at d2
  have HEP := Lib.hid (And.intro ep eq)
  have i3 : (i : Int) < 3 := by omega
  clear h ei x0 hb0 ep eq hi
  go_enter Tryz.func32, Tryz.ntmps32
  go_wp2_with fail
  refine (EI.out _).mono ?_
  rintro e w' ⟨rfl, rfl⟩
  clear EI eW0
  go_wp2_with fail
  go_region_held3 (fun w' => w'.cell? ⟨sd, i, none⟩ = some (.pointer p) ∧ w'.cell? ⟨sd, 3 + i, none⟩ = some (.pointer q)) (first | exact ⟨by assumption, by assumption⟩ | go_keep) (fail)
  obtain ⟨W1, eW1⟩ : ∃ W1, W1 = W0.drew := ⟨_, rfl⟩
  rw [← eW1]
  have x1 : Ext W0 W1 := by rw [eW1]; exact (Kp.refl W0).drew
  have c0' := x1.cell c0 id
  have c4' := x1.cell c4 id
  have HX1 := Lib.hid (And.intro (HX0.out.1.trans x1) (HX0.out.2.ext x1))
  clear c0 c1 c4 eW1 x1 HX0 d1 d2
  go_wp2_with fail
  refine (lent_any ss ao cap W1 (H.out.row.ext HX1.out.1) (by have := H.out.len; omega)).mono ?_
  rintro e W2 ⟨vl, rfl, hkl, gi, capi, rest, rfl, hgi, hgB, hcapi, hcm⟩
  have hst : StS lo w sd gi w.heap.size (strs (ss ++ [mark1, mark2]) ++ rest) [.int .i64 kd, .int .i64 who, .int .i64 N, .string name, .slice ao ss.length cap, .slice la L.length lcap] NM S D W2 := by
    have hx := HX1.out.1.trans hkl
    have hz := HX1.out.1.size
    have hg : ∀ g, w.heap.size ≤ g → OffS S D sd g := fun g hg => ⟨fun hs => by have := H.out.b.inS g hs; omega, fun e => by have := H.out.b.blk.lt; omega, fun k hk => ⟨fun ho => by have := (H.out.b.place k hk).b.lt g ho; omega, fun ho => by have := (H.out.b.place k hk).m.lt g ho; omega⟩⟩
    exact ⟨H.out.b.ext hx, H.out.l, Ext.kp hx, hgB, hg gi (by omega), by have := H.out.lw; omega, HX1.out.2.ext hkl, hg _ (Nat.le_refl _), H.out.lw, H.out.nm⟩
  have HST := Lib.hid hst
  have HGI := Lib.hid (show w.heap.size ≠ gi ∧ ss.length + 2 ≤ capi from ⟨by have := HX1.out.2.lt; omega, by omega⟩)
  have HROW := Lib.hid (show ∀ W, Kp (fun g => lo ≤ g) w W → CellsAt W ao (strs ss) from fun W hW => by
    rcases H.out.rlo with e0 | hr
    · rw [e0]; exact CellsAt.nil _ _
    · exact H.out.row.kp hW fun a e hf => by have := hr a e; omega)
  have c0 := hkl.cell c0' id
  clear hst hkl hgB c0' c4' HX1 hgi hcapi hcm
  have c3 := HST.out.oB.cell' 3
  have c4 := HST.out.oB.cell' 4
  simp only [List.getElem?_cons_succ, List.getElem?_cons_zero] at c3 c4
  go_wp2_with fail
  refine (kept_any ss gi capi ao cap rest _ HST.out.gB HGI.out.2 (HROW.out _ HST.out.kp) (by have := H.out.len; omega) (fun t ht => by have := H.out.size t ht; omega)).mono ?_
  rintro e wk ⟨vk, rfl, hkk, rfl⟩
  obtain ⟨hbk, hok, hkw⟩ := HST.out.spent hkk HGI.out.1
  have HBK := Lib.hid (And.intro hbk hkw)
  have HTD := Lib.hid (show ∀ (k : Nat), k < 3 → ∀ W, Ext wk W → Calls Tryz.prog 33 #[.pointer (some ⟨sd, 0, none⟩), .int .i64 (k : Int), .string name, .slice ao ss.length cap] W (RetN W fun w' v => v = .bool true) from fun k hk W hW => shelfTold_any (HBK.out.1.ext hW) hk name rfl (HROW.out _ (HBK.out.2.ext hW)) H.out.len H.out.size)
  have d3 := hok.cell' 3
  have d4 := hok.cell' 4
  simp only [List.getElem?_cons_succ, List.getElem?_cons_zero] at d3 d4
  clear hbk hkw hkk c3 c4 hok
  go_wp2_with fail
  refine (HTD.out 0 (by decide) _ (Kp.refl _)).mono ?_
  rintro e wt ⟨vt, rfl, hkt, rfl⟩
  have e3 := hkt.cell d3 id
  have e4 := hkt.cell d4 id
  have HT0 := Lib.hid hkt
  clear hkt d3 d4
  go_wp2_with fail
  refine (HTD.out 1 (by decide) _ HT0.out).mono ?_
  rintro e wt1 ⟨vt, rfl, hkt, rfl⟩
  have d3 := hkt.cell e3 id
  have d4 := hkt.cell e4 id
  have HT1 := Lib.hid (HT0.out.trans hkt)
  clear hkt e3 e4
  go_wp2_with fail
  refine (HTD.out 2 (by decide) _ HT1.out).mono ?_
  rintro e wt2 ⟨vt, rfl, hkt, rfl⟩
  have HT2 := Lib.hid (HT1.out.trans hkt)
  clear hkt d3 d4
  go_wp2
  go_ret
  exact RetF.mk (HBK.out.2.ext HT2.out) ⟨rfl, S, D, HBK.out.1.ext HT2.out, HST.out.l, HST.out.nm⟩
end Go.Proofs.YtfkhelihepbehaaGreat

/- shelf.step: Add. -/
namespace Go.Proofs.YtfkhelihepbehaaGreat
open Go.RowKit Go.Shelf
set_option linter.unusedVariables false

set_option maxRecDepth 100000 in
set_option maxHeartbeats 8000000 in
theorem stepSAdd_any {lo sd : Nat} {NM : List ByteArray} {S : Nat → Prop} {D : Nat → Place} {name : ByteArray} {ao : Option Addr} {cap : Nat} {ss : List ByteArray} {la : Option Addr} {L : List RelZ} {lcap : Nat} {w : World} (h : StepInS lo sd NM S D name ao ss la L w) (who N : Int) :
    Calls Tryz.prog 32 #[.pointer (some ⟨sd, 0, none⟩), .agg #[.int .i64 2, .int .i64 who, .int .i64 N, .string name, .slice ao ss.length cap, .slice la L.length lcap]] w (RetF (fun g => lo ≤ g) w (StepPostS lo sd NM)) := by
  obtain ⟨i, ei⟩ : ∃ i, placeN who 3 = i := ⟨_, rfl⟩
  have hi : i < 3 := by rw [← ei]; exact placeN_lt _ _ (by decide)
  have EI := Lib.hid (fun W => place_any who 3 (by decide) (by decide) W)
  rw [ei] at EI
  have HI := Lib.hid hi
  have H := Lib.hid h
  have hb0 := Blk.new w [.int .i64 2, .int .i64 who, .int .i64 N, .string name, .slice ao ss.length cap, .slice la L.length lcap] 68
  obtain ⟨W0, eW0⟩ : ∃ W0, w.alloc (.cells #[.int .i64 2, .int .i64 who, .int .i64 N, .string name, .slice ao ss.length cap, .slice la L.length lcap] 68) = W0 := ⟨_, rfl⟩
  have x0 : Ext w W0 := by rw [← eW0]; exact (Kp.refl w).alloc _
  rw [show w.alloc (.cells ([.int .i64 2, .int .i64 who, .int .i64 N, .string name, .slice ao ss.length cap, .slice la L.length lcap] : List Value).toArray 68) = W0 from eW0] at hb0
  have c1 : W0.cell? ⟨w.heap.size, 1, none⟩ = some (.int .i64 who) := by rw [hb0.cell']; rfl
  have c4 : W0.cell? ⟨w.heap.size, 4, none⟩ = some (.slice ao ss.length cap) := by rw [hb0.cell']; rfl
  have c0 : W0.cell? ⟨w.heap.size, 0, none⟩ = some (.int .i64 2) := by rw [hb0.cell']; rfl
  have HX0 := Lib.hid (And.intro x0 hb0)
  obtain ⟨p, q, ep, eq⟩ := (h.b.place i hi).ptrs
  have d1 := (h.b.ext x0).cb hi
  have d2 := (h.b.ext x0).cm hi
  rw [ep] at d1
  rw [eq] at d2
  have HEP := Lib.hid (And.intro ep eq)
  have i3 : (i : Int) < 3 := by omega
  clear h ei x0 hb0 ep eq hi
  go_enter Tryz.func32, Tryz.ntmps32
  go_wp2_with fail
  refine (EI.out _).mono ?_
  rintro e w' ⟨rfl, rfl⟩
  clear EI eW0
  go_wp2_with fail
  go_region_held3 (fun w' => w'.cell? ⟨sd, i, none⟩ = some (.pointer p) ∧ w'.cell? ⟨sd, 3 + i, none⟩ = some (.pointer q)) (first | exact ⟨by assumption, by assumption⟩ | go_keep) (fail)
  obtain ⟨W1, eW1⟩ : ∃ W1, W1 = W0.drew := ⟨_, rfl⟩
  rw [← eW1]
  have x1 : Ext W0 W1 := by rw [eW1]; exact (Kp.refl W0).drew
  have c0' := x1.cell c0 id
  have c4' := x1.cell c4 id
  have HX1 := Lib.hid (And.intro (HX0.out.1.trans x1) (HX0.out.2.ext x1))
  clear c0 c1 c4 eW1 x1 HX0 d1 d2
  go_wp2_with fail
  refine (lent_any ss ao cap W1 (H.out.row.ext HX1.out.1) (by have := H.out.len; omega)).mono ?_
  rintro e W2 ⟨vl, rfl, hkl, gi, capi, rest, rfl, hgi, hgB, hcapi, hcm⟩
  have hst : StS lo w sd gi w.heap.size (strs (ss ++ [mark1, mark2]) ++ rest) [.int .i64 2, .int .i64 who, .int .i64 N, .string name, .slice ao ss.length cap, .slice la L.length lcap] NM S D W2 := by
    have hx := HX1.out.1.trans hkl
    have hz := HX1.out.1.size
    have hg : ∀ g, w.heap.size ≤ g → OffS S D sd g := fun g hg => ⟨fun hs => by have := H.out.b.inS g hs; omega, fun e => by have := H.out.b.blk.lt; omega, fun k hk => ⟨fun ho => by have := (H.out.b.place k hk).b.lt g ho; omega, fun ho => by have := (H.out.b.place k hk).m.lt g ho; omega⟩⟩
    exact ⟨H.out.b.ext hx, H.out.l, Ext.kp hx, hgB, hg gi (by omega), by have := H.out.lw; omega, HX1.out.2.ext hkl, hg _ (Nat.le_refl _), H.out.lw, H.out.nm⟩
  have HST := Lib.hid hst
  have HGI := Lib.hid (show w.heap.size ≠ gi ∧ ss.length + 2 ≤ capi from ⟨by have := HX1.out.2.lt; omega, by omega⟩)
  have HROW := Lib.hid (show ∀ W, Kp (fun g => lo ≤ g) w W → CellsAt W ao (strs ss) from fun W hW => by
    rcases H.out.rlo with e0 | hr
    · rw [e0]; exact CellsAt.nil _ _
    · exact H.out.row.kp hW fun a e hf => by have := hr a e; omega)
  have c0 := hkl.cell c0' id
  clear hst hkl hgB c0' c4' HX1 hgi hcapi hcm
  have hi := HI.out
  have hp := HST.out.b.place i hi
  obtain ⟨hxin, hxoff⟩ := HST.out.inRow (cap := capi) H.out.len
  obtain ⟨b1, e1, er⟩ : ∃ b1 e1, codeP (D i).bv (addR (cntE (D i).E) name ss) = (b1, e1) := ⟨_, _, rfl⟩
  have HA := Lib.hid (show Calls Tryz.prog 40 #[.pointer p, .string name, .slice (some ⟨gi, 0, none⟩) ss.length capi] W2 (RetF (D i).ow W2 fun w' u => u = .tuple #[.bool b1, .int .i64 ((e1 : Nat) : Int)] ∧ BaseTo S W2 (D i).bv (D i).ow (listN (D i).bv (cntE (D i).E) (addC (cntE (D i).E) name ss)) w') from by
    rw [← HEP.out.1]
    have := hp.b.add name hxin (hxoff i hi)
    rw [er] at this
    exact this)
  have HMM := Lib.hid (show ∀ W3, Kp (D i).ow W2 W3 → Calls Tryz.prog 64 #[.pointer q, .string name, .slice ao ss.length cap] W3 (RetF (D i).mw W3 fun w' u => u = .tuple #[.bool b1, .int .i64 ((e1 : Nat) : Int)] ∧ RefTo S W3 (D i).mv (D i).mw (listN (D i).mv (cntR (D i).G) (addC (cntR (D i).G) name ss)) w') from fun W3 hk3 => by
    have kp3 := HST.out.kp.trans (hk3.mono fun g _ hg => (HST.out.l.2 i hi).1 g hg)
    have hm3 := hp.m.kp hk3 (fun g hg hm => HST.out.b.bm i i hi hi g hg hm) (fun g hg => hp.b.notS g hg)
    rw [← HEP.out.2]
    have := hm3.add name (xc := cap) rfl (HROW.out _ kp3) (by have := H.out.len; omega) (fun e0 a e ho => by
      rcases H.out.rlo with e1 | hr
      · exact e0 e1
      · have := hr a e; have := (HST.out.l.2 i hi).2 _ ho; omega) (by rw [hp.glen]; have := hp.few; omega)
    rw [hp.codeAdd, er] at this
    exact this)
  have HPost := Lib.hid (show SameC (listN (D i).bv (cntE (D i).E) (addC (cntE (D i).E) name ss)) (listN (D i).mv (cntR (D i).G) (addC (cntR (D i).G) name ss)) ∧ ∀ t x, getC (listN (D i).bv (cntE (D i).E) (addC (cntE (D i).E) name ss)) t = some x → t ∈ NM from ⟨listN_same hp.both hp.same (same_addC hp.b.ok hp.m.ok.ok hp.same name ss), hp.nAdd (HST.out.nm i hi) H.out.nin⟩)
  have c3 := HST.out.oB.cell' 3
  have c4 := HST.out.oB.cell' 4
  simp only [List.getElem?_cons_succ, List.getElem?_cons_zero] at c3 c4
  clear hxin hxoff hp er
  go_wp2_with fail
  refine HA.out.mono ?_
  rintro e W3 ⟨v3, rfl, hk3, rfl, hb3⟩
  have HM := Lib.hid (HMM.out W3 hk3)
  have HK3 := Lib.hid (And.intro hk3 hb3)
  have x3 := hk3.cell c3 fun ho => (HST.out.oO.2.2 i hi).1 ho
  have x4 := hk3.cell c4 fun ho => (HST.out.oO.2.2 i hi).1 ho
  clear hk3 hb3 HMM HA c3 c4
  have tb : (b1 == b1) = true := by simp
  go_wp2_with fail
  refine HM.out.mono ?_
  rintro e W4 ⟨v4, rfl, hk4, rfl, hm4⟩
  obtain ⟨S', D', hst'⟩ := HST.out.both H.out.few hi HK3.out.1 HK3.out.2 hk4 hm4 HPost.out.1 HPost.out.2
  have HST := Lib.hid hst'
  clear hst' hk4 hm4 x3 x4 HM HPost
  go_wp2_with fail
  refine (num_any _ _).mono ?_
  rintro e w' ⟨rfl, rfl⟩
  have c3 := HST.out.oB.cell' 3
  have c4 := HST.out.oB.cell' 4
  simp only [List.getElem?_cons_succ, List.getElem?_cons_zero] at c3 c4
  go_wp2_with fail
  refine (kept_any ss gi capi ao cap rest _ HST.out.gB HGI.out.2 (HROW.out _ HST.out.kp) (by have := H.out.len; omega) (fun t ht => by have := H.out.size t ht; omega)).mono ?_
  rintro e wk ⟨vk, rfl, hkk, rfl⟩
  obtain ⟨hbk, hok, hkw⟩ := HST.out.spent hkk HGI.out.1
  have HBK := Lib.hid (And.intro hbk hkw)
  have HTD := Lib.hid (show ∀ (k : Nat), k < 3 → ∀ W, Ext wk W → Calls Tryz.prog 33 #[.pointer (some ⟨sd, 0, none⟩), .int .i64 (k : Int), .string name, .slice ao ss.length cap] W (RetN W fun w' v => v = .bool true) from fun k hk W hW => shelfTold_any (HBK.out.1.ext hW) hk name rfl (HROW.out _ (HBK.out.2.ext hW)) H.out.len H.out.size)
  have d3 := hok.cell' 3
  have d4 := hok.cell' 4
  simp only [List.getElem?_cons_succ, List.getElem?_cons_zero] at d3 d4
  clear hbk hkw hkk c3 c4 hok
  go_wp2_with fail
  refine (HTD.out 0 (by decide) _ (Kp.refl _)).mono ?_
  rintro e wt ⟨vt, rfl, hkt, rfl⟩
  have e3 := hkt.cell d3 id
  have e4 := hkt.cell d4 id
  have HT0 := Lib.hid hkt
  clear hkt d3 d4
  go_wp2_with fail
  refine (HTD.out 1 (by decide) _ HT0.out).mono ?_
  rintro e wt1 ⟨vt, rfl, hkt, rfl⟩
  have d3 := hkt.cell e3 id
  have d4 := hkt.cell e4 id
  have HT1 := Lib.hid (HT0.out.trans hkt)
  clear hkt e3 e4
  go_wp2_with fail
  refine (HTD.out 2 (by decide) _ HT1.out).mono ?_
  rintro e wt2 ⟨vt, rfl, hkt, rfl⟩
  have HT2 := Lib.hid (HT1.out.trans hkt)
  clear hkt d3 d4
  go_wp2
  go_ret
  exact RetF.mk (HBK.out.2.ext HT2.out) ⟨rfl, S', D', HBK.out.1.ext HT2.out, HST.out.l, HST.out.nm⟩
end Go.Proofs.YtfkhelihepbehaaGreat

/- shelf.step: Drop. -/
namespace Go.Proofs.YtfkhelihepbehaaGreat
open Go.RowKit Go.Shelf
set_option linter.unusedVariables false

set_option maxRecDepth 100000 in
set_option maxHeartbeats 8000000 in
theorem stepSDrop_any {lo sd : Nat} {NM : List ByteArray} {S : Nat → Prop} {D : Nat → Place} {name : ByteArray} {ao : Option Addr} {cap : Nat} {ss : List ByteArray} {la : Option Addr} {L : List RelZ} {lcap : Nat} {w : World} (h : StepInS lo sd NM S D name ao ss la L w) (who N : Int) :
    Calls Tryz.prog 32 #[.pointer (some ⟨sd, 0, none⟩), .agg #[.int .i64 3, .int .i64 who, .int .i64 N, .string name, .slice ao ss.length cap, .slice la L.length lcap]] w (RetF (fun g => lo ≤ g) w (StepPostS lo sd NM)) := by
  obtain ⟨i, ei⟩ : ∃ i, placeN who 3 = i := ⟨_, rfl⟩
  have hi : i < 3 := by rw [← ei]; exact placeN_lt _ _ (by decide)
  have EI := Lib.hid (fun W => place_any who 3 (by decide) (by decide) W)
  rw [ei] at EI
  have HI := Lib.hid hi
  have H := Lib.hid h
  have hb0 := Blk.new w [.int .i64 3, .int .i64 who, .int .i64 N, .string name, .slice ao ss.length cap, .slice la L.length lcap] 68
  obtain ⟨W0, eW0⟩ : ∃ W0, w.alloc (.cells #[.int .i64 3, .int .i64 who, .int .i64 N, .string name, .slice ao ss.length cap, .slice la L.length lcap] 68) = W0 := ⟨_, rfl⟩
  have x0 : Ext w W0 := by rw [← eW0]; exact (Kp.refl w).alloc _
  rw [show w.alloc (.cells ([.int .i64 3, .int .i64 who, .int .i64 N, .string name, .slice ao ss.length cap, .slice la L.length lcap] : List Value).toArray 68) = W0 from eW0] at hb0
  have c1 : W0.cell? ⟨w.heap.size, 1, none⟩ = some (.int .i64 who) := by rw [hb0.cell']; rfl
  have c4 : W0.cell? ⟨w.heap.size, 4, none⟩ = some (.slice ao ss.length cap) := by rw [hb0.cell']; rfl
  have c0 : W0.cell? ⟨w.heap.size, 0, none⟩ = some (.int .i64 3) := by rw [hb0.cell']; rfl
  have HX0 := Lib.hid (And.intro x0 hb0)
  obtain ⟨p, q, ep, eq⟩ := (h.b.place i hi).ptrs
  have d1 := (h.b.ext x0).cb hi
  have d2 := (h.b.ext x0).cm hi
  rw [ep] at d1
  rw [eq] at d2
  have HEP := Lib.hid (And.intro ep eq)
  have i3 : (i : Int) < 3 := by omega
  clear h ei x0 hb0 ep eq hi
  go_enter Tryz.func32, Tryz.ntmps32
  go_wp2_with fail
  refine (EI.out _).mono ?_
  rintro e w' ⟨rfl, rfl⟩
  clear EI eW0
  go_wp2_with fail
  go_region_held3 (fun w' => w'.cell? ⟨sd, i, none⟩ = some (.pointer p) ∧ w'.cell? ⟨sd, 3 + i, none⟩ = some (.pointer q)) (first | exact ⟨by assumption, by assumption⟩ | go_keep) (fail)
  obtain ⟨W1, eW1⟩ : ∃ W1, W1 = W0.drew := ⟨_, rfl⟩
  rw [← eW1]
  have x1 : Ext W0 W1 := by rw [eW1]; exact (Kp.refl W0).drew
  have c0' := x1.cell c0 id
  have c4' := x1.cell c4 id
  have HX1 := Lib.hid (And.intro (HX0.out.1.trans x1) (HX0.out.2.ext x1))
  clear c0 c1 c4 eW1 x1 HX0 d1 d2
  go_wp2_with fail
  refine (lent_any ss ao cap W1 (H.out.row.ext HX1.out.1) (by have := H.out.len; omega)).mono ?_
  rintro e W2 ⟨vl, rfl, hkl, gi, capi, rest, rfl, hgi, hgB, hcapi, hcm⟩
  have hst : StS lo w sd gi w.heap.size (strs (ss ++ [mark1, mark2]) ++ rest) [.int .i64 3, .int .i64 who, .int .i64 N, .string name, .slice ao ss.length cap, .slice la L.length lcap] NM S D W2 := by
    have hx := HX1.out.1.trans hkl
    have hz := HX1.out.1.size
    have hg : ∀ g, w.heap.size ≤ g → OffS S D sd g := fun g hg => ⟨fun hs => by have := H.out.b.inS g hs; omega, fun e => by have := H.out.b.blk.lt; omega, fun k hk => ⟨fun ho => by have := (H.out.b.place k hk).b.lt g ho; omega, fun ho => by have := (H.out.b.place k hk).m.lt g ho; omega⟩⟩
    exact ⟨H.out.b.ext hx, H.out.l, Ext.kp hx, hgB, hg gi (by omega), by have := H.out.lw; omega, HX1.out.2.ext hkl, hg _ (Nat.le_refl _), H.out.lw, H.out.nm⟩
  have HST := Lib.hid hst
  have HGI := Lib.hid (show w.heap.size ≠ gi ∧ ss.length + 2 ≤ capi from ⟨by have := HX1.out.2.lt; omega, by omega⟩)
  have HROW := Lib.hid (show ∀ W, Kp (fun g => lo ≤ g) w W → CellsAt W ao (strs ss) from fun W hW => by
    rcases H.out.rlo with e0 | hr
    · rw [e0]; exact CellsAt.nil _ _
    · exact H.out.row.kp hW fun a e hf => by have := hr a e; omega)
  have c0 := hkl.cell c0' id
  clear hst hkl hgB c0' c4' HX1 hgi hcapi hcm
  have hi := HI.out
  have hp := HST.out.b.place i hi
  obtain ⟨hxin, hxoff⟩ := HST.out.inRow (cap := capi) H.out.len
  obtain ⟨b1, e1, er⟩ : ∃ b1 e1, codeP (D i).bv (dropR (cntE (D i).E) name ss) = (b1, e1) := ⟨_, _, rfl⟩
  have HA := Lib.hid (show Calls Tryz.prog 65 #[.pointer p, .string name, .slice (some ⟨gi, 0, none⟩) ss.length capi] W2 (RetF (D i).ow W2 fun w' u => u = .tuple #[.bool b1, .int .i64 ((e1 : Nat) : Int)] ∧ BaseTo S W2 (D i).bv (D i).ow (listN (D i).bv (cntE (D i).E) (dropC (cntE (D i).E) name ss)) w') from by
    rw [← HEP.out.1]
    have := hp.b.drop name hxin (hxoff i hi)
    rw [er] at this
    exact this)
  have HMM := Lib.hid (show ∀ W3, Kp (D i).ow W2 W3 → Calls Tryz.prog 66 #[.pointer q, .string name, .slice ao ss.length cap] W3 (RetF (D i).mw W3 fun w' u => u = .tuple #[.bool b1, .int .i64 ((e1 : Nat) : Int)] ∧ RefTo S W3 (D i).mv (D i).mw (listN (D i).mv (cntR (D i).G) (dropC (cntR (D i).G) name ss)) w') from fun W3 hk3 => by
    have kp3 := HST.out.kp.trans (hk3.mono fun g _ hg => (HST.out.l.2 i hi).1 g hg)
    have hm3 := hp.m.kp hk3 (fun g hg hm => HST.out.b.bm i i hi hi g hg hm) (fun g hg => hp.b.notS g hg)
    rw [← HEP.out.2]
    have := hm3.drop name (xc := cap) rfl (HROW.out _ kp3) (by have := H.out.len; omega) 
    rw [hp.codeDrop, er] at this
    exact this)
  have HPost := Lib.hid (show SameC (listN (D i).bv (cntE (D i).E) (dropC (cntE (D i).E) name ss)) (listN (D i).mv (cntR (D i).G) (dropC (cntR (D i).G) name ss)) ∧ ∀ t x, getC (listN (D i).bv (cntE (D i).E) (dropC (cntE (D i).E) name ss)) t = some x → t ∈ NM from ⟨listN_same hp.both hp.same (same_dropC hp.same name ss), hp.nDrop (HST.out.nm i hi) H.out.nin⟩)
  have c3 := HST.out.oB.cell' 3
  have c4 := HST.out.oB.cell' 4
  simp only [List.getElem?_cons_succ, List.getElem?_cons_zero] at c3 c4
  clear hxin hxoff hp er
  go_wp2_with fail
  refine HA.out.mono ?_
  rintro e W3 ⟨v3, rfl, hk3, rfl, hb3⟩
  have HM := Lib.hid (HMM.out W3 hk3)
  have HK3 := Lib.hid (And.intro hk3 hb3)
  have x3 := hk3.cell c3 fun ho => (HST.out.oO.2.2 i hi).1 ho
  have x4 := hk3.cell c4 fun ho => (HST.out.oO.2.2 i hi).1 ho
  clear hk3 hb3 HMM HA c3 c4
  have tb : (b1 == b1) = true := by simp
  go_wp2_with fail
  refine HM.out.mono ?_
  rintro e W4 ⟨v4, rfl, hk4, rfl, hm4⟩
  obtain ⟨S', D', hst'⟩ := HST.out.both H.out.few hi HK3.out.1 HK3.out.2 hk4 hm4 HPost.out.1 HPost.out.2
  have HST := Lib.hid hst'
  clear hst' hk4 hm4 x3 x4 HM HPost
  go_wp2_with fail
  refine (num_any _ _).mono ?_
  rintro e w' ⟨rfl, rfl⟩
  have c3 := HST.out.oB.cell' 3
  have c4 := HST.out.oB.cell' 4
  simp only [List.getElem?_cons_succ, List.getElem?_cons_zero] at c3 c4
  go_wp2_with fail
  refine (kept_any ss gi capi ao cap rest _ HST.out.gB HGI.out.2 (HROW.out _ HST.out.kp) (by have := H.out.len; omega) (fun t ht => by have := H.out.size t ht; omega)).mono ?_
  rintro e wk ⟨vk, rfl, hkk, rfl⟩
  obtain ⟨hbk, hok, hkw⟩ := HST.out.spent hkk HGI.out.1
  have HBK := Lib.hid (And.intro hbk hkw)
  have HTD := Lib.hid (show ∀ (k : Nat), k < 3 → ∀ W, Ext wk W → Calls Tryz.prog 33 #[.pointer (some ⟨sd, 0, none⟩), .int .i64 (k : Int), .string name, .slice ao ss.length cap] W (RetN W fun w' v => v = .bool true) from fun k hk W hW => shelfTold_any (HBK.out.1.ext hW) hk name rfl (HROW.out _ (HBK.out.2.ext hW)) H.out.len H.out.size)
  have d3 := hok.cell' 3
  have d4 := hok.cell' 4
  simp only [List.getElem?_cons_succ, List.getElem?_cons_zero] at d3 d4
  clear hbk hkw hkk c3 c4 hok
  go_wp2_with fail
  refine (HTD.out 0 (by decide) _ (Kp.refl _)).mono ?_
  rintro e wt ⟨vt, rfl, hkt, rfl⟩
  have e3 := hkt.cell d3 id
  have e4 := hkt.cell d4 id
  have HT0 := Lib.hid hkt
  clear hkt d3 d4
  go_wp2_with fail
  refine (HTD.out 1 (by decide) _ HT0.out).mono ?_
  rintro e wt1 ⟨vt, rfl, hkt, rfl⟩
  have d3 := hkt.cell e3 id
  have d4 := hkt.cell e4 id
  have HT1 := Lib.hid (HT0.out.trans hkt)
  clear hkt e3 e4
  go_wp2_with fail
  refine (HTD.out 2 (by decide) _ HT1.out).mono ?_
  rintro e wt2 ⟨vt, rfl, hkt, rfl⟩
  have HT2 := Lib.hid (HT1.out.trans hkt)
  clear hkt d3 d4
  go_wp2
  go_ret
  exact RetF.mk (HBK.out.2.ext HT2.out) ⟨rfl, S', D', HBK.out.1.ext HT2.out, HST.out.l, HST.out.nm⟩
end Go.Proofs.YtfkhelihepbehaaGreat

/- shelf.step: Declare. -/
namespace Go.Proofs.YtfkhelihepbehaaGreat
open Go.RowKit Go.Shelf
set_option linter.unusedVariables false

set_option maxRecDepth 100000 in
set_option maxHeartbeats 8000000 in
theorem stepSDecl_any {lo sd : Nat} {NM : List ByteArray} {S : Nat → Prop} {D : Nat → Place} {name : ByteArray} {ao : Option Addr} {cap : Nat} {ss : List ByteArray} {la : Option Addr} {L : List RelZ} {lcap : Nat} {w : World} (h : StepInS lo sd NM S D name ao ss la L w) (who N : Int) :
    Calls Tryz.prog 32 #[.pointer (some ⟨sd, 0, none⟩), .agg #[.int .i64 1, .int .i64 who, .int .i64 N, .string name, .slice ao ss.length cap, .slice la L.length lcap]] w (RetF (fun g => lo ≤ g) w (StepPostS lo sd NM)) := by
  obtain ⟨i, ei⟩ : ∃ i, placeN who 3 = i := ⟨_, rfl⟩
  have hi : i < 3 := by rw [← ei]; exact placeN_lt _ _ (by decide)
  have EI := Lib.hid (fun W => place_any who 3 (by decide) (by decide) W)
  rw [ei] at EI
  have HI := Lib.hid hi
  have H := Lib.hid h
  have hb0 := Blk.new w [.int .i64 1, .int .i64 who, .int .i64 N, .string name, .slice ao ss.length cap, .slice la L.length lcap] 68
  obtain ⟨W0, eW0⟩ : ∃ W0, w.alloc (.cells #[.int .i64 1, .int .i64 who, .int .i64 N, .string name, .slice ao ss.length cap, .slice la L.length lcap] 68) = W0 := ⟨_, rfl⟩
  have x0 : Ext w W0 := by rw [← eW0]; exact (Kp.refl w).alloc _
  rw [show w.alloc (.cells ([.int .i64 1, .int .i64 who, .int .i64 N, .string name, .slice ao ss.length cap, .slice la L.length lcap] : List Value).toArray 68) = W0 from eW0] at hb0
  have c1 : W0.cell? ⟨w.heap.size, 1, none⟩ = some (.int .i64 who) := by rw [hb0.cell']; rfl
  have c4 : W0.cell? ⟨w.heap.size, 4, none⟩ = some (.slice ao ss.length cap) := by rw [hb0.cell']; rfl
  have c0 : W0.cell? ⟨w.heap.size, 0, none⟩ = some (.int .i64 1) := by rw [hb0.cell']; rfl
  have HX0 := Lib.hid (And.intro x0 hb0)
  obtain ⟨p, q, ep, eq⟩ := (h.b.place i hi).ptrs
  have d1 := (h.b.ext x0).cb hi
  have d2 := (h.b.ext x0).cm hi
  rw [ep] at d1
  rw [eq] at d2
  have HEP := Lib.hid (And.intro ep eq)
  have i3 : (i : Int) < 3 := by omega
  clear h ei x0 hb0 ep eq hi
  go_enter Tryz.func32, Tryz.ntmps32
  go_wp2_with fail
  refine (EI.out _).mono ?_
  rintro e w' ⟨rfl, rfl⟩
  clear EI eW0
  go_wp2_with fail
  go_region_held3 (fun w' => w'.cell? ⟨sd, i, none⟩ = some (.pointer p) ∧ w'.cell? ⟨sd, 3 + i, none⟩ = some (.pointer q)) (first | exact ⟨by assumption, by assumption⟩ | go_keep) (fail)
  obtain ⟨W1, eW1⟩ : ∃ W1, W1 = W0.drew := ⟨_, rfl⟩
  rw [← eW1]
  have x1 : Ext W0 W1 := by rw [eW1]; exact (Kp.refl W0).drew
  have c0' := x1.cell c0 id
  have c4' := x1.cell c4 id
  have HX1 := Lib.hid (And.intro (HX0.out.1.trans x1) (HX0.out.2.ext x1))
  clear c0 c1 c4 eW1 x1 HX0 d1 d2
  go_wp2_with fail
  refine (lent_any ss ao cap W1 (H.out.row.ext HX1.out.1) (by have := H.out.len; omega)).mono ?_
  rintro e W2 ⟨vl, rfl, hkl, gi, capi, rest, rfl, hgi, hgB, hcapi, hcm⟩
  have hst : StS lo w sd gi w.heap.size (strs (ss ++ [mark1, mark2]) ++ rest) [.int .i64 1, .int .i64 who, .int .i64 N, .string name, .slice ao ss.length cap, .slice la L.length lcap] NM S D W2 := by
    have hx := HX1.out.1.trans hkl
    have hz := HX1.out.1.size
    have hg : ∀ g, w.heap.size ≤ g → OffS S D sd g := fun g hg => ⟨fun hs => by have := H.out.b.inS g hs; omega, fun e => by have := H.out.b.blk.lt; omega, fun k hk => ⟨fun ho => by have := (H.out.b.place k hk).b.lt g ho; omega, fun ho => by have := (H.out.b.place k hk).m.lt g ho; omega⟩⟩
    exact ⟨H.out.b.ext hx, H.out.l, Ext.kp hx, hgB, hg gi (by omega), by have := H.out.lw; omega, HX1.out.2.ext hkl, hg _ (Nat.le_refl _), H.out.lw, H.out.nm⟩
  have HST := Lib.hid hst
  have HGI := Lib.hid (show w.heap.size ≠ gi ∧ ss.length + 2 ≤ capi from ⟨by have := HX1.out.2.lt; omega, by omega⟩)
  have HROW := Lib.hid (show ∀ W, Kp (fun g => lo ≤ g) w W → CellsAt W ao (strs ss) from fun W hW => by
    rcases H.out.rlo with e0 | hr
    · rw [e0]; exact CellsAt.nil _ _
    · exact H.out.row.kp hW fun a e hf => by have := hr a e; omega)
  have c0 := hkl.cell c0' id
  clear hst hkl hgB c0' c4' HX1 hgi hcapi hcm
  have hi := HI.out
  have hst2 := HST.out.ext (Kp.refl W2).drew
  have hp := hst2.b.place i hi
  obtain ⟨e1, er⟩ : ∃ e1, codeN (D i).bv (declR (cntE (D i).E) name N) = e1 := ⟨_, rfl⟩
  have HA := Lib.hid (show Calls Tryz.prog 56 #[.pointer p, .string name, .int .i64 N] W2.drew (RetF (D i).ow W2.drew fun w' u => u = .int .i64 ((e1 : Nat) : Int) ∧ BaseTo S W2.drew (D i).bv (D i).ow (listN (D i).bv (cntE (D i).E) (declC (cntE (D i).E) name N)) w') from by
    rw [← HEP.out.1]
    have := hp.b.decl name N
    rw [er] at this
    exact this)
  have HMM := Lib.hid (show ∀ W3, Kp (D i).ow W2.drew W3 → Calls Tryz.prog 63 #[.pointer q, .string name, .int .i64 N] W3 (RetF (D i).mw W3 fun w' u => u = .int .i64 ((e1 : Nat) : Int) ∧ RefTo S W3 (D i).mv (D i).mw (listN (D i).mv (cntR (D i).G) (declC (cntR (D i).G) name N)) w') from fun W3 hk3 => by
    have hm3 := hp.m.kp hk3 (fun g hg hm => hst2.b.bm i i hi hi g hg hm) (fun g hg => hp.b.notS g hg)
    rw [← HEP.out.2]
    have := hm3.decl name N (by rw [hp.glen]; have := hp.few; omega)
    rw [hp.codeDecl, er] at this
    exact this)
  have HPost := Lib.hid (show SameC (listN (D i).bv (cntE (D i).E) (declC (cntE (D i).E) name N)) (listN (D i).mv (cntR (D i).G) (declC (cntR (D i).G) name N)) ∧ ∀ t x, getC (listN (D i).bv (cntE (D i).E) (declC (cntE (D i).E) name N)) t = some x → t ∈ NM from ⟨listN_same hp.both hp.same (same_declC hp.same name N), hp.nDecl (HST.out.nm i hi) H.out.nin⟩)
  have HCC := Lib.hid (show ∀ W3, Blk W3 w.heap.size [.int .i64 1, .int .i64 who, .int .i64 N, .string name, .slice ao ss.length cap, .slice la L.length lcap] 68 → W3.cell? ⟨w.heap.size, 3, none⟩ = some (.string name) ∧ W3.cell? ⟨w.heap.size, 2, none⟩ = some (.int .i64 N) from fun W3 h => ⟨by rw [h.cell']; rfl, by rw [h.cell']; rfl⟩)
  have HB3 := Lib.hid (show ∀ W3, Kp (D i).ow W2.drew W3 → Blk W3 w.heap.size [.int .i64 1, .int .i64 who, .int .i64 N, .string name, .slice ao ss.length cap, .slice la L.length lcap] 68 from fun W3 hk => hst2.oB.kp hk fun ho => (HST.out.oO.2.2 i hi).1 ho)
  have HB4 := Lib.hid (show ∀ W3 W4, Blk W3 w.heap.size [.int .i64 1, .int .i64 who, .int .i64 N, .string name, .slice ao ss.length cap, .slice la L.length lcap] 68 → Kp (D i).mw W3 W4 → Blk W4 w.heap.size [.int .i64 1, .int .i64 who, .int .i64 N, .string name, .slice ao ss.length cap, .slice la L.length lcap] 68 from fun W3 W4 h hk => h.kp hk fun ho => (HST.out.oO.2.2 i hi).2 ho)
  have HS2 := Lib.hid hst2
  have tb : ((e1 : Int) == (e1 : Int)) = true := by simp
  clear hp er hst2
  go_wp2
  refine draw_begin (fun w' : World => w'.cell? ⟨w.heap.size, 3, none⟩ = some (.string name) ∧ w'.cell? ⟨w.heap.size, 2, none⟩ = some (.int .i64 N)) [] (by kernel_rfl) (HCC.out _ HS2.out.oB) (fun hHeld => ?_)
  (refine draw_free (i := 0) (v := ?_) rfl ?_ ?_; rotate_left; (intro w; go_simp; try with_reducible rfl)); (try simp only [Act.put, List.setIfInBounds_toArray, List.set_cons_zero, List.set_cons_succ])
  (refine draw_free (i := 1) (v := ?_) rfl ?_ ?_; rotate_left; (intro w; go_simp; try with_reducible rfl)); (try simp only [Act.put, List.setIfInBounds_toArray, List.set_cons_zero, List.set_cons_succ])
  (refine draw_in (i := 2) (v := ?_) rfl ?_ ?_; rotate_left; (intro w hSw; (try dsimp only at hSw); go_simp; try with_reducible rfl)); (try simp only [Act.put, List.setIfInBounds_toArray, List.set_cons_zero, List.set_cons_succ])
  (refine draw_free (i := 3) (v := ?_) rfl ?_ ?_; rotate_left; (intro w; go_simp; try with_reducible rfl)); (try simp only [Act.put, List.setIfInBounds_toArray, List.set_cons_zero, List.set_cons_succ])
  (refine draw_in (i := 4) (v := ?_) rfl ?_ ?_; rotate_left; (intro w hSw; (try dsimp only at hSw); go_simp; try with_reducible rfl)); (try simp only [Act.put, List.setIfInBounds_toArray, List.set_cons_zero, List.set_cons_succ])
  (refine draw_free (i := 7) (v := ?_) rfl ?_ ?_; rotate_left; (intro w; go_simp; try with_reducible rfl)); (try simp only [Act.put, List.setIfInBounds_toArray, List.set_cons_zero, List.set_cons_succ])
  (refine draw_free (i := 8) (v := ?_) rfl ?_ ?_; rotate_left; (intro w; go_simp; try with_reducible rfl)); (try simp only [Act.put, List.setIfInBounds_toArray, List.set_cons_zero, List.set_cons_succ])
  (refine draw_in (i := 9) (v := ?_) rfl ?_ ?_; rotate_left; (intro w hSw; (try dsimp only at hSw); go_simp; try with_reducible rfl)); (try simp only [Act.put, List.setIfInBounds_toArray, List.set_cons_zero, List.set_cons_succ])
  (refine draw_free (i := 10) (v := ?_) rfl ?_ ?_; rotate_left; (intro w; go_simp; try with_reducible rfl)); (try simp only [Act.put, List.setIfInBounds_toArray, List.set_cons_zero, List.set_cons_succ])
  (refine draw_in (i := 11) (v := ?_) rfl ?_ ?_; rotate_left; (intro w hSw; (try dsimp only at hSw); go_simp; try with_reducible rfl)); (try simp only [Act.put, List.setIfInBounds_toArray, List.set_cons_zero, List.set_cons_succ])
  refine draw_one (i := 5) ?_
  refine comes_turn (i := 5) rfl (fun K hK => ?_)
  go_simp
  (refine HA.out.mono ?_; rintro e W3 ⟨v3, rfl, hk3, rfl, hb3⟩; have HM := Lib.hid (HMM.out W3 hk3); have HK3 := Lib.hid (And.intro hk3 hb3); clear hk3 hb3)
  go_wp2_with fail
  refine hK.out _ _ ?_ (fun hHeld => ?_)
  · (try dsimp only); (exact HCC.out _ (HB3.out _ HK3.out.1))
  clear hK K; (try simp only [Act.put, List.setIfInBounds_toArray, List.set_cons_zero, List.set_cons_succ])
  refine draw_one (i := 6) ?_
  refine comes_turn (i := 6) rfl (fun K hK => ?_)
  go_simp
  (refine (num_any _ _).mono ?_; rintro e w' ⟨rfl, rfl⟩)
  go_wp2_with fail
  refine hK.out _ _ ?_ (fun hHeld => ?_)
  · (try dsimp only); (exact HCC.out _ (HB3.out _ HK3.out.1))
  clear hK K; (try simp only [Act.put, List.setIfInBounds_toArray, List.set_cons_zero, List.set_cons_succ])
  refine draw_one (i := 12) ?_
  refine comes_turn (i := 12) rfl (fun K hK => ?_)
  go_simp
  (refine HM.out.mono ?_; rintro e W4 ⟨v4, rfl, hk4, rfl, hm4⟩; have HK4 := Lib.hid (And.intro hk4 hm4); clear hk4 hm4)
  go_wp2_with fail
  refine hK.out _ _ ?_ (fun hHeld => ?_)
  · (try dsimp only); (exact HCC.out _ (HB4.out _ _ (HB3.out _ HK3.out.1) HK4.out.1))
  clear hK K; (try simp only [Act.put, List.setIfInBounds_toArray, List.set_cons_zero, List.set_cons_succ])
  (refine draw_free (i := 13) (v := ?_) rfl ?_ ?_; rotate_left; (intro w; go_simp; try with_reducible rfl)); (try simp only [Act.put, List.setIfInBounds_toArray, List.set_cons_zero, List.set_cons_succ])
  (refine draw_free (i := 14) (v := ?_) rfl ?_ ?_; rotate_left; (intro w; go_simp; try with_reducible rfl)); (try simp only [Act.put, List.setIfInBounds_toArray, List.set_cons_zero, List.set_cons_succ])
  refine wpAnyD_done (by kernel_rfl) ?_ _
  clear hHeld
  obtain ⟨S', D', hst'⟩ := HS2.out.both H.out.few hi HK3.out.1 HK3.out.2 HK4.out.1 HK4.out.2 HPost.out.1 HPost.out.2
  have HST := Lib.hid hst'
  clear hst' HM HPost HS2 HK3 HK4 HB3 HB4 HCC HA HMM
  have c3 := HST.out.oB.cell' 3
  have c4 := HST.out.oB.cell' 4
  simp only [List.getElem?_cons_succ, List.getElem?_cons_zero] at c3 c4
  go_wp2_with fail
  refine (kept_any ss gi capi ao cap rest _ HST.out.gB HGI.out.2 (HROW.out _ HST.out.kp) (by have := H.out.len; omega) (fun t ht => by have := H.out.size t ht; omega)).mono ?_
  rintro e wk ⟨vk, rfl, hkk, rfl⟩
  obtain ⟨hbk, hok, hkw⟩ := HST.out.spent hkk HGI.out.1
  have HBK := Lib.hid (And.intro hbk hkw)
  have HTD := Lib.hid (show ∀ (k : Nat), k < 3 → ∀ W, Ext wk W → Calls Tryz.prog 33 #[.pointer (some ⟨sd, 0, none⟩), .int .i64 (k : Int), .string name, .slice ao ss.length cap] W (RetN W fun w' v => v = .bool true) from fun k hk W hW => shelfTold_any (HBK.out.1.ext hW) hk name rfl (HROW.out _ (HBK.out.2.ext hW)) H.out.len H.out.size)
  have d3 := hok.cell' 3
  have d4 := hok.cell' 4
  simp only [List.getElem?_cons_succ, List.getElem?_cons_zero] at d3 d4
  clear hbk hkw hkk c3 c4 hok
  go_wp2_with fail
  refine (HTD.out 0 (by decide) _ (Kp.refl _)).mono ?_
  rintro e wt ⟨vt, rfl, hkt, rfl⟩
  have e3 := hkt.cell d3 id
  have e4 := hkt.cell d4 id
  have HT0 := Lib.hid hkt
  clear hkt d3 d4
  go_wp2_with fail
  refine (HTD.out 1 (by decide) _ HT0.out).mono ?_
  rintro e wt1 ⟨vt, rfl, hkt, rfl⟩
  have d3 := hkt.cell e3 id
  have d4 := hkt.cell e4 id
  have HT1 := Lib.hid (HT0.out.trans hkt)
  clear hkt e3 e4
  go_wp2_with fail
  refine (HTD.out 2 (by decide) _ HT1.out).mono ?_
  rintro e wt2 ⟨vt, rfl, hkt, rfl⟩
  have HT2 := Lib.hid (HT1.out.trans hkt)
  clear hkt d3 d4
  go_wp2
  go_ret
  exact RetF.mk (HBK.out.2.ext HT2.out) ⟨rfl, S', D', HBK.out.1.ext HT2.out, HST.out.l, HST.out.nm⟩
end Go.Proofs.YtfkhelihepbehaaGreat

/- shelf.step: Merge. -/
namespace Go.Proofs.YtfkhelihepbehaaGreat
open Go.RowKit Go.Shelf
set_option linter.unusedVariables false

set_option maxRecDepth 100000 in
set_option maxHeartbeats 8000000 in
theorem stepSMerge_any {lo sd : Nat} {NM : List ByteArray} {S : Nat → Prop} {D : Nat → Place} {name : ByteArray} {ao : Option Addr} {cap : Nat} {ss : List ByteArray} {la : Option Addr} {L : List RelZ} {lcap : Nat} {w : World} (h : StepInS lo sd NM S D name ao ss la L w) (who N : Int) :
    Calls Tryz.prog 32 #[.pointer (some ⟨sd, 0, none⟩), .agg #[.int .i64 4, .int .i64 who, .int .i64 N, .string name, .slice ao ss.length cap, .slice la L.length lcap]] w (RetF (fun g => lo ≤ g) w (StepPostS lo sd NM)) := by
  obtain ⟨i, ei⟩ : ∃ i, placeN who 3 = i := ⟨_, rfl⟩
  have hi : i < 3 := by rw [← ei]; exact placeN_lt _ _ (by decide)
  have EI := Lib.hid (fun W => place_any who 3 (by decide) (by decide) W)
  rw [ei] at EI
  have HI := Lib.hid hi
  have H := Lib.hid h
  have hb0 := Blk.new w [.int .i64 4, .int .i64 who, .int .i64 N, .string name, .slice ao ss.length cap, .slice la L.length lcap] 68
  obtain ⟨W0, eW0⟩ : ∃ W0, w.alloc (.cells #[.int .i64 4, .int .i64 who, .int .i64 N, .string name, .slice ao ss.length cap, .slice la L.length lcap] 68) = W0 := ⟨_, rfl⟩
  have x0 : Ext w W0 := by rw [← eW0]; exact (Kp.refl w).alloc _
  rw [show w.alloc (.cells ([.int .i64 4, .int .i64 who, .int .i64 N, .string name, .slice ao ss.length cap, .slice la L.length lcap] : List Value).toArray 68) = W0 from eW0] at hb0
  have c1 : W0.cell? ⟨w.heap.size, 1, none⟩ = some (.int .i64 who) := by rw [hb0.cell']; rfl
  have c4 : W0.cell? ⟨w.heap.size, 4, none⟩ = some (.slice ao ss.length cap) := by rw [hb0.cell']; rfl
  have c0 : W0.cell? ⟨w.heap.size, 0, none⟩ = some (.int .i64 4) := by rw [hb0.cell']; rfl
  have HX0 := Lib.hid (And.intro x0 hb0)
  obtain ⟨p, q, ep, eq⟩ := (h.b.place i hi).ptrs
  have d1 := (h.b.ext x0).cb hi
  have d2 := (h.b.ext x0).cm hi
  rw [ep] at d1
  rw [eq] at d2
  have HEP := Lib.hid (And.intro ep eq)
  have i3 : (i : Int) < 3 := by omega
  clear h ei x0 hb0 ep eq hi
  go_enter Tryz.func32, Tryz.ntmps32
  go_wp2_with fail
  refine (EI.out _).mono ?_
  rintro e w' ⟨rfl, rfl⟩
  clear EI eW0
  go_wp2_with fail
  go_region_held3 (fun w' => w'.cell? ⟨sd, i, none⟩ = some (.pointer p) ∧ w'.cell? ⟨sd, 3 + i, none⟩ = some (.pointer q)) (first | exact ⟨by assumption, by assumption⟩ | go_keep) (fail)
  obtain ⟨W1, eW1⟩ : ∃ W1, W1 = W0.drew := ⟨_, rfl⟩
  rw [← eW1]
  have x1 : Ext W0 W1 := by rw [eW1]; exact (Kp.refl W0).drew
  have c0' := x1.cell c0 id
  have c4' := x1.cell c4 id
  have HX1 := Lib.hid (And.intro (HX0.out.1.trans x1) (HX0.out.2.ext x1))
  clear c0 c1 c4 eW1 x1 HX0 d1 d2
  go_wp2_with fail
  refine (lent_any ss ao cap W1 (H.out.row.ext HX1.out.1) (by have := H.out.len; omega)).mono ?_
  rintro e W2 ⟨vl, rfl, hkl, gi, capi, rest, rfl, hgi, hgB, hcapi, hcm⟩
  have hst : StS lo w sd gi w.heap.size (strs (ss ++ [mark1, mark2]) ++ rest) [.int .i64 4, .int .i64 who, .int .i64 N, .string name, .slice ao ss.length cap, .slice la L.length lcap] NM S D W2 := by
    have hx := HX1.out.1.trans hkl
    have hz := HX1.out.1.size
    have hg : ∀ g, w.heap.size ≤ g → OffS S D sd g := fun g hg => ⟨fun hs => by have := H.out.b.inS g hs; omega, fun e => by have := H.out.b.blk.lt; omega, fun k hk => ⟨fun ho => by have := (H.out.b.place k hk).b.lt g ho; omega, fun ho => by have := (H.out.b.place k hk).m.lt g ho; omega⟩⟩
    exact ⟨H.out.b.ext hx, H.out.l, Ext.kp hx, hgB, hg gi (by omega), by have := H.out.lw; omega, HX1.out.2.ext hkl, hg _ (Nat.le_refl _), H.out.lw, H.out.nm⟩
  have HST := Lib.hid hst
  have HGI := Lib.hid (show w.heap.size ≠ gi ∧ ss.length + 2 ≤ capi from ⟨by have := HX1.out.2.lt; omega, by omega⟩)
  have HROW := Lib.hid (show ∀ W, Kp (fun g => lo ≤ g) w W → CellsAt W ao (strs ss) from fun W hW => by
    rcases H.out.rlo with e0 | hr
    · rw [e0]; exact CellsAt.nil _ _
    · exact H.out.row.kp hW fun a e hf => by have := hr a e; omega)
  have c0 := hkl.cell c0' id
  clear hst hkl hgB c0' c4' HX1 hgi hcapi hcm
  have hi := HI.out
  obtain ⟨j, ej⟩ : ∃ j, placeN N 3 = j := ⟨_, rfl⟩
  have hj : j < 3 := by rw [← ej]; exact placeN_lt _ _ (by decide)
  have EJ := Lib.hid (fun W => place_any N 3 (by decide) (by decide) W)
  rw [ej] at EJ
  have HJ := Lib.hid hj
  have hst2 := HST.out.ext (Kp.refl W2).drew
  have hp := hst2.b.place i hi
  have hq := hst2.b.place j hj
  obtain ⟨pj, qj, epj, eqj⟩ := hq.ptrs
  obtain ⟨e1, er⟩ : ∃ e1, codeN (D i).bv (codeN (D j).bv (mergeR (cntE (D i).E) (cntE (D j).E))) = e1 := ⟨_, rfl⟩
  have HA := Lib.hid (show Calls Tryz.prog 67 #[.pointer p, .pointer pj] W2.drew (RetF (D i).ow W2.drew fun w' u => u = .int .i64 ((e1 : Nat) : Int) ∧ BaseTo S W2.drew (D i).bv (D i).ow (listN (D i).bv (cntE (D i).E) (listN (D j).bv (cntE (D i).E) (if mergeR (cntE (D i).E) (cntE (D j).E) = 0 then mergeL (cntE (D i).E) (cntE (D j).E) else cntE (D i).E))) w') from by
    rw [← HEP.out.1, ← epj]
    have := hp.b.merge hq.b hp.few hq.few
    rw [er] at this
    exact this)
  have HMM := Lib.hid (show ∀ W3, Kp (D i).ow W2.drew W3 → Calls Tryz.prog 68 #[.pointer q, .pointer qj] W3 (RetF (D i).mw W3 fun w' u => u = .int .i64 ((e1 : Nat) : Int) ∧ RefTo S W3 (D i).mv (D i).mw (listN (D i).mv (cntR (D i).G) (listN (D j).mv (cntR (D i).G) (if mergeR (cntR (D i).G) (cntR (D j).G) = 0 then mergeL (cntR (D i).G) (cntR (D j).G) else cntR (D i).G))) w') from fun W3 hk3 => by
    have hm3 := hp.m.kp hk3 (fun g hg hm => hst2.b.bm i i hi hi g hg hm) (fun g hg => hp.b.notS g hg)
    have hm4 := hq.m.kp hk3 (fun g hg hm => hst2.b.bm i j hi hj g hg hm) (fun g hg => hp.b.notS g hg)
    rw [← HEP.out.2, ← eqj]
    have := hm3.merge hm4 (by rw [hp.glen]; exact hp.few) (by rw [hq.glen]; exact hq.few)
    rw [hp.codeMerge hq, er] at this
    exact this)
  have HPost := Lib.hid (show SameC (listN (D i).bv (cntE (D i).E) (listN (D j).bv (cntE (D i).E) (if mergeR (cntE (D i).E) (cntE (D j).E) = 0 then mergeL (cntE (D i).E) (cntE (D j).E) else cntE (D i).E))) (listN (D i).mv (cntR (D i).G) (listN (D j).mv (cntR (D i).G) (if mergeR (cntR (D i).G) (cntR (D j).G) = 0 then mergeL (cntR (D i).G) (cntR (D j).G) else cntR (D i).G))) ∧ ∀ t x, getC (listN (D i).bv (cntE (D i).E) (listN (D j).bv (cntE (D i).E) (if mergeR (cntE (D i).E) (cntE (D j).E) = 0 then mergeL (cntE (D i).E) (cntE (D j).E) else cntE (D i).E))) t = some x → t ∈ NM from ⟨hp.cMerge hq, hp.nMerge hq (HST.out.nm i hi) (HST.out.nm j hj)⟩)
  have HCC := Lib.hid (show ∀ W3, Kp (fun g => (D i).ow g ∨ (D i).mw g) W2.drew W3 → W3.cell? ⟨sd, j, none⟩ = some (.pointer pj) ∧ W3.cell? ⟨sd, 3 + j, none⟩ = some (.pointer qj) from fun W3 hk => by
    have d1 := hst2.b.cb hj
    have d2 := hst2.b.cm hj
    rw [epj] at d1
    rw [eqj] at d2
    exact ⟨hk.cell d1 fun h => h.elim (hst2.b.off i hi).1 (hst2.b.off i hi).2, hk.cell d2 fun h => h.elim (hst2.b.off i hi).1 (hst2.b.off i hi).2⟩)
  have HS2 := Lib.hid hst2
  have tb : ((e1 : Int) == (e1 : Int)) = true := by simp
  have j3 : (j : Int) < 3 := by omega
  have c2 := HST.out.oB.cell' 2
  simp only [List.getElem?_cons_succ, List.getElem?_cons_zero] at c2
  clear hp hq er hst2 epj eqj ej hj
  go_wp2_with fail
  refine (EJ.out _).mono ?_
  rintro e w' ⟨rfl, rfl⟩
  clear EJ c2
  go_wp2
  refine draw_begin (fun w' : World => w'.cell? ⟨sd, j, none⟩ = some (.pointer pj) ∧ w'.cell? ⟨sd, 3 + j, none⟩ = some (.pointer qj)) [] (by kernel_rfl) (HCC.out _ (Kp.refl _)) (fun hHeld => ?_)
  (refine draw_free (i := 0) (v := ?_) rfl ?_ ?_; rotate_left; (intro w; go_simp; try with_reducible rfl)); (try simp only [Act.put, List.setIfInBounds_toArray, List.set_cons_zero, List.set_cons_succ])
  (refine draw_free (i := 1) (v := ?_) rfl ?_ ?_; rotate_left; (intro w; go_simp; try with_reducible rfl)); (try simp only [Act.put, List.setIfInBounds_toArray, List.set_cons_zero, List.set_cons_succ])
  (refine draw_free (i := 2) (v := ?_) rfl ?_ ?_; rotate_left; (intro w; go_simp; try with_reducible rfl)); (try simp only [Act.put, List.setIfInBounds_toArray, List.set_cons_zero, List.set_cons_succ])
  (refine draw_free (i := 3) (v := ?_) rfl ?_ ?_; rotate_left; (intro w; go_simp; try with_reducible rfl)); (try simp only [Act.put, List.setIfInBounds_toArray, List.set_cons_zero, List.set_cons_succ])
  (refine draw_free (i := 4) (v := ?_) rfl ?_ ?_; rotate_left; (intro w; go_simp; try with_reducible rfl)); (try simp only [Act.put, List.setIfInBounds_toArray, List.set_cons_zero, List.set_cons_succ])
  (refine draw_in (i := 5) (v := ?_) rfl ?_ ?_; rotate_left; (intro w hSw; (try dsimp only at hSw); go_simp; try with_reducible rfl)); (try simp only [Act.put, List.setIfInBounds_toArray, List.set_cons_zero, List.set_cons_succ])
  (refine draw_in (i := 6) (v := ?_) rfl ?_ ?_; rotate_left; (intro w hSw; (try dsimp only at hSw); go_simp; try with_reducible rfl)); (try simp only [Act.put, List.setIfInBounds_toArray, List.set_cons_zero, List.set_cons_succ])
  (refine draw_free (i := 9) (v := ?_) rfl ?_ ?_; rotate_left; (intro w; go_simp; try with_reducible rfl)); (try simp only [Act.put, List.setIfInBounds_toArray, List.set_cons_zero, List.set_cons_succ])
  (refine draw_free (i := 10) (v := ?_) rfl ?_ ?_; rotate_left; (intro w; go_simp; try with_reducible rfl)); (try simp only [Act.put, List.setIfInBounds_toArray, List.set_cons_zero, List.set_cons_succ])
  (refine draw_free (i := 11) (v := ?_) rfl ?_ ?_; rotate_left; (intro w; go_simp; try with_reducible rfl)); (try simp only [Act.put, List.setIfInBounds_toArray, List.set_cons_zero, List.set_cons_succ])
  (refine draw_free (i := 12) (v := ?_) rfl ?_ ?_; rotate_left; (intro w; go_simp; try with_reducible rfl)); (try simp only [Act.put, List.setIfInBounds_toArray, List.set_cons_zero, List.set_cons_succ])
  (refine draw_free (i := 13) (v := ?_) rfl ?_ ?_; rotate_left; (intro w; go_simp; try with_reducible rfl)); (try simp only [Act.put, List.setIfInBounds_toArray, List.set_cons_zero, List.set_cons_succ])
  (refine draw_in (i := 14) (v := ?_) rfl ?_ ?_; rotate_left; (intro w hSw; (try dsimp only at hSw); go_simp; try with_reducible rfl)); (try simp only [Act.put, List.setIfInBounds_toArray, List.set_cons_zero, List.set_cons_succ])
  (refine draw_in (i := 15) (v := ?_) rfl ?_ ?_; rotate_left; (intro w hSw; (try dsimp only at hSw); go_simp; try with_reducible rfl)); (try simp only [Act.put, List.setIfInBounds_toArray, List.set_cons_zero, List.set_cons_succ])
  refine draw_one (i := 7) ?_
  refine comes_turn (i := 7) rfl (fun K hK => ?_)
  go_simp
  (refine HA.out.mono ?_; rintro e W3 ⟨v3, rfl, hk3, rfl, hb3⟩; have HM := Lib.hid (HMM.out W3 hk3); have HK3 := Lib.hid (And.intro hk3 hb3); clear hk3 hb3)
  go_wp2_with fail
  refine hK.out _ _ ?_ (fun hHeld => ?_)
  · (try dsimp only); (exact HCC.out _ (HK3.out.1.mono fun _ _ h => .inl h))
  clear hK K; (try simp only [Act.put, List.setIfInBounds_toArray, List.set_cons_zero, List.set_cons_succ])
  refine draw_one (i := 8) ?_
  refine comes_turn (i := 8) rfl (fun K hK => ?_)
  go_simp
  (refine (num_any _ _).mono ?_; rintro e w' ⟨rfl, rfl⟩)
  go_wp2_with fail
  refine hK.out _ _ ?_ (fun hHeld => ?_)
  · (try dsimp only); (exact HCC.out _ (HK3.out.1.mono fun _ _ h => .inl h))
  clear hK K; (try simp only [Act.put, List.setIfInBounds_toArray, List.set_cons_zero, List.set_cons_succ])
  refine draw_one (i := 16) ?_
  refine comes_turn (i := 16) rfl (fun K hK => ?_)
  go_simp
  (refine HM.out.mono ?_; rintro e W4 ⟨v4, rfl, hk4, rfl, hm4⟩; have HK4 := Lib.hid (And.intro hk4 hm4); clear hk4 hm4)
  go_wp2_with fail
  refine hK.out _ _ ?_ (fun hHeld => ?_)
  · (try dsimp only); (exact HCC.out _ ((HK3.out.1.mono fun _ _ h => .inl h).trans (HK4.out.1.mono fun _ _ h => .inr h)))
  clear hK K; (try simp only [Act.put, List.setIfInBounds_toArray, List.set_cons_zero, List.set_cons_succ])
  (refine draw_free (i := 17) (v := ?_) rfl ?_ ?_; rotate_left; (intro w; go_simp; try with_reducible rfl)); (try simp only [Act.put, List.setIfInBounds_toArray, List.set_cons_zero, List.set_cons_succ])
  (refine draw_free (i := 18) (v := ?_) rfl ?_ ?_; rotate_left; (intro w; go_simp; try with_reducible rfl)); (try simp only [Act.put, List.setIfInBounds_toArray, List.set_cons_zero, List.set_cons_succ])
  refine wpAnyD_done (by kernel_rfl) ?_ _
  clear hHeld
  obtain ⟨S', D', hst'⟩ := HS2.out.both H.out.few hi HK3.out.1 HK3.out.2 HK4.out.1 HK4.out.2 HPost.out.1 HPost.out.2
  have HST := Lib.hid hst'
  clear hst' HM HPost HS2 HK3 HK4 HCC HA HMM
  have c3 := HST.out.oB.cell' 3
  have c4 := HST.out.oB.cell' 4
  simp only [List.getElem?_cons_succ, List.getElem?_cons_zero] at c3 c4
  go_wp2_with fail
  refine (kept_any ss gi capi ao cap rest _ HST.out.gB HGI.out.2 (HROW.out _ HST.out.kp) (by have := H.out.len; omega) (fun t ht => by have := H.out.size t ht; omega)).mono ?_
  rintro e wk ⟨vk, rfl, hkk, rfl⟩
  obtain ⟨hbk, hok, hkw⟩ := HST.out.spent hkk HGI.out.1
  have HBK := Lib.hid (And.intro hbk hkw)
  have HTD := Lib.hid (show ∀ (k : Nat), k < 3 → ∀ W, Ext wk W → Calls Tryz.prog 33 #[.pointer (some ⟨sd, 0, none⟩), .int .i64 (k : Int), .string name, .slice ao ss.length cap] W (RetN W fun w' v => v = .bool true) from fun k hk W hW => shelfTold_any (HBK.out.1.ext hW) hk name rfl (HROW.out _ (HBK.out.2.ext hW)) H.out.len H.out.size)
  have d3 := hok.cell' 3
  have d4 := hok.cell' 4
  simp only [List.getElem?_cons_succ, List.getElem?_cons_zero] at d3 d4
  clear hbk hkw hkk c3 c4 hok
  go_wp2_with fail
  refine (HTD.out 0 (by decide) _ (Kp.refl _)).mono ?_
  rintro e wt ⟨vt, rfl, hkt, rfl⟩
  have e3 := hkt.cell d3 id
  have e4 := hkt.cell d4 id
  have HT0 := Lib.hid hkt
  clear hkt d3 d4
  go_wp2_with fail
  refine (HTD.out 1 (by decide) _ HT0.out).mono ?_
  rintro e wt1 ⟨vt, rfl, hkt, rfl⟩
  have d3 := hkt.cell e3 id
  have d4 := hkt.cell e4 id
  have HT1 := Lib.hid (HT0.out.trans hkt)
  clear hkt e3 e4
  go_wp2_with fail
  refine (HTD.out 2 (by decide) _ HT1.out).mono ?_
  rintro e wt2 ⟨vt, rfl, hkt, rfl⟩
  have HT2 := Lib.hid (HT1.out.trans hkt)
  clear hkt d3 d4
  go_wp2
  go_ret
  exact RetF.mk (HBK.out.2.ext HT2.out) ⟨rfl, S', D', HBK.out.1.ext HT2.out, HST.out.l, HST.out.nm⟩
end Go.Proofs.YtfkhelihepbehaaGreat

/- shelf.step: NewBase. -/
namespace Go.Proofs.YtfkhelihepbehaaGreat
open Go.RowKit Go.Shelf
set_option linter.unusedVariables false

set_option maxRecDepth 100000 in
set_option maxHeartbeats 8000000 in
theorem stepSNew_any {lo sd : Nat} {NM : List ByteArray} {S : Nat → Prop} {D : Nat → Place} {name : ByteArray} {ao : Option Addr} {cap : Nat} {ss : List ByteArray} {la : Option Addr} {L : List RelZ} {lcap : Nat} {w : World} (h : StepInS lo sd NM S D name ao ss la L w) (who N : Int) :
    Calls Tryz.prog 32 #[.pointer (some ⟨sd, 0, none⟩), .agg #[.int .i64 7, .int .i64 who, .int .i64 N, .string name, .slice ao ss.length cap, .slice la L.length lcap]] w (RetF (fun g => lo ≤ g) w (StepPostS lo sd NM)) := by
  obtain ⟨i, ei⟩ : ∃ i, placeN who 3 = i := ⟨_, rfl⟩
  have hi : i < 3 := by rw [← ei]; exact placeN_lt _ _ (by decide)
  have EI := Lib.hid (fun W => place_any who 3 (by decide) (by decide) W)
  rw [ei] at EI
  have HI := Lib.hid hi
  have H := Lib.hid h
  have hb0 := Blk.new w [.int .i64 7, .int .i64 who, .int .i64 N, .string name, .slice ao ss.length cap, .slice la L.length lcap] 68
  obtain ⟨W0, eW0⟩ : ∃ W0, w.alloc (.cells #[.int .i64 7, .int .i64 who, .int .i64 N, .string name, .slice ao ss.length cap, .slice la L.length lcap] 68) = W0 := ⟨_, rfl⟩
  have x0 : Ext w W0 := by rw [← eW0]; exact (Kp.refl w).alloc _
  rw [show w.alloc (.cells ([.int .i64 7, .int .i64 who, .int .i64 N, .string name, .slice ao ss.length cap, .slice la L.length lcap] : List Value).toArray 68) = W0 from eW0] at hb0
  have c1 : W0.cell? ⟨w.heap.size, 1, none⟩ = some (.int .i64 who) := by rw [hb0.cell']; rfl
  have c4 : W0.cell? ⟨w.heap.size, 4, none⟩ = some (.slice ao ss.length cap) := by rw [hb0.cell']; rfl
  have c0 : W0.cell? ⟨w.heap.size, 0, none⟩ = some (.int .i64 7) := by rw [hb0.cell']; rfl
  have HX0 := Lib.hid (And.intro x0 hb0)
  obtain ⟨p, q, ep, eq⟩ := (h.b.place i hi).ptrs
  have d1 := (h.b.ext x0).cb hi
  have d2 := (h.b.ext x0).cm hi
  rw [ep] at d1
  rw [eq] at d2
  have HEP := Lib.hid (And.intro ep eq)
  have i3 : (i : Int) < 3 := by omega
  clear h ei x0 hb0 ep eq hi
  go_enter Tryz.func32, Tryz.ntmps32
  go_wp2_with fail
  refine (EI.out _).mono ?_
  rintro e w' ⟨rfl, rfl⟩
  clear EI eW0
  obtain ⟨nx, enx⟩ : ∃ nx : Nat, (i + 1) % 2 = nx := ⟨_, rfl⟩
  have HNX := Lib.hid (show nx < 2 from by omega)
  have en : ((i : Int) + 1) % 2 = (nx : Int) := by omega
  have HEN := Lib.hid en
  clear enx en
  go_wp2_with fail
  rw [HEN.out]
  go_region_held3 (fun w' => w'.cell? ⟨sd, i, none⟩ = some (.pointer p) ∧ w'.cell? ⟨sd, 3 + i, none⟩ = some (.pointer q)) (first | exact ⟨by assumption, by assumption⟩ | go_keep) (fail)
  obtain ⟨W1, eW1⟩ : ∃ W1, W1 = W0.drew := ⟨_, rfl⟩
  rw [← eW1]
  have x1 : Ext W0 W1 := by rw [eW1]; exact (Kp.refl W0).drew
  have c0' := x1.cell c0 id
  have c4' := x1.cell c4 id
  have HX1 := Lib.hid (And.intro (HX0.out.1.trans x1) (HX0.out.2.ext x1))
  clear c0 c1 c4 eW1 x1 HX0 d1 d2
  go_wp2_with fail
  refine (lent_any ss ao cap W1 (H.out.row.ext HX1.out.1) (by have := H.out.len; omega)).mono ?_
  rintro e W2 ⟨vl, rfl, hkl, gi, capi, rest, rfl, hgi, hgB, hcapi, hcm⟩
  have hst : StS lo w sd gi w.heap.size (strs (ss ++ [mark1, mark2]) ++ rest) [.int .i64 7, .int .i64 who, .int .i64 N, .string name, .slice ao ss.length cap, .slice la L.length lcap] NM S D W2 := by
    have hx := HX1.out.1.trans hkl
    have hz := HX1.out.1.size
    have hg : ∀ g, w.heap.size ≤ g → OffS S D sd g := fun g hg => ⟨fun hs => by have := H.out.b.inS g hs; omega, fun e => by have := H.out.b.blk.lt; omega, fun k hk => ⟨fun ho => by have := (H.out.b.place k hk).b.lt g ho; omega, fun ho => by have := (H.out.b.place k hk).m.lt g ho; omega⟩⟩
    exact ⟨H.out.b.ext hx, H.out.l, Ext.kp hx, hgB, hg gi (by omega), by have := H.out.lw; omega, HX1.out.2.ext hkl, hg _ (Nat.le_refl _), H.out.lw, H.out.nm⟩
  have HST := Lib.hid hst
  have HGI := Lib.hid (show w.heap.size ≠ gi ∧ ss.length + 2 ≤ capi from ⟨by have := HX1.out.2.lt; omega, by omega⟩)
  have HROW := Lib.hid (show ∀ W, Kp (fun g => lo ≤ g) w W → CellsAt W ao (strs ss) from fun W hW => by
    rcases H.out.rlo with e0 | hr
    · rw [e0]; exact CellsAt.nil _ _
    · exact H.out.row.kp hW fun a e hf => by have := hr a e; omega)
  have c0 := hkl.cell c0' id
  clear hst hkl hgB c0' c4' HX1 hgi hcapi hcm
  have hst2 := HST.out.ext (Kp.refl W2).drew
  have HS2 := Lib.hid hst2
  have HN := Lib.hid (newB_any S W2.drew hst2.b.inS)
  have HNM := Lib.hid (show ∀ W3, Ext W2.drew W3 → Calls Tryz.prog 31 #[] W3 (RetN W3 fun w' v => ∃ c, v = .pointer (some ⟨c, 0, none⟩) ∧ RefB S w' c [] ∧ W3.heap.size ≤ c) from fun W3 hk => refNew_any' S W3 (hst2.ext hk).b.inS)
  have n3 : (nx : Int) < 3 := by have := HNX.out; omega
  have hn3 : nx < 3 := by have := HNX.out; omega
  have HN3 := Lib.hid hn3
  clear hst2 hn3
  go_wp2
  refine draw_begin (fun _ : World => True) [] (by kernel_rfl) trivial (fun hHeld => ?_)
  (refine draw_free (i := 0) (v := ?_) rfl ?_ ?_; rotate_left; (intro w; go_simp; try with_reducible rfl)); (try simp only [Act.put, List.setIfInBounds_toArray, List.set_cons_zero, List.set_cons_succ])
  (refine draw_free (i := 1) (v := ?_) rfl ?_ ?_; rotate_left; (intro w; go_simp; try with_reducible rfl)); (try simp only [Act.put, List.setIfInBounds_toArray, List.set_cons_zero, List.set_cons_succ])
  (refine draw_free (i := 2) (v := ?_) rfl ?_ ?_; rotate_left; (intro w; go_simp; try with_reducible rfl)); (try simp only [Act.put, List.setIfInBounds_toArray, List.set_cons_zero, List.set_cons_succ])
  (refine draw_free (i := 3) (v := ?_) rfl ?_ ?_; rotate_left; (intro w; go_simp; try with_reducible rfl)); (try simp only [Act.put, List.setIfInBounds_toArray, List.set_cons_zero, List.set_cons_succ])
  (refine draw_free (i := 6) (v := ?_) rfl ?_ ?_; rotate_left; (intro w; go_simp; try with_reducible rfl)); (try simp only [Act.put, List.setIfInBounds_toArray, List.set_cons_zero, List.set_cons_succ])
  (refine draw_free (i := 7) (v := ?_) rfl ?_ ?_; rotate_left; (intro w; go_simp; try with_reducible rfl)); (try simp only [Act.put, List.setIfInBounds_toArray, List.set_cons_zero, List.set_cons_succ])
  (refine draw_free (i := 10) (v := ?_) rfl ?_ ?_; rotate_left; (intro w; go_simp; try with_reducible rfl)); (try simp only [Act.put, List.setIfInBounds_toArray, List.set_cons_zero, List.set_cons_succ])
  (refine draw_free (i := 11) (v := ?_) rfl ?_ ?_; rotate_left; (intro w; go_simp; try with_reducible rfl)); (try simp only [Act.put, List.setIfInBounds_toArray, List.set_cons_zero, List.set_cons_succ])
  refine draw_one (i := 4) ?_
  refine comes_turn (i := 4) rfl (fun K hK => ?_)
  go_simp
  (refine HN.out.mono ?_; rintro e W3 ⟨v3, rfl, hk3, nb, nr, rfl, hB3, hn3⟩; have HM := Lib.hid (HNM.out W3 hk3); have HK3 := Lib.hid (And.intro hk3 (And.intro hB3 hn3)); clear hk3 hB3 hn3)
  go_wp2_with fail
  refine hK.out _ _ ?_ (fun hHeld => ?_)
  · (try dsimp only); (first | done | exact trivial)
  clear hK K; (try simp only [Act.put, List.setIfInBounds_toArray, List.set_cons_zero, List.set_cons_succ])
  refine draw_one (i := 5) ?_
  refine comes_turn (i := 5) rfl (fun K hK => ?_)
  go_simp
  (refine HM.out.mono ?_; rintro e W4 ⟨v4, rfl, hk4, nc, rfl, hR4, hc4⟩; have hst4 := HS2.out.ext (HK3.out.1.trans hk4); have s1 := hst4.b.cb HN3.out; have z1 := hst4.b.blk.free nx; have HK4 := Lib.hid (And.intro hk4 (And.intro hR4 (And.intro hc4 hst4))); clear hk4 hR4 hc4 hst4)
  go_wp2_with fail
  refine hK.out _ _ ?_ (fun hHeld => ?_)
  · (try dsimp only); (first | done | exact trivial)
  clear hK K; (try simp only [Act.put, List.setIfInBounds_toArray, List.set_cons_zero, List.set_cons_succ])
  (refine draw_in (i := 8) (v := ?_) rfl ?_ ?_; rotate_left; (intro w hSw; (try dsimp only at hSw); go_simp; try with_reducible rfl)); (try simp only [Act.put, List.setIfInBounds_toArray, List.set_cons_zero, List.set_cons_succ])
  refine draw_one (i := 9) ?_
  refine comes_turn (i := 9) rfl (fun K hK => ?_)
  go_simp
  refine hK.out _ _ ?_ (fun hHeld => ?_)
  · (try dsimp only); (first | done | exact trivial)
  clear hK K; (try simp only [Act.put, List.setIfInBounds_toArray, List.set_cons_zero, List.set_cons_succ])
  (refine draw_in (i := 12) (v := ?_) rfl ?_ ?_; rotate_left; (intro w hSw; (try dsimp only at hSw); go_simp; try with_reducible rfl)); (try simp only [Act.put, List.setIfInBounds_toArray, List.set_cons_zero, List.set_cons_succ])
  refine draw_one (i := 13) ?_
  refine comes_turn (i := 13) rfl (fun K hK => ?_)
  (have s4 := StS.next4 HK4.out.2.2.2 HN3.out (.pointer (some ⟨nb, 0, none⟩)); have z4 := (HK4.out.2.2.2.b.blk.set nx (.pointer (some ⟨nb, 0, none⟩))).free (3 + nx))
  go_simp
  refine hK.out _ _ ?_ (fun hHeld => ?_)
  · (try dsimp only); (first | done | exact trivial)
  clear hK K; (try simp only [Act.put, List.setIfInBounds_toArray, List.set_cons_zero, List.set_cons_succ])
  refine wpAnyD_done (by kernel_rfl) ?_ _
  clear hHeld
  generalize hW6 : World.setCell (World.setCell _ _ _) _ _ = W6
  have key : ∃ S' D', StS lo w sd gi w.heap.size (strs (ss ++ [mark1, mark2]) ++ rest) [.int .i64 7, .int .i64 who, .int .i64 N, .string name, .slice ao ss.length cap, .slice la L.length lcap] NM S' D' W6 := by
    obtain ⟨hk3, hB3, hnw⟩ := HK3.out
    obtain ⟨hk4, hR4, hc4, hst4⟩ := HK4.out
    have z3 := hk3.size
    have z4 := hk4.size
    have olt := hB3.ownLt
    refine StS.put (E := []) (G := []) HS2.out hst4 H.out.few HN3.out (by omega) (Grows.refl _ _) hst4.b.inS (.full nb nr [] (hB3.ext hk4)) (.full nc [] hR4 ⟨ok_nil, List.Pairwise.nil⟩) hnw ?_ ?_ rfl (fun _ => rfl) (fun e he => by simp at he) (.inl hW6.symm)
    · rintro g (rfl | ⟨x, hx, _⟩)
      · omega
      · simp at hx
    · rintro g hg (rfl | ⟨x, hx, _⟩)
      · have := olt _ hg; omega
      · simp at hx
  obtain ⟨S', D', hst'⟩ := key
  have HST := Lib.hid hst'
  clear hst' hW6
  have c3 := HST.out.oB.cell' 3
  have c4 := HST.out.oB.cell' 4
  simp only [List.getElem?_cons_succ, List.getElem?_cons_zero] at c3 c4
  go_wp2_with fail
  refine (kept_any ss gi capi ao cap rest _ HST.out.gB HGI.out.2 (HROW.out _ HST.out.kp) (by have := H.out.len; omega) (fun t ht => by have := H.out.size t ht; omega)).mono ?_
  rintro e wk ⟨vk, rfl, hkk, rfl⟩
  obtain ⟨hbk, hok, hkw⟩ := HST.out.spent hkk HGI.out.1
  have HBK := Lib.hid (And.intro hbk hkw)
  have HTD := Lib.hid (show ∀ (k : Nat), k < 3 → ∀ W, Ext wk W → Calls Tryz.prog 33 #[.pointer (some ⟨sd, 0, none⟩), .int .i64 (k : Int), .string name, .slice ao ss.length cap] W (RetN W fun w' v => v = .bool true) from fun k hk W hW => shelfTold_any (HBK.out.1.ext hW) hk name rfl (HROW.out _ (HBK.out.2.ext hW)) H.out.len H.out.size)
  have d3 := hok.cell' 3
  have d4 := hok.cell' 4
  simp only [List.getElem?_cons_succ, List.getElem?_cons_zero] at d3 d4
  clear hbk hkw hkk c3 c4 hok
  go_wp2_with fail
  refine (HTD.out 0 (by decide) _ (Kp.refl _)).mono ?_
  rintro e wt ⟨vt, rfl, hkt, rfl⟩
  have e3 := hkt.cell d3 id
  have e4 := hkt.cell d4 id
  have HT0 := Lib.hid hkt
  clear hkt d3 d4
  go_wp2_with fail
  refine (HTD.out 1 (by decide) _ HT0.out).mono ?_
  rintro e wt1 ⟨vt, rfl, hkt, rfl⟩
  have d3 := hkt.cell e3 id
  have d4 := hkt.cell e4 id
  have HT1 := Lib.hid (HT0.out.trans hkt)
  clear hkt e3 e4
  go_wp2_with fail
  refine (HTD.out 2 (by decide) _ HT1.out).mono ?_
  rintro e wt2 ⟨vt, rfl, hkt, rfl⟩
  have HT2 := Lib.hid (HT1.out.trans hkt)
  clear hkt d3 d4
  go_wp2
  go_ret
  exact RetF.mk (HBK.out.2.ext HT2.out) ⟨rfl, S', D', HBK.out.1.ext HT2.out, HST.out.l, HST.out.nm⟩
end Go.Proofs.YtfkhelihepbehaaGreat

/- shelf.step: Copy. -/
namespace Go.Proofs.YtfkhelihepbehaaGreat
open Go.RowKit Go.Shelf
set_option linter.unusedVariables false

set_option maxRecDepth 100000 in
set_option maxHeartbeats 8000000 in
theorem stepSCopy_any {lo sd : Nat} {NM : List ByteArray} {S : Nat → Prop} {D : Nat → Place} {name : ByteArray} {ao : Option Addr} {cap : Nat} {ss : List ByteArray} {la : Option Addr} {L : List RelZ} {lcap : Nat} {w : World} (h : StepInS lo sd NM S D name ao ss la L w) (who N : Int) :
    Calls Tryz.prog 32 #[.pointer (some ⟨sd, 0, none⟩), .agg #[.int .i64 5, .int .i64 who, .int .i64 N, .string name, .slice ao ss.length cap, .slice la L.length lcap]] w (RetF (fun g => lo ≤ g) w (StepPostS lo sd NM)) := by
  obtain ⟨i, ei⟩ : ∃ i, placeN who 3 = i := ⟨_, rfl⟩
  have hi : i < 3 := by rw [← ei]; exact placeN_lt _ _ (by decide)
  have EI := Lib.hid (fun W => place_any who 3 (by decide) (by decide) W)
  rw [ei] at EI
  have HI := Lib.hid hi
  have H := Lib.hid h
  have hb0 := Blk.new w [.int .i64 5, .int .i64 who, .int .i64 N, .string name, .slice ao ss.length cap, .slice la L.length lcap] 68
  obtain ⟨W0, eW0⟩ : ∃ W0, w.alloc (.cells #[.int .i64 5, .int .i64 who, .int .i64 N, .string name, .slice ao ss.length cap, .slice la L.length lcap] 68) = W0 := ⟨_, rfl⟩
  have x0 : Ext w W0 := by rw [← eW0]; exact (Kp.refl w).alloc _
  rw [show w.alloc (.cells ([.int .i64 5, .int .i64 who, .int .i64 N, .string name, .slice ao ss.length cap, .slice la L.length lcap] : List Value).toArray 68) = W0 from eW0] at hb0
  have c1 : W0.cell? ⟨w.heap.size, 1, none⟩ = some (.int .i64 who) := by rw [hb0.cell']; rfl
  have c4 : W0.cell? ⟨w.heap.size, 4, none⟩ = some (.slice ao ss.length cap) := by rw [hb0.cell']; rfl
  have c0 : W0.cell? ⟨w.heap.size, 0, none⟩ = some (.int .i64 5) := by rw [hb0.cell']; rfl
  have HX0 := Lib.hid (And.intro x0 hb0)
  obtain ⟨p, q, ep, eq⟩ := (h.b.place i hi).ptrs
  have d1 := (h.b.ext x0).cb hi
  have d2 := (h.b.ext x0).cm hi
  rw [ep] at d1
  rw [eq] at d2
  have HEP := Lib.hid (And.intro ep eq)
  have i3 : (i : Int) < 3 := by omega
  clear h ei x0 hb0 ep eq hi
  go_enter Tryz.func32, Tryz.ntmps32
  go_wp2_with fail
  refine (EI.out _).mono ?_
  rintro e w' ⟨rfl, rfl⟩
  clear EI eW0
  obtain ⟨nx, enx⟩ : ∃ nx : Nat, (i + 1) % 2 = nx := ⟨_, rfl⟩
  have HNX := Lib.hid (show nx < 2 from by omega)
  have en : ((i : Int) + 1) % 2 = (nx : Int) := by omega
  have HEN := Lib.hid en
  clear enx en
  go_wp2_with fail
  rw [HEN.out]
  go_region_held3 (fun w' => w'.cell? ⟨sd, i, none⟩ = some (.pointer p) ∧ w'.cell? ⟨sd, 3 + i, none⟩ = some (.pointer q)) (first | exact ⟨by assumption, by assumption⟩ | go_keep) (fail)
  obtain ⟨W1, eW1⟩ : ∃ W1, W1 = W0.drew := ⟨_, rfl⟩
  rw [← eW1]
  have x1 : Ext W0 W1 := by rw [eW1]; exact (Kp.refl W0).drew
  have c0' := x1.cell c0 id
  have c4' := x1.cell c4 id
  have HX1 := Lib.hid (And.intro (HX0.out.1.trans x1) (HX0.out.2.ext x1))
  clear c0 c1 c4 eW1 x1 HX0 d1 d2
  go_wp2_with fail
  refine (lent_any ss ao cap W1 (H.out.row.ext HX1.out.1) (by have := H.out.len; omega)).mono ?_
  rintro e W2 ⟨vl, rfl, hkl, gi, capi, rest, rfl, hgi, hgB, hcapi, hcm⟩
  have hst : StS lo w sd gi w.heap.size (strs (ss ++ [mark1, mark2]) ++ rest) [.int .i64 5, .int .i64 who, .int .i64 N, .string name, .slice ao ss.length cap, .slice la L.length lcap] NM S D W2 := by
    have hx := HX1.out.1.trans hkl
    have hz := HX1.out.1.size
    have hg : ∀ g, w.heap.size ≤ g → OffS S D sd g := fun g hg => ⟨fun hs => by have := H.out.b.inS g hs; omega, fun e => by have := H.out.b.blk.lt; omega, fun k hk => ⟨fun ho => by have := (H.out.b.place k hk).b.lt g ho; omega, fun ho => by have := (H.out.b.place k hk).m.lt g ho; omega⟩⟩
    exact ⟨H.out.b.ext hx, H.out.l, Ext.kp hx, hgB, hg gi (by omega), by have := H.out.lw; omega, HX1.out.2.ext hkl, hg _ (Nat.le_refl _), H.out.lw, H.out.nm⟩
  have HST := Lib.hid hst
  have HGI := Lib.hid (show w.heap.size ≠ gi ∧ ss.length + 2 ≤ capi from ⟨by have := HX1.out.2.lt; omega, by omega⟩)
  have HROW := Lib.hid (show ∀ W, Kp (fun g => lo ≤ g) w W → CellsAt W ao (strs ss) from fun W hW => by
    rcases H.out.rlo with e0 | hr
    · rw [e0]; exact CellsAt.nil _ _
    · exact H.out.row.kp hW fun a e hf => by have := hr a e; omega)
  have c0 := hkl.cell c0' id
  clear hst hkl hgB c0' c4' HX1 hgi hcapi hcm
  have hi := HI.out
  have hp := HST.out.b.place i hi
  rcases hp.nilb with ⟨_, f1, f2⟩ | ⟨a, c, f1, f2, hR⟩
  · obtain rfl : p = none := by have := HEP.out.1.symm.trans f1; cases this; rfl
    obtain rfl : q = none := by have := HEP.out.2.symm.trans f2; cases this; rfl
    have HC := Lib.hid (baseCopy_nil W2)
    clear hp f1 f2
    go_wp2_with fail
    refine HC.out.mono ?_
    rintro e w' ⟨rfl, rfl⟩
    have c3 := HST.out.oB.cell' 3
    have c4 := HST.out.oB.cell' 4
    simp only [List.getElem?_cons_succ, List.getElem?_cons_zero] at c3 c4
    go_wp2_with fail
    refine (kept_any ss gi capi ao cap rest _ HST.out.gB HGI.out.2 (HROW.out _ HST.out.kp) (by have := H.out.len; omega) (fun t ht => by have := H.out.size t ht; omega)).mono ?_
    rintro e wk ⟨vk, rfl, hkk, rfl⟩
    obtain ⟨hbk, hok, hkw⟩ := HST.out.spent hkk HGI.out.1
    have HBK := Lib.hid (And.intro hbk hkw)
    have HTD := Lib.hid (show ∀ (k : Nat), k < 3 → ∀ W, Ext wk W → Calls Tryz.prog 33 #[.pointer (some ⟨sd, 0, none⟩), .int .i64 (k : Int), .string name, .slice ao ss.length cap] W (RetN W fun w' v => v = .bool true) from fun k hk W hW => shelfTold_any (HBK.out.1.ext hW) hk name rfl (HROW.out _ (HBK.out.2.ext hW)) H.out.len H.out.size)
    have d3 := hok.cell' 3
    have d4 := hok.cell' 4
    simp only [List.getElem?_cons_succ, List.getElem?_cons_zero] at d3 d4
    clear hbk hkw hkk c3 c4 hok
    go_wp2_with fail
    refine (HTD.out 0 (by decide) _ (Kp.refl _)).mono ?_
    rintro e wt ⟨vt, rfl, hkt, rfl⟩
    have e3 := hkt.cell d3 id
    have e4 := hkt.cell d4 id
    have HT0 := Lib.hid hkt
    clear hkt d3 d4
    go_wp2_with fail
    refine (HTD.out 1 (by decide) _ HT0.out).mono ?_
    rintro e wt1 ⟨vt, rfl, hkt, rfl⟩
    have d3 := hkt.cell e3 id
    have d4 := hkt.cell e4 id
    have HT1 := Lib.hid (HT0.out.trans hkt)
    clear hkt e3 e4
    go_wp2_with fail
    refine (HTD.out 2 (by decide) _ HT1.out).mono ?_
    rintro e wt2 ⟨vt, rfl, hkt, rfl⟩
    have HT2 := Lib.hid (HT1.out.trans hkt)
    clear hkt d3 d4
    go_wp2
    go_ret
    exact RetF.mk (HBK.out.2.ext HT2.out) ⟨rfl, S, D, HBK.out.1.ext HT2.out, HST.out.l, HST.out.nm⟩
  · obtain rfl : p = some a := by have := HEP.out.1.symm.trans f1; cases this; rfl
    obtain rfl : q = some ⟨c, 0, none⟩ := by have := HEP.out.2.symm.trans f2; cases this; rfl
    have hpb := hp.b
    rw [f1] at hpb
    obtain ⟨bb, m1, rfl, hm, _, _, _, _⟩ := hpb.m
    have HC := Lib.hid (baseCopyM_any hm hp.few)
    have HP := Lib.hid (And.intro hp hR)
    have hnq : ∀ w : World, (binOp .eql 57 (.pointer (some ⟨c, 0, none⟩)) (.pointer none)).run Tryz.prog w = .ok (.bool false) w := fun _ => by kernel_rfl
    have n3 : (nx : Int) < 3 := by have := HNX.out; omega
    have hn3 : nx < 3 := by have := HNX.out; omega
    have HN3 := Lib.hid hn3
    clear hn3 hpb hm hp hR f1 f2
    go_wp2_with fail
    refine HC.out.mono ?_
    rintro e W3 ⟨v3, rfl, hk3, nb, nr, E2, rfl, hB3, hP3, hn3⟩
    have hnp : ∀ w : World, (binOp .eql 41 (.pointer (some ⟨nb, 0, none⟩)) (.pointer none)).run Tryz.prog w = .ok (.bool false) w := fun _ => by kernel_rfl
    have hnn : ∀ w : World, (binOp .neq 41 (.pointer (some ⟨nb, 0, none⟩)) (.pointer none)).run Tryz.prog w = .ok (.bool true) w := fun _ => by kernel_rfl
    have hst3 := HST.out.ext hk3
    have HM := Lib.hid (refBCopy_any ((HP.out.2.ext hk3).ext (Kp.refl W3).drew) (by rw [HP.out.1.glen]; have := HP.out.1.few; omega) (fun g hg => (HP.out.1.m.ok.ok.all g.cnt (List.mem_map.2 ⟨g, hg, rfl⟩)).few))
    have HK3 := Lib.hid (And.intro hk3 (And.intro hB3 (And.intro hP3 (And.intro hn3 hst3))))
    have HS2 := HST
    clear hk3 hB3 hP3 hn3 hst3 HC
    go_wp2
    refine draw_begin (fun _ : World => True) [] (by kernel_rfl) trivial (fun hHeld => ?_)
    (refine draw_free (i := 0) (v := ?_) rfl ?_ ?_; rotate_left; (intro w; go_simp; try with_reducible rfl)); (try simp only [Act.put, List.setIfInBounds_toArray, List.set_cons_zero, List.set_cons_succ])
    (refine draw_free (i := 1) (v := ?_) rfl ?_ ?_; rotate_left; (intro w; go_simp; try with_reducible rfl)); (try simp only [Act.put, List.setIfInBounds_toArray, List.set_cons_zero, List.set_cons_succ])
    (refine draw_free (i := 2) (v := ?_) rfl ?_ ?_; rotate_left; (intro w; go_simp; try with_reducible rfl)); (try simp only [Act.put, List.setIfInBounds_toArray, List.set_cons_zero, List.set_cons_succ])
    (refine draw_free (i := 3) (v := ?_) rfl ?_ ?_; rotate_left; (intro w; go_simp; try with_reducible rfl)); (try simp only [Act.put, List.setIfInBounds_toArray, List.set_cons_zero, List.set_cons_succ])
    (refine draw_free (i := 4) (v := ?_) rfl ?_ ?_; rotate_left; (intro w; go_simp; try with_reducible rfl)); (try simp only [Act.put, List.setIfInBounds_toArray, List.set_cons_zero, List.set_cons_succ])
    (refine draw_free (i := 5) (v := ?_) rfl ?_ ?_; rotate_left; (intro w; go_simp; try with_reducible rfl)); (try simp only [Act.put, List.setIfInBounds_toArray, List.set_cons_zero, List.set_cons_succ])
    (refine draw_free (i := 7) (v := ?_) rfl ?_ ?_; rotate_left; (intro w; go_simp; try with_reducible rfl)); (try simp only [Act.put, List.setIfInBounds_toArray, List.set_cons_zero, List.set_cons_succ])
    (refine draw_free (i := 8) (v := ?_) rfl ?_ ?_; rotate_left; (intro w; go_simp; try with_reducible rfl)); (try simp only [Act.put, List.setIfInBounds_toArray, List.set_cons_zero, List.set_cons_succ])
    (refine draw_free (i := 11) (v := ?_) rfl ?_ ?_; rotate_left; (intro w; go_simp; try with_reducible rfl)); (try simp only [Act.put, List.setIfInBounds_toArray, List.set_cons_zero, List.set_cons_succ])
    (refine draw_free (i := 12) (v := ?_) rfl ?_ ?_; rotate_left; (intro w; go_simp; try with_reducible rfl)); (try simp only [Act.put, List.setIfInBounds_toArray, List.set_cons_zero, List.set_cons_succ])
    refine draw_one (i := 6) ?_
    refine comes_turn (i := 6) rfl (fun K hK => ?_)
    go_simp
    (refine HM.out.mono ?_; rintro e W4 ⟨v4, rfl, hk4, nc, S4, G4, rfl, hg4, hR4, hc4, hn4⟩; have hst4 := HK3.out.2.2.2.2.ext ((Kp.refl W3).drew.trans hk4); have s1 := hst4.b.cb HN3.out; have z1 := hst4.b.blk.free nx; have HK4 := Lib.hid (And.intro ((Kp.refl W3).drew.trans hk4) (And.intro hg4 (And.intro hR4 (And.intro hc4 (And.intro hn4 hst4))))); clear hk4 hg4 hR4 hc4 hn4 hst4)
    go_wp2_with fail
    refine hK.out _ _ ?_ (fun hHeld => ?_)
    · (try dsimp only); (first | done | exact trivial)
    clear hK K; (try simp only [Act.put, List.setIfInBounds_toArray, List.set_cons_zero, List.set_cons_succ])
    (refine draw_in (i := 9) (v := ?_) rfl ?_ ?_; rotate_left; (intro w hSw; (try dsimp only at hSw); go_simp; try with_reducible rfl)); (try simp only [Act.put, List.setIfInBounds_toArray, List.set_cons_zero, List.set_cons_succ])
    refine draw_one (i := 10) ?_
    refine comes_turn (i := 10) rfl (fun K hK => ?_)
    go_simp
    refine hK.out _ _ ?_ (fun hHeld => ?_)
    · (try dsimp only); (first | done | exact trivial)
    clear hK K; (try simp only [Act.put, List.setIfInBounds_toArray, List.set_cons_zero, List.set_cons_succ])
    (refine draw_in (i := 13) (v := ?_) rfl ?_ ?_; rotate_left; (intro w hSw; (try dsimp only at hSw); go_simp; try with_reducible rfl)); (try simp only [Act.put, List.setIfInBounds_toArray, List.set_cons_zero, List.set_cons_succ])
    refine draw_one (i := 14) ?_
    refine comes_turn (i := 14) rfl (fun K hK => ?_)
    (have s4 := StS.next4 HK4.out.2.2.2.2.2 HN3.out (.pointer (some ⟨nb, 0, none⟩)); have z4 := (HK4.out.2.2.2.2.2.b.blk.set nx (.pointer (some ⟨nb, 0, none⟩))).free (3 + nx))
    go_simp
    refine hK.out _ _ ?_ (fun hHeld => ?_)
    · (try dsimp only); (first | done | exact trivial)
    clear hK K; (try simp only [Act.put, List.setIfInBounds_toArray, List.set_cons_zero, List.set_cons_succ])
    refine wpAnyD_done (by kernel_rfl) ?_ _
    clear hHeld
    generalize hW6 : World.setCell (World.setCell _ _ _) _ _ = W6
    have key : ∃ S' D', StS lo w sd gi w.heap.size (strs (ss ++ [mark1, mark2]) ++ rest) [.int .i64 5, .int .i64 who, .int .i64 N, .string name, .slice ao ss.length cap, .slice la L.length lcap] NM S' D' W6 := by
      obtain ⟨hk3, hB3, hP3, hnw, _⟩ := HK3.out
      obtain ⟨hk4, hg4, hR4, hc4, hnm, hst4⟩ := HK4.out
      have hp := HP.out.1
      have z3 := hk3.size
      have z4 := hk4.size
      have z5 : W3.drew.heap.size = W3.heap.size := rfl
      have olt := hB3.ownLt
      have hs2 : SameC (cntE E2) (cntE (D i).E) := perm_same hP3 hB3.ok.nodup
      refine StS.put (E := E2) (G := G4) HS2.out hst4 H.out.few HN3.out (by omega) ⟨hg4.1, fun k hk => (hg4.2 k hk).imp id fun h => by omega⟩ hR4.inS ((BaseO.full nb nr E2 (hB3.ext hk4)).wide hg4.1 hR4.inS fun k ho hs => ?_) (.full nc G4 hR4 (hp.m.ok.copy hc4)) hnw (fun g hg => ?_) ?_ rfl (hs2.trans (hp.same.trans (by rw [hc4]; exact fun _ => rfl))) (names_of hs2 hB3.ok (hp.inNames (HS2.out.nm i hi))) (.inl hW6.symm)
      · rcases hg4.2 k hs with hs | hs
        · exact hB3.notOwn k ho hs
        · have := olt k ho; omega
      · have := hnm g hg; omega
      · intro g hg hm
        have h1 := olt g hg
        have h2 := hnm g hm
        omega
    obtain ⟨S', D', hst'⟩ := key
    have HST := Lib.hid hst'
    clear hst' hW6
    have c3 := HST.out.oB.cell' 3
    have c4 := HST.out.oB.cell' 4
    simp only [List.getElem?_cons_succ, List.getElem?_cons_zero] at c3 c4
    go_wp2_with fail
    refine (kept_any ss gi capi ao cap rest _ HST.out.gB HGI.out.2 (HROW.out _ HST.out.kp) (by have := H.out.len; omega) (fun t ht => by have := H.out.size t ht; omega)).mono ?_
    rintro e wk ⟨vk, rfl, hkk, rfl⟩
    obtain ⟨hbk, hok, hkw⟩ := HST.out.spent hkk HGI.out.1
    have HBK := Lib.hid (And.intro hbk hkw)
    have HTD := Lib.hid (show ∀ (k : Nat), k < 3 → ∀ W, Ext wk W → Calls Tryz.prog 33 #[.pointer (some ⟨sd, 0, none⟩), .int .i64 (k : Int), .string name, .slice ao ss.length cap] W (RetN W fun w' v => v = .bool true) from fun k hk W hW => shelfTold_any (HBK.out.1.ext hW) hk name rfl (HROW.out _ (HBK.out.2.ext hW)) H.out.len H.out.size)
    have d3 := hok.cell' 3
    have d4 := hok.cell' 4
    simp only [List.getElem?_cons_succ, List.getElem?_cons_zero] at d3 d4
    clear hbk hkw hkk c3 c4 hok
    go_wp2_with fail
    refine (HTD.out 0 (by decide) _ (Kp.refl _)).mono ?_
    rintro e wt ⟨vt, rfl, hkt, rfl⟩
    have e3 := hkt.cell d3 id
    have e4 := hkt.cell d4 id
    have HT0 := Lib.hid hkt
    clear hkt d3 d4
    go_wp2_with fail
    refine (HTD.out 1 (by decide) _ HT0.out).mono ?_
    rintro e wt1 ⟨vt, rfl, hkt, rfl⟩
    have d3 := hkt.cell e3 id
    have d4 := hkt.cell e4 id
    have HT1 := Lib.hid (HT0.out.trans hkt)
    clear hkt e3 e4
    go_wp2_with fail
    refine (HTD.out 2 (by decide) _ HT1.out).mono ?_
    rintro e wt2 ⟨vt, rfl, hkt, rfl⟩
    have HT2 := Lib.hid (HT1.out.trans hkt)
    clear hkt d3 d4
    go_wp2
    go_ret
    exact RetF.mk (HBK.out.2.ext HT2.out) ⟨rfl, S', D', HBK.out.1.ext HT2.out, HST.out.l, HST.out.nm⟩
end Go.Proofs.YtfkhelihepbehaaGreat

/- shelf.step: FromRelations. -/
namespace Go.Proofs.YtfkhelihepbehaaGreat
open Go.RowKit Go.Shelf
set_option linter.unusedVariables false

set_option maxRecDepth 100000 in
set_option maxHeartbeats 8000000 in
theorem stepSFrom_any {lo sd : Nat} {NM : List ByteArray} {S : Nat → Prop} {D : Nat → Place} {name : ByteArray} {ao : Option Addr} {cap : Nat} {ss : List ByteArray} {la : Option Addr} {L : List RelZ} {lcap : Nat} {w : World} (h : StepInS lo sd NM S D name ao ss la L w) (who N : Int) :
    Calls Tryz.prog 32 #[.pointer (some ⟨sd, 0, none⟩), .agg #[.int .i64 6, .int .i64 who, .int .i64 N, .string name, .slice ao ss.length cap, .slice la L.length lcap]] w (RetF (fun g => lo ≤ g) w (StepPostS lo sd NM)) := by
  obtain ⟨i, ei⟩ : ∃ i, placeN who 3 = i := ⟨_, rfl⟩
  have hi : i < 3 := by rw [← ei]; exact placeN_lt _ _ (by decide)
  have EI := Lib.hid (fun W => place_any who 3 (by decide) (by decide) W)
  rw [ei] at EI
  have HI := Lib.hid hi
  have H := Lib.hid h
  have hb0 := Blk.new w [.int .i64 6, .int .i64 who, .int .i64 N, .string name, .slice ao ss.length cap, .slice la L.length lcap] 68
  obtain ⟨W0, eW0⟩ : ∃ W0, w.alloc (.cells #[.int .i64 6, .int .i64 who, .int .i64 N, .string name, .slice ao ss.length cap, .slice la L.length lcap] 68) = W0 := ⟨_, rfl⟩
  have x0 : Ext w W0 := by rw [← eW0]; exact (Kp.refl w).alloc _
  rw [show w.alloc (.cells ([.int .i64 6, .int .i64 who, .int .i64 N, .string name, .slice ao ss.length cap, .slice la L.length lcap] : List Value).toArray 68) = W0 from eW0] at hb0
  have c1 : W0.cell? ⟨w.heap.size, 1, none⟩ = some (.int .i64 who) := by rw [hb0.cell']; rfl
  have c4 : W0.cell? ⟨w.heap.size, 4, none⟩ = some (.slice ao ss.length cap) := by rw [hb0.cell']; rfl
  have c0 : W0.cell? ⟨w.heap.size, 0, none⟩ = some (.int .i64 6) := by rw [hb0.cell']; rfl
  have HX0 := Lib.hid (And.intro x0 hb0)
  obtain ⟨p, q, ep, eq⟩ := (h.b.place i hi).ptrs
  have d1 := (h.b.ext x0).cb hi
  have d2 := (h.b.ext x0).cm hi
  rw [ep] at d1
  rw [eq] at d2
  have HEP := Lib.hid (And.intro ep eq)
  have i3 : (i : Int) < 3 := by omega
  clear h ei x0 hb0 ep eq hi
  go_enter Tryz.func32, Tryz.ntmps32
  go_wp2_with fail
  refine (EI.out _).mono ?_
  rintro e w' ⟨rfl, rfl⟩
  clear EI eW0
  obtain ⟨nx, enx⟩ : ∃ nx : Nat, (i + 1) % 2 = nx := ⟨_, rfl⟩
  have HNX := Lib.hid (show nx < 2 from by omega)
  have en : ((i : Int) + 1) % 2 = (nx : Int) := by omega
  have HEN := Lib.hid en
  clear enx en
  go_wp2_with fail
  rw [HEN.out]
  go_region_held3 (fun w' => w'.cell? ⟨sd, i, none⟩ = some (.pointer p) ∧ w'.cell? ⟨sd, 3 + i, none⟩ = some (.pointer q)) (first | exact ⟨by assumption, by assumption⟩ | go_keep) (fail)
  obtain ⟨W1, eW1⟩ : ∃ W1, W1 = W0.drew := ⟨_, rfl⟩
  rw [← eW1]
  have x1 : Ext W0 W1 := by rw [eW1]; exact (Kp.refl W0).drew
  have c0' := x1.cell c0 id
  have c4' := x1.cell c4 id
  have HX1 := Lib.hid (And.intro (HX0.out.1.trans x1) (HX0.out.2.ext x1))
  clear c0 c1 c4 eW1 x1 HX0 d1 d2
  go_wp2_with fail
  refine (lent_any ss ao cap W1 (H.out.row.ext HX1.out.1) (by have := H.out.len; omega)).mono ?_
  rintro e W2 ⟨vl, rfl, hkl, gi, capi, rest, rfl, hgi, hgB, hcapi, hcm⟩
  have hst : StS lo w sd gi w.heap.size (strs (ss ++ [mark1, mark2]) ++ rest) [.int .i64 6, .int .i64 who, .int .i64 N, .string name, .slice ao ss.length cap, .slice la L.length lcap] NM S D W2 := by
    have hx := HX1.out.1.trans hkl
    have hz := HX1.out.1.size
    have hg : ∀ g, w.heap.size ≤ g → OffS S D sd g := fun g hg => ⟨fun hs => by have := H.out.b.inS g hs; omega, fun e => by have := H.out.b.blk.lt; omega, fun k hk => ⟨fun ho => by have := (H.out.b.place k hk).b.lt g ho; omega, fun ho => by have := (H.out.b.place k hk).m.lt g ho; omega⟩⟩
    exact ⟨H.out.b.ext hx, H.out.l, Ext.kp hx, hgB, hg gi (by omega), by have := H.out.lw; omega, HX1.out.2.ext hkl, hg _ (Nat.le_refl _), H.out.lw, H.out.nm⟩
  have HST := Lib.hid hst
  have HGI := Lib.hid (show w.heap.size ≠ gi ∧ ss.length + 2 ≤ capi from ⟨by have := HX1.out.2.lt; omega, by omega⟩)
  have HROW := Lib.hid (show ∀ W, Kp (fun g => lo ≤ g) w W → CellsAt W ao (strs ss) from fun W hW => by
    rcases H.out.rlo with e0 | hr
    · rw [e0]; exact CellsAt.nil _ _
    · exact H.out.row.kp hW fun a e hf => by have := hr a e; omega)
  have c0 := hkl.cell c0' id
  clear hst hkl hgB c0' c4' HX1 hgi hcapi hcm
  have hi := HI.out
  have HRel := Lib.hid (show ∀ W, Kp (fun g => lo ≤ g) w W → RelsSt lo W la L from fun W hW => H.out.rel.kp hW fun k hk => hk)
  have HLL := Lib.hid (lentList_any L la L.length lcap W2 _ rfl (HRel.out W2 HST.out.kp).toIn H.out.rln H.out.rrn)
  have c5 := HST.out.oB.cell' 5
  simp only [List.getElem?_cons_succ, List.getElem?_cons_zero] at c5
  have hlw := H.out.lw
  have hkz := HST.out.kp.size
  have HZ := Lib.hid (show lo ≤ W2.heap.size from by omega)
  clear hlw hkz
  go_wp2_with fail
  refine HLL.out.mono ?_
  rintro e W3 ⟨v3, rfl, hk3, hlv⟩
  obtain ⟨ga, gc, rfl, hreads⟩ := hlv.reads
  have HF := Lib.hid (from_any L ga L.length gc W3 _ rfl hreads (fun k h => h.2) (by have := H.out.rln; omega) H.out.rrn)
  have HK3 := Lib.hid (And.intro hk3 hlv)
  have x5 := hk3.cell c5 id
  clear hk3 hlv hreads c5 HLL
  go_wp2_with fail
  refine HF.out.mono ?_
  rintro e W4 ⟨v4, rfl, hk4, h0, hne⟩
  have HM := Lib.hid (refFrom_any L la L.length lcap W4 _ rfl (HRel.out W4 (HST.out.kp.ext (HK3.out.1.trans hk4))).toIn (by have := H.out.rln; omega) H.out.rrn)
  have HK4 := Lib.hid hk4
  have c5 := hk4.cell x5 id
  clear hk4 x5 HF
  by_cases hz : (fromC [] L).2 = 0
  · obtain ⟨bb, r, S4, E4, rfl, hB4, hC4, hS4, hO4⟩ := h0 hz
    have HB4 := Lib.hid (And.intro hB4 (And.intro hC4 (And.intro hS4 hO4)))
    have hnp : ∀ w : World, (binOp .eql 41 (.pointer (some ⟨bb, 0, none⟩)) (.pointer none)).run Tryz.prog w = .ok (.bool false) w := fun _ => by kernel_rfl
    have hnn : ∀ w : World, (binOp .neq 41 (.pointer (some ⟨bb, 0, none⟩)) (.pointer none)).run Tryz.prog w = .ok (.bool true) w := fun _ => by kernel_rfl
    clear h0 hne hB4 hC4 hS4 hO4
    go_wp2_with fail
    refine HM.out.mono ?_
    rintro e W5 ⟨v5, rfl, hk5, m0, -⟩
    obtain ⟨cb, S5, G5, rfl, hR5, hok5, hC5, -, hS5, hO5⟩ := m0 hz
    have HR5 := Lib.hid (And.intro hk5 (And.intro hR5 (And.intro hok5 (And.intro hC5 (And.intro hS5 hO5)))))
    have hnm : ∀ w : World, (binOp .eql 57 (.pointer (some ⟨cb, 0, none⟩)) (.pointer none)).run Tryz.prog w = .ok (.bool false) w := fun _ => by kernel_rfl
    have x5 := hk5.cell c5 id
    clear m0 hk5 hR5 hok5 hC5 hS5 hO5 c5 hz HM
    go_wp2_with fail
    refine (num_any _ _).mono ?_
    rintro e w' ⟨rfl, rfl⟩
    have HKL := Lib.hid (keptList_any (lcap := lcap) HK3.out.2 (HK4.out.trans HR5.out.1) rfl ((HRel.out W5 (HST.out.kp.ext ((HK3.out.1.trans HK4.out).trans HR5.out.1))).up HZ.out) H.out.rln H.out.rrn H.out.rss)
    go_wp2_with fail
    refine HKL.out.mono ?_
    rintro e W6 ⟨v6, rfl, hk6, rfl⟩
    have x26 : Ext W2 W6 := ((HK3.out.1.trans HK4.out).trans HR5.out.1).trans' hk6 fun k hk h => by omega
    have hst6 := HST.out.ext x26
    have n3 : (nx : Int) < 3 := by have := HNX.out; omega
    have hn3 : nx < 3 := by have := HNX.out; omega
    have HN3 := Lib.hid hn3
    have s1 := hst6.b.cb hn3
    have z1 := hst6.b.blk.free nx
    have HK6 := Lib.hid (And.intro hk6 (And.intro x26 hst6))
    have HS2 := HST
    clear hn3 hst6 x26 hk6 x5 HKL
    go_wp2
    refine draw_begin (fun _ : World => True) [] (by kernel_rfl) trivial (fun hHeld => ?_)
    (refine draw_free (i := 0) (v := ?_) rfl ?_ ?_; rotate_left; (intro w; go_simp; try with_reducible rfl)); (try simp only [Act.put, List.setIfInBounds_toArray, List.set_cons_zero, List.set_cons_succ])
    (refine draw_free (i := 1) (v := ?_) rfl ?_ ?_; rotate_left; (intro w; go_simp; try with_reducible rfl)); (try simp only [Act.put, List.setIfInBounds_toArray, List.set_cons_zero, List.set_cons_succ])
    (refine draw_free (i := 2) (v := ?_) rfl ?_ ?_; rotate_left; (intro w; go_simp; try with_reducible rfl)); (try simp only [Act.put, List.setIfInBounds_toArray, List.set_cons_zero, List.set_cons_succ])
    (refine draw_free (i := 3) (v := ?_) rfl ?_ ?_; rotate_left; (intro w; go_simp; try with_reducible rfl)); (try simp only [Act.put, List.setIfInBounds_toArray, List.set_cons_zero, List.set_cons_succ])
    (refine draw_free (i := 4) (v := ?_) rfl ?_ ?_; rotate_left; (intro w; go_simp; try with_reducible rfl)); (try simp only [Act.put, List.setIfInBounds_toArray, List.set_cons_zero, List.set_cons_succ])
    (refine draw_free (i := 5) (v := ?_) rfl ?_ ?_; rotate_left; (intro w; go_simp; try with_reducible rfl)); (try simp only [Act.put, List.setIfInBounds_toArray, List.set_cons_zero, List.set_cons_succ])
    (refine draw_free (i := 6) (v := ?_) rfl ?_ ?_; rotate_left; (intro w; go_simp; try with_reducible rfl)); (try simp only [Act.put, List.setIfInBounds_toArray, List.set_cons_zero, List.set_cons_succ])
    (refine draw_free (i := 7) (v := ?_) rfl ?_ ?_; rotate_left; (intro w; go_simp; try with_reducible rfl)); (try simp only [Act.put, List.setIfInBounds_toArray, List.set_cons_zero, List.set_cons_succ])
    (refine draw_in (i := 8) (v := ?_) rfl ?_ ?_; rotate_left; (intro w hSw; (try dsimp only at hSw); go_simp; try with_reducible rfl)); (try simp only [Act.put, List.setIfInBounds_toArray, List.set_cons_zero, List.set_cons_succ])
    (refine draw_free (i := 10) (v := ?_) rfl ?_ ?_; rotate_left; (intro w; go_simp; try with_reducible rfl)); (try simp only [Act.put, List.setIfInBounds_toArray, List.set_cons_zero, List.set_cons_succ])
    (refine draw_free (i := 11) (v := ?_) rfl ?_ ?_; rotate_left; (intro w; go_simp; try with_reducible rfl)); (try simp only [Act.put, List.setIfInBounds_toArray, List.set_cons_zero, List.set_cons_succ])
    refine draw_one (i := 9) ?_
    refine comes_turn (i := 9) rfl (fun K hK => ?_)
    go_simp
    refine hK.out _ _ ?_ (fun hHeld => ?_)
    · (try dsimp only); (first | done | exact trivial)
    clear hK K; (try simp only [Act.put, List.setIfInBounds_toArray, List.set_cons_zero, List.set_cons_succ])
    (refine draw_in (i := 12) (v := ?_) rfl ?_ ?_; rotate_left; (intro w hSw; (try dsimp only at hSw); go_simp; try with_reducible rfl)); (try simp only [Act.put, List.setIfInBounds_toArray, List.set_cons_zero, List.set_cons_succ])
    refine draw_one (i := 13) ?_
    refine comes_turn (i := 13) rfl (fun K hK => ?_)
    (have s4 := StS.next4 HK6.out.2.2 HN3.out (.pointer (some ⟨bb, 0, none⟩)); have z4 := (HK6.out.2.2.b.blk.set nx (.pointer (some ⟨bb, 0, none⟩))).free (3 + nx))
    go_simp
    refine hK.out _ _ ?_ (fun hHeld => ?_)
    · (try dsimp only); (first | done | exact trivial)
    clear hK K; (try simp only [Act.put, List.setIfInBounds_toArray, List.set_cons_zero, List.set_cons_succ])
    refine wpAnyD_done (by kernel_rfl) ?_ _
    clear hHeld
    generalize hW7 : World.setCell (World.setCell _ _ _) _ _ = W7
    have key : ∃ S' D', StS lo w sd gi w.heap.size (strs (ss ++ [mark1, mark2]) ++ rest) [.int .i64 6, .int .i64 who, .int .i64 N, .string name, .slice ao ss.length cap, .slice la L.length lcap] NM S' D' W7 := by
      obtain ⟨hB4, hC4, hS4, hO4⟩ := HB4.out
      obtain ⟨hk5, hR5, hok5, hC5, hS5, hO5⟩ := HR5.out
      obtain ⟨hk6, x26, hst6⟩ := HK6.out
      have y3 := HK3.out.1.size
      have y4 := HK4.out.size
      have y5 := hk5.size
      have y6 := hk6.size
      have olt := hB4.ownLt
      have slt := hB4.inS
      have rlt := hR5.inS
      have ilt := HS2.out.b.inS
      have hs : SameC (cntE E4) (cntR G5) := by rw [hC4]; exact hC5.symm
      have hb6 : BaseO S4 W6 (.pointer (some ⟨bb, 0, none⟩)) E4 (OwnB bb r E4) := .full bb r E4 ((hB4.ext hk5).kp hk6 (fun k f ho => by have := hO4 k ho; omega) fun k f hs => by have := hS4 k hs; omega)
      have hm6 : RefO S5 W6 (.pointer (some ⟨cb, 0, none⟩)) G5 (OwnG cb G5) := .full cb G5 (hR5.kp hk6 (fun k f ho => by have := hO5 k ho; omega) fun k f hs => by have := hS5 k hs; omega) hok5
      have hin : ∀ k, (S k ∨ S4 k ∨ S5 k) → k < W6.heap.size := fun k hk => by
        rcases hk with hk | hk | hk
        · have := ilt k hk; omega
        · have := slt k hk; omega
        · have := rlt k hk; omega
      refine StS.put (S' := fun k => S k ∨ S4 k ∨ S5 k) (E := E4) (G := G5) HS2.out hst6 H.out.few HN3.out (by omega) ⟨fun k hk => .inl hk, fun k hk => ?_⟩ hin (hb6.wide (fun k hk => .inr (.inl hk)) hin fun k ho hk => ?_) (hm6.wide (fun k hk => .inr (.inr hk)) hin fun k ho hk => ?_) (fun k ho => ?_) (fun k ho => ?_) (fun k ho hm => ?_) rfl hs (names_of hs.symm.symm hB4.ok ?_) (.inl hW7.symm)
      · rcases hk with hk | hk | hk
        · exact .inl hk
        · have := hS4 k hk; right; omega
        · have := hS5 k hk; right; omega
      · have h1 := hO4 k ho
        have h2 := olt k ho
        rcases hk with hk | hk | hk
        · have := ilt k hk; omega
        · exact hB4.notOwn k ho hk
        · have := hS5 k hk; omega
      · have h1 := hO5 k ho
        rcases hk with hk | hk | hk
        · have := ilt k hk; omega
        · have := slt k hk; omega
        · exact hR5.ownNot k ho hk
      · have := hO4 k ho; omega
      · have := hO5 k ho; omega
      · have h1 := olt k ho
        have h2 := hO5 k hm
        omega
      · intro t x hx
        rw [← hs, hC4] at hx
        rcases names_fromC hx with ⟨q, hq, e⟩ | ⟨u, hu⟩
        · rw [← e]; exact H.out.rnm q hq
        · cases hu
    obtain ⟨S', D', hst'⟩ := key
    have HST := Lib.hid (hst'.ext (Kp.refl W7).drew)
    clear hst' hW7
    have c3 := HST.out.oB.cell' 3
    have c4 := HST.out.oB.cell' 4
    simp only [List.getElem?_cons_succ, List.getElem?_cons_zero] at c3 c4
    go_wp2_with fail
    refine (kept_any ss gi capi ao cap rest _ HST.out.gB HGI.out.2 (HROW.out _ HST.out.kp) (by have := H.out.len; omega) (fun t ht => by have := H.out.size t ht; omega)).mono ?_
    rintro e wk ⟨vk, rfl, hkk, rfl⟩
    obtain ⟨hbk, hok, hkw⟩ := HST.out.spent hkk HGI.out.1
    have HBK := Lib.hid (And.intro hbk hkw)
    have HTD := Lib.hid (show ∀ (k : Nat), k < 3 → ∀ W, Ext wk W → Calls Tryz.prog 33 #[.pointer (some ⟨sd, 0, none⟩), .int .i64 (k : Int), .string name, .slice ao ss.length cap] W (RetN W fun w' v => v = .bool true) from fun k hk W hW => shelfTold_any (HBK.out.1.ext hW) hk name rfl (HROW.out _ (HBK.out.2.ext hW)) H.out.len H.out.size)
    have d3 := hok.cell' 3
    have d4 := hok.cell' 4
    simp only [List.getElem?_cons_succ, List.getElem?_cons_zero] at d3 d4
    clear hbk hkw hkk c3 c4 hok
    go_wp2_with fail
    refine (HTD.out 0 (by decide) _ (Kp.refl _)).mono ?_
    rintro e wt ⟨vt, rfl, hkt, rfl⟩
    have e3 := hkt.cell d3 id
    have e4 := hkt.cell d4 id
    have HT0 := Lib.hid hkt
    clear hkt d3 d4
    go_wp2_with fail
    refine (HTD.out 1 (by decide) _ HT0.out).mono ?_
    rintro e wt1 ⟨vt, rfl, hkt, rfl⟩
    have d3 := hkt.cell e3 id
    have d4 := hkt.cell e4 id
    have HT1 := Lib.hid (HT0.out.trans hkt)
    clear hkt e3 e4
    go_wp2_with fail
    refine (HTD.out 2 (by decide) _ HT1.out).mono ?_
    rintro e wt2 ⟨vt, rfl, hkt, rfl⟩
    have HT2 := Lib.hid (HT1.out.trans hkt)
    clear hkt d3 d4
    go_wp2
    go_ret
    exact RetF.mk (HBK.out.2.ext HT2.out) ⟨rfl, S', D', HBK.out.1.ext HT2.out, HST.out.l, HST.out.nm⟩
  · obtain rfl := hne hz
    obtain ⟨c9, e9⟩ : ∃ c9, (fromC [] L).2 = c9 := ⟨_, rfl⟩
    have HC9 := Lib.hid e9
    rw [e9]
    have hz9 := Lib.hid hz
    clear h0 hne hz e9
    go_wp2_with fail
    refine HM.out.mono ?_
    rintro e W5 ⟨v5, rfl, hk5, -, m1⟩
    obtain rfl := m1 hz9.out
    rw [HC9.out]
    have HK5 := Lib.hid hk5
    have x5 := hk5.cell c5 id
    have tb : ((c9 : Int) == (c9 : Int)) = true := by simp
    clear m1 hk5 c5 HM
    go_wp2_with fail
    refine (num_any _ _).mono ?_
    rintro e w' ⟨rfl, rfl⟩
    have HKL := Lib.hid (keptList_any (lcap := lcap) HK3.out.2 (HK4.out.trans HK5.out) rfl ((HRel.out W5 (HST.out.kp.ext ((HK3.out.1.trans HK4.out).trans HK5.out))).up HZ.out) H.out.rln H.out.rrn H.out.rss)
    go_wp2_with fail
    refine HKL.out.mono ?_
    rintro e W6 ⟨v6, rfl, hk6, rfl⟩
    have x26 : Ext W2 W6 := ((HK3.out.1.trans HK4.out).trans HK5.out).trans' hk6 fun k hk h => by omega
    have HST := Lib.hid (HST.out.ext x26)
    clear x26 hk6 x5 HKL
    have c3 := HST.out.oB.cell' 3
    have c4 := HST.out.oB.cell' 4
    simp only [List.getElem?_cons_succ, List.getElem?_cons_zero] at c3 c4
    go_wp2_with fail
    refine (kept_any ss gi capi ao cap rest _ HST.out.gB HGI.out.2 (HROW.out _ HST.out.kp) (by have := H.out.len; omega) (fun t ht => by have := H.out.size t ht; omega)).mono ?_
    rintro e wk ⟨vk, rfl, hkk, rfl⟩
    obtain ⟨hbk, hok, hkw⟩ := HST.out.spent hkk HGI.out.1
    have HBK := Lib.hid (And.intro hbk hkw)
    have HTD := Lib.hid (show ∀ (k : Nat), k < 3 → ∀ W, Ext wk W → Calls Tryz.prog 33 #[.pointer (some ⟨sd, 0, none⟩), .int .i64 (k : Int), .string name, .slice ao ss.length cap] W (RetN W fun w' v => v = .bool true) from fun k hk W hW => shelfTold_any (HBK.out.1.ext hW) hk name rfl (HROW.out _ (HBK.out.2.ext hW)) H.out.len H.out.size)
    have d3 := hok.cell' 3
    have d4 := hok.cell' 4
    simp only [List.getElem?_cons_succ, List.getElem?_cons_zero] at d3 d4
    clear hbk hkw hkk c3 c4 hok
    go_wp2_with fail
    refine (HTD.out 0 (by decide) _ (Kp.refl _)).mono ?_
    rintro e wt ⟨vt, rfl, hkt, rfl⟩
    have e3 := hkt.cell d3 id
    have e4 := hkt.cell d4 id
    have HT0 := Lib.hid hkt
    clear hkt d3 d4
    go_wp2_with fail
    refine (HTD.out 1 (by decide) _ HT0.out).mono ?_
    rintro e wt1 ⟨vt, rfl, hkt, rfl⟩
    have d3 := hkt.cell e3 id
    have d4 := hkt.cell e4 id
    have HT1 := Lib.hid (HT0.out.trans hkt)
    clear hkt e3 e4
    go_wp2_with fail
    refine (HTD.out 2 (by decide) _ HT1.out).mono ?_
    rintro e wt2 ⟨vt, rfl, hkt, rfl⟩
    have HT2 := Lib.hid (HT1.out.trans hkt)
    clear hkt d3 d4
    go_wp2
    go_ret
    exact RetF.mk (HBK.out.2.ext HT2.out) ⟨rfl, S, D, HBK.out.1.ext HT2.out, HST.out.l, HST.out.nm⟩
end Go.Proofs.YtfkhelihepbehaaGreat

/- TupleBases: shelf.step by kinds; how a script lies in memory; the shelf at the start. -/
namespace Go.Proofs.YtfkhelihepbehaaGreat
open Go.ChangeShapes Go.WideShapes Go.ChangeAt Go.RowKit Go.Shelf
set_option linter.unusedVariables false

theorem stepShelf_any {lo sd : Nat} {NM : List ByteArray} {S : Nat → Prop} {D : Nat → Place} {name : ByteArray} {ao : Option Addr} {cap : Nat} {ss : List ByteArray} {la : Option Addr} {lcap : Nat} {L : List RelZ} {w : World} (h : StepInS lo sd NM S D name ao ss la L w) (kd who N : Int) :
    Calls Tryz.prog 32 #[.pointer (some ⟨sd, 0, none⟩), .agg #[.int .i64 kd, .int .i64 who, .int .i64 N, .string name, .slice ao ss.length cap, .slice la L.length lcap]] w (RetF (fun g => lo ≤ g) w (StepPostS lo sd NM)) := by
  by_cases hk : 1 ≤ kd ∧ kd ≤ 7
  · have h7 : kd = 1 ∨ kd = 2 ∨ kd = 3 ∨ kd = 4 ∨ kd = 5 ∨ kd = 6 ∨ kd = 7 := by omega
    rcases h7 with rfl | rfl | rfl | rfl | rfl | rfl | rfl
    · exact stepSDecl_any h who N
    · exact stepSAdd_any h who N
    · exact stepSDrop_any h who N
    · exact stepSMerge_any h who N
    · exact stepSCopy_any h who N
    · exact stepSFrom_any h who N
    · exact stepSNew_any h who N
  · exact stepSOther_any h kd who N hk

/-- Relations that came in, readable while what came since is written. -/
theorem elems_st {w : World} {lo : Nat} {ao : Option Addr} {L : List RelZ} (h : ElemsAt shRel w (fun k => k < lo) ao L) (hl : ∀ q ∈ L, ∀ ss ∈ q.2.2.1, ss.length ≤ 8796093021952) : RelsSt lo w ao L := fun i q hq => by
  obtain ⟨b, off, es, e, hb, _, hat, hcell⟩ := h i q hq
  obtain ⟨x1, y1, e1, ⟨ex1, _⟩, x2, y2, e2, ⟨ex2, _⟩, x3, y3, e3, ⟨ra, rcap, ex3, r1, r2, r3⟩, e4⟩ := hat
  have e4' : y3 = [] := e4
  have ee : es = [.string q.1, .int .i64 q.2.1, .slice ra q.2.2.1.length rcap] := by
    rw [e1, ex1, e2, ex2, e3, ex3, e4']; rfl
  have hc : ∀ c u, es[c]? = some u → w.cell? ⟨b, off + i * 3 + c, none⟩ = some u := fun c u hu => by
    have := hcell c u hu
    rw [show shRel.n = 3 from rfl, ← Nat.add_assoc] at this
    exact this
  exact ⟨b, off, ra, rcap, e, hb, hc 0 _ (by rw [ee]; rfl), hc 1 _ (by rw [ee]; rfl), hc 2 _ (by rw [ee]; rfl), r1, r2, fun F w' hk hF => elems_rows (r3.kp hk fun k (hk' : k < lo) hf => by have := hF k hf; omega) (hl q (List.mem_of_getElem? hq))⟩

/-- An operation of a script, as it is read. -/
abbrev BopZ := Int × Int × Int × ByteArray × List ByteArray × List RelZ × Unit
noncomputable def shBop : Shp Tryz.prog BopZ := shStruct 68 (fdCons shIn (fdCons shIn (fdCons shIn (fdCons shT (fdCons shTs (fdCons (shSlice 39 shRel Tryz.underlying39 (by kernel_rfl) (by decide)) fdNil)))))) (fs := _) Tryz.underlying68 ⟨_, _, rfl, rfl, rfl, _, _, rfl, rfl, rfl, _, _, rfl, rfl, rfl, _, _, rfl, rfl, rfl, _, _, rfl, rfl, rfl, _, _, rfl, rfl, rfl, rfl⟩ (by kernel_rfl)
set_option maxRecDepth 100000 in
theorem bop_at {w : World} {G : Nat → Prop} {ao : Option Addr} {xs : List BopZ} (h : ElemsAt shBop w G ao xs) {i : Nat} {x : BopZ} (hi : xs[i]? = some x) :
    ∃ b off rao rcap la lcap, ao = some ⟨b, off, none⟩ ∧ w.cell? ⟨b, off + i * 6, none⟩ = some (.int .i64 x.1) ∧ w.cell? ⟨b, off + i * 6 + 1, none⟩ = some (.int .i64 x.2.1) ∧ w.cell? ⟨b, off + i * 6 + 2, none⟩ = some (.int .i64 x.2.2.1) ∧
      w.cell? ⟨b, off + i * 6 + 3, none⟩ = some (.string x.2.2.2.1) ∧ w.cell? ⟨b, off + i * 6 + 4, none⟩ = some (.slice rao x.2.2.2.2.1.length rcap) ∧ w.cell? ⟨b, off + i * 6 + 5, none⟩ = some (.slice la x.2.2.2.2.2.1.length lcap) ∧
      ElemsAt shT w G rao x.2.2.2.2.1 ∧ ElemsAt shRel w G la x.2.2.2.2.2.1 := by
  obtain ⟨b, off, es, e, _, _, hat, hcell⟩ := h i x hi
  obtain ⟨a1, b1, e1, ⟨f1, _⟩, a2, b2, e2, ⟨f2, _⟩, a3, b3, e3, ⟨f3, _⟩, a4, b4, e4, ⟨f4, _⟩, a5, b5, e5, ⟨rao, rcap, f5, _, _, he5⟩, a6, b6, e6, ⟨la, lcap, f6, _, _, he6⟩, e7⟩ := hat
  have e7' : b6 = [] := e7
  have ee : es = [.int .i64 x.1, .int .i64 x.2.1, .int .i64 x.2.2.1, .string x.2.2.2.1, .slice rao x.2.2.2.2.1.length rcap, .slice la x.2.2.2.2.2.1.length lcap] := by
    rw [e1, f1, e2, f2, e3, f3, e4, f4, e5, f5, e6, f6, e7']; rfl
  have hc : ∀ c u, es[c]? = some u → w.cell? ⟨b, off + i * 6 + c, none⟩ = some u := fun c u hu => by
    have := hcell c u hu
    rw [show shBop.n = 6 from rfl, ← Nat.add_assoc] at this
    exact this
  exact ⟨b, off, rao, rcap, la, lcap, e, hc 0 _ (by rw [ee]; rfl), hc 1 _ (by rw [ee]; rfl), hc 2 _ (by rw [ee]; rfl), hc 3 _ (by rw [ee]; rfl), hc 4 _ (by rw [ee]; rfl), hc 5 _ (by rw [ee]; rfl), he5, he6⟩

/-- All names of a script. -/
def namesB (xs : List BopZ) : List ByteArray := xs.flatMap fun x => x.2.2.2.1 :: x.2.2.2.2.2.1.map (·.1)
theorem bulk_t1 (x : ByteArray) : shT.bulk x = x.size + 1 := rfl
theorem bulk_ts (ss : List ByteArray) : shTs.bulk ss = bulkL shT.bulk ss + 1 := rfl
theorem bulk_rel (q : RelZ) : shRel.bulk q = q.1.size + 1 + (1 + (bulkL shTs.bulk q.2.2.1 + 1 + 0)) + 1 := rfl
theorem bulk_bop (x : BopZ) : shBop.bulk x = 1 + (1 + (1 + (x.2.2.2.1.size + 1 + ((bulkL shT.bulk x.2.2.2.2.1 + 1) + ((bulkL shRel.bulk x.2.2.2.2.2.1 + 1) + 0))))) + 1 := rfl
theorem namesB_len : ∀ xs : List BopZ, (namesB xs).length ≤ bulkL shBop.bulk xs
  | [] => Nat.zero_le _
  | x :: xs => by
    have h1 := namesB_len xs
    have h2 := bulkL_len shRel.bulk (fun q => by rw [bulk_rel]; omega) x.2.2.2.2.2.1
    have h3 : namesB (x :: xs) = (x.2.2.2.1 :: x.2.2.2.2.2.1.map (·.1)) ++ namesB xs := rfl
    rw [h3, bulkL_cons, List.length_append, List.length_cons, List.length_map, bulk_bop]
    omega
/-- What a step is handed, out of a script. -/
theorem bop_facts {xs : List BopZ} {x : BopZ} {N : Nat} (hx : x ∈ xs) (hN : bulkL shBop.bulk xs ≤ N) :
    x.2.2.2.2.1.length ≤ N ∧ (∀ s ∈ x.2.2.2.2.1, s.size ≤ N) ∧ x.2.2.2.1 ∈ namesB xs ∧ x.2.2.2.2.2.1.length ≤ N ∧ (∀ q ∈ x.2.2.2.2.2.1, q.2.2.1.length ≤ N) ∧ (∀ q ∈ x.2.2.2.2.2.1, ∀ s ∈ q.2.2.1, s.length ≤ N ∧ ∀ t ∈ s, t.size ≤ N) ∧ ∀ q ∈ x.2.2.2.2.2.1, q.1 ∈ namesB xs := by
  have hb := Nat.le_trans (bulkL_mem shBop.bulk hx) hN
  rw [bulk_bop] at hb
  have ht : ∀ ss : List ByteArray, ss.length ≤ bulkL shT.bulk ss ∧ ∀ t ∈ ss, t.size ≤ bulkL shT.bulk ss := fun ss =>
    ⟨bulkL_len shT.bulk (fun x => by rw [bulk_t1]; omega) ss, fun t h => by have := bulkL_mem shT.bulk h; rw [bulk_t1] at this; omega⟩
  have hr := rel_bulk (L := x.2.2.2.2.2.1) (N := N) (by omega)
  refine ⟨by have := (ht x.2.2.2.2.1).1; omega, fun s hs => by have := (ht x.2.2.2.2.1).2 s hs; omega, List.mem_flatMap.2 ⟨x, hx, List.mem_cons_self⟩, hr.1, fun q hq => (hr.2 q hq).1, fun q hq s hs => ?_, fun q hq => List.mem_flatMap.2 ⟨x, hx, List.mem_cons_of_mem _ (List.mem_map.2 ⟨q, hq, rfl⟩)⟩⟩
  have h1 := bulkL_mem shRel.bulk hq
  rw [bulk_rel] at h1
  have h2 : shTs.bulk s ≤ bulkL shTs.bulk q.2.2.1 := bulkL_mem shTs.bulk hs
  rw [bulk_ts] at h2
  exact ⟨by have := (ht s).1; omega, fun t h => by have := (ht s).2 t h; omega⟩

/-- A shelf with nothing in it. -/
def place0 : Place := ⟨.pointer none, [], fun _ => False, .pointer none, [], fun _ => False⟩
theorem place0_at (S : Nat → Prop) (w : World) : PlaceAt S w place0 := ⟨.nil, .nil, rfl, SameC.refl _, Nat.zero_le _⟩
theorem shelf0_at (w : World) : ShelfAt (fun _ => False) (w.alloc (.cells #[.pointer none, .pointer none, .pointer none, .pointer none, .pointer none, .pointer none] 60)) w.heap.size (fun _ => place0) :=
  ⟨Blk.new w [_, _, _, _, _, _] _, fun k _ => place0_at _ _, fun i j _ _ _ g h => h.elim, fun i j _ _ g h => h.elim, fun i j _ _ _ g h => h.elim, fun k _ => ⟨id, id⟩, id, fun k h => h.elim⟩
theorem shelf0_lo {lo sd : Nat} (h : lo ≤ sd) : ShelfLo lo (fun _ => place0) sd := ⟨h, fun k _ => ⟨fun g h => h.elim, fun g h => h.elim⟩⟩
/-- The shelf of the law's loop. -/
def BasesAt (lo : Nat) (NM : List ByteArray) (w0 : World) (sd : Nat) (w : World) : Prop := Ext w0 w ∧ ∃ S D, ShelfAt S w sd D ∧ ShelfLo lo D sd ∧ ∀ k, k < 3 → ∀ e ∈ (D k).E, e.name ∈ NM
/-- Bases without relations go to a place. -/
theorem shelf_put {S : Nat → Prop} {W2 W3 : World} {lo z sd i : Nat} {D : Nat → Place} {v mv : Value} {ow mw : Nat → Prop} (h : ShelfAt S W2 sd D) (hl : ShelfLo lo D sd) (hz : ∀ k, k < 3 → (∀ g, (D k).ow g → g < z) ∧ ∀ g, (D k).mw g → g < z) (sz : sd < z) (lz : lo ≤ z) (hi : i < 3) (hE : ∀ k, k < 3 → (D k).E = [])
    (hb : BaseO S W2 v [] ow) (hm : RefO S W2 mv [] mw) (hrn : ∀ g, ow g → z ≤ g) (hmn : ∀ g, mw g → z ≤ g) (hrm : ∀ g, ow g → ¬ mw g) (hnl : nilV v = nilV mv)
    (h3 : W3 = (W2.setCell ⟨sd, i, none⟩ v).setCell ⟨sd, 3 + i, none⟩ mv ∨ W3 = (W2.setCell ⟨sd, 3 + i, none⟩ mv).setCell ⟨sd, i, none⟩ v) :
    ∃ D', ShelfAt S W3 sd D' ∧ ShelfLo lo D' sd ∧ (∀ k, k < 3 → (D' k).E = []) ∧ Kp (fun g => g = sd) W2 W3 := by
  have hk : Kp (fun g => g = sd) W2 W3 := by
    rcases h3 with rfl | rfl
    · exact Kp.setCell (F := fun g => g = sd) (Kp.setCell (F := fun g => g = sd) (Kp.refl _) (fun _ => rfl) _) (fun _ => rfl) _
    · exact Kp.setCell (F := fun g => g = sd) (Kp.setCell (F := fun g => g = sd) (Kp.refl _) (fun _ => rfl) _) (fun _ => rfl) _
  have hB : Blk W3 sd [(updP D i ⟨v, [], ow, mv, [], mw⟩ 0).bv, (updP D i ⟨v, [], ow, mv, [], mw⟩ 1).bv, (updP D i ⟨v, [], ow, mv, [], mw⟩ 2).bv, (updP D i ⟨v, [], ow, mv, [], mw⟩ 0).mv, (updP D i ⟨v, [], ow, mv, [], mw⟩ 1).mv, (updP D i ⟨v, [], ow, mv, [], mw⟩ 2).mv] 60 := by
    have hb0 := h.blk
    rcases h3 with rfl | rfl
    all_goals
      match i, hi with
      | 0, _ => exact (hb0.set _ _).set _ _
      | 1, _ => exact (hb0.set _ _).set _ _
      | 2, _ => exact (hb0.set _ _).set _ _
  have hz3 := hk.size
  have nsd : ∀ g, g = sd → ¬ S g := fun g e hs => by subst e; exact h.offS hs
  refine ⟨updP D i ⟨v, [], ow, mv, [], mw⟩, h.turn (z := z) hz sz hi (hk.mono fun g _ e => .inr (.inr e)) hB ⟨fun k hk => hk, fun k hk => .inl hk⟩ (fun k hk' => by have := h.inS k hk'; omega)
    ⟨hb.kp hk (fun g e ho => by have := hrn g ho; omega) nsd, hm.kp hk (fun g e ho => by have := hmn g ho; omega) nsd, hnl, SameC.refl _, Nat.zero_le _⟩ (fun g hg => .inr (hrn g hg)) (fun g hg => .inr (hmn g hg)) hrm, ⟨hl.1, fun k hk' => ?_⟩, fun k hk' => ?_, hk⟩
  · by_cases e : k = i
    · subst e
      rw [updP_same]
      exact ⟨fun g hg => by have := hrn g hg; omega, fun g hg => by have := hmn g hg; omega⟩
    · rw [updP_other e]; exact hl.2 k hk'
  · by_cases e : k = i
    · subst e; rw [updP_same]
    · rw [updP_other e]; exact hE k hk'
end Go.Proofs.YtfkhelihepbehaaGreat

/- TupleBases walked. -/
namespace Go.Proofs.YtfkhelihepbehaaGreat
open Go.RowKit Go.Shelf
set_option linter.unusedVariables false

/-- A zero base beside a new one of the document's, at the second place. -/
theorem shelf_zero {W Wb W6 : World} {lo sd bb c : Nat} {D : Nat → Place} (h : ShelfAt (fun _ => False) W sd D) (hl : ShelfLo lo D sd) (lz : lo ≤ W.heap.size) (hE : ∀ k, k < 3 → (D k).E = []) (hk : Ext W Wb) (hB : Blk Wb bb [.map none, .int .i64 0] 65) (hR : RefB (fun _ => False) Wb c [])
    (h1 : W.heap.size ≤ bb) (h2 : W.heap.size ≤ c) (h3 : bb ≠ c) (h4 : W6 = (Wb.setCell ⟨sd, 1, none⟩ (.pointer (some ⟨bb, 0, none⟩))).setCell ⟨sd, 4, none⟩ (.pointer (some ⟨c, 0, none⟩))) :
    ∃ D', ShelfAt (fun _ => False) W6 sd D' ∧ ShelfLo lo D' sd ∧ (∀ k, k < 3 → (D' k).E = []) ∧ Kp (fun g => g = sd) W W6 := by
  obtain ⟨D', a, b, c', d⟩ := shelf_put (z := W.heap.size) (i := 1) (h.ext hk) hl (fun k hk => ⟨(h.place k hk).b.lt, (h.place k hk).m.lt⟩) h.blk.lt lz (by decide) hE (.zero bb hB (fun _ x => x.elim) id) (.full c [] hR ⟨ok_nil, List.Pairwise.nil⟩)
    (fun g e => by subst e; exact h1) (fun g e => by
      rcases e with rfl | ⟨x, hx, _⟩
      · exact h2
      · simp at hx) (fun g e e' => by
      subst e
      rcases e' with rfl | ⟨x, hx, _⟩
      · exact h3 rfl
      · simp at hx) rfl (.inl h4)
  exact ⟨D', a, b, c', (Ext.kp hk).trans d⟩
def BasesLoop (NM : List ByteArray) (w0 : World) (n : Nat) (kv : Value) (w : World) : Prop := ∃ i : Nat, i ≤ n ∧ kv = .int .i64 i ∧ BasesAt w0.heap.size NM w0 w0.heap.size w

set_option maxRecDepth 100000 in
set_option maxHeartbeats 8000000 in
theorem bases_walk (xs : List BopZ) (ao : Option Addr) (n cap : Nat) (w : World) (hn : n = xs.length) (he : ElemsAt shBop w (fun k => k < w.heap.size) ao xs) (hb : bulkL shBop.bulk xs ≤ 1048575) :
    Calls Tryz.prog 5 #[.slice ao n cap] w (RetN w fun w' v => v = .bool true) := by
  have hn8 : n ≤ 1048575 := by
    have := bulkL_len shBop.bulk (fun x => by rw [bulk_bop]; omega) xs
    omega
  have HE := Lib.hid (And.intro he (And.intro hb hn))
  have HNM8 := Lib.hid (show (namesB xs).length ≤ 1048576 from by have := namesB_len xs; omega)
  clear he hb hn
  have h0 := shelf0_at w
  obtain ⟨W1, e1⟩ : ∃ W1, w.alloc (.cells #[.pointer none, .pointer none, .pointer none, .pointer none, .pointer none, .pointer none] 60) = W1 := ⟨_, rfl⟩
  have x1 : Ext w W1 := by rw [← e1]; exact (Kp.refl w).alloc _
  rw [e1] at h0
  have HB := Lib.hid (And.intro (h0.ext (Kp.refl W1).drew) (And.intro (show Ext w W1.drew from x1.drew) (show w.heap.size < W1.heap.size from h0.blk.lt)))
  clear h0 x1
  have HN := Lib.hid (newB_any (fun _ => False) W1.drew (fun _ h => h.elim))
  have HNM := Lib.hid (show ∀ W3, Calls Tryz.prog 31 #[] W3 (RetN W3 fun w' v => ∃ c, v = .pointer (some ⟨c, 0, none⟩) ∧ RefB (fun _ => False) w' c [] ∧ W3.heap.size ≤ c) from fun W3 => refNew_any' (fun _ => False) W3 (fun _ h => h.elim))
  go_enter Tryz.func5, Tryz.ntmps5
  go_wp2_with fail
  clear e1
  refine draw_begin (fun _ : World => True) [] (by kernel_rfl) trivial (fun hHeld => ?_)
  (refine draw_free (i := 0) (v := ?_) rfl ?_ ?_; rotate_left; (intro w; go_simp; try with_reducible rfl)); (try simp only [Act.put, List.setIfInBounds_toArray, List.set_cons_zero, List.set_cons_succ])
  (refine draw_free (i := 1) (v := ?_) rfl ?_ ?_; rotate_left; (intro w; go_simp; try with_reducible rfl)); (try simp only [Act.put, List.setIfInBounds_toArray, List.set_cons_zero, List.set_cons_succ])
  (refine draw_free (i := 4) (v := ?_) rfl ?_ ?_; rotate_left; (intro w; go_simp; try with_reducible rfl)); (try simp only [Act.put, List.setIfInBounds_toArray, List.set_cons_zero, List.set_cons_succ])
  (refine draw_free (i := 5) (v := ?_) rfl ?_ ?_; rotate_left; (intro w; go_simp; try with_reducible rfl)); (try simp only [Act.put, List.setIfInBounds_toArray, List.set_cons_zero, List.set_cons_succ])
  (refine draw_free (i := 8) (v := ?_) rfl ?_ ?_; rotate_left; (intro w; go_simp; try with_reducible rfl)); (try simp only [Act.put, List.setIfInBounds_toArray, List.set_cons_zero, List.set_cons_succ])
  (refine draw_free (i := 9) (v := ?_) rfl ?_ ?_; rotate_left; (intro w; go_simp; try with_reducible rfl)); (try simp only [Act.put, List.setIfInBounds_toArray, List.set_cons_zero, List.set_cons_succ])
  refine draw_one (i := 2) ?_
  refine comes_turn (i := 2) rfl (fun K hK => ?_)
  go_simp
  (refine HN.out.mono ?_; rintro e W3 ⟨v3, rfl, hk3, nb, nr, rfl, hB3, hn3⟩; have HM := Lib.hid (HNM.out W3); have HK3 := Lib.hid (And.intro hk3 (And.intro hB3 hn3)); clear hk3 hB3 hn3)
  go_wp2_with fail
  refine hK.out _ _ ?_ (fun hHeld => ?_)
  · (try dsimp only); (first | done | exact trivial)
  clear hK K; (try simp only [Act.put, List.setIfInBounds_toArray, List.set_cons_zero, List.set_cons_succ])
  refine draw_one (i := 3) ?_
  refine comes_turn (i := 3) rfl (fun K hK => ?_)
  go_simp
  (refine HM.out.mono ?_; rintro e W4 ⟨v4, rfl, hk4, nc, rfl, hR4, hc4⟩; have hst4 := HB.out.1.ext (HK3.out.1.trans hk4); have s1 := hst4.cb (k := 0) (by decide); have z1 := hst4.blk.free 0; have HK4 := Lib.hid (And.intro hk4 (And.intro hR4 (And.intro hc4 hst4))); clear hk4 hR4 hc4 hst4)
  go_wp2_with fail
  refine hK.out _ _ ?_ (fun hHeld => ?_)
  · (try dsimp only); (first | done | exact trivial)
  clear hK K; (try simp only [Act.put, List.setIfInBounds_toArray, List.set_cons_zero, List.set_cons_succ])
  (refine draw_in (i := 6) (v := ?_) rfl ?_ ?_; rotate_left; (intro w hSw; (try dsimp only at hSw); go_simp; try with_reducible rfl)); (try simp only [Act.put, List.setIfInBounds_toArray, List.set_cons_zero, List.set_cons_succ])
  refine draw_one (i := 7) ?_
  refine comes_turn (i := 7) rfl (fun K hK => ?_)
  go_simp
  refine hK.out _ _ ?_ (fun hHeld => ?_)
  · (try dsimp only); (first | done | exact trivial)
  clear hK K; (try simp only [Act.put, List.setIfInBounds_toArray, List.set_cons_zero, List.set_cons_succ])
  (refine draw_in (i := 10) (v := ?_) rfl ?_ ?_; rotate_left; (intro w hSw; (try dsimp only at hSw); go_simp; try with_reducible rfl)); (try simp only [Act.put, List.setIfInBounds_toArray, List.set_cons_zero, List.set_cons_succ])
  refine draw_one (i := 11) ?_
  refine comes_turn (i := 11) rfl (fun K hK => ?_)
  (have s4 := (HK4.out.2.2.2.blk.set 0 (.pointer (some ⟨nb, 0, none⟩))).cell' 3; have z4 := (HK4.out.2.2.2.blk.set 0 (.pointer (some ⟨nb, 0, none⟩))).free 3)
  go_simp
  refine hK.out _ _ ?_ (fun hHeld => ?_)
  · (try dsimp only); (first | done | exact trivial)
  clear hK K; (try simp only [Act.put, List.setIfInBounds_toArray, List.set_cons_zero, List.set_cons_succ])
  refine wpAnyD_done (by kernel_rfl) ?_ _
  clear hHeld
  generalize hW6 : World.setCell (World.setCell _ _ _) _ _ = W6
  have key : ∃ D', ShelfAt (fun _ => False) W6 w.heap.size D' ∧ ShelfLo w.heap.size D' w.heap.size ∧ (∀ k, k < 3 → (D' k).E = []) ∧ Ext w W6 := by
    obtain ⟨hb1, hx1, hz1⟩ := HB.out
    obtain ⟨hk3, hB3, hnw⟩ := HK3.out
    obtain ⟨hk4, hR4, hc4, hst4⟩ := HK4.out
    have z0 : W1.drew.heap.size = W1.heap.size := rfl
    have z3 := hk3.size
    have z4 := hk4.size
    have olt := hB3.ownLt
    obtain ⟨D', a, b, c, d⟩ := shelf_put (z := W1.heap.size) (lo := w.heap.size) (i := 0) hst4 (shelf0_lo (Nat.le_refl _)) (fun k hk => ⟨fun g h => h.elim, fun g h => h.elim⟩) hz1 (by omega) (by decide) (fun k _ => rfl) (.full nb nr [] (hB3.ext hk4)) (.full nc [] hR4 ⟨ok_nil, List.Pairwise.nil⟩)
      (fun g hg => by have := hnw g hg; omega) (fun g hg => by
        rcases hg with rfl | ⟨x, hx, _⟩
        · omega
        · simp at hx) (fun g hg hm => by
        rcases hm with rfl | ⟨x, hx, _⟩
        · have := olt _ hg; omega
        · simp at hx) rfl (.inl hW6.symm)
    exact ⟨D', a, b, c, ((hx1.trans hk3).trans hk4).trans' d fun k hk e => by omega⟩
  obtain ⟨D6, hb6, hl6, hE6, hx6⟩ := key
  have HB6 := Lib.hid (And.intro (hb6.ext (Kp.refl W6).drew) (And.intro hl6 (And.intro hE6 (show Ext w W6.drew from hx6.drew))))
  clear hb6 hl6 hE6 hx6 hW6 s1 z1 s4 z4 HK3 HK4 HM HN HB
  go_wp2_with fail
  have HN3 := Lib.hid (show ∀ W3, Calls Tryz.prog 31 #[] W3 (RetN W3 fun w' v => ∃ c, v = .pointer (some ⟨c, 0, none⟩) ∧ RefB (fun _ => False) w' c [] ∧ W3.heap.size ≤ c) from fun W3 => refNew_any' (fun _ => False) W3 (fun _ h => h.elim))
  refine draw_begin (fun _ : World => True) [] (by kernel_rfl) trivial (fun hHeld => ?_)
  (refine draw_free (i := 0) (v := ?_) rfl ?_ ?_; rotate_left; (intro w; go_simp; try with_reducible rfl)); (try simp only [Act.put, List.setIfInBounds_toArray, List.set_cons_zero, List.set_cons_succ])
  (refine draw_free (i := 1) (v := ?_) rfl ?_ ?_; rotate_left; (intro w; go_simp; try with_reducible rfl)); (try simp only [Act.put, List.setIfInBounds_toArray, List.set_cons_zero, List.set_cons_succ])
  (refine draw_free (i := 2) (v := ?_) rfl ?_ ?_; rotate_left; (intro w; go_simp; try with_reducible rfl)); (try simp only [Act.put, List.setIfInBounds_toArray, List.set_cons_zero, List.set_cons_succ])
  (refine draw_free (i := 5) (v := ?_) rfl ?_ ?_; rotate_left; (intro w; go_simp; try with_reducible rfl)); (try simp only [Act.put, List.setIfInBounds_toArray, List.set_cons_zero, List.set_cons_succ])
  (refine draw_free (i := 6) (v := ?_) rfl ?_ ?_; rotate_left; (intro w; go_simp; try with_reducible rfl)); (try simp only [Act.put, List.setIfInBounds_toArray, List.set_cons_zero, List.set_cons_succ])
  (refine draw_free (i := 9) (v := ?_) rfl ?_ ?_; rotate_left; (intro w; go_simp; try with_reducible rfl)); (try simp only [Act.put, List.setIfInBounds_toArray, List.set_cons_zero, List.set_cons_succ])
  (refine draw_free (i := 10) (v := ?_) rfl ?_ ?_; rotate_left; (intro w; go_simp; try with_reducible rfl)); (try simp only [Act.put, List.setIfInBounds_toArray, List.set_cons_zero, List.set_cons_succ])
  refine draw_two (i := 3) (k := 4) ?_ ?_
  · refine comes_turn (i := 3) rfl (fun K hK => ?_)
    go_simp
    refine hK.out _ _ ?_ (fun hHeld => ?_)
    · (try dsimp only); (first | done | exact trivial)
    clear hK K; (try simp only [Act.put, List.setIfInBounds_toArray, List.set_cons_zero, List.set_cons_succ])
    refine draw_one (i := 4) ?_
    refine comes_turn (i := 4) rfl (fun K hK => ?_)
    go_simp
    (refine (HN3.out _).mono ?_; rintro e W4 ⟨v4, rfl, hk4, nc, rfl, hR4, hc4⟩; have HK4 := Lib.hid (And.intro hk4 (And.intro hR4 hc4)); clear hk4 hR4 hc4)
    go_wp2_with fail
    refine hK.out _ _ ?_ (fun hHeld => ?_)
    · (try dsimp only); (first | done | exact trivial)
    clear hK K; (try simp only [Act.put, List.setIfInBounds_toArray, List.set_cons_zero, List.set_cons_succ])
    (refine draw_in (i := 7) (v := ?_) rfl ?_ ?_; rotate_left; (intro w hSw; (try dsimp only at hSw); go_simp; try with_reducible rfl)); (try simp only [Act.put, List.setIfInBounds_toArray, List.set_cons_zero, List.set_cons_succ])
    refine draw_one (i := 8) ?_
    refine comes_turn (i := 8) rfl (fun K hK => ?_)
    (first | (have hst4 := HB6.out.1.ext (((Kp.refl W6.drew).alloc (.cells #[.map none, .int .i64 0] 65)).trans HK4.out.1); have s1 := hst4.cb (k := 1) (by decide); have z1 := hst4.blk.free 1; clear hst4) | (have hst4 := (HB6.out.1.ext HK4.out.1).ext ((Kp.refl _).alloc (.cells #[.map none, .int .i64 0] 65)); have s1 := hst4.cb (k := 1) (by decide); have z1 := hst4.blk.free 1; clear hst4))
    go_simp
    refine hK.out _ _ ?_ (fun hHeld => ?_)
    · (try dsimp only); (first | done | exact trivial)
    clear hK K; (try simp only [Act.put, List.setIfInBounds_toArray, List.set_cons_zero, List.set_cons_succ])
    (refine draw_in (i := 11) (v := ?_) rfl ?_ ?_; rotate_left; (intro w hSw; (try dsimp only at hSw); go_simp; try with_reducible rfl)); (try simp only [Act.put, List.setIfInBounds_toArray, List.set_cons_zero, List.set_cons_succ])
    refine draw_one (i := 12) ?_
    refine comes_turn (i := 12) rfl (fun K hK => ?_)
    (first | (have hst4 := HB6.out.1.ext (((Kp.refl W6.drew).alloc (.cells #[.map none, .int .i64 0] 65)).trans HK4.out.1); have s4 := (hst4.blk.set 1 (.pointer (some ⟨W6.heap.size, 0, none⟩))).cell' 4; have z4 := (hst4.blk.set 1 (.pointer (some ⟨W6.heap.size, 0, none⟩))).free 4; clear hst4) | (have hst4 := (HB6.out.1.ext HK4.out.1).ext ((Kp.refl _).alloc (.cells #[.map none, .int .i64 0] 65)); have s4 := (hst4.blk.set 1 (.pointer (some ⟨W4.heap.size, 0, none⟩))).cell' 4; have z4 := (hst4.blk.set 1 (.pointer (some ⟨W4.heap.size, 0, none⟩))).free 4; clear hst4))
    go_simp
    refine hK.out _ _ ?_ (fun hHeld => ?_)
    · (try dsimp only); (first | done | exact trivial)
    clear hK K; (try simp only [Act.put, List.setIfInBounds_toArray, List.set_cons_zero, List.set_cons_succ])
    refine wpAnyD_done (by kernel_rfl) ?_ _
    clear hHeld
    generalize hW8 : World.setCell (World.setCell _ _ _) _ _ = W8
    have key : ∃ D', ShelfAt (fun _ => False) W8 w.heap.size D' ∧ ShelfLo w.heap.size D' w.heap.size ∧ (∀ k, k < 3 → (D' k).E = []) ∧ Ext w W8 := by
      obtain ⟨hb6, hl6, hE6, hx6⟩ := HB6.out
      obtain ⟨hk4, hR4, hc4⟩ := HK4.out
      have z6 := hx6.size
      have zd : W6.drew.heap.size = W6.heap.size := rfl
      have z4 := hk4.size
      first
      | (have e5 : (W6.alloc (.cells #[.map none, .int .i64 0] 65)).drew.heap.size = W6.heap.size + 1 := by show (W6.alloc _).heap.size = _; rw [alloc_size]
         have ha : Ext W6.drew (W6.drew.alloc (.cells #[.map none, .int .i64 0] 65)) := (Kp.refl _).alloc _
         obtain ⟨D', a, b, c, d⟩ := shelf_zero (bb := W6.drew.heap.size) hb6 hl6 z6 hE6 (ha.trans hk4) ((Blk.new W6.drew [.map none, .int .i64 0] 65).ext hk4) hR4 (Nat.le_refl _) (by omega) (by omega) hW8.symm
         exact ⟨D', a, b, c, hx6.trans' d fun k hk e => by omega⟩)
      | (have ha : Ext W4 (W4.alloc (.cells #[.map none, .int .i64 0] 65)) := (Kp.refl _).alloc _
         have hlt := (RefO.full nc [] hR4 ⟨ok_nil, List.Pairwise.nil⟩).lt nc (.inl rfl)
         obtain ⟨D', a, b, c, d⟩ := shelf_zero (bb := W4.heap.size) hb6 hl6 z6 hE6 (hk4.trans ha) (Blk.new W4 [.map none, .int .i64 0] 65) (hR4.ext ha) (by omega) hc4 (by omega) hW8.symm
         exact ⟨D', a, b, c, hx6.trans' d fun k hk e => by omega⟩)
    obtain ⟨D8, hb8, hl8, hE8, hx8⟩ := key
    have HBF := Lib.hid (And.intro hb8 (And.intro hl8 (And.intro hE8 hx8)))
    clear hb8 hl8 hE8 hx8 hW8 s1 z1 s4 z4 HK4 HN3 HB6
    go_wp2_with fail
    go_loopw [4] (BasesLoop (namesB xs) w n) (fun kv _ => n - (intOf kv).toNat)
    case atStart => exact ⟨0, Nat.zero_le _, rfl, HBF.out.2.2.2, _, D8, HBF.out.1, HBF.out.2.1, fun k hk e he => by rw [HBF.out.2.2.1 k hk] at he; simp at he⟩
    case round =>
      obtain ⟨i, hi, rfl, hex, S, D, hb, hl, hnm⟩ := hrel
      generalize hw9 : wr = W9 at *; clear hw9
      by_cases hlt : i < n
      · obtain ⟨⟨kd, who, N, name, ss, L, u⟩, hx⟩ : ∃ x, xs[i]? = some x := ⟨_, List.getElem?_eq_getElem (by have := HE.out.2.2; omega)⟩
        obtain ⟨g, o, rao, rcap, la, lcap, eao, c0, c1, c2, c3, c4, c5, her, hel⟩ := bop_at (HE.out.1.ext hex) hx
        subst eao
        simp only at c0 c1 c2 c3 c4 c5 her hel
        obtain ⟨f1, f2, f3, f4, f5, f6, f7⟩ := bop_facts (List.mem_of_getElem? hx) (N := 1048575) HE.out.2.1
        simp only at f1 f2 f3 f4 f5 f6 f7
        have HST := Lib.hid (stepShelf_any (cap := rcap) (lcap := lcap) (name := name) (show StepInS w.heap.size w.heap.size (namesB xs) S D name rao ss la L W9 from
          { b := hb, l := hl, lw := hex.size, nm := hnm, few := HNM8.out, row := elems_strs her, rlo := by
              cases ss with
              | nil => exact .inl rfl
              | cons s ss =>
                refine .inr fun a e => ?_
                obtain ⟨b0, off, es, e0, hg0, _⟩ := her 0 s rfl
                rw [e0] at e; cases e; exact hg0
            len := by omega, size := fun s hs => by have := f2 s hs; omega, nin := f3, rel := elems_st hel fun q hq s hs => by have := (f6 q hq s hs).1; omega
            rln := by omega, rrn := fun q hq => by have := f5 q hq; omega, rss := fun q hq s hs => ⟨by have := (f6 q hq s hs).1; omega, fun t ht => by have := (f6 q hq s hs).2 t ht; omega⟩, rnm := f7 }) kd who N)
        have i1 : (i : Int) < (n : Int) := by omega
        have i2 : (0 : Int) ≤ (i : Int) := by omega
        clear f1 f2 f3 f4 f5 f6 f7 hx her hel hb hl hnm
        go_wp2_with fail
        refine HST.out.mono ?_
        rintro e w6 ⟨v, rfl, hk6, rfl, S', D', hb', hl', hn'⟩
        have HR := Lib.hid (And.intro hk6 (And.intro hb' (And.intro hl' hn'))); clear hk6 hb' hl' hn' c0 c1 c2 c3 c4 c5 HST
        go_wp2
        go_roundw
        case rel => exact ⟨i + 1, by omega, by first | rfl | (congr 1; done) | (congr 1; omega), hex.trans' HR.out.1 (fun k hk h => by omega), S', D', HR.out.2.1, HR.out.2.2.1, HR.out.2.2.2⟩
        case measure => simp [intOf]; omega
      · have HL := Lib.hid (And.intro hb hex)
        have ei : n = i := by omega
        clear hb hl hnm hlt hi hex HBF
        subst ei
        have HT := Lib.hid (show ∀ W (k : Nat), k < 3 → Ext W9 W → Calls Tryz.prog 33 #[.pointer (some ⟨w.heap.size, 0, none⟩), .int .i64 (k : Int), .string ⟨#[112]⟩, .slice none 0 0] W (RetN W fun w' v => v = .bool true) from fun W k hk hW =>
          shelfTold_any (HL.out.1.ext hW) hk ⟨#[112]⟩ (xo := none) (m := 0) (xc := 0) (ss := []) rfl (CellsAt.nil _ _) (by simp) (by simp))
        go_wp2_with fail
        refine (HT.out _ 0 (by decide) (Kp.refl _)).mono ?_
        rintro e wt ⟨vt, rfl, hkt, rfl⟩
        have HB0 := Lib.hid hkt
        clear hkt
        go_wp2_with fail
        refine (HT.out _ 1 (by decide) HB0.out).mono ?_
        rintro e wt1 ⟨vt, rfl, hkt, rfl⟩
        have HB1 := Lib.hid (HB0.out.trans hkt)
        clear hkt
        go_wp2_with fail
        refine (HT.out _ 2 (by decide) HB1.out).mono ?_
        rintro e wt2 ⟨vt, rfl, hkt, rfl⟩
        have HB2 := Lib.hid (HL.out.2.trans (HB1.out.trans hkt))
        clear hkt
        go_wp2
        go_ret
        exact RetN.mk HB2.out rfl
  · refine comes_turn (i := 4) rfl (fun K hK => ?_)
    go_simp
    (refine (HN3.out _).mono ?_; rintro e W4 ⟨v4, rfl, hk4, nc, rfl, hR4, hc4⟩; have HK4 := Lib.hid (And.intro hk4 (And.intro hR4 hc4)); clear hk4 hR4 hc4)
    go_wp2_with fail
    refine hK.out _ _ ?_ (fun hHeld => ?_)
    · (try dsimp only); (first | done | exact trivial)
    clear hK K; (try simp only [Act.put, List.setIfInBounds_toArray, List.set_cons_zero, List.set_cons_succ])
    refine draw_one (i := 3) ?_
    refine comes_turn (i := 3) rfl (fun K hK => ?_)
    go_simp
    refine hK.out _ _ ?_ (fun hHeld => ?_)
    · (try dsimp only); (first | done | exact trivial)
    clear hK K; (try simp only [Act.put, List.setIfInBounds_toArray, List.set_cons_zero, List.set_cons_succ])
    (refine draw_in (i := 7) (v := ?_) rfl ?_ ?_; rotate_left; (intro w hSw; (try dsimp only at hSw); go_simp; try with_reducible rfl)); (try simp only [Act.put, List.setIfInBounds_toArray, List.set_cons_zero, List.set_cons_succ])
    refine draw_one (i := 8) ?_
    refine comes_turn (i := 8) rfl (fun K hK => ?_)
    (first | (have hst4 := HB6.out.1.ext (((Kp.refl W6.drew).alloc (.cells #[.map none, .int .i64 0] 65)).trans HK4.out.1); have s1 := hst4.cb (k := 1) (by decide); have z1 := hst4.blk.free 1; clear hst4) | (have hst4 := (HB6.out.1.ext HK4.out.1).ext ((Kp.refl _).alloc (.cells #[.map none, .int .i64 0] 65)); have s1 := hst4.cb (k := 1) (by decide); have z1 := hst4.blk.free 1; clear hst4))
    go_simp
    refine hK.out _ _ ?_ (fun hHeld => ?_)
    · (try dsimp only); (first | done | exact trivial)
    clear hK K; (try simp only [Act.put, List.setIfInBounds_toArray, List.set_cons_zero, List.set_cons_succ])
    (refine draw_in (i := 11) (v := ?_) rfl ?_ ?_; rotate_left; (intro w hSw; (try dsimp only at hSw); go_simp; try with_reducible rfl)); (try simp only [Act.put, List.setIfInBounds_toArray, List.set_cons_zero, List.set_cons_succ])
    refine draw_one (i := 12) ?_
    refine comes_turn (i := 12) rfl (fun K hK => ?_)
    (first | (have hst4 := HB6.out.1.ext (((Kp.refl W6.drew).alloc (.cells #[.map none, .int .i64 0] 65)).trans HK4.out.1); have s4 := (hst4.blk.set 1 (.pointer (some ⟨W6.heap.size, 0, none⟩))).cell' 4; have z4 := (hst4.blk.set 1 (.pointer (some ⟨W6.heap.size, 0, none⟩))).free 4; clear hst4) | (have hst4 := (HB6.out.1.ext HK4.out.1).ext ((Kp.refl _).alloc (.cells #[.map none, .int .i64 0] 65)); have s4 := (hst4.blk.set 1 (.pointer (some ⟨W4.heap.size, 0, none⟩))).cell' 4; have z4 := (hst4.blk.set 1 (.pointer (some ⟨W4.heap.size, 0, none⟩))).free 4; clear hst4))
    go_simp
    refine hK.out _ _ ?_ (fun hHeld => ?_)
    · (try dsimp only); (first | done | exact trivial)
    clear hK K; (try simp only [Act.put, List.setIfInBounds_toArray, List.set_cons_zero, List.set_cons_succ])
    refine wpAnyD_done (by kernel_rfl) ?_ _
    clear hHeld
    generalize hW8 : World.setCell (World.setCell _ _ _) _ _ = W8
    have key : ∃ D', ShelfAt (fun _ => False) W8 w.heap.size D' ∧ ShelfLo w.heap.size D' w.heap.size ∧ (∀ k, k < 3 → (D' k).E = []) ∧ Ext w W8 := by
      obtain ⟨hb6, hl6, hE6, hx6⟩ := HB6.out
      obtain ⟨hk4, hR4, hc4⟩ := HK4.out
      have z6 := hx6.size
      have zd : W6.drew.heap.size = W6.heap.size := rfl
      have z4 := hk4.size
      first
      | (have e5 : (W6.alloc (.cells #[.map none, .int .i64 0] 65)).drew.heap.size = W6.heap.size + 1 := by show (W6.alloc _).heap.size = _; rw [alloc_size]
         have ha : Ext W6.drew (W6.drew.alloc (.cells #[.map none, .int .i64 0] 65)) := (Kp.refl _).alloc _
         obtain ⟨D', a, b, c, d⟩ := shelf_zero (bb := W6.drew.heap.size) hb6 hl6 z6 hE6 (ha.trans hk4) ((Blk.new W6.drew [.map none, .int .i64 0] 65).ext hk4) hR4 (Nat.le_refl _) (by omega) (by omega) hW8.symm
         exact ⟨D', a, b, c, hx6.trans' d fun k hk e => by omega⟩)
      | (have ha : Ext W4 (W4.alloc (.cells #[.map none, .int .i64 0] 65)) := (Kp.refl _).alloc _
         have hlt := (RefO.full nc [] hR4 ⟨ok_nil, List.Pairwise.nil⟩).lt nc (.inl rfl)
         obtain ⟨D', a, b, c, d⟩ := shelf_zero (bb := W4.heap.size) hb6 hl6 z6 hE6 (hk4.trans ha) (Blk.new W4 [.map none, .int .i64 0] 65) (hR4.ext ha) (by omega) hc4 (by omega) hW8.symm
         exact ⟨D', a, b, c, hx6.trans' d fun k hk e => by omega⟩)
    obtain ⟨D8, hb8, hl8, hE8, hx8⟩ := key
    have HBF := Lib.hid (And.intro hb8 (And.intro hl8 (And.intro hE8 hx8)))
    clear hb8 hl8 hE8 hx8 hW8 s1 z1 s4 z4 HK4 HN3 HB6
    go_wp2_with fail
    go_loopw [4] (BasesLoop (namesB xs) w n) (fun kv _ => n - (intOf kv).toNat)
    case atStart => exact ⟨0, Nat.zero_le _, rfl, HBF.out.2.2.2, _, D8, HBF.out.1, HBF.out.2.1, fun k hk e he => by rw [HBF.out.2.2.1 k hk] at he; simp at he⟩
    case round =>
      obtain ⟨i, hi, rfl, hex, S, D, hb, hl, hnm⟩ := hrel
      generalize hw9 : wr = W9 at *; clear hw9
      by_cases hlt : i < n
      · obtain ⟨⟨kd, who, N, name, ss, L, u⟩, hx⟩ : ∃ x, xs[i]? = some x := ⟨_, List.getElem?_eq_getElem (by have := HE.out.2.2; omega)⟩
        obtain ⟨g, o, rao, rcap, la, lcap, eao, c0, c1, c2, c3, c4, c5, her, hel⟩ := bop_at (HE.out.1.ext hex) hx
        subst eao
        simp only at c0 c1 c2 c3 c4 c5 her hel
        obtain ⟨f1, f2, f3, f4, f5, f6, f7⟩ := bop_facts (List.mem_of_getElem? hx) (N := 1048575) HE.out.2.1
        simp only at f1 f2 f3 f4 f5 f6 f7
        have HST := Lib.hid (stepShelf_any (cap := rcap) (lcap := lcap) (name := name) (show StepInS w.heap.size w.heap.size (namesB xs) S D name rao ss la L W9 from
          { b := hb, l := hl, lw := hex.size, nm := hnm, few := HNM8.out, row := elems_strs her, rlo := by
              cases ss with
              | nil => exact .inl rfl
              | cons s ss =>
                refine .inr fun a e => ?_
                obtain ⟨b0, off, es, e0, hg0, _⟩ := her 0 s rfl
                rw [e0] at e; cases e; exact hg0
            len := by omega, size := fun s hs => by have := f2 s hs; omega, nin := f3, rel := elems_st hel fun q hq s hs => by have := (f6 q hq s hs).1; omega
            rln := by omega, rrn := fun q hq => by have := f5 q hq; omega, rss := fun q hq s hs => ⟨by have := (f6 q hq s hs).1; omega, fun t ht => by have := (f6 q hq s hs).2 t ht; omega⟩, rnm := f7 }) kd who N)
        have i1 : (i : Int) < (n : Int) := by omega
        have i2 : (0 : Int) ≤ (i : Int) := by omega
        clear f1 f2 f3 f4 f5 f6 f7 hx her hel hb hl hnm
        go_wp2_with fail
        refine HST.out.mono ?_
        rintro e w6 ⟨v, rfl, hk6, rfl, S', D', hb', hl', hn'⟩
        have HR := Lib.hid (And.intro hk6 (And.intro hb' (And.intro hl' hn'))); clear hk6 hb' hl' hn' c0 c1 c2 c3 c4 c5 HST
        go_wp2
        go_roundw
        case rel => exact ⟨i + 1, by omega, by first | rfl | (congr 1; done) | (congr 1; omega), hex.trans' HR.out.1 (fun k hk h => by omega), S', D', HR.out.2.1, HR.out.2.2.1, HR.out.2.2.2⟩
        case measure => simp [intOf]; omega
      · have HL := Lib.hid (And.intro hb hex)
        have ei : n = i := by omega
        clear hb hl hnm hlt hi hex HBF
        subst ei
        have HT := Lib.hid (show ∀ W (k : Nat), k < 3 → Ext W9 W → Calls Tryz.prog 33 #[.pointer (some ⟨w.heap.size, 0, none⟩), .int .i64 (k : Int), .string ⟨#[112]⟩, .slice none 0 0] W (RetN W fun w' v => v = .bool true) from fun W k hk hW =>
          shelfTold_any (HL.out.1.ext hW) hk ⟨#[112]⟩ (xo := none) (m := 0) (xc := 0) (ss := []) rfl (CellsAt.nil _ _) (by simp) (by simp))
        go_wp2_with fail
        refine (HT.out _ 0 (by decide) (Kp.refl _)).mono ?_
        rintro e wt ⟨vt, rfl, hkt, rfl⟩
        have HB0 := Lib.hid hkt
        clear hkt
        go_wp2_with fail
        refine (HT.out _ 1 (by decide) HB0.out).mono ?_
        rintro e wt1 ⟨vt, rfl, hkt, rfl⟩
        have HB1 := Lib.hid (HB0.out.trans hkt)
        clear hkt
        go_wp2_with fail
        refine (HT.out _ 2 (by decide) HB1.out).mono ?_
        rintro e wt2 ⟨vt, rfl, hkt, rfl⟩
        have HB2 := Lib.hid (HL.out.2.trans (HB1.out.trans hkt))
        clear hkt
        go_wp2
        go_ret
        exact RetN.mk HB2.out rfl
end Go.Proofs.YtfkhelihepbehaaGreat

/- Proved here: the statement TupleBasesUptoSaid: the law returns true for every input of the bound that the row names and leaves its arguments as they were. No condition of its own. -/
namespace Go.Proofs.YtfkhelihepbehaaGreat.lawTupleBases
open Go.ChangeShapes Go.WideShapes Go.ChangeAt Go.RowKit
open Go.ChangeMaps (open_string shut_string)
set_option linter.unusedVariables false

theorem bases_walk' (v0 : Value) (W : World)
    (h0 : ∃ ao cap xs, v0 = .slice ao xs.length cap ∧ xs.length ≤ cap ∧ ElemsAt shBop W (fun k => k < W.heap.size) ao xs ∧ bulkL shBop.bulk xs + 1 ≤ 1048576) :
    Calls Tryz.prog 5 #[v0] W (fun e w' => e = .returned (.bool true) ∧ Below W.heap.size W w') := by
  obtain ⟨ao, cap, xs, rfl, _, he, hb⟩ := h0
  refine (bases_walk xs ao xs.length cap W rfl he (by omega)).mono ?_
  rintro e w' ⟨v, rfl, hk, rfl⟩
  exact ⟨rfl, hk.below⟩
theorem own : ownKnob Tryz.prog.godebug = none := by kernel_rfl
theorem laidOut : laidOutB Tryz.prog = true := by kernel_rfl

set_option maxRecDepth 100000 in
theorem lifted (os : Os) (started : os.Started) (H : Type) (enc : TypeId × Value → H) (F : Stop.Interp) :
    ReturnsInHanded {} Tryz.checked os 5 .any ((Rows.OpenSpec.upto Rows.tupleBasesSpec).pre6 enc Tryz.prog Tryz.f5 Rows.tupleBasesUptoRow.domain false) (((Rows.OpenSpec.upto Rows.tupleBasesSpec).at F).post enc Tryz.prog Tryz.f5 false true false false) := by
  refine returnsInHanded_of_cond (C := Tryz.checked) (s := Rows.OpenSpec.upto Rows.tupleBasesSpec) (k := Rows.uptoSmall) rfl own started (by kernel_rfl) Tryz.func5
    (OpenSpec.witness (enc := enc) (C := Tryz.checked) (s := Rows.OpenSpec.upto Rows.tupleBasesSpec) (k := Rows.uptoSmall) rfl false ⟨#[], #[.slice none 0 0], []⟩ 8 (by kernel_rfl) (by kernel_rfl) (by kernel_rfl)
      (x := ([.nil], [], [])) (by kernel_rfl) rfl (by kernel_rfl)) ?_
  intro W base args ds gs before hval0 hW hcnd hk0 _
  have hk : Rows.uptoSmall H (ds ++ gs) = true := hk0
  clear hk0
  have hval : ∀ (j : Nat) t v, Tryz.f5.params[j]? = some t → args[j]? = some v → Value.okWide Tryz.prog W .any base t v := hval0
  have hW' := hW
  obtain ⟨p, q, hA0, hV, rfl, hfz, hnd⟩ := hW
  have hA : DataW.TrodAll enc Tryz.prog W 0 (fun _ => true) true Tryz.f5.params.toList args.toList ds p := hA0
  rw [Tryz.params5] at hA hval
  obtain ⟨v0, vs0, d0, ds0, p0, q0, hargs, rfl, rfl, h0, r0⟩ := trodAll_cons hA
  obtain ⟨rfl, rfl, rfl⟩ := trodAll_nil r0
  obtain rfl : args = #[v0] := by cases args; simp_all
  obtain ⟨rfl, rfl⟩ := trodVars_none hV
  have lt0 : ∀ x ∈ p0, x.block < W.heap.size := by obtain ⟨m, hm⟩ := h0; exact DataW.trod_lt m _ _ _ hm
  clear hA0 hval0
  simp only [List.append_nil] at hk
  have hk1 : Rows.uptoBulkAll [d0] ≤ 1048576 := of_decide_eq_true hk
  clear hk
  have x0 := arg_slice (s := shBop) Tryz.underlying54 (by kernel_rfl) (by show 0 < 6; decide) (hval 0 54 v0 rfl rfl) h0 (N := 1048576) (bulk_in hk1 (by simp))
  refine (bases_walk' v0 W x0).mono fun e W' ⟨he, bel⟩ => ?_
  subst he
  exact ⟨_, rfl, _, _, _, [], _, [], hW', trodAll_mk1 (shut_bool Tryz.underlying4 _), (trodAll_cons_mk (Below.trod laidOut (by kernel_rfl) (of_decide_eq_true (by kernel_rfl)) h0 bel lt0) trodAll_mk0), rfl, bel.frame _, fun h => by cases h⟩

theorem over : Rows.tupleBasesUptoRow.holds Tryz.pinned (Rows.OpenSpec.upto Rows.tupleBasesSpec) :=
  OpenClaim.holds_of_cond 5 Tryz.f5 rfl rfl rfl rfl rfl rfl rfl ⟨rfl, rfl, rfl, rfl, rfl⟩ rfl rfl rfl rfl rfl (by kernel_rfl) Tryz.func5 (by kernel_rfl)
    (of_decide_eq_true (by kernel_rfl)) (by unfold Func.isWrapper; first | (rw [if_pos (by decide +kernel)]; kernel_rfl) | (rw [if_neg (by decide +kernel)]; exact ⟨rfl, rfl⟩))
    (fun os started H enc _ F => lifted os started H enc F)

theorem proved : Rows.TupleBasesUptoSaid := over
#print axioms proved
end Go.Proofs.YtfkhelihepbehaaGreat.lawTupleBases
