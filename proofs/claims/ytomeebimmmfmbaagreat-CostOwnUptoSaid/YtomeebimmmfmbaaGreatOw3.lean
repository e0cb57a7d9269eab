/- Texts joined for a claim (Law3, Law4, Law5, Law6, Far, Shelf, OrdFns, OrdPlain, Wanted, BodyFns, BodyR, Stands, Guess). -/
import Derived.Test.YtomeebimmmfmbaaGreatOw2
import Derived.StillTailTactics
import Derived.Shelf.SlGeneric
import Derived.Ground.SlsfProg
import Derived.Ground.GgzProg
import Derived.Shelf.SlSortCmp.NoneTotal
import Derived.Shelf.SlIter.Sorted
import Derived.Test.YtomeebimmmfmbaaGreatProg
import Derived.OwnWalk
/- The law of costs: twin, stays. -/
namespace Go.Proofs.YtomeebimmmfmbaaGreat
open Go.RowKit
set_option linter.unusedVariables false
def litC (x : LitZ × (Option Addr × Nat)) : List Value := [.int .i64 x.1.1, .string (predOf x.1), .slice x.2.1 (termsOf x.1).length x.2.2, .int .i64 (opOf x.1), .int .i64 (leftOf x.1).1, .string (leftOf x.1).2.1, .int .i64 (rightOf x.1).1, .string (rightOf x.1).2.1]
theorem litC_len (x : LitZ × (Option Addr × Nat)) : (litC x).length = 8 := rfl
def markL : List Value := [.int .i64 (-7), .string ⟨#[]⟩, .slice none 0 0, .int .i64 0, .int .i64 0, .string ⟨#[]⟩, .int .i64 0, .string ⟨#[]⟩]
structure LitAll (l : LitZ) : Prop where
  kind : (Lit.int .i64 l.1).wf = true
  pred : (predOf l).size ≤ maxLen
  terms : ∀ t ∈ termsOf l, TermFit t
  op : (Lit.int .i64 (opOf l)).wf = true
  left : TermFit (leftOf l)
  right : TermFit (rightOf l)
theorem lits_all {w : World} {G : Nat → Prop} {ao : Option Addr} {ls : List LitZ} (h : LitsAt w G ao ls) : ∀ l ∈ ls, LitAll l := fun l hl => by
  obtain ⟨i, hi⟩ := List.mem_iff_getElem?.1 hl
  obtain ⟨b, off, es, e, _, _, ha, _⟩ := h i l hi
  obtain ⟨a1, b1, e1, ⟨e2, k2⟩, ⟨a3, b3, e3, h3, ⟨a4, b4, e4, ⟨e5, k5⟩, ⟨a6, b6, e6, h6, ⟨a7, b7, e7, h7, e8⟩⟩⟩⟩⟩ := ha
  obtain ⟨c1, d1, f1, ⟨f2, g2⟩, ⟨c3, d3, f3, ⟨ao', cap, f4, g1, g3, g4⟩, f5⟩⟩ := h3
  exact ⟨k2, g2, terms_fit g4, k5, term_fit h6, term_fit h7⟩
theorem lit_mk {w : World} {G : Nat → Prop} {l : LitZ} (h : LitAll l) {a : Option Addr} {cap : Nat} (ht : TermsAt w G a (termsOf l)) (h1 : (termsOf l).length ≤ cap) (h2 : cap ≤ maxLen) : shLit.At w G (litC (l, (a, cap))) l :=
  ⟨[.int .i64 l.1], _, rfl, ⟨rfl, h.kind⟩, ⟨[.string (predOf l), .slice a (termsOf l).length cap], _, rfl, ⟨[.string (predOf l)], _, rfl, ⟨rfl, h.pred⟩, [.slice a (termsOf l).length cap], [], rfl, ⟨a, cap, rfl, h1, h2, ht⟩, rfl⟩,
    ⟨[.int .i64 (opOf l)], _, rfl, ⟨rfl, h.op⟩, ⟨termC (leftOf l), _, rfl, term_mk h.left, ⟨termC (rightOf l), [], rfl, term_mk h.right, rfl⟩⟩⟩⟩⟩
theorem lits_cells {w : World} {G : Nat → Prop} {g : Nat} {ls : List LitZ} {vs : List (Option Addr × Nat)} {rest : List Value} {e : TypeId} (hl : vs.length = ls.length) (hall : ∀ l ∈ ls, LitAll l) (ht : ∀ x ∈ ls.zip vs, TermsAt w G x.2.1 (termsOf x.1) ∧ (termsOf x.1).length ≤ x.2.2 ∧ x.2.2 ≤ maxLen) (hG : G g) (hB : Blk w g ((ls.zip vs).flatMap litC ++ rest) e) : LitsAt w G (some ⟨g, 0, none⟩) ls := fun i l hi => by
  have hv : i < vs.length := by rw [hl]; exact (List.getElem?_eq_some_iff.1 hi).1
  have hz : (ls.zip vs)[i]? = some (l, vs[i]) := by rw [List.getElem?_zip_eq_some]; exact ⟨hi, List.getElem?_eq_getElem hv⟩
  obtain ⟨t1, t2, t3⟩ := ht _ (List.mem_of_getElem? hz)
  refine ⟨g, 0, litC (l, vs[i]), rfl, hG, hB.lt, lit_mk (hall l (List.mem_of_getElem? hi)) t1 t2 t3, fun c u hu => ?_⟩
  have hc : c < 8 := (List.getElem?_eq_some_iff.1 hu).1
  have hg := flat_get litC 8 litC_len (ls.zip vs) i _ c hz hc
  rw [show shLit.n = 8 from rfl, hB.cell', Nat.zero_add, List.getElem?_append_left (List.getElem?_eq_some_iff.1 (hg.trans hu)).1, hg, hu]
structure RuleM (w0 w : World) (hs : List TermZ) (ls : List LitZ) (ha : Option Addr) (hn hcap : Nat) (ba : Option Addr) (n bcap : Nat) : Prop where
  head : TermsM w0 w ha hn hcap hs
  body : ∃ g rest vs, ba = some ⟨g, 0, none⟩ ∧ n = ls.length ∧ n + 1 ≤ bcap ∧ bcap ≤ maxLen ∧ w0.heap.size ≤ g ∧ vs.length = ls.length ∧ Blk w g ((ls.zip vs).flatMap litC ++ (markL ++ rest)) 97 ∧ ∀ x ∈ ls.zip vs, TermsM w0 w x.2.1 (termsOf x.1).length x.2.2 (termsOf x.1)
theorem RuleM.kp {w0 w w' : World} {F : Nat → Prop} {hs : List TermZ} {ls : List LitZ} {ha : Option Addr} {hn hcap : Nat} {ba : Option Addr} {n bcap : Nat} (h : RuleM w0 w hs ls ha hn hcap ba n bcap) (hk : Kp F w w') (hF : ∀ k cs, Blk w k cs 94 ∨ Blk w k cs 97 → ¬ F k) : RuleM w0 w' hs ls ha hn hcap ba n bcap := by
  obtain ⟨h1, g, rest, vs, e, a1, a2, a3, a4, a5, hB, hx⟩ := h
  exact ⟨h1.kp hk fun k cs hb => hF k cs (.inl hb), g, rest, vs, e, a1, a2, a3, a4, a5, hB.kp hk (hF g _ (.inr hB)), fun x hxx => (hx x hxx).kp hk fun k cs hb => hF k cs (.inl hb)⟩
theorem RuleM.ext {w0 w w' : World} {hs : List TermZ} {ls : List LitZ} {ha : Option Addr} {hn hcap : Nat} {ba : Option Addr} {n bcap : Nat} (h : RuleM w0 w hs ls ha hn hcap ba n bcap) (hk : Ext w w') : RuleM w0 w' hs ls ha hn hcap ba n bcap := h.kp hk fun _ _ _ => id
theorem RuleM.lits {w0 w : World} {hs : List TermZ} {ls : List LitZ} {ha : Option Addr} {hn hcap : Nat} {ba : Option Addr} {n bcap : Nat} (h : RuleM w0 w hs ls ha hn hcap ba n bcap) (hall : ∀ l ∈ ls, LitAll l) : LitsAt w (New w0) ba ls := by
  obtain ⟨_, g, rest, vs, rfl, a1, a2, a3, a4, a5, hB, hx⟩ := h
  refine lits_cells a5 hall (fun x hxx => ?_) a4 hB
  have hm := hx x hxx
  have hl : x.1 ∈ ls := (List.of_mem_zip (show (x.1, x.2) ∈ ls.zip vs from hxx)).1
  refine ⟨hm.at (hall _ hl).terms, ?_⟩
  obtain ⟨_, _, _, _, q1, q2, _, _⟩ := hm
  exact ⟨by omega, q2⟩
def TwinTo (hs : List TermZ) (w0 : World) (gx : Nat) (p : ByteArray) (ha : Option Addr) (hn hcap : Nat) (ls : List LitZ) (n : Nat) (iv : Value) (w : World) : Prop := ∃ i : Nat, i ≤ n ∧ iv = .int .i64 i ∧ Hid (Ext w0 w) ∧ Hid (∃ bv vs, Blk w gx [.string p, .slice ha hn hcap, bv] 28 ∧ vs.length = i ∧ Row w 97 8 bv i (((ls.take i).zip vs).flatMap litC) (New w0) ∧ ∀ x ∈ (ls.take i).zip vs, TermsM w0 w x.2.1 (termsOf x.1).length x.2.2 (termsOf x.1)) ∧ Hid (TermsM w0 w ha hn hcap hs)
theorem typ_tl : 94 ≠ 97 := by decide
theorem typ_tr : 94 ≠ 28 := by decide
theorem typ_lrC : 97 ≠ 28 := by decide
theorem litC_one (x : LitZ × (Option Addr × Nat)) : ∀ u ∈ litC x, u.oneCell' = true := fun u hu => by
  simp [litC] at hu
  rcases hu with rfl | rfl | rfl | rfl | rfl | rfl | rfl | rfl <;> rfl
structure Zeros (wb w3 : World) (gx : Nat) : Prop where
  blk : Blk w3 gx [.string ⟨#[]⟩, .slice none 0 0, .slice none 0 0] 28
  ext : Ext wb w3
  new : wb.heap.size ≤ gx
set_option maxRecDepth 100000 in
set_option maxHeartbeats 8000000 in
theorem twin_any (p : ByteArray) (hs : List TermZ) (ls : List LitZ) (ha : Option Addr) (hn hcap : Nat) (ba : Option Addr) (n bcap : Nat) (w : World) (G : Nat → Prop) (hhn : hn = hs.length) (hh : TermsAt w G ha hs) (hhl : hn ≤ 1048576) (hbn : n = ls.length) (h : LitsAt w G ba ls) (hf : Fit ls) :
    Calls Tryz.prog 35 #[ruleV p ha hn hcap ba n bcap] w (RetN w fun w' v => ∃ ha' hcap' ba' bcap', v = ruleV p ha' hn hcap' ba' n bcap' ∧ RuleM w w' hs ls ha' hn hcap' ba' n bcap') := by
  have HN := Lib.hid hbn; have HE := Lib.hid h; have HF := Lib.hid hf; have hl : n ≤ 1048576 := by have := hf.len; omega
  have HOwn := Lib.hid (fun (W : World) (hW : Ext w W) => ownTerms_any hs ha hn hcap W G hhn (hh.ext hW) hhl)
  clear hbn h hf hhn hh
  go_enter Tryz.func35, Tryz.ntmps35
  obtain ⟨wb, eb⟩ : ∃ wb, (w.alloc (.cells #[.string p, .slice ha hn hcap, .slice ba n bcap] 28)).alloc (.cells #[.string ⟨#[]⟩, .slice none 0 0, .slice none 0 0] 28) = wb := ⟨_, rfl⟩
  have hB1 := (Blk.new w [.string p, .slice ha hn hcap, .slice ba n bcap] 28).alloc (.cells #[.string ⟨#[]⟩, .slice none 0 0, .slice none 0 0] 28)
  have hB1' : Blk wb w.heap.size [.string p, .slice ha hn hcap, .slice ba n bcap] 28 := by rw [← eb]; exact hB1
  have hB2 := Blk.new (w.alloc (.cells #[.string p, .slice ha hn hcap, .slice ba n bcap] 28)) [.string ⟨#[]⟩, .slice none 0 0, .slice none 0 0] 28
  rw [alloc_size] at hB2
  have hB2' : Blk wb (w.heap.size + 1) [.string ⟨#[]⟩, .slice none 0 0, .slice none 0 0] 28 := by rw [← eb]; exact hB2
  have hX : Ext w wb := by rw [← eb]; exact ((Kp.refl w).alloc _).alloc _
  have r0 : wb.cell? ⟨w.heap.size, 0, none⟩ = some (.string p) := by rw [hB1'.cell']; rfl
  have r1 : wb.cell? ⟨w.heap.size, 1, none⟩ = some (.slice ha hn hcap) := by rw [hB1'.cell']; rfl
  have HB1 := Lib.hid hB1'
  have HB2 := Lib.hid hB2'
  have HX := Lib.hid hX
  clear hB1 hB2 hB1' hB2' hX
  have HCells := Lib.hid (show ∀ w', Ext wb w' → (fun w' : World => w'.cell? ⟨w.heap.size, 0, none⟩ = some (.string p) ∧ w'.cell? ⟨w.heap.size, 1, none⟩ = some (.slice ha hn hcap)) w' from fun w' hw => by
    have h := HB1.out.ext hw
    exact ⟨by rw [h.cell']; rfl, by rw [h.cell']; rfl⟩)
  clear r0 r1
  go_wp2
  clear eb
  refine draw_begin (fun w' : World => w'.cell? ⟨w.heap.size, 0, none⟩ = some (.string p) ∧ w'.cell? ⟨w.heap.size, 1, none⟩ = some (.slice ha hn hcap)) [10] (by kernel_rfl) (HCells.out _ (Kp.refl wb).drew) (fun hHeld => ?_)
  (refine draw_free (i := 0) (v := ?_) rfl ?_ ?_; rotate_left; (intro w; go_simp; try with_reducible rfl)); (try simp only [Act.put, List.setIfInBounds_toArray, List.set_cons_zero, List.set_cons_succ])
  (refine draw_free (i := 1) (v := ?_) rfl ?_ ?_; rotate_left; (intro w; go_simp; try with_reducible rfl)); (try simp only [Act.put, List.setIfInBounds_toArray, List.set_cons_zero, List.set_cons_succ])
  (refine draw_in (i := 2) (v := ?_) rfl ?_ ?_; rotate_left; (intro w hSw; (try dsimp only at hSw); go_simp; try with_reducible rfl)); (try simp only [Act.put, List.setIfInBounds_toArray, List.set_cons_zero, List.set_cons_succ])
  (refine draw_free (i := 3) (v := ?_) rfl ?_ ?_; rotate_left; (intro w; go_simp; try with_reducible rfl)); (try simp only [Act.put, List.setIfInBounds_toArray, List.set_cons_zero, List.set_cons_succ])
  (refine draw_free (i := 4) (v := ?_) rfl ?_ ?_; rotate_left; (intro w; go_simp; try with_reducible rfl)); (try simp only [Act.put, List.setIfInBounds_toArray, List.set_cons_zero, List.set_cons_succ])
  (refine draw_in (i := 5) (v := ?_) rfl ?_ ?_; rotate_left; (intro w hSw; (try dsimp only at hSw); go_simp; try with_reducible rfl)); (try simp only [Act.put, List.setIfInBounds_toArray, List.set_cons_zero, List.set_cons_succ])
  refine draw_two (i := 6) (k := 9) ?_ ?_
  · refine comes_turn (i := 6) rfl (fun K hK => ?_)
    go_simp
    ((with_reducible refine (HOwn.out _ (by first | exact HX.out.drew | exact (HX.out.alloc _).drew)).mono ?_); rintro e w1 ⟨v, rfl, hk1, ha', hcap', rfl, htm⟩; have X1 := Lib.hid (show Ext wb w1 by first | exact ((Kp.refl wb).drew).trans hk1 | exact (((Kp.refl wb).alloc _).drew).trans hk1); have HFirst := Lib.hid hk1; have TM1 := Lib.hid (show TermsM wb w1 ha' hn hcap' hs from htm.old (by first | exact (Kp.refl (F := fun _ => False) wb).drew.size | exact (((Kp.refl (F := fun _ => False) wb).alloc _).drew).size)); clear hk1 htm)
    go_wp2_with fail
    refine hK.out _ _ ?_ (fun hHeld => ?_)
    · (try dsimp only); (exact HCells.out _ (by first | exact ((Kp.refl wb).alloc _).drew | exact X1.out.alloc _ | exact X1.out))
    clear hK K; (try simp only [Act.put, List.setIfInBounds_toArray, List.set_cons_zero, List.set_cons_succ])
    (refine draw_free (i := 7) (v := ?_) rfl ?_ ?_; rotate_left; (intro w; go_simp; try with_reducible rfl)); (try simp only [Act.put, List.setIfInBounds_toArray, List.set_cons_zero, List.set_cons_succ])
    (refine draw_free (i := 8) (v := ?_) rfl ?_ ?_; rotate_left; (intro w; go_simp; try with_reducible rfl)); (try simp only [Act.put, List.setIfInBounds_toArray, List.set_cons_zero, List.set_cons_succ])
    refine draw_one (i := 9) ?_
    refine comes_turn (i := 9) rfl (fun K hK => ?_)
    go_simp
    refine hK.out _ _ ?_ (fun hHeld => ?_)
    · (try dsimp only); (exact HCells.out _ (by first | exact ((Kp.refl wb).alloc _).drew | exact X1.out.alloc _ | exact X1.out))
    clear hK K; (try simp only [Act.put, List.setIfInBounds_toArray, List.set_cons_zero, List.set_cons_succ])
    refine draw_one (i := 10) ?_
    refine comes_late (i := 10) rfl (by kernel_rfl) (fun K hK => ?_)
    ((first | (obtain ⟨w3, e3⟩ : ∃ x, w1.alloc (.cells #[.string ⟨#[]⟩, .slice none 0 0, .slice none 0 0] 28) = x := ⟨_, rfl⟩; rw [e3]; obtain ⟨gx, eg⟩ : ∃ g, g = w1.heap.size := ⟨_, rfl⟩; rw [← eg]; have HZ := Lib.hid (show Zeros wb w3 gx from by rw [← e3, eg]; exact ⟨Blk.new w1 _ _, X1.out.alloc _, X1.out.size⟩); have TM3 := Lib.hid (show TermsM wb w3 ha' hn hcap' hs by rw [← e3]; exact TM1.out.ext ((Kp.refl w1).alloc _)); clear e3 eg) | (obtain ⟨w3, e3⟩ : ∃ x, x = w1 := ⟨_, rfl⟩; subst e3; obtain ⟨gx, eg⟩ : ∃ g, g = wb.heap.size := ⟨_, rfl⟩; rw [← eg]; have HZ := Lib.hid (show Zeros wb w3 gx from by rw [eg]; exact ⟨(Blk.new wb _ _).drew.ext HFirst.out, X1.out, Nat.le_refl _⟩); have TM3 := TM1; clear eg)); have z0 : w3.cell? ⟨gx, 0, none⟩ = some (.string ⟨#[]⟩) := (by rw [HZ.out.blk.cell']; rfl); have z1 : w3.cell? ⟨gx, 1, none⟩ = some (.slice none 0 0) := (by rw [HZ.out.blk.cell']; rfl); have z2 : w3.cell? ⟨gx, 2, none⟩ = some (.slice none 0 0) := (by rw [HZ.out.blk.cell']; rfl); have f0 := HZ.out.blk.free 0; have f1 := HZ.out.blk.free 1; have f2 := HZ.out.blk.free 2)
    go_simp
    refine hK.out _ _ ?_
    clear hK K; (try simp only [Act.put, List.setIfInBounds_toArray, List.set_cons_zero, List.set_cons_succ])
    refine wpAnyD_done (by kernel_rfl) ?_ _
    obtain ⟨w2, ew2⟩ : ∃ x, ((w3.setCell ⟨gx, 0, none⟩ (.string p)).setCell ⟨gx, 1, none⟩ (.slice ha' hn hcap')).setCell ⟨gx, 2, none⟩ (.slice none 0 0) = x := ⟨_, rfl⟩
    rw [ew2]
    have HGX := Lib.hid (show Blk w2 gx [.string p, .slice ha' hn hcap', .slice none 0 0] 28 by rw [← ew2]; exact ((HZ.out.blk.set 0 _).set 1 _).set 2 _)
    have hk32 : Kp (fun k => k = gx) w3 w2 := by rw [← ew2]; exact Kp.setCell (F := fun k => k = gx) (Kp.setCell (F := fun k => k = gx) (Kp.setCell (F := fun k => k = gx) (Kp.refl w3) (fun _ => rfl) _) (fun _ => rfl) _) (fun _ => rfl) _
    have X2 := Lib.hid (show Ext wb w2 from by
      rw [← ew2]
      have hno : ∀ c, (⟨gx, c, none⟩ : Addr).block < wb.heap.size → False := fun c h => by have := HZ.out.new; simp only at h; omega
      exact ((HZ.out.ext.setCell (fun h => hno 0 h) _).setCell (fun h => hno 1 h) _).setCell (fun h => hno 2 h) _)
    have TM2 := Lib.hid (TM3.out.kp hk32 fun k cs hb e => by subst e; exact typ_tr (blk_ne hb HZ.out.blk))
    have HB2x := Lib.hid (HB2.out.ext X2.out)
    have EGX := Lib.hid HZ.out.new
    clear hk32 ew2 hHeld z0 z1 z2 f0 f1 f2 HZ TM3 TM1 X1 HFirst
    go_wp2
    go_loopw [4] (fun iv wr => TwinTo hs wb gx p ha' hn hcap' ls n iv wr) (fun iv _ => n - (intOf iv).toNat)
    case atStart => exact ⟨0, Nat.zero_le _, rfl, X2.out, ⟨.slice none 0 0, [], HGX.out, rfl, Row.nil _ _ _ _, fun x hx => by simp at hx⟩, TM2.out⟩
    case round =>
      obtain ⟨i, hi, rfl, hex, hin, htw⟩ := hrel
      obtain ⟨bv, vs, hB, hvs, hrow, hterms⟩ := hin.out
      have XR := Lib.hid (HX.out.trans hex.out)
      have b2 : wr.cell? ⟨w.heap.size, 2, none⟩ = some (.slice ba n bcap) := by rw [(HB1.out.ext hex.out).cell']; rfl
      by_cases hlt : i < n
      · have hltl : i < ls.length := by rw [← HN.out]; exact hlt
        obtain ⟨l, hli⟩ : ∃ l, ls[i]? = some l := ⟨_, List.getElem?_eq_getElem hltl⟩
        obtain ⟨b, off, a2, cap2, eao, hG, hb, hL, c0, c1, c2, c3, c4, c5, c6, c7⟩ := lit_at HE.out hli
        subst eao
        replace c0 := XR.out.cell c0 id
        replace c1 := XR.out.cell c1 id
        replace c2 := XR.out.cell c2 id
        replace c3 := XR.out.cell c3 id
        replace c4 := XR.out.cell c4 id
        replace c5 := XR.out.cell c5 id
        replace c6 := XR.out.cell c6 id
        replace c7 := XR.out.cell c7 id
        obtain ⟨mm, emm⟩ : ∃ mm, mm = (termsOf l).length := ⟨_, rfl⟩
        rw [← emm] at c2
        have hmm : mm ≤ 1048576 := by rw [emm]; exact HF.out.terms l (List.mem_of_getElem? hli)
        obtain ⟨k, ek⟩ : ∃ k, k = l.1 := ⟨_, rfl⟩
        rw [← ek] at c0
        clear hltl hG hb
        have HOL := Lib.hid (fun (W : World) (hW : Ext w W) => ownTerms_any (termsOf l) a2 mm cap2 W G emm (hL.terms.ext hW) hmm)
        obtain ⟨pl, epl⟩ : ∃ pl, pl = predOf l := ⟨_, rfl⟩
        rw [← epl] at c1
        obtain ⟨s3, e3⟩ : ∃ s3, s3 = opOf l := ⟨_, rfl⟩
        rw [← e3] at c3
        obtain ⟨s4, e4⟩ : ∃ s4, s4 = (leftOf l).1 := ⟨_, rfl⟩
        rw [← e4] at c4
        obtain ⟨s5, e5⟩ : ∃ s5, s5 = (leftOf l).2.1 := ⟨_, rfl⟩
        rw [← e5] at c5
        obtain ⟨s6, e6⟩ : ∃ s6, s6 = (rightOf l).1 := ⟨_, rfl⟩
        rw [← e6] at c6
        obtain ⟨s7, e7⟩ : ∃ s7, s7 = (rightOf l).2.1 := ⟨_, rfl⟩
        rw [← e7] at c7
        have HL := Lib.hid (And.intro hli (show ∀ a c, litC (l, (a, c)) = [.int .i64 k, .string pl, .slice a mm c, .int .i64 s3, .int .i64 s4, .string s5, .int .i64 s6, .string s7] from fun a c => by rw [ek, epl, emm, e3, e4, e5, e6, e7]; rfl))
        have EMM := Lib.hid emm
        obtain ⟨gt, egt⟩ : ∃ gt, gt = wr.heap.size := ⟨_, rfl⟩
        obtain ⟨wx, ewx⟩ : ∃ wx, wr.alloc (.cells #[.int .i64 k, .string pl, .slice a2 mm cap2, .int .i64 s3, .int .i64 s4, .string s5, .int .i64 s6, .string s7] 97) = wx := ⟨_, rfl⟩
        have hgt := Blk.new wr [.int .i64 k, .string pl, .slice a2 mm cap2, .int .i64 s3, .int .i64 s4, .string s5, .int .i64 s6, .string s7] 97
        have ewx' : wr.alloc (.cells [Value.int .i64 k, .string pl, .slice a2 mm cap2, .int .i64 s3, .int .i64 s4, .string s5, .int .i64 s6, .string s7].toArray 97) = wx := ewx
        rw [ewx', ← egt] at hgt
        have hxx : Ext wr wx := by rw [← ewx]; exact (Kp.refl wr).alloc _
        have HXX := Lib.hid hxx
        have HGT := Lib.hid hgt
        have g2 : wx.cell? ⟨gt, 2, none⟩ = some (.slice a2 mm cap2) := by rw [hgt.cell']; rfl
        have g2' : wx.cell? ⟨wr.heap.size, 2, none⟩ = some (.slice a2 mm cap2) := by rw [← egt]; exact g2
        have EGT := Lib.hid egt
        have HIn := Lib.hid (And.intro hB (And.intro hvs (And.intro hrow hterms)))
        clear hli emm ek epl e3 e4 e5 e6 e7 hL hgt ewx' hxx egt hB hvs hrow hterms hin
        go_wp2_with fail
        rw [← EGT.out]
        go_wp2_with fail
        refine (HOL.out _ (XR.out.trans HXX.out)).mono ?_
        rintro e w4 ⟨v, rfl, hk4, a3, c3', rfl, htm⟩
        have HT4 := Lib.hid (htm.old (w0 := wb) (Nat.le_trans hex.out.size HXX.out.size))
        have X4 := Lib.hid (HXX.out.trans hk4)
        have hg4 := HGT.out.ext hk4
        have h2 : w4.cell? ⟨gt, 2, none⟩ = some (.slice a2 mm cap2) := by rw [hg4.cell']; rfl
        have h2f := hg4.free 2
        obtain ⟨w5, ew5⟩ : ∃ w5, w4.setCell ⟨gt, 2, none⟩ (.slice a3 mm c3') = w5 := ⟨_, rfl⟩
        have hg5 : Blk w5 gt [.int .i64 k, .string pl, .slice a3 mm c3', .int .i64 s3, .int .i64 s4, .string s5, .int .i64 s6, .string s7] 97 := by rw [← ew5]; exact hg4.set 2 _
        have hx5 : Ext wr w5 := by
          rw [← ew5]
          exact Kp.setCell (F := fun _ => False) X4.out (fun h => by have := EGT.out; simp only at h; omega) _
        have hk45 : Kp (fun k => k = gt) w4 w5 := by rw [← ew5]; exact Kp.setCell (F := fun k => k = gt) (Kp.refl w4) (fun _ => rfl) _
        have HT5 := Lib.hid (HT4.out.kp hk45 fun k cs hb e => by subst e; exact typ_tl (blk_ne hb hg4))
        obtain ⟨bo, bi, bc, ebv, _, _⟩ : ∃ ao n cap, bv = .slice ao n cap ∧ True ∧ True := by
          obtain ⟨ao, cap, e, _⟩ := HIn.out.2.2.1.shape
          exact ⟨ao, _, cap, e, trivial, trivial⟩
        subst ebv
        have hB5 := HIn.out.1.ext hx5
        have x2 : w5.cell? ⟨gx, 2, none⟩ = some (.slice bo bi bc) := by rw [hB5.cell']; rfl
        have q0 : w5.cell? ⟨gt, 0, none⟩ = some (.int .i64 k) := by rw [hg5.cell']; rfl
        have q1 : w5.cell? ⟨gt, 1, none⟩ = some (.string pl) := by rw [hg5.cell']; rfl
        have q2 : w5.cell? ⟨gt, 2, none⟩ = some (.slice a3 mm c3') := by rw [hg5.cell']; rfl
        have q3 : w5.cell? ⟨gt, 3, none⟩ = some (.int .i64 s3) := by rw [hg5.cell']; rfl
        have q4 : w5.cell? ⟨gt, 4, none⟩ = some (.int .i64 s4) := by rw [hg5.cell']; rfl
        have q5 : w5.cell? ⟨gt, 5, none⟩ = some (.string s5) := by rw [hg5.cell']; rfl
        have q6 : w5.cell? ⟨gt, 6, none⟩ = some (.int .i64 s6) := by rw [hg5.cell']; rfl
        have q7 : w5.cell? ⟨gt, 7, none⟩ = some (.string s7) := by rw [hg5.cell']; rfl
        have X5 := Lib.hid hx5
        have HB5 := Lib.hid hB5
        have HR5 := Lib.hid (HIn.out.2.2.1.ext hx5)
        have hsz : (wb.heap.size : Nat) ≤ w5.heap.size := Nat.le_trans hex.out.size hx5.size
        have hXw5 : Ext wb w5 := hex.out.trans hx5
        clear hk4 htm hg4 hg5 hx5 hk45 hB5 ewx c0 c1 c2 c3 c4 c5 c6 c7 b2 g2 g2'
        go_wp2_with (first | (at_builtin; refine Halted.out ?_))
        refine Halted.mk (wp_appN (m := 1) (n := i) elem_lit rfl _ _ rfl (hXw5.alloc _) rfl (HR5.out.alloc _) rfl (CellsAt.new w5 [.int .i64 k, .string pl, .slice a3 mm c3', .int .i64 s3, .int .i64 s4, .string s5, .int .i64 s6, .string s7] 97) (by rfl) (by rw [← HL.out.2]; exact litC_one _) (by omega) (by unfold maxLen; omega) ?_)
        intro v1 w6 hr1 hk1 hk2 _
        have hB6 : Blk w6 gx [.string p, .slice ha' hn hcap', .slice bo bi bc] 28 := (HB5.out.alloc _).kp hk2 fun e => by
          obtain ⟨cs, hb⟩ := HR5.out.blkOf e
          exact typ_lrC (blk_ne hb HB5.out)
        have x6 : w6.cell? ⟨gx, 2, none⟩ = some (.slice bo bi bc) := by rw [hB6.cell']; rfl
        have x6f := hB6.free 2
        obtain ⟨b6, n6, c6', ev6, _⟩ : ∃ ao n cap, v1 = .slice ao n cap ∧ True := by
          obtain ⟨ao, cap, e, _⟩ := hr1.shape
          exact ⟨ao, _, cap, e, trivial⟩
        subst ev6
        have hT6 : ∀ {a : Option Addr} {m c : Nat} {ts : List TermZ}, TermsM wb w5 a m c ts → TermsM wb w6 a m c ts := fun ht => (ht.ext ((Kp.refl w5).alloc _)).kp hk2 fun k cs hb e => by
          obtain ⟨cs', hb'⟩ := (HR5.out.alloc _).blkOf e
          exact typ_tl (blk_ne hb hb')
        obtain ⟨w7, ew7⟩ : ∃ w7, w6.setCell ⟨gx, 2, none⟩ (.slice b6 n6 c6') = w7 := ⟨_, rfl⟩
        have hk67 : Kp (fun k => k = gx) w6 w7 := by rw [← ew7]; exact Kp.setCell (F := fun k => k = gx) (Kp.refl w6) (fun _ => rfl) _
        have hB7 : Blk w7 gx [.string p, .slice ha' hn hcap', .slice b6 n6 c6'] 28 := by rw [← ew7]; exact hB6.set 2 _
        have hx7 : Ext wb w7 := by rw [← ew7]; exact Kp.setCell (F := fun _ => False) hk1 (fun h => by have := EGX.out; simp only at h; omega) _
        have hr7 := hr1.kp' hk67 fun g hg _ e => by
          obtain ⟨cs, hb⟩ := hr1.blkOf hg
          subst e
          exact typ_lrC (blk_ne hb hB6)
        have hT7 : ∀ {a : Option Addr} {m c : Nat} {ts : List TermZ}, TermsM wb w5 a m c ts → TermsM wb w7 a m c ts := fun ht => (hT6 ht).kp hk67 fun k cs hb e => by subst e; exact typ_tr (blk_ne hb hB6)
        have HFin := Lib.hid (show ∃ bv vs, Blk w7 gx [.string p, .slice ha' hn hcap', bv] 28 ∧ vs.length = i + 1 ∧ Row w7 97 8 bv (i + 1) (((ls.take (i + 1)).zip vs).flatMap litC) (New wb) ∧ ∀ x ∈ (ls.take (i + 1)).zip vs, TermsM wb w7 x.2.1 (termsOf x.1).length x.2.2 (termsOf x.1) by
          have hlen : (ls.take i).length = vs.length := by rw [List.length_take, HIn.out.2.1]; have := HN.out; omega
          have et : ls.take (i + 1) = ls.take i ++ [l] := by rw [List.take_add_one, HL.out.1]; rfl
          refine ⟨_, vs ++ [(a3, c3')], hB7, by rw [List.length_append, HIn.out.2.1]; rfl, ?_, ?_⟩
          · rw [et, List.zip_append hlen, List.flatMap_append]
            have e2 : (([l].zip [(a3, c3')]).flatMap litC) = [.int .i64 k, .string pl, .slice a3 mm c3', .int .i64 s3, .int .i64 s4, .string s5, .int .i64 s6, .string s7] := by
              show litC (l, (a3, c3')) ++ [] = _
              rw [HL.out.2, List.append_nil]
            rw [e2]; exact hr7
          · intro x hx
            rw [et, List.zip_append hlen, List.mem_append] at hx
            rcases hx with hx | hx
            · exact hT7 ((HIn.out.2.2.2 x hx).ext X5.out)
            · simp at hx; subst hx
              have h := hT7 HT5.out
              rw [EMM.out] at h; exact h)
        have HX7 := Lib.hid hx7
        have HTW7 := Lib.hid (hT7 (htw.out.ext X5.out))
        clear hr1 hk1 hk2 hB6 hT6 hk67 hB7 hx7 hr7 hT7 q0 q1 q2 q3 q4 q5 q6 q7 x2 h2 h2f ew5 hXw5
        go_wp2
        go_roundw
        case rel => exact ⟨i + 1, by omega, by first | rfl | (congr 1; done) | (congr 1; omega), HX7.out, HFin.out, HTW7.out⟩
        case measure => simp [intOf]; omega
      · obtain rfl : i = n := by omega
        have hall : ls.take i = ls := List.take_of_length_le (by have := HN.out; omega)
        rw [hall] at hrow hterms
        obtain ⟨bo, bi, bc, ebv⟩ : ∃ ao n cap, bv = .slice ao n cap := by
          obtain ⟨ao, cap, e, _⟩ := hrow.shape
          exact ⟨ao, _, cap, e⟩
        subst ebv
        have x2 : wr.cell? ⟨gx, 2, none⟩ = some (.slice bo bi bc) := by rw [hB.cell']; rfl
        have HBg := Lib.hid hB
        have HR5 := Lib.hid hrow
        have HTs := Lib.hid (And.intro hvs hterms)
        have hXw := hex.out
        clear hB hrow hterms hvs hall hin
        go_wp2_with (first | (at_builtin; refine Halted.out ?_))
        refine Halted.mk (wp_appN (m := 1) (n := i) elem_lit rfl _ _ rfl (hXw.alloc _) rfl (HR5.out.alloc _) rfl (CellsAt.new wr [.int .i64 (-7), .string ⟨#[]⟩, .slice none 0 0, .int .i64 0, .int .i64 0, .string ⟨#[]⟩, .int .i64 0, .string ⟨#[]⟩] 97) (by rfl) (by intro u hu; simp at hu; rcases hu with rfl | rfl | rfl | rfl | rfl | rfl | rfl | rfl <;> rfl) (by omega) (by unfold maxLen; omega) ?_)
        intro v1 w6 hr1 hk1 hk2 _
        obtain ⟨h1, ⟨rfl, h0⟩ | ⟨gb, cap2, rest, rfl, hM, hBB, hlen, hnc, hcm⟩⟩ := hr1
        · omega
        · have hB6 : Blk w6 gx [.string p, .slice ha' hn hcap', .slice bo bi bc] 28 := (HBg.out.alloc _).kp hk2 fun e => by
            obtain ⟨cs, hb⟩ := HR5.out.blkOf e
            exact typ_lrC (blk_ne hb HBg.out)
          have x6 : w6.cell? ⟨gx, 2, none⟩ = some (.slice bo bi bc) := by rw [hB6.cell']; rfl
          have x6f := hB6.free 2
          have hT6 : ∀ {a : Option Addr} {m c : Nat} {ts : List TermZ}, TermsM wb wr a m c ts → TermsM wb w6 a m c ts := fun ht => (ht.ext ((Kp.refl wr).alloc _)).kp hk2 fun k cs hb e => by
            obtain ⟨cs', hb'⟩ := (HR5.out.alloc _).blkOf e
            exact typ_tl (blk_ne hb hb')
          obtain ⟨w7, ew7⟩ : ∃ w7, w6.setCell ⟨gx, 2, none⟩ (.slice (some ⟨gb, 0, none⟩) (i + 1) cap2) = w7 := ⟨_, rfl⟩
          have hk67 : Kp (fun k => k = gx) w6 w7 := by rw [← ew7]; exact Kp.setCell (F := fun k => k = gx) (Kp.refl w6) (fun _ => rfl) _
          have hB7 : Blk w7 gx [.string p, .slice ha' hn hcap', .slice (some ⟨gb, 0, none⟩) (i + 1) cap2] 28 := by rw [← ew7]; exact hB6.set 2 _
          have hx7 : Ext wb w7 := by rw [← ew7]; exact Kp.setCell (F := fun _ => False) hk1 (fun h => by have := EGX.out; simp only at h; omega) _
          obtain ⟨w8, ew8⟩ : ∃ w8, w7.setCell ⟨gx, 2, none⟩ (.slice (some ⟨gb, 0, none⟩) i cap2) = w8 := ⟨_, rfl⟩
          have hk78 : Kp (fun k => k = gx) w7 w8 := by rw [← ew8]; exact Kp.setCell (F := fun k => k = gx) (Kp.refl w7) (fun _ => rfl) _
          have hB8 : Blk w8 gx [.string p, .slice ha' hn hcap', .slice (some ⟨gb, 0, none⟩) i cap2] 28 := by rw [← ew8]; exact hB7.set 2 _
          have hx8 : Ext wb w8 := by rw [← ew8]; exact Kp.setCell (F := fun _ => False) hx7 (fun h => by have := EGX.out; simp only at h; omega) _
          have hk68 : Kp (fun k => k = gx) w6 w8 := hk67.trans hk78
          have hT8 : ∀ {a : Option Addr} {m c : Nat} {ts : List TermZ}, TermsM wb wr a m c ts → TermsM wb w8 a m c ts := fun ht => (hT6 ht).kp hk68 fun k cs hb e => by subst e; exact typ_tr (blk_ne hb hB6)
          have hBB8 := hBB.kp hk68 fun e => by subst e; exact typ_lrC (blk_ne hBB hB6)
          have hN1 := HB1.out.ext hx7
          have hN2 := HB2.out.ext hx8
          obtain ⟨w9, ew9⟩ : ∃ x, ((w8.setCell ⟨w.heap.size + 1, 0, none⟩ (.string p)).setCell ⟨w.heap.size + 1, 1, none⟩ (.slice ha' hn hcap')).setCell ⟨w.heap.size + 1, 2, none⟩ (.slice (some ⟨gb, 0, none⟩) i cap2) = x := ⟨_, rfl⟩
          have hk89 : Kp (fun k => k = w.heap.size + 1) w8 w9 := by rw [← ew9]; exact Kp.setCell (F := fun k => k = w.heap.size + 1) (Kp.setCell (F := fun k => k = w.heap.size + 1) (Kp.setCell (F := fun k => k = w.heap.size + 1) (Kp.refl w8) (fun _ => rfl) _) (fun _ => rfl) _) (fun _ => rfl) _
          have hN9 : Blk w9 (w.heap.size + 1) [.string p, .slice ha' hn hcap', .slice (some ⟨gb, 0, none⟩) i cap2] 28 := by rw [← ew9]; exact ((hN2.set 0 _).set 1 _).set 2 _
          have hx9 : Ext w w9 := by
            rw [← ew9]
            exact Kp.setCell (F := fun _ => False) (Kp.setCell (F := fun _ => False) (Kp.setCell (F := fun _ => False) (HX.out.trans hx8) (fun h => by simp only at h; omega) _) (fun h => by simp only at h; omega) _) (fun h => by simp only at h; omega) _
          have hsz := HX.out.size
          have hT9 : ∀ {a : Option Addr} {m c : Nat} {ts : List TermZ}, TermsM wb wr a m c ts → TermsM w w9 a m c ts := fun ht => ((hT8 ht).kp hk89 fun k cs hb e => by subst e; exact typ_tr (blk_ne hb hN2)).old hsz
          have hBB9 := hBB8.kp hk89 fun e => by subst e; exact typ_lrC (blk_ne hBB8 hN2)
          have HRes := Lib.hid (show RuleM w w9 hs ls ha' hn hcap' (some ⟨gb, 0, none⟩) i cap2 by
            refine ⟨hT9 htw.out, gb, rest, vs, rfl, HN.out, hnc, hcm, Nat.le_trans hsz hM, HTs.out.1.trans HN.out, ?_, fun x hx => hT9 (HTs.out.2 x hx)⟩
            rw [List.append_assoc] at hBB9
            exact hBB9)
          have HX9 := Lib.hid hx9
          have a2 : w7.cell? ⟨w.heap.size, 2, none⟩ = some (.slice ba i bcap) := by rw [hN1.cell']; rfl
          have x7 : w7.cell? ⟨gx, 2, none⟩ = some (.slice (some ⟨gb, 0, none⟩) (i + 1) cap2) := by rw [hB7.cell']; rfl
          have x7f := hB7.free 2
          have l0 : w8.cell? ⟨gx, 0, none⟩ = some (.string p) := by rw [hB8.cell']; rfl
          have l1 : w8.cell? ⟨gx, 1, none⟩ = some (.slice ha' hn hcap') := by rw [hB8.cell']; rfl
          have l2 : w8.cell? ⟨gx, 2, none⟩ = some (.slice (some ⟨gb, 0, none⟩) i cap2) := by rw [hB8.cell']; rfl
          have m0 : w8.cell? ⟨w.heap.size + 1, 0, none⟩ = some (.string ⟨#[]⟩) := by rw [hN2.cell']; rfl
          have m1 : w8.cell? ⟨w.heap.size + 1, 1, none⟩ = some (.slice none 0 0) := by rw [hN2.cell']; rfl
          have m2 : w8.cell? ⟨w.heap.size + 1, 2, none⟩ = some (.slice none 0 0) := by rw [hN2.cell']; rfl
          have q0 := hN2.free 0
          have q1 := hN2.free 1
          have q2 := hN2.free 2
          have u0 : w9.cell? ⟨w.heap.size + 1, 0, none⟩ = some (.string p) := by rw [hN9.cell']; rfl
          have u1 : w9.cell? ⟨w.heap.size + 1, 1, none⟩ = some (.slice ha' hn hcap') := by rw [hN9.cell']; rfl
          have u2 : w9.cell? ⟨w.heap.size + 1, 2, none⟩ = some (.slice (some ⟨gb, 0, none⟩) i cap2) := by rw [hN9.cell']; rfl
          have i1 : (i : Int) ≤ (cap2 : Int) := by omega
          have hcm2 : cap2 ≤ 9223372036854775807 := hcm
          clear hk67 hB7 hx7 hk78 hB8 hx8 hk68 hT8 hT6 hBB8 hN1 hN2 hk89 hN9 hx9 hT9 hBB9 hBB hk1 hk2 hB6 hsz h1
          go_wp2
          refine bodyPost_ret (v := ruleV p ha' hn hcap' (some ⟨gb, 0, none⟩) i cap2) (by simp [results, Tryz.results35, go_sem, ruleV, u0, u1, u2]) rfl ?_
          exact RetN.mk HX9.out ⟨_, _, _, _, rfl, HRes.out⟩
  · refine comes_turn (i := 9) rfl (fun K hK => ?_)
    go_simp
    refine hK.out _ _ ?_ (fun hHeld => ?_)
    · (try dsimp only); (exact HCells.out _ (by first | exact ((Kp.refl wb).alloc _).drew | exact X1.out.alloc _ | exact X1.out))
    clear hK K; (try simp only [Act.put, List.setIfInBounds_toArray, List.set_cons_zero, List.set_cons_succ])
    refine draw_one (i := 6) ?_
    refine comes_turn (i := 6) rfl (fun K hK => ?_)
    go_simp
    ((with_reducible refine (HOwn.out _ (by first | exact HX.out.drew | exact (HX.out.alloc _).drew)).mono ?_); rintro e w1 ⟨v, rfl, hk1, ha', hcap', rfl, htm⟩; have X1 := Lib.hid (show Ext wb w1 by first | exact ((Kp.refl wb).drew).trans hk1 | exact (((Kp.refl wb).alloc _).drew).trans hk1); have HFirst := Lib.hid hk1; have TM1 := Lib.hid (show TermsM wb w1 ha' hn hcap' hs from htm.old (by first | exact (Kp.refl (F := fun _ => False) wb).drew.size | exact (((Kp.refl (F := fun _ => False) wb).alloc _).drew).size)); clear hk1 htm)
    go_wp2_with fail
    refine hK.out _ _ ?_ (fun hHeld => ?_)
    · (try dsimp only); (exact HCells.out _ (by first | exact ((Kp.refl wb).alloc _).drew | exact X1.out.alloc _ | exact X1.out))
    clear hK K; (try simp only [Act.put, List.setIfInBounds_toArray, List.set_cons_zero, List.set_cons_succ])
    (refine draw_free (i := 7) (v := ?_) rfl ?_ ?_; rotate_left; (intro w; go_simp; try with_reducible rfl)); (try simp only [Act.put, List.setIfInBounds_toArray, List.set_cons_zero, List.set_cons_succ])
    (refine draw_free (i := 8) (v := ?_) rfl ?_ ?_; rotate_left; (intro w; go_simp; try with_reducible rfl)); (try simp only [Act.put, List.setIfInBounds_toArray, List.set_cons_zero, List.set_cons_succ])
    refine draw_one (i := 10) ?_
    refine comes_late (i := 10) rfl (by kernel_rfl) (fun K hK => ?_)
    ((first | (obtain ⟨w3, e3⟩ : ∃ x, w1.alloc (.cells #[.string ⟨#[]⟩, .slice none 0 0, .slice none 0 0] 28) = x := ⟨_, rfl⟩; rw [e3]; obtain ⟨gx, eg⟩ : ∃ g, g = w1.heap.size := ⟨_, rfl⟩; rw [← eg]; have HZ := Lib.hid (show Zeros wb w3 gx from by rw [← e3, eg]; exact ⟨Blk.new w1 _ _, X1.out.alloc _, X1.out.size⟩); have TM3 := Lib.hid (show TermsM wb w3 ha' hn hcap' hs by rw [← e3]; exact TM1.out.ext ((Kp.refl w1).alloc _)); clear e3 eg) | (obtain ⟨w3, e3⟩ : ∃ x, x = w1 := ⟨_, rfl⟩; subst e3; obtain ⟨gx, eg⟩ : ∃ g, g = wb.heap.size := ⟨_, rfl⟩; rw [← eg]; have HZ := Lib.hid (show Zeros wb w3 gx from by rw [eg]; exact ⟨(Blk.new wb _ _).drew.ext HFirst.out, X1.out, Nat.le_refl _⟩); have TM3 := TM1; clear eg)); have z0 : w3.cell? ⟨gx, 0, none⟩ = some (.string ⟨#[]⟩) := (by rw [HZ.out.blk.cell']; rfl); have z1 : w3.cell? ⟨gx, 1, none⟩ = some (.slice none 0 0) := (by rw [HZ.out.blk.cell']; rfl); have z2 : w3.cell? ⟨gx, 2, none⟩ = some (.slice none 0 0) := (by rw [HZ.out.blk.cell']; rfl); have f0 := HZ.out.blk.free 0; have f1 := HZ.out.blk.free 1; have f2 := HZ.out.blk.free 2)
    go_simp
    refine hK.out _ _ ?_
    clear hK K; (try simp only [Act.put, List.setIfInBounds_toArray, List.set_cons_zero, List.set_cons_succ])
    refine wpAnyD_done (by kernel_rfl) ?_ _
    obtain ⟨w2, ew2⟩ : ∃ x, ((w3.setCell ⟨gx, 0, none⟩ (.string p)).setCell ⟨gx, 1, none⟩ (.slice ha' hn hcap')).setCell ⟨gx, 2, none⟩ (.slice none 0 0) = x := ⟨_, rfl⟩
    rw [ew2]
    have HGX := Lib.hid (show Blk w2 gx [.string p, .slice ha' hn hcap', .slice none 0 0] 28 by rw [← ew2]; exact ((HZ.out.blk.set 0 _).set 1 _).set 2 _)
    have hk32 : Kp (fun k => k = gx) w3 w2 := by rw [← ew2]; exact Kp.setCell (F := fun k => k = gx) (Kp.setCell (F := fun k => k = gx) (Kp.setCell (F := fun k => k = gx) (Kp.refl w3) (fun _ => rfl) _) (fun _ => rfl) _) (fun _ => rfl) _
    have X2 := Lib.hid (show Ext wb w2 from by
      rw [← ew2]
      have hno : ∀ c, (⟨gx, c, none⟩ : Addr).block < wb.heap.size → False := fun c h => by have := HZ.out.new; simp only at h; omega
      exact ((HZ.out.ext.setCell (fun h => hno 0 h) _).setCell (fun h => hno 1 h) _).setCell (fun h => hno 2 h) _)
    have TM2 := Lib.hid (TM3.out.kp hk32 fun k cs hb e => by subst e; exact typ_tr (blk_ne hb HZ.out.blk))
    have HB2x := Lib.hid (HB2.out.ext X2.out)
    have EGX := Lib.hid HZ.out.new
    clear hk32 ew2 hHeld z0 z1 z2 f0 f1 f2 HZ TM3 TM1 X1 HFirst
    go_wp2
    go_loopw [4] (fun iv wr => TwinTo hs wb gx p ha' hn hcap' ls n iv wr) (fun iv _ => n - (intOf iv).toNat)
    case atStart => exact ⟨0, Nat.zero_le _, rfl, X2.out, ⟨.slice none 0 0, [], HGX.out, rfl, Row.nil _ _ _ _, fun x hx => by simp at hx⟩, TM2.out⟩
    case round =>
      obtain ⟨i, hi, rfl, hex, hin, htw⟩ := hrel
      obtain ⟨bv, vs, hB, hvs, hrow, hterms⟩ := hin.out
      have XR := Lib.hid (HX.out.trans hex.out)
      have b2 : wr.cell? ⟨w.heap.size, 2, none⟩ = some (.slice ba n bcap) := by rw [(HB1.out.ext hex.out).cell']; rfl
      by_cases hlt : i < n
      · have hltl : i < ls.length := by rw [← HN.out]; exact hlt
        obtain ⟨l, hli⟩ : ∃ l, ls[i]? = some l := ⟨_, List.getElem?_eq_getElem hltl⟩
        obtain ⟨b, off, a2, cap2, eao, hG, hb, hL, c0, c1, c2, c3, c4, c5, c6, c7⟩ := lit_at HE.out hli
        subst eao
        replace c0 := XR.out.cell c0 id
        replace c1 := XR.out.cell c1 id
        replace c2 := XR.out.cell c2 id
        replace c3 := XR.out.cell c3 id
        replace c4 := XR.out.cell c4 id
        replace c5 := XR.out.cell c5 id
        replace c6 := XR.out.cell c6 id
        replace c7 := XR.out.cell c7 id
        obtain ⟨mm, emm⟩ : ∃ mm, mm = (termsOf l).length := ⟨_, rfl⟩
        rw [← emm] at c2
        have hmm : mm ≤ 1048576 := by rw [emm]; exact HF.out.terms l (List.mem_of_getElem? hli)
        obtain ⟨k, ek⟩ : ∃ k, k = l.1 := ⟨_, rfl⟩
        rw [← ek] at c0
        clear hltl hG hb
        have HOL := Lib.hid (fun (W : World) (hW : Ext w W) => ownTerms_any (termsOf l) a2 mm cap2 W G emm (hL.terms.ext hW) hmm)
        obtain ⟨pl, epl⟩ : ∃ pl, pl = predOf l := ⟨_, rfl⟩
        rw [← epl] at c1
        obtain ⟨s3, e3⟩ : ∃ s3, s3 = opOf l := ⟨_, rfl⟩
        rw [← e3] at c3
        obtain ⟨s4, e4⟩ : ∃ s4, s4 = (leftOf l).1 := ⟨_, rfl⟩
        rw [← e4] at c4
        obtain ⟨s5, e5⟩ : ∃ s5, s5 = (leftOf l).2.1 := ⟨_, rfl⟩
        rw [← e5] at c5
        obtain ⟨s6, e6⟩ : ∃ s6, s6 = (rightOf l).1 := ⟨_, rfl⟩
        rw [← e6] at c6
        obtain ⟨s7, e7⟩ : ∃ s7, s7 = (rightOf l).2.1 := ⟨_, rfl⟩
        rw [← e7] at c7
        have HL := Lib.hid (And.intro hli (show ∀ a c, litC (l, (a, c)) = [.int .i64 k, .string pl, .slice a mm c, .int .i64 s3, .int .i64 s4, .string s5, .int .i64 s6, .string s7] from fun a c => by rw [ek, epl, emm, e3, e4, e5, e6, e7]; rfl))
        have EMM := Lib.hid emm
        obtain ⟨gt, egt⟩ : ∃ gt, gt = wr.heap.size := ⟨_, rfl⟩
        obtain ⟨wx, ewx⟩ : ∃ wx, wr.alloc (.cells #[.int .i64 k, .string pl, .slice a2 mm cap2, .int .i64 s3, .int .i64 s4, .string s5, .int .i64 s6, .string s7] 97) = wx := ⟨_, rfl⟩
        have hgt := Blk.new wr [.int .i64 k, .string pl, .slice a2 mm cap2, .int .i64 s3, .int .i64 s4, .string s5, .int .i64 s6, .string s7] 97
        have ewx' : wr.alloc (.cells [Value.int .i64 k, .string pl, .slice a2 mm cap2, .int .i64 s3, .int .i64 s4, .string s5, .int .i64 s6, .string s7].toArray 97) = wx := ewx
        rw [ewx', ← egt] at hgt
        have hxx : Ext wr wx := by rw [← ewx]; exact (Kp.refl wr).alloc _
        have HXX := Lib.hid hxx
        have HGT := Lib.hid hgt
        have g2 : wx.cell? ⟨gt, 2, none⟩ = some (.slice a2 mm cap2) := by rw [hgt.cell']; rfl
        have g2' : wx.cell? ⟨wr.heap.size, 2, none⟩ = some (.slice a2 mm cap2) := by rw [← egt]; exact g2
        have EGT := Lib.hid egt
        have HIn := Lib.hid (And.intro hB (And.intro hvs (And.intro hrow hterms)))
        clear hli emm ek epl e3 e4 e5 e6 e7 hL hgt ewx' hxx egt hB hvs hrow hterms hin
        go_wp2_with fail
        rw [← EGT.out]
        go_wp2_with fail
        refine (HOL.out _ (XR.out.trans HXX.out)).mono ?_
        rintro e w4 ⟨v, rfl, hk4, a3, c3', rfl, htm⟩
        have HT4 := Lib.hid (htm.old (w0 := wb) (Nat.le_trans hex.out.size HXX.out.size))
        have X4 := Lib.hid (HXX.out.trans hk4)
        have hg4 := HGT.out.ext hk4
        have h2 : w4.cell? ⟨gt, 2, none⟩ = some (.slice a2 mm cap2) := by rw [hg4.cell']; rfl
        have h2f := hg4.free 2
        obtain ⟨w5, ew5⟩ : ∃ w5, w4.setCell ⟨gt, 2, none⟩ (.slice a3 mm c3') = w5 := ⟨_, rfl⟩
        have hg5 : Blk w5 gt [.int .i64 k, .string pl, .slice a3 mm c3', .int .i64 s3, .int .i64 s4, .string s5, .int .i64 s6, .string s7] 97 := by rw [← ew5]; exact hg4.set 2 _
        have hx5 : Ext wr w5 := by
          rw [← ew5]
          exact Kp.setCell (F := fun _ => False) X4.out (fun h => by have := EGT.out; simp only at h; omega) _
        have hk45 : Kp (fun k => k = gt) w4 w5 := by rw [← ew5]; exact Kp.setCell (F := fun k => k = gt) (Kp.refl w4) (fun _ => rfl) _
        have HT5 := Lib.hid (HT4.out.kp hk45 fun k cs hb e => by subst e; exact typ_tl (blk_ne hb hg4))
        obtain ⟨bo, bi, bc, ebv, _, _⟩ : ∃ ao n cap, bv = .slice ao n cap ∧ True ∧ True := by
          obtain ⟨ao, cap, e, _⟩ := HIn.out.2.2.1.shape
          exact ⟨ao, _, cap, e, trivial, trivial⟩
        subst ebv
        have hB5 := HIn.out.1.ext hx5
        have x2 : w5.cell? ⟨gx, 2, none⟩ = some (.slice bo bi bc) := by rw [hB5.cell']; rfl
        have q0 : w5.cell? ⟨gt, 0, none⟩ = some (.int .i64 k) := by rw [hg5.cell']; rfl
        have q1 : w5.cell? ⟨gt, 1, none⟩ = some (.string pl) := by rw [hg5.cell']; rfl
        have q2 : w5.cell? ⟨gt, 2, none⟩ = some (.slice a3 mm c3') := by rw [hg5.cell']; rfl
        have q3 : w5.cell? ⟨gt, 3, none⟩ = some (.int .i64 s3) := by rw [hg5.cell']; rfl
        have q4 : w5.cell? ⟨gt, 4, none⟩ = some (.int .i64 s4) := by rw [hg5.cell']; rfl
        have q5 : w5.cell? ⟨gt, 5, none⟩ = some (.string s5) := by rw [hg5.cell']; rfl
        have q6 : w5.cell? ⟨gt, 6, none⟩ = some (.int .i64 s6) := by rw [hg5.cell']; rfl
        have q7 : w5.cell? ⟨gt, 7, none⟩ = some (.string s7) := by rw [hg5.cell']; rfl
        have X5 := Lib.hid hx5
        have HB5 := Lib.hid hB5
        have HR5 := Lib.hid (HIn.out.2.2.1.ext hx5)
        have hsz : (wb.heap.size : Nat) ≤ w5.heap.size := Nat.le_trans hex.out.size hx5.size
        have hXw5 : Ext wb w5 := hex.out.trans hx5
        clear hk4 htm hg4 hg5 hx5 hk45 hB5 ewx c0 c1 c2 c3 c4 c5 c6 c7 b2 g2 g2'
        go_wp2_with (first | (at_builtin; refine Halted.out ?_))
        refine Halted.mk (wp_appN (m := 1) (n := i) elem_lit rfl _ _ rfl (hXw5.alloc _) rfl (HR5.out.alloc _) rfl (CellsAt.new w5 [.int .i64 k, .string pl, .slice a3 mm c3', .int .i64 s3, .int .i64 s4, .string s5, .int .i64 s6, .string s7] 97) (by rfl) (by rw [← HL.out.2]; exact litC_one _) (by omega) (by unfold maxLen; omega) ?_)
        intro v1 w6 hr1 hk1 hk2 _
        have hB6 : Blk w6 gx [.string p, .slice ha' hn hcap', .slice bo bi bc] 28 := (HB5.out.alloc _).kp hk2 fun e => by
          obtain ⟨cs, hb⟩ := HR5.out.blkOf e
          exact typ_lrC (blk_ne hb HB5.out)
        have x6 : w6.cell? ⟨gx, 2, none⟩ = some (.slice bo bi bc) := by rw [hB6.cell']; rfl
        have x6f := hB6.free 2
        obtain ⟨b6, n6, c6', ev6, _⟩ : ∃ ao n cap, v1 = .slice ao n cap ∧ True := by
          obtain ⟨ao, cap, e, _⟩ := hr1.shape
          exact ⟨ao, _, cap, e, trivial⟩
        subst ev6
        have hT6 : ∀ {a : Option Addr} {m c : Nat} {ts : List TermZ}, TermsM wb w5 a m c ts → TermsM wb w6 a m c ts := fun ht => (ht.ext ((Kp.refl w5).alloc _)).kp hk2 fun k cs hb e => by
          obtain ⟨cs', hb'⟩ := (HR5.out.alloc _).blkOf e
          exact typ_tl (blk_ne hb hb')
        obtain ⟨w7, ew7⟩ : ∃ w7, w6.setCell ⟨gx, 2, none⟩ (.slice b6 n6 c6') = w7 := ⟨_, rfl⟩
        have hk67 : Kp (fun k => k = gx) w6 w7 := by rw [← ew7]; exact Kp.setCell (F := fun k => k = gx) (Kp.refl w6) (fun _ => rfl) _
        have hB7 : Blk w7 gx [.string p, .slice ha' hn hcap', .slice b6 n6 c6'] 28 := by rw [← ew7]; exact hB6.set 2 _
        have hx7 : Ext wb w7 := by rw [← ew7]; exact Kp.setCell (F := fun _ => False) hk1 (fun h => by have := EGX.out; simp only at h; omega) _
        have hr7 := hr1.kp' hk67 fun g hg _ e => by
          obtain ⟨cs, hb⟩ := hr1.blkOf hg
          subst e
          exact typ_lrC (blk_ne hb hB6)
        have hT7 : ∀ {a : Option Addr} {m c : Nat} {ts : List TermZ}, TermsM wb w5 a m c ts → TermsM wb w7 a m c ts := fun ht => (hT6 ht).kp hk67 fun k cs hb e => by subst e; exact typ_tr (blk_ne hb hB6)
        have HFin := Lib.hid (show ∃ bv vs, Blk w7 gx [.string p, .slice ha' hn hcap', bv] 28 ∧ vs.length = i + 1 ∧ Row w7 97 8 bv (i + 1) (((ls.take (i + 1)).zip vs).flatMap litC) (New wb) ∧ ∀ x ∈ (ls.take (i + 1)).zip vs, TermsM wb w7 x.2.1 (termsOf x.1).length x.2.2 (termsOf x.1) by
          have hlen : (ls.take i).length = vs.length := by rw [List.length_take, HIn.out.2.1]; have := HN.out; omega
          have et : ls.take (i + 1) = ls.take i ++ [l] := by rw [List.take_add_one, HL.out.1]; rfl
          refine ⟨_, vs ++ [(a3, c3')], hB7, by rw [List.length_append, HIn.out.2.1]; rfl, ?_, ?_⟩
          · rw [et, List.zip_append hlen, List.flatMap_append]
            have e2 : (([l].zip [(a3, c3')]).flatMap litC) = [.int .i64 k, .string pl, .slice a3 mm c3', .int .i64 s3, .int .i64 s4, .string s5, .int .i64 s6, .string s7] := by
              show litC (l, (a3, c3')) ++ [] = _
              rw [HL.out.2, List.append_nil]
            rw [e2]; exact hr7
          · intro x hx
            rw [et, List.zip_append hlen, List.mem_append] at hx
            rcases hx with hx | hx
            · exact hT7 ((HIn.out.2.2.2 x hx).ext X5.out)
            · simp at hx; subst hx
              have h := hT7 HT5.out
              rw [EMM.out] at h; exact h)
        have HX7 := Lib.hid hx7
        have HTW7 := Lib.hid (hT7 (htw.out.ext X5.out))
        clear hr1 hk1 hk2 hB6 hT6 hk67 hB7 hx7 hr7 hT7 q0 q1 q2 q3 q4 q5 q6 q7 x2 h2 h2f ew5 hXw5
        go_wp2
        go_roundw
        case rel => exact ⟨i + 1, by omega, by first | rfl | (congr 1; done) | (congr 1; omega), HX7.out, HFin.out, HTW7.out⟩
        case measure => simp [intOf]; omega
      · obtain rfl : i = n := by omega
        have hall : ls.take i = ls := List.take_of_length_le (by have := HN.out; omega)
        rw [hall] at hrow hterms
        obtain ⟨bo, bi, bc, ebv⟩ : ∃ ao n cap, bv = .slice ao n cap := by
          obtain ⟨ao, cap, e, _⟩ := hrow.shape
          exact ⟨ao, _, cap, e⟩
        subst ebv
        have x2 : wr.cell? ⟨gx, 2, none⟩ = some (.slice bo bi bc) := by rw [hB.cell']; rfl
        have HBg := Lib.hid hB
        have HR5 := Lib.hid hrow
        have HTs := Lib.hid (And.intro hvs hterms)
        have hXw := hex.out
        clear hB hrow hterms hvs hall hin
        go_wp2_with (first | (at_builtin; refine Halted.out ?_))
        refine Halted.mk (wp_appN (m := 1) (n := i) elem_lit rfl _ _ rfl (hXw.alloc _) rfl (HR5.out.alloc _) rfl (CellsAt.new wr [.int .i64 (-7), .string ⟨#[]⟩, .slice none 0 0, .int .i64 0, .int .i64 0, .string ⟨#[]⟩, .int .i64 0, .string ⟨#[]⟩] 97) (by rfl) (by intro u hu; simp at hu; rcases hu with rfl | rfl | rfl | rfl | rfl | rfl | rfl | rfl <;> rfl) (by omega) (by unfold maxLen; omega) ?_)
        intro v1 w6 hr1 hk1 hk2 _
        obtain ⟨h1, ⟨rfl, h0⟩ | ⟨gb, cap2, rest, rfl, hM, hBB, hlen, hnc, hcm⟩⟩ := hr1
        · omega
        · have hB6 : Blk w6 gx [.string p, .slice ha' hn hcap', .slice bo bi bc] 28 := (HBg.out.alloc _).kp hk2 fun e => by
            obtain ⟨cs, hb⟩ := HR5.out.blkOf e
            exact typ_lrC (blk_ne hb HBg.out)
          have x6 : w6.cell? ⟨gx, 2, none⟩ = some (.slice bo bi bc) := by rw [hB6.cell']; rfl
          have x6f := hB6.free 2
          have hT6 : ∀ {a : Option Addr} {m c : Nat} {ts : List TermZ}, TermsM wb wr a m c ts → TermsM wb w6 a m c ts := fun ht => (ht.ext ((Kp.refl wr).alloc _)).kp hk2 fun k cs hb e => by
            obtain ⟨cs', hb'⟩ := (HR5.out.alloc _).blkOf e
            exact typ_tl (blk_ne hb hb')
          obtain ⟨w7, ew7⟩ : ∃ w7, w6.setCell ⟨gx, 2, none⟩ (.slice (some ⟨gb, 0, none⟩) (i + 1) cap2) = w7 := ⟨_, rfl⟩
          have hk67 : Kp (fun k => k = gx) w6 w7 := by rw [← ew7]; exact Kp.setCell (F := fun k => k = gx) (Kp.refl w6) (fun _ => rfl) _
          have hB7 : Blk w7 gx [.string p, .slice ha' hn hcap', .slice (some ⟨gb, 0, none⟩) (i + 1) cap2] 28 := by rw [← ew7]; exact hB6.set 2 _
          have hx7 : Ext wb w7 := by rw [← ew7]; exact Kp.setCell (F := fun _ => False) hk1 (fun h => by have := EGX.out; simp only at h; omega) _
          obtain ⟨w8, ew8⟩ : ∃ w8, w7.setCell ⟨gx, 2, none⟩ (.slice (some ⟨gb, 0, none⟩) i cap2) = w8 := ⟨_, rfl⟩
          have hk78 : Kp (fun k => k = gx) w7 w8 := by rw [← ew8]; exact Kp.setCell (F := fun k => k = gx) (Kp.refl w7) (fun _ => rfl) _
          have hB8 : Blk w8 gx [.string p, .slice ha' hn hcap', .slice (some ⟨gb, 0, none⟩) i cap2] 28 := by rw [← ew8]; exact hB7.set 2 _
          have hx8 : Ext wb w8 := by rw [← ew8]; exact Kp.setCell (F := fun _ => False) hx7 (fun h => by have := EGX.out; simp only at h; omega) _
          have hk68 : Kp (fun k => k = gx) w6 w8 := hk67.trans hk78
          have hT8 : ∀ {a : Option Addr} {m c : Nat} {ts : List TermZ}, TermsM wb wr a m c ts → TermsM wb w8 a m c ts := fun ht => (hT6 ht).kp hk68 fun k cs hb e => by subst e; exact typ_tr (blk_ne hb hB6)
          have hBB8 := hBB.kp hk68 fun e => by subst e; exact typ_lrC (blk_ne hBB hB6)
          have hN1 := HB1.out.ext hx7
          have hN2 := HB2.out.ext hx8
          obtain ⟨w9, ew9⟩ : ∃ x, ((w8.setCell ⟨w.heap.size + 1, 0, none⟩ (.string p)).setCell ⟨w.heap.size + 1, 1, none⟩ (.slice ha' hn hcap')).setCell ⟨w.heap.size + 1, 2, none⟩ (.slice (some ⟨gb, 0, none⟩) i cap2) = x := ⟨_, rfl⟩
          have hk89 : Kp (fun k => k = w.heap.size + 1) w8 w9 := by rw [← ew9]; exact Kp.setCell (F := fun k => k = w.heap.size + 1) (Kp.setCell (F := fun k => k = w.heap.size + 1) (Kp.setCell (F := fun k => k = w.heap.size + 1) (Kp.refl w8) (fun _ => rfl) _) (fun _ => rfl) _) (fun _ => rfl) _
          have hN9 : Blk w9 (w.heap.size + 1) [.string p, .slice ha' hn hcap', .slice (some ⟨gb, 0, none⟩) i cap2] 28 := by rw [← ew9]; exact ((hN2.set 0 _).set 1 _).set 2 _
          have hx9 : Ext w w9 := by
            rw [← ew9]
            exact Kp.setCell (F := fun _ => False) (Kp.setCell (F := fun _ => False) (Kp.setCell (F := fun _ => False) (HX.out.trans hx8) (fun h => by simp only at h; omega) _) (fun h => by simp only at h; omega) _) (fun h => by simp only at h; omega) _
          have hsz := HX.out.size
          have hT9 : ∀ {a : Option Addr} {m c : Nat} {ts : List TermZ}, TermsM wb wr a m c ts → TermsM w w9 a m c ts := fun ht => ((hT8 ht).kp hk89 fun k cs hb e => by subst e; exact typ_tr (blk_ne hb hN2)).old hsz
          have hBB9 := hBB8.kp hk89 fun e => by subst e; exact typ_lrC (blk_ne hBB8 hN2)
          have HRes := Lib.hid (show RuleM w w9 hs ls ha' hn hcap' (some ⟨gb, 0, none⟩) i cap2 by
            refine ⟨hT9 htw.out, gb, rest, vs, rfl, HN.out, hnc, hcm, Nat.le_trans hsz hM, HTs.out.1.trans HN.out, ?_, fun x hx => hT9 (HTs.out.2 x hx)⟩
            rw [List.append_assoc] at hBB9
            exact hBB9)
          have HX9 := Lib.hid hx9
          have a2 : w7.cell? ⟨w.heap.size, 2, none⟩ = some (.slice ba i bcap) := by rw [hN1.cell']; rfl
          have x7 : w7.cell? ⟨gx, 2, none⟩ = some (.slice (some ⟨gb, 0, none⟩) (i + 1) cap2) := by rw [hB7.cell']; rfl
          have x7f := hB7.free 2
          have l0 : w8.cell? ⟨gx, 0, none⟩ = some (.string p) := by rw [hB8.cell']; rfl
          have l1 : w8.cell? ⟨gx, 1, none⟩ = some (.slice ha' hn hcap') := by rw [hB8.cell']; rfl
          have l2 : w8.cell? ⟨gx, 2, none⟩ = some (.slice (some ⟨gb, 0, none⟩) i cap2) := by rw [hB8.cell']; rfl
          have m0 : w8.cell? ⟨w.heap.size + 1, 0, none⟩ = some (.string ⟨#[]⟩) := by rw [hN2.cell']; rfl
          have m1 : w8.cell? ⟨w.heap.size + 1, 1, none⟩ = some (.slice none 0 0) := by rw [hN2.cell']; rfl
          have m2 : w8.cell? ⟨w.heap.size + 1, 2, none⟩ = some (.slice none 0 0) := by rw [hN2.cell']; rfl
          have q0 := hN2.free 0
          have q1 := hN2.free 1
          have q2 := hN2.free 2
          have u0 : w9.cell? ⟨w.heap.size + 1, 0, none⟩ = some (.string p) := by rw [hN9.cell']; rfl
          have u1 : w9.cell? ⟨w.heap.size + 1, 1, none⟩ = some (.slice ha' hn hcap') := by rw [hN9.cell']; rfl
          have u2 : w9.cell? ⟨w.heap.size + 1, 2, none⟩ = some (.slice (some ⟨gb, 0, none⟩) i cap2) := by rw [hN9.cell']; rfl
          have i1 : (i : Int) ≤ (cap2 : Int) := by omega
          have hcm2 : cap2 ≤ 9223372036854775807 := hcm
          clear hk67 hB7 hx7 hk78 hB8 hx8 hk68 hT8 hT6 hBB8 hN1 hN2 hk89 hN9 hx9 hT9 hBB9 hBB hk1 hk2 hB6 hsz h1
          go_wp2
          refine bodyPost_ret (v := ruleV p ha' hn hcap' (some ⟨gb, 0, none⟩) i cap2) (by simp [results, Tryz.results35, go_sem, ruleV, u0, u1, u2]) rfl ?_
          exact RetN.mk HX9.out ⟨_, _, _, _, rfl, HRes.out⟩
end Go.Proofs.YtomeebimmmfmbaaGreat

/- The law of costs: stays, great. -/
namespace Go.Proofs.YtomeebimmmfmbaaGreat
open Go.RowKit
set_option linter.unusedVariables false
end Go.Proofs.YtomeebimmmfmbaaGreat

/- The law of costs: backward. -/
namespace Go.Proofs.YtomeebimmmfmbaaGreat
open Go.RowKit
set_option linter.unusedVariables false
theorem Row.cap {w : World} {e : TypeId} {k : Nat} {v : Value} {n : Nat} {xs : List Value} {M : Nat → Prop} (h : Row w e k v n xs M) : ∃ ao cap, v = .slice ao n cap ∧ CellsAt w ao xs ∧ n ≤ cap ∧ cap ≤ maxLen := by
  obtain ⟨h1, ⟨rfl, rfl⟩ | ⟨g, cap, rest, rfl, b, c, d, e, f⟩⟩ := h
  · have : xs = [] := List.eq_nil_of_length_eq_zero (by simpa using h1)
    subst this
    exact ⟨none, 0, rfl, CellsAt.nil _ _, Nat.le_refl _, by unfold maxLen; omega⟩
  · exact ⟨_, cap, rfl, CellsAt.pre c, e, f⟩
end Go.Proofs.YtomeebimmmfmbaaGreat

/- The law of costs: what is known, by bits: plain. -/
namespace Go.Proofs.YtomeebimmmfmbaaGreat
open Go.RowKit
set_option linter.unusedVariables false
attribute [local go_sem] run_store_float
def words (xs : List Nat) : List Value := xs.map fun (x : Nat) => Value.int .u64 x
def KnownAt (w : World) (ao : Option Addr) (S : List StatZ) : Prop := ∀ (i : Nat) (s : StatZ), S[i]? = some s → ∃ b off da dcap, ao = some ⟨b, off, none⟩ ∧ w.cell? ⟨b, off + i * 3, none⟩ = some (.string s.1) ∧ w.cell? ⟨b, off + i * 3 + 1, none⟩ = some (.int .u64 s.2.1) ∧ w.cell? ⟨b, off + i * 3 + 2, none⟩ = some (.slice da s.2.2.1.length dcap) ∧ s.2.2.1.length ≤ dcap ∧ dcap ≤ maxLen ∧ CellsAt w da (words s.2.2.1)
theorem KnownAt.ext {w w' : World} {ao : Option Addr} {S : List StatZ} (h : KnownAt w ao S) (hk : Ext w w') : KnownAt w' ao S := fun i s hs => by
  obtain ⟨b, off, da, dcap, e, h1, h2, h3, h4, h5, h6⟩ := h i s hs
  exact ⟨b, off, da, dcap, e, hk.cell h1 id, hk.cell h2 id, hk.cell h3 id, h4, h5, h6.ext hk⟩
theorem CellsAt.word {w : World} {ao : Option Addr} {xs : List Nat} (h : CellsAt w ao (words xs)) {k x : Nat} (hk : xs[k]? = some x) : ∃ b off, ao = some ⟨b, off, none⟩ ∧ w.cell? ⟨b, off + k, none⟩ = some (.int .u64 x) :=
  h k _ (by simp [words, hk])
def statC (x : StatZ × (Option Addr × Nat)) : List Value := [.string x.1.1, .float .f64 x.1.2.1, .slice x.2.1 x.1.2.2.1.length x.2.2]
theorem statC_len (x : StatZ × (Option Addr × Nat)) : (statC x).length = 3 := rfl
def DistAt (w0 w : World) (x : StatZ × (Option Addr × Nat)) : Prop := Row w 45 1 (.slice x.2.1 x.1.2.2.1.length x.2.2) x.1.2.2.1.length (flts x.1.2.2.1) (New w0)
theorem stats_cells {w0 w : World} {S : List StatZ} {vs : List (Option Addr × Nat)} {ao : Option Addr} (hl : vs.length = S.length) (hc : CellsAt w ao ((S.zip vs).flatMap statC)) (hd : ∀ x ∈ S.zip vs, DistAt w0 w x) : StatsAt w ao S := fun i s hs => by
  have hv : i < vs.length := by rw [hl]; exact (List.getElem?_eq_some_iff.1 hs).1
  have hz : (S.zip vs)[i]? = some (s, vs[i]) := by rw [List.getElem?_zip_eq_some]; exact ⟨hs, List.getElem?_eq_getElem hv⟩
  obtain ⟨_, _, e, q1, q2, q3⟩ := (hd _ (List.mem_of_getElem? hz)).cap
  cases e
  have hg := fun c hcc => flat_get statC 3 statC_len (S.zip vs) i _ c hz hcc
  obtain ⟨b, off, rfl, h0⟩ := hc (i * 3 + 0) _ (hg 0 (by decide))
  obtain ⟨_, _, e1, h1⟩ := hc (i * 3 + 1) _ (hg 1 (by decide))
  cases e1
  obtain ⟨_, _, e2, h2⟩ := hc (i * 3 + 2) _ (hg 2 (by decide))
  cases e2
  exact ⟨b, off, _, _, rfl, h0, h1, h2, q2, q3, q1⟩
end Go.Proofs.YtomeebimmmfmbaaGreat

/- Lists in blocks apart. -/
namespace Go.Proofs.YtomeebimmmfmbaaGreat
open Go.RowKit
set_option linter.unusedVariables false
def Far (vs : List (Option Addr × Nat)) : Prop := vs.Pairwise fun x y => ∀ a b, x.1 = some a → y.1 = some b → a.block ≠ b.block
theorem Far.snoc {vs : List (Option Addr × Nat)} (h : Far vs) {y : Option Addr × Nat} {k : Nat} (h1 : ∀ x ∈ vs, ∀ a, x.1 = some a → a.block < k) (h2 : ∀ b, y.1 = some b → k ≤ b.block) : Far (vs ++ [y]) := by
  refine List.pairwise_append.2 ⟨h, List.pairwise_singleton _ _, fun x hx z hz a b ha hb => ?_⟩
  rw [List.mem_singleton] at hz
  subst hz
  have := h1 x hx a ha
  have := h2 b hb
  omega
theorem row_addr {w : World} {e : TypeId} {k : Nat} {ao : Option Addr} {m c n : Nat} {xs : List Value} {M : Nat → Prop} (h : Row w e k (.slice ao m c) n xs M) {a : Addr} (ha : ao = some a) : a.block < w.heap.size ∧ M a.block := by
  obtain ⟨_, ⟨e1, _⟩ | ⟨g, cap, rest, e1, hM, hB, _⟩⟩ := h
  · rw [ha] at e1; cases e1
  · rw [ha] at e1; cases e1; exact ⟨hB.lt, hM⟩
theorem zip_lt {α : Type} {w : World} {L : List α} {vs : List (Option Addr × Nat)} (hl : L.length = vs.length) (h : ∀ x ∈ L.zip vs, ∀ a, x.2.1 = some a → a.block < w.heap.size) : ∀ x ∈ vs, ∀ a, x.1 = some a → a.block < w.heap.size := by
  intro x hx a ha
  obtain ⟨i, hi⟩ := List.mem_iff_getElem?.1 hx
  have h1 : i < vs.length := (List.getElem?_eq_some_iff.1 hi).1
  have hz : (L.zip vs)[i]? = some (L[i]'(by omega), x) := List.getElem?_zip_eq_some.2 ⟨List.getElem?_eq_getElem _, hi⟩
  exact h _ (List.mem_of_getElem? hz) a ha
end Go.Proofs.YtomeebimmmfmbaaGreat

/-
  DERIVED: THE SHELF's CONTRACTS AT THIS DUMP, IN PLAIN WORDS (tools/lay-plain.mjs out of 'TryzShelf.lean', which tools/lay-shelf.mjs wrote): THE SAME DECLARATIONS UNDER THE SAME NAMES: 'import', 'namespace', 'open', 'def', 'theorem' AND NOTHING ELSE: no command of the shelf's: FOR A HAND-IN. Each laying: the table of numbers ('.._ren') and one theorem, a field a fact of the dump's own or the kernel's comparison; each contract: ONE APPLICATION.
-/
namespace Go.Proofs
open Go.Shelf
def Tryz.laysSlF6_f103_ren : Go.Shelf.Ren := ⟨fun | 6 => 103 | 15 => 134 | 14 => 133 | 28 => 158 | 29 => 159 | 20 => 150 | 21 => 151 | 22 => 152 | 23 => 153 | 24 => 154 | 25 => 155 | 26 => 156 | 27 => 157 | 46 => 169 | 47 => 170 | 48 => 171 | 49 => 172 | 50 => 173 | 57 => 178 | n => n, fun | 22 => 76 | 24 => 9 | 25 => 141 | 3 => 3 | 39 => 210 | 0 => 0 | 53 => 226 | 55 => 30 | 4 => 4 | 46 => 220 | 45 => 219 | 50 => 78 | 5 => 5 | 9 => 9 | 66 => 235 | 70 => 239 | 76 => 244 | 77 => 245 | n => n, fun | n => n⟩
theorem Tryz.laysSlF6_f103 : Go.Proofs.SlLaysF.n6 Tryz.prog Tryz.laysSlF6_f103_ren := {
  mixed := by kernel_rfl
  f6 := ⟨Tryz.f103.name, by decide, Tryz.func103.trans (congrArg some (by kernel_rfl))⟩
  f14 := ⟨Tryz.f133.name, by decide, Tryz.func133.trans (congrArg some (by kernel_rfl))⟩
  f15 := Tryz.func134.trans (congrArg some (by kernel_rfl))
  f20 := ⟨Tryz.f150.name, by decide, Tryz.func150.trans (congrArg some (by kernel_rfl))⟩
  f21 := ⟨Tryz.f151.name, by decide, Tryz.func151.trans (congrArg some (by kernel_rfl))⟩
  f22 := ⟨Tryz.f152.name, by decide, Tryz.func152.trans (congrArg some (by kernel_rfl))⟩
  f23 := ⟨Tryz.f153.name, by decide, Tryz.func153.trans (congrArg some (by kernel_rfl))⟩
  f24 := ⟨Tryz.f154.name, by decide, Tryz.func154.trans (congrArg some (by kernel_rfl))⟩
  f25 := ⟨Tryz.f155.name, by decide, Tryz.func155.trans (congrArg some (by kernel_rfl))⟩
  f26 := ⟨Tryz.f156.name, by decide, Tryz.func156.trans (congrArg some (by kernel_rfl))⟩
  f27 := ⟨Tryz.f157.name, by decide, Tryz.func157.trans (congrArg some (by kernel_rfl))⟩
  f28 := Tryz.func158.trans (congrArg some (by kernel_rfl))
  f29 := Tryz.func159.trans (congrArg some (by kernel_rfl))
  f46 := ⟨Tryz.f169.name, by decide, Tryz.func169.trans (congrArg some (by kernel_rfl))⟩
  f47 := Tryz.func170.trans (congrArg some (by kernel_rfl))
  f48 := Tryz.func171.trans (congrArg some (by kernel_rfl))
  f49 := ⟨Tryz.f172.name, by decide, Tryz.func172.trans (congrArg some (by kernel_rfl))⟩
  f50 := ⟨Tryz.f173.name, by decide, Tryz.func173.trans (congrArg some (by kernel_rfl))⟩
  f57 := ⟨Tryz.f178.name, by decide, Tryz.func178.trans (congrArg some (by kernel_rfl))⟩
  t0 := Tryz.underlying0
  a0 := Tryz.isAgg0
  z0 := Tryz.sizeOf0
  v0 := Tryz.zeroValue0
  t3 := Tryz.underlying3
  a3 := Tryz.isAgg3
  z3 := Tryz.sizeOf3
  v3 := Tryz.zeroValue3
  t4 := Tryz.underlying4
  a4 := Tryz.isAgg4
  z4 := Tryz.sizeOf4
  v4 := Tryz.zeroValue4
  t5 := Tryz.underlying5
  a5 := Tryz.isAgg5
  z5 := Tryz.sizeOf5
  v5 := Tryz.zeroValue5
  t9 := Tryz.underlying9
  a9 := Tryz.isAgg9
  z9 := Tryz.sizeOf9
  v9 := Tryz.zeroValue9
  t22 := Tryz.underlying76
  a22 := Tryz.isAgg76
  z22 := Tryz.sizeOf76
  v22 := Tryz.zeroValue76
  a24 := Tryz.isAgg9
  z24 := Tryz.sizeOf9
  t25 := Tryz.underlying141
  a25 := Tryz.isAgg141
  z25 := Tryz.sizeOf141
  v25 := Tryz.zeroValue141
  t39 := Tryz.underlying210
  a39 := Tryz.isAgg210
  z39 := Tryz.sizeOf210
  v39 := Tryz.zeroValue210
  t45 := Tryz.underlying219
  a45 := Tryz.isAgg219
  z45 := Tryz.sizeOf219
  v45 := Tryz.zeroValue219
  t46 := Tryz.underlying220
  a46 := Tryz.isAgg220
  z46 := Tryz.sizeOf220
  v46 := Tryz.zeroValue220
  t50 := Tryz.underlying78
  a50 := Tryz.isAgg78
  z50 := Tryz.sizeOf78
  v50 := Tryz.zeroValue78
  t53 := Tryz.underlying226
  a53 := Tryz.isAgg226
  z53 := Tryz.sizeOf226
  v53 := Tryz.zeroValue226
  t55 := Tryz.underlying30
  a55 := Tryz.isAgg30
  z55 := Tryz.sizeOf30
  v55 := Tryz.zeroValue30
  t66 := Tryz.underlying235
  a66 := Tryz.isAgg235
  z66 := Tryz.sizeOf235
  v66 := Tryz.zeroValue235
  t70 := Tryz.underlying239
  a70 := Tryz.isAgg239
  z70 := Tryz.sizeOf239
  v70 := Tryz.zeroValue239
  t76 := Tryz.underlying244
  a76 := Tryz.isAgg244
  z76 := Tryz.sizeOf244
  v76 := Tryz.zeroValue244
  t77 := Tryz.underlying245
  a77 := Tryz.isAgg245
  z77 := Tryz.sizeOf245
  v77 := Tryz.zeroValue245 }
def Tryz.laysSlF06_f103_ren : Go.Shelf.Ren := ⟨fun | 6 => 103 | 15 => 134 | 14 => 133 | 28 => 158 | 29 => 159 | 20 => 150 | 21 => 151 | 22 => 152 | 23 => 153 | 24 => 154 | 25 => 155 | 26 => 156 | 27 => 157 | 46 => 169 | 47 => 170 | 48 => 171 | 49 => 172 | 50 => 173 | 57 => 178 | n => n, fun | 22 => 76 | 24 => 9 | 25 => 141 | 3 => 3 | 39 => 210 | 0 => 0 | 53 => 226 | 55 => 30 | 4 => 4 | 46 => 220 | 45 => 219 | 50 => 78 | 5 => 5 | 9 => 9 | 66 => 235 | 70 => 239 | 76 => 244 | 77 => 245 | n => n, fun | n => n⟩
theorem Tryz.laysSlF06_f103 : Go.Proofs.SlLaysF0.n6 Tryz.prog Tryz.laysSlF06_f103_ren := {
  mixed := by kernel_rfl
  f6 := ⟨Tryz.f103.name, by decide, Tryz.func103.trans (congrArg some (by kernel_rfl))⟩
  f14 := ⟨Tryz.f133.name, by decide, Tryz.func133.trans (congrArg some (by kernel_rfl))⟩
  f15 := Tryz.func134.trans (congrArg some (by kernel_rfl))
  f20 := ⟨Tryz.f150.name, by decide, Tryz.func150.trans (congrArg some (by kernel_rfl))⟩
  f21 := ⟨Tryz.f151.name, by decide, Tryz.func151.trans (congrArg some (by kernel_rfl))⟩
  f22 := ⟨Tryz.f152.name, by decide, Tryz.func152.trans (congrArg some (by kernel_rfl))⟩
  f23 := ⟨Tryz.f153.name, by decide, Tryz.func153.trans (congrArg some (by kernel_rfl))⟩
  f24 := ⟨Tryz.f154.name, by decide, Tryz.func154.trans (congrArg some (by kernel_rfl))⟩
  f25 := ⟨Tryz.f155.name, by decide, Tryz.func155.trans (congrArg some (by kernel_rfl))⟩
  f26 := ⟨Tryz.f156.name, by decide, Tryz.func156.trans (congrArg some (by kernel_rfl))⟩
  f27 := ⟨Tryz.f157.name, by decide, Tryz.func157.trans (congrArg some (by kernel_rfl))⟩
  f28 := Tryz.func158.trans (congrArg some (by kernel_rfl))
  f29 := Tryz.func159.trans (congrArg some (by kernel_rfl))
  f46 := ⟨Tryz.f169.name, by decide, Tryz.func169.trans (congrArg some (by kernel_rfl))⟩
  f47 := Tryz.func170.trans (congrArg some (by kernel_rfl))
  f48 := Tryz.func171.trans (congrArg some (by kernel_rfl))
  f49 := ⟨Tryz.f172.name, by decide, Tryz.func172.trans (congrArg some (by kernel_rfl))⟩
  f50 := ⟨Tryz.f173.name, by decide, Tryz.func173.trans (congrArg some (by kernel_rfl))⟩
  f57 := ⟨Tryz.f178.name, by decide, Tryz.func178.trans (congrArg some (by kernel_rfl))⟩
  t0 := Tryz.underlying0
  a0 := Tryz.isAgg0
  z0 := Tryz.sizeOf0
  v0 := Tryz.zeroValue0
  t3 := Tryz.underlying3
  a3 := Tryz.isAgg3
  z3 := Tryz.sizeOf3
  v3 := Tryz.zeroValue3
  t4 := Tryz.underlying4
  a4 := Tryz.isAgg4
  z4 := Tryz.sizeOf4
  v4 := Tryz.zeroValue4
  t5 := Tryz.underlying5
  a5 := Tryz.isAgg5
  z5 := Tryz.sizeOf5
  v5 := Tryz.zeroValue5
  t9 := Tryz.underlying9
  a9 := Tryz.isAgg9
  z9 := Tryz.sizeOf9
  v9 := Tryz.zeroValue9
  t22 := Tryz.underlying76
  a22 := Tryz.isAgg76
  z22 := Tryz.sizeOf76
  v22 := Tryz.zeroValue76
  t25 := Tryz.underlying141
  a25 := Tryz.isAgg141
  z25 := Tryz.sizeOf141
  v25 := Tryz.zeroValue141
  t39 := Tryz.underlying210
  a39 := Tryz.isAgg210
  z39 := Tryz.sizeOf210
  v39 := Tryz.zeroValue210
  t45 := Tryz.underlying219
  a45 := Tryz.isAgg219
  z45 := Tryz.sizeOf219
  v45 := Tryz.zeroValue219
  t46 := Tryz.underlying220
  a46 := Tryz.isAgg220
  z46 := Tryz.sizeOf220
  v46 := Tryz.zeroValue220
  t50 := Tryz.underlying78
  a50 := Tryz.isAgg78
  z50 := Tryz.sizeOf78
  v50 := Tryz.zeroValue78
  t53 := Tryz.underlying226
  a53 := Tryz.isAgg226
  z53 := Tryz.sizeOf226
  v53 := Tryz.zeroValue226
  t55 := Tryz.underlying30
  a55 := Tryz.isAgg30
  z55 := Tryz.sizeOf30
  v55 := Tryz.zeroValue30
  t66 := Tryz.underlying235
  a66 := Tryz.isAgg235
  z66 := Tryz.sizeOf235
  v66 := Tryz.zeroValue235
  t70 := Tryz.underlying239
  a70 := Tryz.isAgg239
  z70 := Tryz.sizeOf239
  v70 := Tryz.zeroValue239
  t76 := Tryz.underlying244
  a76 := Tryz.isAgg244
  z76 := Tryz.sizeOf244
  v76 := Tryz.zeroValue244
  t77 := Tryz.underlying245
  a77 := Tryz.isAgg245
  z77 := Tryz.sizeOf245
  v77 := Tryz.zeroValue245 }
def Tryz.laysSlZ7_f62_ren : Go.Shelf.Ren := ⟨fun | 7 => 62 | 10 => 104 | n => n, fun | 23 => 137 | 26 => 9 | 3 => 138 | 28 => 135 | 0 => 0 | 27 => 134 | 33 => 170 | 4 => 4 | n => n, fun | n => n⟩
theorem Tryz.laysSlZ7_f62 : Go.Proofs.SlLaysZ.n7 Tryz.prog Tryz.laysSlZ7_f62_ren := {
  mixed := by kernel_rfl
  f7 := ⟨Tryz.f62.name, by decide, Tryz.func62.trans (congrArg some (by kernel_rfl))⟩
  f10 := ⟨Tryz.f104.name, by decide, Tryz.func104.trans (congrArg some (by kernel_rfl))⟩
  t0 := Tryz.underlying0
  a0 := Tryz.isAgg0
  z0 := Tryz.sizeOf0
  v0 := Tryz.zeroValue0
  t4 := Tryz.underlying4
  a4 := Tryz.isAgg4
  z4 := Tryz.sizeOf4
  v4 := Tryz.zeroValue4
  t23 := Tryz.underlying137
  a23 := Tryz.isAgg137
  z23 := Tryz.sizeOf137
  v23 := Tryz.zeroValue137
  t26 := Tryz.underlying9
  a26 := Tryz.isAgg9
  z26 := Tryz.sizeOf9
  v26 := Tryz.zeroValue9
  t27 := Tryz.underlying134
  a27 := Tryz.isAgg134
  z27 := Tryz.sizeOf134
  v27 := Tryz.zeroValue134
  t28 := Tryz.underlying135
  a28 := Tryz.isAgg135
  z28 := Tryz.sizeOf135
  v28 := Tryz.zeroValue135
  t33 := Tryz.underlying170
  a33 := Tryz.isAgg170
  z33 := Tryz.sizeOf170
  v33 := Tryz.zeroValue170 }
def Tryz.laysSlZ8_f102_ren : Go.Shelf.Ren := ⟨fun | 8 => 102 | 11 => 132 | n => n, fun | 26 => 9 | 28 => 135 | 24 => 76 | 0 => 0 | 33 => 170 | 4 => 4 | n => n, fun | n => n⟩
theorem Tryz.laysSlZ8_f102 : Go.Proofs.SlLaysZ.n8 Tryz.prog Tryz.laysSlZ8_f102_ren := {
  mixed := by kernel_rfl
  f8 := ⟨Tryz.f102.name, by decide, Tryz.func102.trans (congrArg some (by kernel_rfl))⟩
  f11 := ⟨Tryz.f132.name, by decide, Tryz.func132.trans (congrArg some (by kernel_rfl))⟩
  t0 := Tryz.underlying0
  a0 := Tryz.isAgg0
  z0 := Tryz.sizeOf0
  v0 := Tryz.zeroValue0
  t24 := Tryz.underlying76
  a24 := Tryz.isAgg76
  z24 := Tryz.sizeOf76
  v24 := Tryz.zeroValue76
  t26 := Tryz.underlying9
  a26 := Tryz.isAgg9
  z26 := Tryz.sizeOf9
  v26 := Tryz.zeroValue9
  t28 := Tryz.underlying135
  a28 := Tryz.isAgg135
  z28 := Tryz.sizeOf135
  v28 := Tryz.zeroValue135
  i26 := by kernel_rfl }
end Go.Proofs

/- cost.Ordered: copies of terms, of a literal. -/
namespace Go.Proofs.YtomeebimmmfmbaaGreat
open Go.RowKit
set_option linter.unusedVariables false
theorem cloneT_any (ts : List TermZ) (ao : Option Addr) (cap : Nat) (w : World) (n : Nat) (hn : n = ts.length) (hc : CellsAt w ao (tcells ts)) (hm : n ≤ 1048576) :
    Calls Tryz.prog 53 #[.slice ao n cap] w (RetN w fun w' v => Row w' 94 2 v n (tcells ts) (New w)) := by
  have hq : ∀ w : World, (binOp .eql 23 (.slice ao n cap) (.slice none 0 0)).run Tryz.prog w = .ok (.bool ao.isNone) w := fun w => Lib.run_eql_slice_nil w _ _ _ _ _ _ _ Tryz.underlying23
  have HNN := Lib.hid (show n * 2 = (tcells ts).length by rw [tcells_len, hn])
  have h1 := Lib.hid (tcells_one ts)
  generalize tcells ts = vs at *
  clear hn
  have hl : n ≤ maxLen := by unfold maxLen; omega
  cases ao with
  | none =>
    have hv : vs = [] := by
      cases vs with
      | nil => rfl
      | cons x vs => obtain ⟨b, o, h, _⟩ := hc.off (by simp); cases h
    subst hv
    have h0 : n = 0 := by have := HNN.out; simp at this; omega
    subst h0
    go_enter Tryz.func53, Tryz.ntmps53
    go_wp2
    go_ret
    exact RetN.mk (Kp.refl _) (Row.nil _ _ _ _)
  | some a =>
    go_enter Tryz.func53, Tryz.ntmps53
    go_wp2_with (first | (at_builtin; refine Halted.out ?_))
    refine Halted.mk (wp_appN elem_term rfl _ _ rfl ((Kp.refl (F := fun _ => False) w).alloc _) rfl (Row.empty w 94 2 (New w) (Nat.le_refl _)) rfl (hc.alloc _) HNN.out.symm h1.out (by omega) (by omega) ?_)
    intro v1 w1 hr1 hk1 _ _
    have HR := Lib.hid hr1; clear hr1
    go_wp2
    go_ret
    exact RetN.mk hk1 (by simpa using HR.out)
theorem Row.termsAt {w w0 : World} {a : Option Addr} {n c : Nat} {ts : List TermZ} (h : Row w 94 2 (.slice a n c) n (tcells ts) (New w0)) (hn : n = ts.length) (hf : ∀ t ∈ ts, TermFit t) : TermsAt w (New w0) a ts := by
  obtain ⟨hx, ⟨e, h0⟩ | ⟨g, cap, rest, e, hM, hB, _⟩⟩ := h
  · have : ts = [] := List.eq_nil_of_length_eq_zero (by omega)
    subst this
    exact fun i x hi => by simp at hi
  · cases e
    exact elems_of (s := shTerm) (f := termC) (fun x => rfl) (fun i x hi => term_mk (hf x (List.mem_of_getElem? hi))) hM hB
set_option maxRecDepth 100000 in
set_option maxHeartbeats 2000000 in
theorem copiedL_any (ts : List TermZ) (k : Int) (p : ByteArray) (a : Option Addr) (m c : Nat) (op lk : Int) (lt : ByteArray) (rk : Int) (rt : ByteArray) (w : World) (hm : m = ts.length) (hc : CellsAt w a (tcells ts)) (hl : m ≤ 1048576) :
    Calls Tryz.prog 54 #[litV k p a m c op lk lt rk rt] w (RetN w fun w' v => ∃ a' c', v = litV k p a' m c' op lk lt rk rt ∧ Row w' 94 2 (.slice a' m c') m (tcells ts) (New w)) := by
  have HC := Lib.hid (fun W (hW : Ext w W) => cloneT_any ts a c W m hm (hc.ext hW) hl)
  clear hm hc
  go_enter Tryz.func54, Tryz.ntmps54
  go_wp2_with fail
  refine (HC.out _ (((Kp.refl w).alloc _).alloc _)).mono ?_
  rintro e w1 ⟨v1, rfl, hk1, hr1⟩
  obtain ⟨a', c', ev, _, _⟩ := hr1.shape
  subst ev
  have hB1 := (((Blk.new w [.int .i64 k, .string p, .slice a m c, .int .i64 op, .int .i64 lk, .string lt, .int .i64 rk, .string rt] 97).alloc (.cells #[.int .i64 0, .string ⟨#[]⟩, .slice none 0 0, .int .i64 0, .int .i64 0, .string ⟨#[]⟩, .int .i64 0, .string ⟨#[]⟩] 97)).ext hk1)
  have hB2 := (Blk.new (w.alloc (.cells #[.int .i64 k, .string p, .slice a m c, .int .i64 op, .int .i64 lk, .string lt, .int .i64 rk, .string rt] 97)) [.int .i64 0, .string ⟨#[]⟩, .slice none 0 0, .int .i64 0, .int .i64 0, .string ⟨#[]⟩, .int .i64 0, .string ⟨#[]⟩] 97).ext hk1
  rw [alloc_size] at hB2
  have hz1 := hk1.size
  rw [alloc_size, alloc_size] at hz1
  obtain ⟨g1, eg1⟩ : ∃ g, w.heap.size = g := ⟨_, rfl⟩
  rw [eg1] at hB1 hB2 ⊢
  obtain ⟨g2, eg2⟩ : ∃ g, g1 + 1 = g := ⟨_, rfl⟩
  rw [eg2] at hB2 ⊢
  have HK := Lib.hid (show Ext w w1 from ((Kp.refl w).alloc _).alloc _ |>.trans hk1)
  have HR := Lib.hid hr1
  have HK0 := Lib.hid (show w.heap.size ≤ ((w.alloc (.cells #[.int .i64 k, .string p, .slice a m c, .int .i64 op, .int .i64 lk, .string lt, .int .i64 rk, .string rt] 97)).alloc (.cells #[.int .i64 0, .string ⟨#[]⟩, .slice none 0 0, .int .i64 0, .int .i64 0, .string ⟨#[]⟩, .int .i64 0, .string ⟨#[]⟩] 97)).heap.size from by rw [alloc_size, alloc_size]; omega)
  have HGE := Lib.hid (And.intro eg1 eg2)
  have x2 : w1.cell? ⟨g1, 2, none⟩ = some (.slice a m c) := by rw [hB1.cell']; rfl
  have x2f := hB1.free 2
  obtain ⟨w2, ew2⟩ : ∃ w2, w1.setCell ⟨g1, 2, none⟩ (.slice a' m c') = w2 := ⟨_, rfl⟩
  have hC1 : Blk w2 g1 [.int .i64 k, .string p, .slice a' m c', .int .i64 op, .int .i64 lk, .string lt, .int .i64 rk, .string rt] 97 := by rw [← ew2]; exact hB1.set 2 _
  have hC2 : Blk w2 g2 [.int .i64 0, .string ⟨#[]⟩, .slice none 0 0, .int .i64 0, .int .i64 0, .string ⟨#[]⟩, .int .i64 0, .string ⟨#[]⟩] 97 := by
    rw [← ew2]; exact hB2.kp (Kp.setCell (F := fun k => k = g1) (Kp.refl w1) (fun _ => rfl) _) (by omega)
  have q0 : w2.cell? ⟨g1, 0, none⟩ = some (.int .i64 k) := by rw [hC1.cell']; rfl
  have q1 : w2.cell? ⟨g1, 1, none⟩ = some (.string p) := by rw [hC1.cell']; rfl
  have q2 : w2.cell? ⟨g1, 2, none⟩ = some (.slice a' m c') := by rw [hC1.cell']; rfl
  have q3 : w2.cell? ⟨g1, 3, none⟩ = some (.int .i64 op) := by rw [hC1.cell']; rfl
  have q4 : w2.cell? ⟨g1, 4, none⟩ = some (.int .i64 lk) := by rw [hC1.cell']; rfl
  have q5 : w2.cell? ⟨g1, 5, none⟩ = some (.string lt) := by rw [hC1.cell']; rfl
  have q6 : w2.cell? ⟨g1, 6, none⟩ = some (.int .i64 rk) := by rw [hC1.cell']; rfl
  have q7 : w2.cell? ⟨g1, 7, none⟩ = some (.string rt) := by rw [hC1.cell']; rfl
  have z0 : w2.cell? ⟨g2, 0, none⟩ = some (.int .i64 0) := by rw [hC2.cell']; rfl
  have f0 := hC2.free 0
  have z1 : w2.cell? ⟨g2, 1, none⟩ = some (.string ⟨#[]⟩) := by rw [hC2.cell']; rfl
  have f1 := hC2.free 1
  have z2 : w2.cell? ⟨g2, 2, none⟩ = some (.slice none 0 0) := by rw [hC2.cell']; rfl
  have f2 := hC2.free 2
  have z3 : w2.cell? ⟨g2, 3, none⟩ = some (.int .i64 0) := by rw [hC2.cell']; rfl
  have f3 := hC2.free 3
  have z4 : w2.cell? ⟨g2, 4, none⟩ = some (.int .i64 0) := by rw [hC2.cell']; rfl
  have f4 := hC2.free 4
  have z5 : w2.cell? ⟨g2, 5, none⟩ = some (.string ⟨#[]⟩) := by rw [hC2.cell']; rfl
  have f5 := hC2.free 5
  have z6 : w2.cell? ⟨g2, 6, none⟩ = some (.int .i64 0) := by rw [hC2.cell']; rfl
  have f6 := hC2.free 6
  have z7 : w2.cell? ⟨g2, 7, none⟩ = some (.string ⟨#[]⟩) := by rw [hC2.cell']; rfl
  have f7 := hC2.free 7
  have HE2 := Lib.hid ew2
  clear hk1 hr1 eg1 eg2 hB1 hB2
  go_wp2
  generalize hw9 : World.setCell (World.setCell (World.setCell (World.setCell (World.setCell (World.setCell (World.setCell (World.setCell w2 _ _) _ _) _ _) _ _) _ _) _ _) _ _) _ _ = w9
  have hD2 : Blk w9 g2 [.int .i64 k, .string p, .slice a' m c', .int .i64 op, .int .i64 lk, .string lt, .int .i64 rk, .string rt] 97 := by
    rw [← hw9]
    exact (((((((hC2.set 0 _).set 1 _).set 2 _).set 3 _).set 4 _).set 5 _).set 6 _).set 7 _
  have hk9 : Kp (fun k => k = g2) w2 w9 := by
    rw [← hw9]
    exact Kp.setCell (F := fun k => k = g2) (Kp.setCell (F := fun k => k = g2) (Kp.setCell (F := fun k => k = g2) (Kp.setCell (F := fun k => k = g2) (Kp.setCell (F := fun k => k = g2) (Kp.setCell (F := fun k => k = g2) (Kp.setCell (F := fun k => k = g2) (Kp.setCell (F := fun k => k = g2) (Kp.refl w2) (fun _ => rfl) _) (fun _ => rfl) _) (fun _ => rfl) _) (fun _ => rfl) _) (fun _ => rfl) _) (fun _ => rfl) _) (fun _ => rfl) _) (fun _ => rfl) _
  have r0 : w9.cell? ⟨g2, 0, none⟩ = some (.int .i64 k) := by rw [hD2.cell']; rfl
  have r1 : w9.cell? ⟨g2, 1, none⟩ = some (.string p) := by rw [hD2.cell']; rfl
  have r2 : w9.cell? ⟨g2, 2, none⟩ = some (.slice a' m c') := by rw [hD2.cell']; rfl
  have r3 : w9.cell? ⟨g2, 3, none⟩ = some (.int .i64 op) := by rw [hD2.cell']; rfl
  have r4 : w9.cell? ⟨g2, 4, none⟩ = some (.int .i64 lk) := by rw [hD2.cell']; rfl
  have r5 : w9.cell? ⟨g2, 5, none⟩ = some (.string lt) := by rw [hD2.cell']; rfl
  have r6 : w9.cell? ⟨g2, 6, none⟩ = some (.int .i64 rk) := by rw [hD2.cell']; rfl
  have r7 : w9.cell? ⟨g2, 7, none⟩ = some (.string rt) := by rw [hD2.cell']; rfl
  have HD := Lib.hid (And.intro hD2 hk9)
  clear hw9 hk9 hD2
  try simp only [Exit.inBlock, Exit.then]
  refine bodyPost_ret (v := litV k p a' m c' op lk lt rk rt) (by simp [results, Tryz.results54, go_sem, litV, r0, r1, r2, r3, r4, r5, r6, r7]) rfl ?_
  have hk12 : Kp (fun k => k = g1) w1 w2 := by rw [← HE2.out]; exact Kp.setCell (F := fun k => k = g1) (Kp.refl w1) (fun _ => rfl) _
  have e1 := HGE.out.1
  have e2 := HGE.out.2
  have hx : Ext w w9 := (HK.out.trans' hk12 fun k hk e => by omega).trans' HD.out.2 fun k hk e => by omega
  refine RetN.mk hx ⟨a', c', rfl, ?_⟩
  have h2 := (HR.out.kp' hk12 fun g hg _ e => by
    have h1 : _ ≤ g := HR.out.block g hg
    rw [show ((w.alloc (.cells #[.int .i64 k, .string p, .slice a m c, .int .i64 op, .int .i64 lk, .string lt, .int .i64 rk, .string rt] 97)).alloc (.cells #[.int .i64 0, .string ⟨#[]⟩, .slice none 0 0, .int .i64 0, .int .i64 0, .string ⟨#[]⟩, .int .i64 0, .string ⟨#[]⟩] 97)).heap.size = w.heap.size + 2 from by rw [alloc_size, alloc_size]] at h1
    omega)
  have h3 := Row.kp' h2 HD.out.2 fun g hg _ e => by
    have h1 : _ ≤ g := HR.out.block g hg
    rw [show ((w.alloc (.cells #[.int .i64 k, .string p, .slice a m c, .int .i64 op, .int .i64 lk, .string lt, .int .i64 rk, .string rt] 97)).alloc (.cells #[.int .i64 0, .string ⟨#[]⟩, .slice none 0 0, .int .i64 0, .int .i64 0, .string ⟨#[]⟩, .int .i64 0, .string ⟨#[]⟩] 97)).heap.size = w.heap.size + 2 from by rw [alloc_size, alloc_size]] at h1
    omega
  exact h3.mono fun g hg => Nat.le_trans HK0.out hg
end Go.Proofs.YtomeebimmmfmbaaGreat

/- Rules in an order: what is wrong, the literals in it. -/
namespace Go.Proofs.YtomeebimmmfmbaaGreat
open Go.RowKit
set_option linter.unusedVariables false
theorem errR0 (r : RuleZ) : errR r [] = checkR r := by
  have h : statsOk r [] := fun i s hs => by simp at hs
  unfold errR
  rw [if_pos h]
  split
  · rename_i e; exact e.symm
  · rfl
open Classical in
noncomputable def ordE (r : RuleZ) (xs : List Int) : Nat := if errR r [] = 0 then if orderOk r.2.1 xs then 0 else 2 else errR r []
def litZ0 : LitZ := (0, (⟨#[]⟩, [], ()), 0, (0, ⟨#[]⟩, ()), (0, ⟨#[]⟩, ()), ())
def ordL (ls : List LitZ) (xs : List Int) : List LitZ := xs.map fun x => ls.getD x.toNat litZ0
theorem ordL_len (ls : List LitZ) (xs : List Int) : (ordL ls xs).length = xs.length := by unfold ordL; rw [List.length_map]
theorem ordL_get {ls : List LitZ} {xs : List Int} {i : Nat} {x : Int} {l : LitZ} (hx : xs[i]? = some x) (hl : ls[x.toNat]? = some l) : (ordL ls xs)[i]? = some l := by
  unfold ordL
  rw [List.getElem?_map, hx, Option.map_some, List.getD_eq_getElem?_getD, hl]; rfl
theorem setW_valid {n : Nat} : ∀ (xs : List Int) (inn : List Bool), inn.length = n → (xs.foldl putNum (some inn)).isSome = true → ∀ x ∈ xs, 0 ≤ x ∧ x.toNat < n
  | [], _, _, _, x, hx => by simp at hx
  | y :: xs, inn, hn, h, x, hx => by
    rw [List.foldl_cons] at h
    cases hp : putNum (some inn) y with
    | none => rw [hp, putNum_none] at h; cases h
    | some inn' =>
      rw [hp] at h
      have hl := putNum_len (o := none) hp
      have hy : 0 ≤ y ∧ inn[y.toNat]? = some false := by
        unfold putNum at hp
        simp only at hp
        split at hp
        · assumption
        · cases hp
      rcases List.mem_cons.1 hx with rfl | hx
      · exact ⟨hy.1, by have := (List.getElem?_eq_some_iff.1 hy.2).1; omega⟩
      · exact setW_valid xs inn' (by omega) h x hx
theorem order_valid {ls : List LitZ} {xs : List Int} (h : orderOk ls xs) : ∀ x ∈ xs, 0 ≤ x ∧ x.toNat < ls.length := by
  have h1 := h.2 xs.length (Nat.le_refl _)
  rw [List.take_of_length_le (Nat.le_refl _)] at h1
  refine setW_valid xs (List.replicate ls.length false) (by simp) ?_
  unfold setOk at h1
  show (setW ls.length xs).isSome = true
  cases hs : setW ls.length xs with
  | none => rw [hs] at h1; cases h1
  | some inn => rfl
theorem order_lit {ls : List LitZ} {xs : List Int} (h : orderOk ls xs) {i : Nat} {x : Int} (hx : xs[i]? = some x) : ∃ q : Nat, x = (q : Int) ∧ ∃ l, ls[q]? = some l ∧ (ordL ls xs)[i]? = some l := by
  obtain ⟨h0, h1⟩ := order_valid h x (List.mem_of_getElem? hx)
  refine ⟨x.toNat, by omega, _, List.getElem?_eq_getElem h1, ordL_get hx (List.getElem?_eq_getElem h1)⟩
theorem ordL_mem {ls : List LitZ} {xs : List Int} (h : orderOk ls xs) : ∀ l ∈ ordL ls xs, l ∈ ls := fun l hl => by
  obtain ⟨x, hx, rfl⟩ := List.mem_map.1 hl
  obtain ⟨h0, h1⟩ := order_valid h x hx
  rw [List.getD_eq_getElem?_getD, List.getElem?_eq_getElem h1]
  exact List.getElem_mem h1
theorem ordL_fit {ls : List LitZ} {xs : List Int} (h : orderOk ls xs) (hf : Fit ls) : Fit (ordL ls xs) :=
  ⟨by rw [ordL_len, h.1]; exact hf.len, fun l hl => hf.terms l (ordL_mem h l hl)⟩
def OrdV (G : Nat → Prop) (p : ByteArray) (hs : List TermZ) (ls : List LitZ) (xs : List Int) (w' : World) (v : Value) : Prop :=
  (ordE ((p, hs, ()), ls, ()) xs ≠ 0 → v = .tuple #[ruleV ⟨#[]⟩ none 0 0 none 0 0, .int .i64 (ordE ((p, hs, ()), ls, ()) xs : Nat)]) ∧
  (ordE ((p, hs, ()), ls, ()) xs = 0 → ∃ ha hc ba bc, v = .tuple #[ruleV p ha hs.length hc ba xs.length bc, .int .i64 0] ∧ TermsAt w' G ha hs ∧ LitsAt w' G ba (ordL ls xs))
theorem ordE_ok {r : RuleZ} {xs : List Int} (h : ordE r xs = 0) : orderOk r.2.1 xs := by
  unfold ordE at h
  split at h
  · split at h
    · assumption
    · cases h
  · exact absurd h (by assumption)
theorem ordE_bad {r : RuleZ} {xs : List Int} (h : errR r [] ≠ 0) : ordE r xs = errR r [] := if_neg h
theorem ordE_none {r : RuleZ} {xs : List Int} (h : errR r [] = 0) (ho : ¬ orderOk r.2.1 xs) : ordE r xs = 2 := by unfold ordE; rw [if_pos h, if_neg ho]
theorem ordE_some {r : RuleZ} {xs : List Int} (h : errR r [] = 0) (ho : orderOk r.2.1 xs) : ordE r xs = 0 := by unfold ordE; rw [if_pos h, if_pos ho]
theorem stats_nil (w : World) : StatsAt w none [] := fun i s hs => by simp at hs
theorem stats_fit0 : StatsFit [] := ⟨Nat.zero_le _, fun s hs => by simp at hs, fun s hs => by simp at hs, fun s hs => by simp at hs⟩
theorem rule_set {W : World} {g : Nat} {a b c a' b' c' : Value} (h : Blk W g [a, b, c] 28) :
    Blk (((W.setCell ⟨g, 0, none⟩ a').setCell ⟨g, 1, none⟩ b').setCell ⟨g, 2, none⟩ c') g [a', b', c'] 28 ∧ Kp (fun k => k = g) W (((W.setCell ⟨g, 0, none⟩ a').setCell ⟨g, 1, none⟩ b').setCell ⟨g, 2, none⟩ c') :=
  ⟨((h.set 0 _).set 1 _).set 2 _, Kp.setCell (F := fun k => k = g) (Kp.setCell (F := fun k => k = g) (Kp.setCell (F := fun k => k = g) (Kp.refl W) (fun _ => rfl) _) (fun _ => rfl) _) (fun _ => rfl) _⟩
theorem row_lits {w w0 : World} {G : Nat → Prop} {Ls : List LitZ} {vs : List (Option Addr × Nat)} {ba : Option Addr} {n c : Nat} (h : Row w 97 8 (.slice ba n c) n ((Ls.zip vs).flatMap litC) (New w0)) (hn : n = Ls.length) (hv : vs.length = Ls.length) (hall : ∀ l ∈ Ls, LitAll l)
    (ht : ∀ x ∈ Ls.zip vs, TermsAt w G x.2.1 (termsOf x.1) ∧ (termsOf x.1).length ≤ x.2.2 ∧ x.2.2 ≤ maxLen) (hG : ∀ k, w0.heap.size ≤ k → G k) : LitsAt w G ba Ls := by
  obtain ⟨hx, ⟨e, h0⟩ | ⟨g, cap, rest, e, hM, hB, _⟩⟩ := h
  · have : Ls = [] := List.eq_nil_of_length_eq_zero (by omega)
    subst this
    exact fun i x hi => by simp at hi
  · cases e
    exact lits_cells hv hall ht (hG _ hM) hB
end Go.Proofs.YtomeebimmmfmbaaGreat

/- The law of costs: wanted. -/
namespace Go.Proofs.YtomeebimmmfmbaaGreat
open Go.RowKit
set_option linter.unusedVariables false
end Go.Proofs.YtomeebimmmfmbaaGreat

/- cost: share, named, the closure that looks a predicate up. -/
namespace Go.Proofs.YtomeebimmmfmbaaGreat
open Go.RowKit
set_option linter.unusedVariables false
attribute [local go_sem] run_store_float
theorem share_any (l : LitZ) (k : Int) (p : ByteArray) (a : Option Addr) (m cap : Nat) (op lk : Int) (lt : ByteArray) (rk : Int) (rt : ByteArray) (w : World) (hk : l.1 = k) (ho : opOf l = op) :
    Calls Tryz.prog 79 #[litV k p a m cap op lk lt rk rt] w (RetN w fun w' v => v = .float .f64 (shareW l)) := by
  have hsh : shareW l = if k = 2 then 4602678819172646912 else if op = 1 then 4591870180066957722 else if op = 2 then 4606281698874543309 else 4600877379321698714 := by unfold shareW; rw [hk, ho]
  rw [hsh]
  clear hsh hk ho
  by_cases a1 : k = 2
  · rw [if_pos a1]
    have m1 : (k == 2) = true := by simp [a1]
    have HA := Lib.hid a1; clear a1
    go_enter Tryz.func79, Tryz.ntmps79
    go_wp2
    go_ret
    exact RetN.mk ((Kp.refl w).alloc _) rfl
  · rw [if_neg a1]
    have m1 : (k == 2) = false := by simp [a1]
    by_cases a2 : op = 1
    · rw [if_pos a2]
      have m2 : (op == 1) = true := by simp [a2]
      have HA := Lib.hid (And.intro a1 a2); clear a1 a2
      go_enter Tryz.func79, Tryz.ntmps79
      go_wp2
      go_ret
      exact RetN.mk ((Kp.refl w).alloc _) rfl
    · rw [if_neg a2]
      have m2 : (op == 1) = false := by simp [a2]
      by_cases a3 : op = 2
      · rw [if_pos a3]
        have m3 : (op == 2) = true := by simp [a3]
        have HA := Lib.hid (And.intro a1 (And.intro a2 a3)); clear a1 a2 a3
        go_enter Tryz.func79, Tryz.ntmps79
        go_wp2
        go_ret
        exact RetN.mk ((Kp.refl w).alloc _) rfl
      · rw [if_neg a3]
        have m3 : (op == 2) = false := by simp [a3]
        have HA := Lib.hid (And.intro a1 (And.intro a2 a3)); clear a1 a2 a3
        go_enter Tryz.func79, Tryz.ntmps79
        go_wp2
        go_ret
        exact RetN.mk ((Kp.refl w).alloc _) rfl
theorem varsT_take {ts : List TermZ} {i : Nat} {t : TermZ} (h : ts[i]? = some t) : varsT (ts.take (i + 1)) = varsT (ts.take i) ++ if t.1 = 1 then [t.2.1] else [] := by
  unfold varsT
  rw [filterMap_take _ h]
  congr 1
  split <;> rfl
theorem varsT_len (ts : List TermZ) : (varsT ts).length ≤ ts.length := List.length_filterMap_le _ _
def NamedTo (w0 : World) (ts : List TermZ) (n : Nat) (iv lv : Value) (w : World) : Prop := ∃ i : Nat, i ≤ n ∧ iv = .int .i64 i ∧ Hid (Row w 9 1 lv (varsT (ts.take i)).length (strs (varsT (ts.take i))) (New w0)) ∧ Hid (Ext w0 w)
set_option maxRecDepth 100000 in
set_option maxHeartbeats 1000000 in
theorem namedC_any (ts : List TermZ) (ao : Option Addr) (n cap : Nat) (w : World) (G : Nat → Prop) (hn : n = ts.length) (h : TermsAt w G ao ts) (hl : n ≤ 1048576) :
    Calls Tryz.prog 80 #[.slice ao n cap] w (RetN w fun w' v => Row w' 9 1 v (varsT ts).length (strs (varsT ts)) (New w)) := by
  have HN := Lib.hid hn; have HE := Lib.hid h; clear hn h
  go_enter Tryz.func80, Tryz.ntmps80
  go_wp2
  go_loopw [8, 3] (fun iv lv wr => NamedTo w ts n iv lv wr) (fun iv _ _ => n - (intOf iv).toNat)
  case atStart => exact ⟨0, Nat.zero_le _, rfl, Row.nil _ _ _ _, Kp.refl w⟩
  case round =>
    obtain ⟨i, hi, rfl, hrow, hex⟩ := hrel
    by_cases hlt : i < n
    · obtain ⟨t, ht⟩ : ∃ t, ts[i]? = some t := ⟨_, List.getElem?_eq_getElem (by rw [← HN.out]; exact hlt)⟩
      obtain ⟨b, off, eao, hc0, hc1, _⟩ := term_at (HE.out.ext hex.out) ht
      subst eao
      obtain ⟨k, s, ⟨⟩⟩ := t
      simp only at hc0 hc1
      have HT := Lib.hid (varsT_take ht)
      have hlen : (varsT (ts.take i)).length ≤ i := by have := varsT_len (ts.take i); rw [List.length_take] at this; omega
      clear ht
      by_cases h1 : k = 1
      · subst h1
        obtain ⟨M, eM⟩ : ∃ M, varsT (ts.take i) = M := ⟨_, rfl⟩
        rw [eM] at hrow hlen HT
        have HR := Lib.hid hrow.out
        obtain ⟨aw, capw, elv, hcw, hlw⟩ := hrow.out.shape
        subst elv
        clear hrow hcw hlw eM
        go_wp2_with (first | (at_builtin; refine Halted.out ?_))
        refine Halted.mk (wp_appN (m := 1) (n := M.length) elem_strV rfl _ _ rfl ((hex.out.alloc _).alloc _) rfl ((HR.out.alloc _).alloc _) rfl (by have h := CellsAt.one (wr.alloc (.cells #[.int .i64 1, .string s] 94)) (.string s) 9; rw [alloc_size] at h; exact h) (by rfl) (by simp [Value.oneCell']) (by omega) (by unfold maxLen; omega) ?_)
        intro v1 w3 hr1 hk1 hk2 _
        have HR5 := Lib.hid (And.intro hr1 hk1)
        clear hr1 hk1 hk2 hc0 hc1
        go_wp2
        go_roundw
        case rel =>
          refine ⟨i + 1, by omega, by first | rfl | (congr 1; done) | (congr 1; omega), ?_, HR5.out.2⟩
          have h := HR5.out.1
          rw [HT.out, if_pos (by first | rfl | trivial), ← strs_snoc, List.length_append]
          exact h
        case measure => simp [intOf]; omega
      · have n1 : (k == 1) = false := by simp [h1]
        have HH := Lib.hid h1; clear h1
        go_wp2
        go_roundw
        case rel => exact ⟨i + 1, by omega, by first | rfl | (congr 1; done) | (congr 1; omega), by rw [HT.out, if_neg HH.out, List.append_nil]; exact hrow.out.alloc _, hex.out.alloc _⟩
        case measure => simp [intOf]; omega
    · have e : ts.take i = ts := List.take_of_length_le (by have := HN.out; omega)
      have HR := hrow
      rw [e] at HR
      clear e hrow
      go_wp2
      go_ret
      exact RetN.mk hex.out HR.out
theorem lookFn_any (p : ByteArray) (x : Nat) (da : Option Addr) (m dcap : Nat) (g : Nat) (s : ByteArray) (w : World) (hc : w.cell? ⟨g, 1, none⟩ = some (.string s)) :
    Calls Tryz.prog 82 #[statV p x da m dcap, .pointer (some ⟨g, 0, none⟩)] w (RetN w fun w' v => v = .bool (decide (p = s))) := by
  have e0 : (w.alloc (.cells #[.string p, .float .f64 x, .slice da m dcap] 48)).cell? ⟨g, 1, none⟩ = some (.string s) := ((Kp.refl (F := fun _ => False) w).alloc _).cell hc id
  clear hc
  by_cases h : p = s
  · have hb := str_eq s
    subst h
    go_enter Tryz.func82, Tryz.ntmps82
    go_wp2
    go_ret
    exact RetN.mk ((Kp.refl w).alloc _) (congrArg Value.bool (by simp))
  · have hb := str_ne h
    have H := Lib.hid h; clear h
    go_enter Tryz.func82, Tryz.ntmps82
    go_wp2
    go_ret
    exact RetN.mk ((Kp.refl w).alloc _) (congrArg Value.bool (decide_eq_false H.out).symm)
end Go.Proofs.YtomeebimmmfmbaaGreat

/- cost: a body, read. -/
namespace Go.Proofs.YtomeebimmmfmbaaGreat
open Go.RowKit
set_option linter.unusedVariables false
def BodyAt (w : World) (gb : Nat) (S : List StatZ) (ls : List LitZ) : Prop := ∃ w0 gm na ncap col pv cv m, BodyIn w0 w gb gm (.slice na (namesB ls).length ncap) col S ls (fun v => spotsP S v 0 ls) (constsP S 0 ls) pv cv m ∧ CellsAt w na (strs (namesB ls)) ∧ (namesB ls).length ≤ ncap
def BodyV (w : World) (r : RuleZ) (S : List StatZ) (w' : World) (v : Value) : Prop := (errR r S = 0 → ∃ gb, v = .tuple #[.pointer (some ⟨gb, 0, none⟩), .int .i64 0] ∧ w.heap.size ≤ gb ∧ BodyAt w' gb S r.2.1) ∧ (errR r S ≠ 0 → v = .tuple #[.pointer none, .int .i64 (errR r S)])
theorem BodyAt.ext {w w' : World} {gb : Nat} {S : List StatZ} {ls : List LitZ} (h : BodyAt w gb S ls) (hk : Ext w w') : BodyAt w' gb S ls := by
  obtain ⟨w0, gm, na, ncap, col, pv, cv, m, h1, h2, h3⟩ := h
  exact ⟨w0, gm, na, ncap, col, pv, cv, m, h1.on hk, h2.ext hk, h3⟩
def SpotsAt (w : World) (ao : Option Addr) (xs : List (Nat × Nat)) : Prop := ∀ (j : Nat) (x : Nat × Nat), xs[j]? = some x → ∃ g off, ao = some ⟨g, off, none⟩ ∧ w.cell? ⟨g, off + j * 2, none⟩ = some (.int .i64 x.1) ∧ w.cell? ⟨g, off + j * 2 + 1, none⟩ = some (.float .f64 x.2)
theorem SpotsAt.ext {w w' : World} {ao : Option Addr} {xs : List (Nat × Nat)} (h : SpotsAt w ao xs) (hk : Ext w w') : SpotsAt w' ao xs := fun j x hj => by
  obtain ⟨g, off, e, h1, h2⟩ := h j x hj
  exact ⟨g, off, e, hk.cell h1 id, hk.cell h2 id⟩
theorem Row.spotsAt {w : World} {e : TypeId} {v : Value} {xs : List (Nat × Nat)} {M : Nat → Prop} (h : Row w e 2 v xs.length (xs.flatMap spotC) M) : ∃ ao cap, v = .slice ao xs.length cap ∧ SpotsAt w ao xs := by
  obtain ⟨ao, cap, ev, hc, _⟩ := h.shape
  refine ⟨ao, cap, ev, fun j x hj => ?_⟩
  have h0 := flat_get spotC 2 spotC_len xs j x 0 hj (by decide)
  have h1 := flat_get spotC 2 spotC_len xs j x 1 hj (by decide)
  obtain ⟨g, off, e0, c0⟩ := hc _ _ (h0.trans rfl)
  obtain ⟨g', off', e1, c1⟩ := hc _ _ (h1.trans rfl)
  rw [e0] at e1; cases e1
  exact ⟨g, off, e0, by simpa using c0, by rw [Nat.add_assoc]; exact c1⟩
def PartsAt (w : World) (ao : Option Addr) (S : List StatZ) (ls : List LitZ) : Prop := ∀ (i : Nat) (l : LitZ), ls[i]? = some l → ∃ g off va vcap, ao = some ⟨g, off, none⟩ ∧ w.cell? ⟨g, off + i * 4, none⟩ = some (.bool (decide (l.1 = 1))) ∧ w.cell? ⟨g, off + i * 4 + 1, none⟩ = some (.float .f64 (rowsP S l)) ∧ w.cell? ⟨g, off + i * 4 + 2, none⟩ = some (.float .f64 (shareP l)) ∧ w.cell? ⟨g, off + i * 4 + 3, none⟩ = some (.slice va (varsL l).length vcap) ∧ CellsAt w va (strs (varsL l))
structure BodyR (w : World) (gb : Nat) (S : List StatZ) (ls : List LitZ) (pa : Option Addr) (pcap : Nat) (na : Option Addr) (ncap gm : Nat) (m : List (ByteArray × Value)) (ca : Option Addr) (ccap : Nat) : Prop where
  blk : Blk w gb [.slice pa ls.length pcap, .slice na (namesB ls).length ncap, .map (some gm), .slice ca (constsP S 0 ls).length ccap] 121
  parts : PartsAt w pa S ls
  names : CellsAt w na (strs (namesB ls))
  map : MapIs w gm m
  spots : ∀ v, ∃ ua ucap, (getM m v).getD (.slice none 0 0) = .slice ua (spotsP S v 0 ls).length ucap ∧ SpotsAt w ua (spotsP S v 0 ls)
  consts : SpotsAt w ca (constsP S 0 ls)
theorem BodyAt.read {w : World} {gb : Nat} {S : List StatZ} {ls : List LitZ} (h : BodyAt w gb S ls) : ∃ pa pcap na ncap gm m ca ccap, BodyR w gb S ls pa pcap na ncap gm m ca ccap := by
  obtain ⟨w0, gm, na, ncap, col, pv, cv, m, h1, h2, h3⟩ := h
  obtain ⟨_, _, _, hB, hM, ⟨vs, h6, h7, h8⟩, h9, h10⟩ := h1
  obtain ⟨pa, pcap, rfl, hpc, _⟩ := h7.shape
  obtain ⟨ca, ccap, rfl, hcs⟩ := h9.spotsAt
  refine ⟨pa, pcap, na, ncap, gm, m, ca, ccap, hB, fun i l hi => ?_, h2, hM, fun v => (h10 v).spotsAt, hcs⟩
  have hv : i < vs.length := by rw [h6]; exact (List.getElem?_eq_some_iff.1 hi).1
  have hz : (ls.zip vs)[i]? = some (l, vs[i]) := by rw [List.getElem?_zip_eq_some]; exact ⟨hi, List.getElem?_eq_getElem hv⟩
  have c := fun k (hk : k < 4) => flat_get (partC S) 4 (partC_len S) (ls.zip vs) i (l, vs[i]) k hz hk
  obtain ⟨g, off, e0, c0⟩ := hpc _ _ ((c 0 (by decide)).trans rfl)
  obtain ⟨g1, off1, e1, c1⟩ := hpc _ _ ((c 1 (by decide)).trans rfl)
  obtain ⟨g2, off2, e2, c2⟩ := hpc _ _ ((c 2 (by decide)).trans rfl)
  obtain ⟨g3, off3, e3, c3⟩ := hpc _ _ ((c 3 (by decide)).trans rfl)
  rw [e0] at e1 e2 e3; cases e1; cases e2; cases e3
  obtain ⟨va, vcap, ev, hvc, _⟩ := (h8 _ (List.mem_of_getElem? hz)).shape
  cases ev
  exact ⟨g, off, _, _, e0, by simpa using c0, by rw [Nat.add_assoc]; exact c1, by rw [Nat.add_assoc]; exact c2, by rw [Nat.add_assoc]; exact c3, hvc⟩
theorem min_run {x y : Nat} (hx : x ≤ infW) (hy : y ≤ infW) (at_ : Array TypeId) (ty : TypeId) (W : World) : (Builtin.min_ at_ ty #[.float .f64 x, .float .f64 y]).run Tryz.prog W = .ok (.float .f64 (if y < x then y else x)) W := by
  have h := order_pos hx hy
  have h' : (FloatKind.format .f64).order x y = some (compare x y) := h
  rcases Nat.lt_trichotomy x y with k | k | k
  · rw [Nat.compare_eq_lt.2 k] at h'
    rw [if_neg (by omega)]
    simp [Builtin.min_, Builtin.min2, h']
  · subst k
    rw [Nat.compare_eq_eq.2 rfl] at h'
    rw [if_neg (Nat.lt_irrefl _)]
    simp [Builtin.min_, Builtin.min2, h']
  · rw [Nat.compare_eq_gt.2 k] at h'
    rw [if_pos k]
    simp [Builtin.min_, Builtin.min2, h']
theorem eq_order {x y : Nat} (hx : x ≤ infW) (hy : y ≤ infW) : ((FloatKind.format .f64).order x y == some .eq) = decide (x = y) := by
  show (Ieee.double.order x y == some .eq) = _
  rw [order_pos hx hy]
  rcases Nat.lt_trichotomy x y with h | h | h
  · rw [Nat.compare_eq_lt.2 h, decide_eq_false (by omega)]; rfl
  · subst h; rw [Nat.compare_eq_eq.2 rfl, decide_eq_true rfl]; rfl
  · rw [Nat.compare_eq_gt.2 h, decide_eq_false (by omega)]; rfl
def MinTo (w0 : World) (L : List Nat) (n : Nat) (iv mv : Value) (w : World) : Prop := ∃ i : Nat, 1 ≤ i ∧ i ≤ n ∧ iv = .int .i64 i ∧ mv = .float .f64 (L.getD (leastTo L i) 0) ∧ Hid (Ext w0 w)
theorem getD_at {L : List Nat} {i : Nat} (h : i < L.length) : L.getD i 0 = L[i] := by rw [List.getD_eq_getElem?_getD, List.getElem?_eq_getElem h]; rfl
set_option maxRecDepth 100000 in
set_option maxHeartbeats 1000000 in
theorem minF_any (L : List Nat) (ao : Option Addr) (n cap : Nat) (w : World) (hn : n = L.length) (h : CellsAt w ao (flts L)) (hL : ∀ x ∈ L, x ≤ infW) (hl : n ≤ 4611686018427387904) (h1 : 1 ≤ n) :
    Calls Tryz.prog 86 #[.slice ao n cap] w (RetN w fun w' v => v = .float .f64 (L.getD (leastI L) 0)) := by
  have HN := Lib.hid hn; have HE := Lib.hid h; have HL := Lib.hid hL
  obtain ⟨g, off, eao, d0⟩ := h.flt (k := 0) (by omega)
  subst eao
  have hz : L[0]'(by omega) = L.getD (leastTo L 1) 0 := by
    have e : leastTo L 1 = 0 := by unfold leastTo; split <;> rfl
    rw [e, getD_at (by omega)]
  rw [hz, Nat.add_zero] at d0
  generalize hx0 : L.getD (leastTo L 1) 0 = x0 at d0
  have HX0 := Lib.hid hx0
  clear hn h hL hz hx0
  have g1 : ¬ (n : Int) < 1 := by omega
  go_enter Tryz.func86, Tryz.ntmps86
  go_wp2
  go_loopw [4, 3] (fun iv mv wr => MinTo w L n iv mv wr) (fun iv _ _ => n - (intOf iv).toNat)
  case atStart => exact ⟨1, Nat.le_refl _, h1, rfl, by rw [HX0.out], Kp.refl w⟩
  case round =>
    obtain ⟨i, hi1, hi, rfl, rfl, hex⟩ := hrel
    by_cases hlt : i < n
    · have hli : i < L.length := by rw [← HN.out]; exact hlt
      obtain ⟨g, off, eao, d1⟩ := (HE.out.ext hex.out).flt (k := i) hli
      cases eao
      have hk : leastTo L i < L.length := by have := leastTo_le L i hi1; omega
      have hmin := fun at_ ty W => min_run (x := L.getD (leastTo L i) 0) (y := L[i]) (by rw [getD_at hk]; exact HL.out _ (List.getElem_mem hk)) (HL.out _ (List.getElem_mem hli)) at_ ty W
      have hst : L.getD (leastTo L (i + 1)) 0 = if L[i] < L.getD (leastTo L i) 0 then L[i] else L.getD (leastTo L i) 0 := by
        show L.getD (if L.getD i 0 < L.getD (leastTo L i) 0 then i else leastTo L i) 0 = _
        rw [getD_at hli]
        split
        · exact getD_at hli
        · rfl
      generalize hX : L.getD (leastTo L i) 0 = X at *
      generalize L[i] = Y at *
      have HSt := Lib.hid hst
      clear hst hk hli hX
      go_wp2
      go_roundw
      case rel => exact ⟨i + 1, by omega, by omega, by first | rfl | (congr 1; done) | (congr 1; omega), by rw [HSt.out], hex⟩
      case measure => simp [intOf]; omega
    · have HF := Lib.hid (show leastTo L i = leastI L by unfold leastI; congr 1; have := HN.out; omega)
      go_wp2
      go_ret
      exact RetN.mk hex.out (by rw [← HF.out]; rfl)
def NoEq (w0 : World) (L : List Nat) (x : Nat) (n : Nat) (iv : Value) (w : World) : Prop := ∃ i : Nat, i ≤ n ∧ iv = .int .i64 i ∧ Hid (∀ j, j < i → L.getD j 0 ≠ x) ∧ Hid (Ext w0 w)
set_option maxRecDepth 100000 in
set_option maxHeartbeats 1000000 in
theorem indexLeast_any (L : List Nat) (ao : Option Addr) (n cap : Nat) (w : World) (hn : n = L.length) (h : CellsAt w ao (flts L)) (hL : ∀ x ∈ L, x ≤ infW) (hl : n ≤ 4611686018427387904) (h1 : 1 ≤ n) :
    Calls Tryz.prog 85 #[.slice ao n cap, .float .f64 (L.getD (leastI L) 0)] w (RetN w fun w' v => v = .int .i64 (leastI L)) := by
  have HN := Lib.hid hn; have HE := Lib.hid h; have HL := Lib.hid hL
  have hk : leastI L < L.length := leastTo_le L _ (by omega)
  have hX : L.getD (leastI L) 0 ≤ infW := by rw [getD_at hk]; exact hL _ (List.getElem_mem hk)
  obtain ⟨x, ex⟩ : ∃ x, x = L.getD (leastI L) 0 := ⟨_, rfl⟩
  rw [← ex] at hX ⊢
  have EX := Lib.hid (And.intro ex hk)
  clear hn h hL ex hk
  go_enter Tryz.func85, Tryz.ntmps85
  go_wp2
  go_loopw [8] (fun iv wr => NoEq w L x n iv wr) (fun iv _ => n - (intOf iv).toNat)
  case atStart => exact ⟨0, Nat.zero_le _, rfl, fun j hj => by omega, Kp.refl w⟩
  case round =>
    obtain ⟨i, hi, rfl, hno, hex⟩ := hrel
    by_cases hlt : i < n
    · have hli : i < L.length := by rw [← HN.out]; exact hlt
      obtain ⟨g, off, eao, d1⟩ := (HE.out.ext hex.out).flt (k := i) hli
      subst eao
      have ho := eq_order hX (HL.out _ (List.getElem_mem hli))
      have hg := getD_at hli
      generalize L[i] = y at *
      have HG := Lib.hid hg
      clear hg hli
      by_cases hxy : x = y
      · rw [decide_eq_true hxy] at ho
        have hleast : leastI L = i := by
          rcases Nat.lt_trichotomy (leastI L) i with k | k | k
          · exact absurd EX.out.1.symm (hno.out _ k)
          · exact k
          · have := leastTo_first L L.length i k
            rw [HG.out] at this
            have e := EX.out.1
            unfold leastI at e
            omega
        have HLe := Lib.hid hleast
        have HXY := Lib.hid hxy
        clear hleast hxy
        go_wp2
        go_ret
        exact RetN.mk hex.out (by rw [HLe.out]; rfl)
      · rw [decide_eq_false hxy] at ho
        have HXY := Lib.hid hxy
        clear hxy
        go_wp2
        go_roundw
        case rel =>
          refine ⟨i + 1, by omega, by first | rfl | (congr 1; done) | (congr 1; omega), fun j hj => ?_, hex⟩
          by_cases e : j = i
          · rw [e, HG.out]; exact fun q => HXY.out q.symm
          · exact hno.out j (by omega)
        case measure => simp [intOf]; omega
    · exact absurd EX.out.1.symm (hno.out _ (by have := EX.out.2; have := HN.out; omega))
end Go.Proofs.YtomeebimmmfmbaaGreat

/- cost: stands; slices.IndexFunc, ContainsFunc at texts. -/
namespace Go.Proofs.YtomeebimmmfmbaaGreat
open Go.RowKit
set_option linter.unusedVariables false
attribute [local go_sem] run_store_float
def TellS (f : FuncId) (first captured : Array Value) (w0 : World) (q : ByteArray → Bool) : Prop :=
  (∀ args w, (callFunc f args).run Tryz.prog w = .ok (Next.enter f args) w) ∧ ∀ w, Ext w0 w → ∀ (x : ByteArray), Calls Tryz.prog f (first.push (.string x) ++ captured) w (RetN w fun w' v => v = .bool (q x))
def NoneSF (w0 : World) (ts : List ByteArray) (q : ByteArray → Bool) (n : Nat) (iv : Value) (w : World) : Prop := ∃ i : Nat, i ≤ n ∧ iv = .int .i64 i ∧ Hid (∀ (j : Nat) u, j < i → ts[j]? = some u → q u = false) ∧ Hid (Ext w0 w)
set_option maxRecDepth 100000 in
set_option maxHeartbeats 1000000 in
theorem indexSF_any (ts : List ByteArray) (ao : Option Addr) (n cap : Nat) (f : FuncId) (first captured : Array Value) (q : ByteArray → Bool) (w : World) (hn : n = ts.length) (h : CellsAt w ao (strs ts)) (hq : TellS f first captured w q) (hl : n ≤ 4611686018427387904) :
    Calls Tryz.prog 123 #[.slice ao n cap, .func (Fn.func f) first captured] w (RetN w fun w' v => ∃ z : Int, v = .int .i64 z ∧ decide (0 ≤ z) = ts.any q) := by
  have HN := Lib.hid hn; have HE := Lib.hid h; clear hn h
  have hent := hq.1
  have HQ := Lib.hid hq.2; clear hq
  go_enter Tryz.func123, Tryz.ntmps123
  go_wp2
  go_loopw [8] (fun iv wr => NoneSF w ts q n iv wr) (fun iv _ => n - (intOf iv).toNat)
  case atStart => exact ⟨0, Nat.zero_le _, rfl, fun j u h => by omega, Kp.refl w⟩
  case round =>
    obtain ⟨i, hi, rfl, hno, hex⟩ := hrel
    by_cases hlt : i < n
    · have hlt' : i < ts.length := by rw [← HN.out]; exact hlt
      obtain ⟨b, off, eao, hc0⟩ := (HE.out.ext hex.out).str hlt'
      subst eao
      have ht : ts[i]? = some ts[i] := List.getElem?_eq_getElem hlt'
      generalize ts[i] = t at *
      obtain ⟨r, er⟩ : ∃ r : Bool, q t = r := ⟨_, rfl⟩
      have HC0 := HQ.out wr hex.out t
      rw [er] at HC0
      have HC := Lib.hid HC0
      have HT := Lib.hid (And.intro ht er)
      clear ht hlt' er HC0
      cases r
      · go_wp2_with fail
        refine HC.out.mono ?_
        rintro e w1 ⟨v, rfl, hk1, rfl⟩
        have HX := Lib.hid (hex.out.trans hk1); clear hk1 hc0
        go_wp2
        go_roundw
        case rel =>
          refine ⟨i + 1, by omega, by first | rfl | (congr 1; done) | (congr 1; omega), fun j u hj hu => ?_, HX⟩
          by_cases e : j = i
          · subst e; rw [HT.out.1] at hu; cases hu; exact HT.out.2
          · exact hno.out j u (by omega) hu
        case measure => simp [intOf]; omega
      · go_wp2_with fail
        refine HC.out.mono ?_
        rintro e w1 ⟨v, rfl, hk1, rfl⟩
        have HX := Lib.hid (hex.out.trans hk1); clear hk1 hc0
        go_wp2
        go_ret
        exact RetN.mk HX.out ⟨i, rfl, by rw [any_true HT.out.1 HT.out.2]; simp⟩
    · go_wp2
      go_ret
      exact RetN.mk hex.out ⟨-1, rfl, by rw [any_false HN.out fun j u hj => hno.out j u (by omega)]; decide⟩
set_option maxRecDepth 100000 in
theorem containsSF_any (ts : List ByteArray) (ao : Option Addr) (n cap : Nat) (f : FuncId) (first captured : Array Value) (q : ByteArray → Bool) (w : World) (hn : n = ts.length) (h : CellsAt w ao (strs ts)) (hq : TellS f first captured w q) (hl : n ≤ 4611686018427387904) :
    Calls Tryz.prog 83 #[.slice ao n cap, .func (Fn.func f) first captured] w (RetN w fun w' v => v = .bool (ts.any q)) := by
  have HI := Lib.hid (indexSF_any ts ao n cap f first captured q w hn h hq hl)
  clear hn h hq hl
  go_enter Tryz.func83, Tryz.ntmps83
  go_wp2_with fail
  refine HI.out.mono ?_
  rintro e w1 ⟨v, rfl, hk, z, rfl, hz⟩
  go_wp2
  go_ret
  exact RetN.mk hk (congrArg Value.bool (by first | exact hz | simp [← hz]))
theorem varsL_pos {l : LitZ} (h : l.1 = 1) : varsL l = varsT (termsOf l) := if_pos h
def bindsL (p : LitZ × Bool) : List ByteArray := if p.2 = true ∧ p.1.1 = 1 then varsL p.1 else []
def bindsTo (ps : Pairs) (i : Nat) : List ByteArray := (ps.take i).flatMap bindsL
theorem bindsTo_succ {ps : Pairs} {i : Nat} {p : LitZ × Bool} (h : ps[i]? = some p) : bindsTo ps (i + 1) = bindsTo ps i ++ bindsL p := flat_take _ h
theorem binds_iff {ls : List LitZ} {inn : List Bool} (hin : inn.length = ls.length) {v : ByteArray} {n : Nat} (hn : ls.length ≤ n) : v ∈ bindsTo (ls.zip inn) n ↔ boundIn ls inn v := by
  unfold bindsTo
  rw [List.take_of_length_le (by rw [zip_len hin]; exact hn), List.mem_flatMap]
  constructor
  · rintro ⟨⟨l, b⟩, hp, hv⟩
    obtain ⟨i, hi⟩ := List.mem_iff_getElem?.1 hp
    rw [List.getElem?_zip_eq_some] at hi
    unfold bindsL at hv
    split at hv
    · rename_i h
      obtain ⟨rfl, h1⟩ := h
      exact ⟨i, l, hi.1, hi.2, h1, by rw [← varsL_pos h1]; exact hv⟩
    · cases hv
  · rintro ⟨i, l, h1, h2, h3, h4⟩
    refine ⟨(l, true), List.mem_of_getElem? (zip_at h1 h2), ?_⟩
    unfold bindsL
    rw [if_pos ⟨rfl, h3⟩]
    rw [varsL_pos h3]; exact h4
theorem stands_vars {ls : List LitZ} {inn : List Bool} : stands ls inn ↔ ∀ (i : Nat) (l : LitZ), ls[i]? = some l → inn[i]? = some true → ∀ v ∈ varsL l, boundIn ls inn v := by
  constructor
  · intro h i l h1 h2 v hv
    by_cases hl : l.1 = 1
    · rw [varsL_pos hl] at hv
      exact ⟨i, l, h1, h2, hl, hv⟩
    · exact h i l h1 h2 hl v (by unfold varsL at hv; rw [if_neg hl] at hv; exact hv)
  · intro h i l h1 h2 h3 v hv
    exact h i l h1 h2 v (by unfold varsL; rw [if_neg h3]; exact hv)
def TellsM (m : List (ByteArray × Value)) (bs : List ByteArray) : Prop := ∀ v, getM m v = if hasT bs v = true then some (Value.bool true) else none
theorem take_snoc2 {α : Type} {l : List α} {i : Nat} {x : α} (h : l[i]? = some x) : l.take (i + 1) = l.take i ++ [x] := by rw [List.take_add_one, h]; rfl
theorem hasT_snoc (bs : List ByteArray) (s v : ByteArray) : hasT (bs ++ [s]) v = (hasT bs v || decide (s = v)) := by
  unfold hasT; rw [List.any_append]; simp
theorem TellsM.put {m : List (ByteArray × Value)} {bs : List ByteArray} (h : TellsM m bs) (s : ByteArray) : TellsM (putM m s (.bool true)) (bs ++ [s]) := fun v => by
  rw [getM_put, h v, hasT_snoc]
  by_cases hv : v = s
  · rw [if_pos hv, decide_eq_true hv.symm, Bool.or_true]; rfl
  · rw [if_neg hv, decide_eq_false (Ne.symm hv), Bool.or_false]
theorem TellsM.nil : TellsM [] [] := fun v => rfl
theorem boundFn_any (g2 gc : Nat) (m : List (ByteArray × Value)) (bs : List ByteArray) (s : ByteArray) (w : World) (hc : Blk w gc [.map (some g2)] 81) (hm : MapIs w g2 m) (ht : TellsM m bs) :
    Calls Tryz.prog 84 #[.string s, .pointer (some ⟨gc, 0, none⟩)] w (RetN w fun w' v => v = .bool (!hasT bs s)) := by
  have c0 : w.cell? ⟨gc, 0, none⟩ = some (.map (some g2)) := by rw [hc.cell']; rfl
  have hlk := run_lookup_str (P := Tryz.prog) (w := w) Tryz.underlying81 Tryz.underlying9 (z := .bool false) (by kernel_rfl) hm s
  rw [ht s] at hlk
  clear hc hm ht
  cases h : hasT bs s
  · rw [h] at hlk
    have hl2 : (Instr.lookup 81 (.map (some g2)) (.string s) false).run Tryz.prog w = .ok (.bool false) w := hlk
    clear h hlk
    go_enter Tryz.func84, Tryz.ntmps84
    go_wp2
    go_ret
    exact RetN.mk (Kp.refl w) rfl
  · rw [h] at hlk
    have hl2 : (Instr.lookup 81 (.map (some g2)) (.string s) false).run Tryz.prog w = .ok (.bool true) w := hlk
    clear h hlk
    go_enter Tryz.func84, Tryz.ntmps84
    go_wp2
    go_ret
    exact RetN.mk (Kp.refl w) rfl
def BindTo (w0 : World) (g2 gc : Nat) (ps : Pairs) (n : Nat) (iv : Value) (w : World) : Prop := ∃ i : Nat, i ≤ n ∧ iv = .int .i64 i ∧ Hid (∃ m, MapIs w g2 m ∧ TellsM m (bindsTo ps i)) ∧ Hid (Blk w gc [.map (some g2)] 81) ∧ Hid (Ext w0 w)
def BindIn (w0 : World) (g2 gc : Nat) (A : List ByteArray) (V : List ByteArray) (on : Bool) (n : Nat) (iv : Value) (gp : Nat) (pv : List Value) (w : World) : Prop := ∃ j : Nat, j ≤ n ∧ iv = .int .i64 j ∧ Hid (∃ m, MapIs w g2 m ∧ TellsM m (A ++ if on = true then V.take j else [])) ∧ Hid (Blk w gc [.map (some g2)] 81) ∧ Hid (Ext w0 w) ∧ Hid (Blk w gp pv 164)
theorem map_lt_ext {w0 w w' : World} {g2 : Nat} (h : Ext w0 w) (hg : w0.heap.size ≤ g2) (hk : Kp (fun k => k = g2) w w') : Ext w0 w' := h.trans' hk fun i hi e => by omega
open Classical in
set_option maxRecDepth 100000 in
set_option maxHeartbeats 8000000 in
theorem stands_any (gb : Nat) (S : List StatZ) (ls : List LitZ) (n : Nat) (inn : List Bool) (ia : Option Addr) (icap : Nat) (w : World) (hn : n = ls.length) (hl : n ≤ 1048576) (hv : ∀ l ∈ ls, (varsL l).length ≤ 1048576) (hB : BodyAt w gb S ls) (hin : inn.length = n) (hI : CellsAt w ia (bools inn)) :
    Calls Tryz.prog 44 #[.pointer (some ⟨gb, 0, none⟩), .slice ia n icap] w (RetN w fun w' v => v = .bool (decide (stands ls inn))) := by
  obtain ⟨pa, pcap, na, ncap, gm, mm, ca, ccap, hR⟩ := hB.read
  have HR := Lib.hid hR
  have HN := Lib.hid hn
  have HV := Lib.hid hv
  have HI := Lib.hid (And.intro hin hI)
  obtain ⟨c1v, ec1⟩ : ∃ v, v = Value.slice na (namesB ls).length ncap := ⟨_, rfl⟩
  obtain ⟨c3v, ec3⟩ : ∃ v, v = Value.slice ca (constsP S 0 ls).length ccap := ⟨_, rfl⟩
  have b0 : w.cell? ⟨gb, 0, none⟩ = some (.slice pa n pcap) := by rw [hR.blk.cell', hn]; rfl
  have HB0 := Lib.hid b0
  have hmm := @run_makeMap Tryz.prog
  have b0' : ((w.alloc (.map #[] 0)).alloc (.cells #[.map (some w.heap.size)] 81)).cell? ⟨gb, 0, none⟩ = some (.slice pa n pcap) := (((Kp.refl (F := fun _ => False) w).alloc _).alloc _).cell b0 id
  clear hB hR hn hv hin hI ec1 ec3
  go_enter Tryz.func44, Tryz.ntmps44
  go_wp2
  obtain ⟨w4, ew4⟩ : ∃ w4, (w.alloc (.map #[] 0)).alloc (.cells #[.map (some w.heap.size)] 81) = w4 := ⟨_, rfl⟩
  rw [ew4]
  obtain ⟨g2, eg2⟩ : ∃ g2, g2 = w.heap.size := ⟨_, rfl⟩
  obtain ⟨gc, egc⟩ : ∃ gc, gc = g2 + 1 := ⟨_, rfl⟩
  have hx4 : Ext w w4 := by rw [← ew4]; exact ((Kp.refl w).alloc _).alloc _
  have hc4 : Blk w4 gc [.map (some g2)] 81 := by
    have h := Blk.new (w.alloc (.map #[] 0)) [.map (some w.heap.size)] 81
    rw [alloc_size] at h
    have ew4' : (w.alloc (.map #[] 0)).alloc (.cells [Value.map (some w.heap.size)].toArray 81) = w4 := ew4
    rw [ew4', ← eg2, ← egc] at h; exact h
  have hm4 : MapIs w4 g2 [] := by
    have h := (MapIs.new w).ext ((Kp.refl _).alloc (.cells #[.map (some w.heap.size)] 81))
    rw [ew4, ← eg2] at h; exact h
  have HC4 := Lib.hid hc4
  have HM4 := Lib.hid hm4
  have HX4 := Lib.hid hx4
  have HG2 := Lib.hid (show w.heap.size ≤ g2 ∧ gc ≠ g2 by omega)
  rw [← eg2]
  rw [← egc]
  clear ew4 hx4 hc4 hm4 eg2 egc hmm b0' b0
  go_loopw [18] (fun iv wr => BindTo w g2 gc (ls.zip inn) n iv wr) (fun iv _ => n - (intOf iv).toNat)
  case atStart => exact ⟨0, Nat.zero_le _, rfl, ⟨[], HM4.out, TellsM.nil⟩, HC4.out, HX4.out⟩
  case round =>
    obtain ⟨i, hi, rfl, hm, hc, hex⟩ := hrel
    by_cases hlt : i < n
    · obtain ⟨l, hli⟩ : ∃ l, ls[i]? = some l := ⟨_, List.getElem?_eq_getElem (by rw [← HN.out]; exact hlt)⟩
      obtain ⟨bi, ebi⟩ : ∃ bi, inn[i]? = some bi := ⟨_, List.getElem?_eq_getElem (by have := HI.out.1; omega)⟩
      obtain ⟨pg, poff, va, vcap, epa, p0, p1, p2, p3, hvc⟩ := HR.out.parts i l hli
      subst epa
      replace p0 := hex.out.cell p0 id
      replace p1 := hex.out.cell p1 id
      replace p2 := hex.out.cell p2 id
      replace p3 := hex.out.cell p3 id
      obtain ⟨po, epo⟩ : ∃ po, po = decide (l.1 = 1) := ⟨_, rfl⟩
      rw [← epo] at p0
      obtain ⟨V, eV⟩ : ∃ V, V = varsL l := ⟨_, rfl⟩
      rw [← eV] at p3 hvc
      obtain ⟨vn, evn⟩ : ∃ vn, vn = V.length := ⟨_, rfl⟩
      rw [← evn] at p3
      have hvn : vn ≤ 1048576 := by rw [evn, eV]; exact HV.out l (List.mem_of_getElem? hli)
      generalize rowsP S l = r1 at p1
      generalize shareP l = r2 at p2
      have HL := Lib.hid (And.intro hli (And.intro ebi (And.intro epo (And.intro eV (And.intro evn hvc)))))
      have HZ := Lib.hid (zip_at hli ebi)
      clear hli ebi epo eV evn hvc
      obtain ⟨wx, ewx⟩ : ∃ wx, wr.alloc (.cells #[.bool po, .float .f64 r1, .float .f64 r2, .slice va vn vcap] 164) = wx := ⟨_, rfl⟩
      obtain ⟨gp, egp⟩ : ∃ gp, gp = wr.heap.size := ⟨_, rfl⟩
      have hgp := Blk.new wr [.bool po, .float .f64 r1, .float .f64 r2, .slice va vn vcap] 164
      have ewx' : wr.alloc (.cells [Value.bool po, .float .f64 r1, .float .f64 r2, .slice va vn vcap].toArray 164) = wx := ewx
      rw [ewx', ← egp] at hgp
      have HGP := Lib.hid hgp
      have hxx : Ext wr wx := by rw [← ewx]; exact (Kp.refl wr).alloc _
      have EGP := Lib.hid (And.intro egp ewx)
      obtain ⟨m, hm1, hm2⟩ := hm.out
      have HMx := Lib.hid (show ∃ m, MapIs wx g2 m ∧ TellsM m (bindsTo (ls.zip inn) i ++ if (bi && po) = true then V.take 0 else []) from ⟨m, hm1.ext hxx, by simpa using hm2⟩)
      have HCx := Lib.hid (hc.out.ext hxx)
      have HXx := Lib.hid (hex.out.trans hxx)
      clear hgp ewx ewx' hxx hm1 hm2 egp hm
      go_wp2
      rw [EGP.out.2, ← EGP.out.1]
      clear p0 p1 p2 p3
      go_loopw [26] (fun iv wr => BindIn w g2 gc (bindsTo (ls.zip inn) i) V (bi && po) vn iv gp [.bool po, .float .f64 r1, .float .f64 r2, .slice va vn vcap] wr) (fun iv _ => vn - (intOf iv).toNat)
      case atStart => exact ⟨0, Nat.zero_le _, rfl, HMx.out, HCx.out, HXx.out, HGP.out⟩
      case round =>
        obtain ⟨j, hj, rfl, hmj, hcj, hexj, hgpj⟩ := hrel
        by_cases hlt2 : j < vn
        · have hjl : j < V.length := by rw [← HL.out.2.2.2.2.1]; exact hlt2
          obtain ⟨sb, soff, eva, s0⟩ := (HL.out.2.2.2.2.2.ext hexj.out).str hjl
          subst eva
          have hvj : V[j]? = some V[j] := List.getElem?_eq_getElem hjl
          generalize V[j] = v at *
          have HVj := Lib.hid hvj
          obtain ⟨ib, ioff, eia, d0⟩ := (HI.out.2.ext hexj.out).bool HL.out.2.1
          subst eia
          have q0 : wr.cell? ⟨gp, 0, none⟩ = some (.bool po) := by rw [hgpj.out.cell']; rfl
          have cc : wr.cell? ⟨gc, 0, none⟩ = some (.map (some g2)) := by rw [hcj.out.cell']; rfl
          obtain ⟨m, hm1, hm2⟩ := hmj.out
          clear hvj hjl hmj
          by_cases hon : bi = true ∧ po = true
          · obtain ⟨rfl, rfl⟩ := hon
            obtain ⟨w2, hrun, hM2, hk2⟩ := run_update_str (P := Tryz.prog) Tryz.underlying81 Tryz.underlying9 hm1 v (.bool true)
            have HM2 := Lib.hid (show ∃ m, MapIs w2 g2 m ∧ TellsM m (bindsTo (ls.zip inn) i ++ if (true && true) = true then V.take (j + 1) else []) from ⟨_, hM2, by
              have h := hm2.put v
              simp only [Bool.and_self, if_true] at h ⊢
              rw [List.append_assoc] at h
              rw [take_snoc2 HVj.out]; exact h⟩)
            have hne : gp ≠ g2 := fun e => by have := hgpj.out; rw [e] at this; exact blk_map this hm1
            have HC2 := Lib.hid (hcj.out.kp hk2 HG2.out.2)
            have HX2 := Lib.hid (map_lt_ext hexj.out HG2.out.1 hk2)
            have HP2 := Lib.hid (hgpj.out.kp hk2 hne)
            clear hM2 hk2 hne hm1 hm2
            go_wp2
            go_roundw
            case rel => exact ⟨j + 1, by omega, by first | rfl | (congr 1; done) | (congr 1; omega), HM2.out, HC2.out, HX2.out, HP2.out⟩
            case measure => simp [intOf]; omega
          · have hoff : (bi && po) = false := by cases bi <;> cases po <;> simp_all
            have HM2 := Lib.hid (show ∃ m, MapIs wr g2 m ∧ TellsM m (bindsTo (ls.zip inn) i ++ if (bi && po) = true then V.take (j + 1) else []) from ⟨m, hm1, by rw [hoff] at hm2 ⊢; exact hm2⟩)
            have HOff := Lib.hid hoff
            clear hm1 hm2 hoff
            cases bi
            · clear hon
              go_wp2
              go_roundw
              case rel => exact ⟨j + 1, by omega, by first | rfl | (congr 1; done) | (congr 1; omega), HM2.out, hcj.out, hexj.out, hgpj.out⟩
              case measure => simp [intOf]; omega
            · obtain rfl : po = false := by cases po <;> simp_all
              clear hon
              go_wp2
              go_roundw
              case rel => exact ⟨j + 1, by omega, by first | rfl | (congr 1; done) | (congr 1; omega), HM2.out, hcj.out, hexj.out, hgpj.out⟩
              case measure => simp [intOf]; omega
        · have HM2 := Lib.hid (show ∃ m, MapIs wr g2 m ∧ TellsM m (bindsTo (ls.zip inn) (i + 1)) by
            obtain ⟨m, hm1, hm2⟩ := hmj.out
            refine ⟨m, hm1, ?_⟩
            rw [bindsTo_succ HZ.out]
            have e : (if (bi && po) = true then V.take j else []) = bindsL (l, bi) := by
              unfold bindsL
              rw [HL.out.2.2.1, List.take_of_length_le (by have := HL.out.2.2.2.2.1; omega), HL.out.2.2.2.1]
              cases bi <;> simp
            rw [e] at hm2; exact hm2)
          have hcm : ¬ (j : Int) < (vn : Int) := by omega
          clear hmj
          go_wp2
          go_roundw
          case rel => exact ⟨i + 1, by omega, by first | rfl | (congr 1; done) | (congr 1; omega), HM2.out, hcj.out, hexj.out⟩
          case measure => simp [intOf]; omega
    · obtain ⟨m, hm1, hm2⟩ := hm.out
      have HB := Lib.hid (fun (v : ByteArray) => (binds_iff (ls := ls) (inn := inn) (by have := HI.out.1; have := HN.out; omega) (v := v) (n := i) (by have := HN.out; omega)))
      generalize hbs : bindsTo (ls.zip inn) i = bs at *
      have hent : ∀ args w, (callFunc 84 args).run Tryz.prog w = .ok (Next.enter 84 args) w := enters_of Tryz.func84 (by kernel_rfl) rfl
      have HFn := Lib.hid (fun (W0 : World) (hW0 : Ext wr W0) => (show TellS 84 #[] #[.pointer (some ⟨gc, 0, none⟩)] W0 (fun v => !hasT bs v) from ⟨hent, fun w' hw' x => boundFn_any g2 gc m bs x w' ((hc.out.ext hW0).ext hw') ((hm1.ext hW0).ext hw') hm2⟩))
      have b0 := hex.out.cell HB0.out id
      generalize hw5 : wr = w5 at *
      clear hw5 hent hm hm1 hm2 hbs
      go_wp2
      go_loopw [47] (fun iv wr => ∃ q : Nat, q ≤ n ∧ iv = .int .i64 q ∧ Hid (∀ (j : Nat) (l : LitZ), j < q → ls[j]? = some l → inn[j]? = some true → ∀ v ∈ varsL l, v ∈ bs) ∧ Hid (Ext w5 wr)) (fun iv _ => n - (intOf iv).toNat)
      case atStart => exact ⟨0, Nat.zero_le _, rfl, fun j l hj => by omega, Kp.refl _⟩
      case round =>
        obtain ⟨q, hq, rfl, hall, hexq⟩ := hrel
        have XQ := Lib.hid (hex.out.trans hexq.out)
        by_cases hlt2 : q < n
        · obtain ⟨l, hli⟩ : ∃ l, ls[q]? = some l := ⟨_, List.getElem?_eq_getElem (by rw [← HN.out]; exact hlt2)⟩
          obtain ⟨bi, ebi⟩ : ∃ bi, inn[q]? = some bi := ⟨_, List.getElem?_eq_getElem (by have := HI.out.1; omega)⟩
          obtain ⟨pg, poff, va, vcap, epa, p0, p1, p2, p3, hvc⟩ := HR.out.parts q l hli
          subst epa
          replace p0 := XQ.out.cell p0 id
          replace p1 := XQ.out.cell p1 id
          replace p2 := XQ.out.cell p2 id
          replace p3 := XQ.out.cell p3 id
          generalize decide (l.1 = 1) = po at p0
          obtain ⟨V, eV⟩ : ∃ V, V = varsL l := ⟨_, rfl⟩
          rw [← eV] at p3 hvc
          obtain ⟨vn, evn⟩ : ∃ vn, vn = V.length := ⟨_, rfl⟩
          rw [← evn] at p3
          have hvn : vn ≤ 1048576 := by rw [evn, eV]; exact HV.out l (List.mem_of_getElem? hli)
          generalize rowsP S l = r1 at p1
          generalize shareP l = r2 at p2
          obtain ⟨ib, ioff, eia, d0⟩ := (HI.out.2.ext XQ.out).bool ebi
          subst eia
          have d1 : (wr.alloc (.cells #[.bool po, .float .f64 r1, .float .f64 r2, .slice va vn vcap] 164)).cell? ⟨ib, ioff + q, none⟩ = some (.bool bi) := ((Kp.refl (F := fun _ => False) wr).alloc _).cell d0 id
          have HL := Lib.hid (And.intro hli (And.intro ebi (And.intro eV evn)))
          have HCF := Lib.hid (fun (W : World) (hW : Ext wr W) => containsSF_any V va vn vcap 84 #[] #[.pointer (some ⟨gc, 0, none⟩)] (fun v => !hasT bs v) W evn (hvc.ext (XQ.out.trans hW)) (HFn.out W (hexq.out.trans hW)) (by omega))
          clear hli ebi eV evn hvc
          cases bi
          · go_wp2
            go_roundw
            case rel =>
              refine ⟨q + 1, by omega, by first | rfl | (congr 1; done) | (congr 1; omega), fun j l' hj hl' hb v hv => ?_, hexq.out.alloc _⟩
              by_cases e : j = q
              · subst e; rw [HL.out.2.1] at hb; cases hb
              · exact hall.out j l' (by omega) hl' hb v hv
            case measure => simp [intOf]; omega
          · go_wp2_with fail
            refine (HCF.out _ ((Kp.refl wr).alloc _)).mono ?_
            rintro e w6 ⟨v, rfl, hk6, rfl⟩
            have X6 := Lib.hid ((hexq.out.alloc _).trans hk6)
            clear hk6 p0 p1 p2 p3 d0 d1
            cases hany : V.any fun v => !hasT bs v
            · have HY := Lib.hid (show ∀ v ∈ varsL l, v ∈ bs from fun v hv => by
                rw [← HL.out.2.2.1] at hv
                have := List.any_eq_false.1 hany v hv
                exact hasT_iff.1 (by simpa using this))
              clear hany
              go_wp2
              go_roundw
              case rel =>
                refine ⟨q + 1, by omega, by first | rfl | (congr 1; done) | (congr 1; omega), fun j l' hj hl' hb v hv => ?_, X6⟩
                by_cases e : j = q
                · subst e; rw [HL.out.1] at hl'; cases hl'; exact HY.out v hv
                · exact hall.out j l' (by omega) hl' hb v hv
              case measure => simp [intOf]; omega
            · have HY := Lib.hid (show ¬ stands ls inn from fun hs => by
                obtain ⟨v, hv, hd⟩ := List.any_eq_true.1 hany
                rw [HL.out.2.2.1] at hv
                rw [hasT_iff.2 ((HB.out v).2 (stands_vars.1 hs q l HL.out.1 HL.out.2.1 v hv))] at hd; cases hd)
              clear hany
              go_wp2
              go_ret
              exact RetN.mk (hex.out.trans X6.out) (congrArg Value.bool (decide_eq_false HY.out).symm)
        · have HY := Lib.hid (show stands ls inn from stands_vars.2 fun j l h1 h2 v hv => (HB.out v).1 (hall.out j l (by have := (List.getElem?_eq_some_iff.1 h1).1; have := HN.out; omega) h1 h2 v hv))
          clear hall
          go_wp2
          go_ret
          exact RetN.mk XQ.out (congrArg Value.bool (decide_eq_true HY.out).symm)
end Go.Proofs.YtomeebimmmfmbaaGreat

/- cost: the guess of a set. -/
namespace Go.Proofs.YtomeebimmmfmbaaGreat
open Go.RowKit
set_option linter.unusedVariables false
attribute [local go_sem] run_store_float
theorem inSet_take {inn : List Bool} {xs : List (Nat × Nat)} {q : Nat} {x : Nat × Nat} (h : xs[q]? = some x) : inSet inn (xs.take (q + 1)) = inSet inn (xs.take q) ++ if inn[x.1]? = some true then [x.2] else [] := by
  unfold inSet
  rw [filterMap_take _ h]
  congr 1
  split <;> rfl
theorem inSet_len (inn : List Bool) (xs : List (Nat × Nat)) : (inSet inn xs).length ≤ xs.length := List.length_filterMap_le _ _
theorem spots_in0 (S : List StatZ) (v : ByteArray) {ls : List LitZ} {inn : List Bool} (h : inn.length = ls.length) : inSet inn (spotsP S v 0 ls) = spotsIn S (ls.zip inn) v := spots_in S v ls 0 [] inn rfl h
theorem consts_in0 (S : List StatZ) {ls : List LitZ} {inn : List Bool} (h : inn.length = ls.length) : inSet inn (constsP S 0 ls) = constsIn S (ls.zip inn) := consts_in S ls 0 [] inn rfl h
theorem spots_len0 {S : List StatZ} {v : ByteArray} {ls : List LitZ} (hf : Fit ls) : (spotsP S v 0 ls).length ≤ 1099511627776 := by
  have h1 := spotsP_len' S v 1048576 ls 0 hf.terms
  have h2 := Nat.mul_le_mul_right 1048576 hf.len
  omega
theorem consts_len0 {S : List StatZ} {ls : List LitZ} (hf : Fit ls) : (constsP S 0 ls).length ≤ 1099511627776 := by
  have h1 := constsP_len' S 1048576 ls 0 hf.terms
  have h2 := Nat.mul_le_mul_right 1048576 hf.len
  omega
theorem rowsP_pos {S : List StatZ} {l : LitZ} (h : l.1 = 1) : rowsP S l = rowsW S l := if_pos h
theorem shareP_no {l : LitZ} (h : l.1 ≠ 1) : shareP l = shareW l := if_neg h
def MulZ (w0 : World) (S : List StatZ) (ps : Pairs) (n : Nat) (iv sv : Value) (w : World) : Prop := ∃ i x : Nat, i ≤ n ∧ iv = .int .i64 i ∧ sv = .float .f64 x ∧ Hid (x = mulTo S ps i ∧ x ≤ infW ∧ ∀ j, j < i → ¬ ∃ l : LitZ, ps[j]? = some (l, true) ∧ l.1 = 1 ∧ zeroW (rowsW S l) = true) ∧ Hid (Ext w0 w)
def SelTo (w0 : World) (inn : List Bool) (xs : List (Nat × Nat)) (n : Nat) (iv lv : Value) (w : World) : Prop := ∃ q : Nat, q ≤ n ∧ iv = .int .i64 q ∧ Hid (Row w 45 1 lv (inSet inn (xs.take q)).length (flts (inSet inn (xs.take q))) (New w0)) ∧ Hid (Ext w0 w)
set_option maxRecDepth 100000 in
set_option maxHeartbeats 20000000 in
theorem guess_any (gb : Nat) (S : List StatZ) (ls : List LitZ) (n : Nat) (inn : List Bool) (ia : Option Addr) (icap : Nat) (w : World) (hn : n = ls.length) (hf : Fit ls) (K : Known S ls) (hB : BodyAt w gb S ls) (hin : inn.length = n) (hI : CellsAt w ia (bools inn)) :
    Calls Tryz.prog 45 #[.pointer (some ⟨gb, 0, none⟩), .slice ia n icap] w (RetN w fun w' v => v = .float .f64 (guessW S ls inn)) := by
  obtain ⟨pa, pcap, na, ncap, gm, mm, ca, ccap, hR⟩ := hB.read
  have hl : n ≤ 1048576 := by have := hf.len; omega
  have HR := Lib.hid hR
  have HN := Lib.hid hn
  have HF := Lib.hid hf
  have HK := Lib.hid K
  have HI := Lib.hid (And.intro hin hI)
  have HPL := Lib.hid (show (ls.zip inn).length = n by rw [zip_len (by omega)]; omega)
  have HIL := Lib.hid (show inn.length = ls.length by omega)
  obtain ⟨m, em⟩ : ∃ m, m = (namesB ls).length := ⟨_, rfl⟩
  have hm1 : m ≤ 1099511627776 := by
    have h1 := namesB_len hf.terms
    have h2 := hf.len
    have h3 := Nat.mul_le_mul_right 1048576 h2
    omega
  have EM := Lib.hid em
  obtain ⟨cn, ecn⟩ : ∃ cn, cn = (constsP S 0 ls).length := ⟨_, rfl⟩
  have hcn : cn ≤ 1099511627776 := by rw [ecn]; exact consts_len0 hf
  have ECN := Lib.hid ecn
  have b0 : w.cell? ⟨gb, 0, none⟩ = some (.slice pa n pcap) := by rw [hR.blk.cell', hn]; rfl
  have b1 : w.cell? ⟨gb, 1, none⟩ = some (.slice na m ncap) := by rw [hR.blk.cell', em]; rfl
  have b2 : w.cell? ⟨gb, 2, none⟩ = some (.map (some gm)) := by rw [hR.blk.cell']; rfl
  have b3 : w.cell? ⟨gb, 3, none⟩ = some (.slice ca cn ccap) := by rw [hR.blk.cell', ecn]; rfl
  have HB := Lib.hid (And.intro b0 (And.intro b1 (And.intro b2 b3)))
  clear hB hR hn hin hI em ecn b1 b2 b3 hf K
  go_enter Tryz.func45, Tryz.ntmps45
  go_wp2
  clear b0
  go_loopw [25, 5] (fun iv sv wr => MulZ w S (ls.zip inn) n iv sv wr) (fun iv _ _ => n - (intOf iv).toNat)
  case atStart => exact ⟨0, _, Nat.zero_le _, rfl, rfl, ⟨rfl, by decide, fun j hj => by omega⟩, Kp.refl _⟩
  case round =>
    obtain ⟨i, x, hi, rfl, rfl, hx, hex⟩ := hrel
    by_cases hlt : i < n
    · obtain ⟨l, hli⟩ : ∃ l, ls[i]? = some l := ⟨_, List.getElem?_eq_getElem (by rw [← HN.out]; exact hlt)⟩
      obtain ⟨bi, ebi⟩ : ∃ bi, inn[i]? = some bi := ⟨_, List.getElem?_eq_getElem (by have := HI.out.1; omega)⟩
      obtain ⟨pg, poff, va, vcap, epa, p0, p1, p2, p3, _⟩ := HR.out.parts i l hli
      subst epa
      replace p0 := hex.out.cell p0 id
      replace p1 := hex.out.cell p1 id
      replace p2 := hex.out.cell p2 id
      replace p3 := hex.out.cell p3 id
      generalize shareP l = r2 at p2
      generalize (varsL l).length = vn at p3
      obtain ⟨ib, ioff, eia, d0⟩ := (HI.out.2.ext hex.out).bool ebi
      subst eia
      have HZ := Lib.hid (zip_at hli ebi)
      clear hli ebi
      by_cases h1 : l.1 = 1
      · have H1 := Lib.hid h1
        rw [decide_eq_true h1] at p0
        rw [rowsP_pos h1] at p1
        have hfin := HK.out.rowsFin l
        obtain ⟨y, ey⟩ : ∃ y, y = rowsW S l := ⟨_, rfl⟩
        rw [← ey] at p1 hfin
        have EY := Lib.hid ey
        have d1 : (wr.alloc (.cells #[.bool true, .float .f64 y, .float .f64 r2, .slice va vn vcap] 164)).cell? ⟨ib, ioff + i, none⟩ = some (.bool bi) := ((Kp.refl (F := fun _ => False) wr).alloc _).cell d0 id
        clear ey h1
        cases bi
        · clear hfin
          go_wp2
          go_roundw
          case rel => exact ⟨i + 1, _, by omega, by first | rfl | (congr 1; done) | (congr 1; omega), by first | rfl | trivial, Lib.hid ⟨by rw [mulTo_succ S HZ.out, mulRows_off (fun e => by cases e.1)]; exact hx.out.1, hx.out.2.1, none_succ (fun ⟨l', q, _⟩ => by rw [HZ.out] at q; cases q) hx.out.2.2⟩, hex.out.alloc _⟩
          case measure => simp [intOf]; omega
        · cases hz : zeroW y
          · have hq := eq_zero_run hfin hz
            have hpos := fin_lt hfin hz
            have hrun := fun t W => mul_run (s := x) hx.out.2.1 hpos.1 hpos.2 t W
            have HP := Lib.hid (And.intro hpos hz)
            clear hfin hz hpos
            go_wp2
            go_roundw
            case rel =>
              refine ⟨i + 1, _, by omega, by first | rfl | (congr 1; done) | (congr 1; omega), by first | rfl | trivial, Lib.hid ⟨?_, fmul_le hx.out.2.1 HP.out.1.1 HP.out.1.2, none_succ ?_ hx.out.2.2⟩, hex.out.alloc _⟩
              · rw [mulTo_succ S HZ.out, mulRows_on H1.out, ← hx.out.1, EY.out]
              · rintro ⟨l', q, _, r⟩
                rw [HZ.out] at q; cases q
                rw [← EY.out, HP.out.2] at r; cases r
            case measure => simp [intOf]; omega
          · have hq := eq_zero_run hfin hz
            have HP := Lib.hid hz
            clear hfin hz
            go_wp2
            go_ret
            exact RetN.mk (hex.out.alloc _) (congrArg (Value.float .f64) (guessW_zero HZ.out H1.out (by rw [← EY.out]; exact HP.out)).symm)
      · have H1 := Lib.hid h1
        rw [decide_eq_false h1] at p0
        generalize rowsP S l = r1 at p1
        have d1 : (wr.alloc (.cells #[.bool false, .float .f64 r1, .float .f64 r2, .slice va vn vcap] 164)).cell? ⟨ib, ioff + i, none⟩ = some (.bool bi) := ((Kp.refl (F := fun _ => False) wr).alloc _).cell d0 id
        clear h1
        cases bi
        · go_wp2
          go_roundw
          case rel => exact ⟨i + 1, _, by omega, by first | rfl | (congr 1; done) | (congr 1; omega), by first | rfl | trivial, Lib.hid ⟨by rw [mulTo_succ S HZ.out, mulRows_off (fun e => H1.out e.2)]; exact hx.out.1, hx.out.2.1, none_succ (fun ⟨l', q, r, _⟩ => by rw [HZ.out] at q; cases q) hx.out.2.2⟩, hex.out.alloc _⟩
          case measure => simp [intOf]; omega
        · go_wp2
          go_roundw
          case rel => exact ⟨i + 1, _, by omega, by first | rfl | (congr 1; done) | (congr 1; omega), by first | rfl | trivial, Lib.hid ⟨by rw [mulTo_succ S HZ.out, mulRows_off (fun e => H1.out e.2)]; exact hx.out.1, hx.out.2.1, none_succ (fun ⟨l', q, r, _⟩ => by rw [HZ.out] at q; cases q; exact H1.out r) hx.out.2.2⟩, hex.out.alloc _⟩
          case measure => simp [intOf]; omega
    · obtain rfl : i = n := by omega
      have hz0 : zeroIn S (ls.zip inn) = false := zeroIn_no (n := i) (by have := HPL.out; omega) hx.out.2.2
      have HZ0 := Lib.hid hz0
      have HX1 := Lib.hid (And.intro hx.out.1 hx.out.2.1)
      have b1 := hex.out.cell HB.out.2.1 id
      clear hz0 hx
      go_wp2
      clear b1
      go_loopw [53, 5] (fun iv sv wr => FoldTo w (sharTo S (ls.zip inn) (namesB ls) x) m iv sv wr) (fun iv _ _ => m - (intOf iv).toNat)
      case atStart => exact ⟨0, _, Nat.zero_le _, rfl, rfl, rfl, hex⟩
      case round =>
        obtain ⟨j, y, hj, rfl, rfl, hy, hexj⟩ := hrel
        by_cases hlt : j < m
        · have hltv : j < (namesB ls).length := by rw [← EM.out]; exact hlt
          obtain ⟨vb, voff, eao, v0⟩ := (HR.out.names.ext hexj.out).str hltv
          subst eao
          have hvj : (namesB ls)[j]? = some (namesB ls)[j] := List.getElem?_eq_getElem hltv
          generalize (namesB ls)[j] = v at *
          have HV := Lib.hid hvj
          have b2 := hexj.out.cell HB.out.2.2.1 id
          obtain ⟨ua, ucap, eu, hsp⟩ := HR.out.spots v
          have hlk := run_lookup_str (P := Tryz.prog) (w := wr) Tryz.underlying118 Tryz.underlying9 (z := .slice none 0 0) (by kernel_rfl) (HR.out.map.ext hexj.out) v
          rw [eu] at hlk
          obtain ⟨xs, exs⟩ : ∃ xs, xs = spotsP S v 0 ls := ⟨_, rfl⟩
          rw [← exs] at hlk hsp
          obtain ⟨un, eun⟩ : ∃ un, un = xs.length := ⟨_, rfl⟩
          rw [← eun] at hlk
          have hun : un ≤ 1099511627776 := by rw [eun, exs]; exact spots_len0 HF.out
          have HXS := Lib.hid (And.intro exs (And.intro eun hsp))
          have HLt := Lib.hid (show ∀ z ∈ xs, z.1 < ls.length ∧ oneW ≤ z.2 ∧ z.2 < infW by rw [exs]; intro z hz; have := spotsP_lt S v ls 0 z hz; simpa using this)
          clear hvj hltv eu hsp exs eun
          go_wp2
          clear b2 v0 hlk
          go_loopw [64, 10] (fun iv lv wr => SelTo w inn xs un iv lv wr) (fun iv _ _ => un - (intOf iv).toNat)
          case atStart => exact ⟨0, Nat.zero_le _, rfl, Row.nil _ _ _ _, hexj⟩
          case round =>
            obtain ⟨q, hq, rfl, hrow, hexq⟩ := hrel
            by_cases hlt2 : q < un
            · obtain ⟨z, hz⟩ : ∃ z, xs[q]? = some z := ⟨_, List.getElem?_eq_getElem (by rw [← HXS.out.2.1]; exact hlt2)⟩
              obtain ⟨sg, soff, eua, s0, s1⟩ := (HXS.out.2.2.ext hexq.out) q z hz
              subst eua
              obtain ⟨hz1, hz2, hz3⟩ := HLt.out z (List.mem_of_getElem? hz)
              have hStep := inSet_take (inn := inn) hz
              obtain ⟨zi, zd⟩ := z
              simp only at s0 s1 hz1 hz2 hz3 hStep
              obtain ⟨bi, ebi⟩ : ∃ bi, inn[zi]? = some bi := ⟨_, List.getElem?_eq_getElem (by rw [HIL.out]; exact hz1)⟩
              obtain ⟨ib, ioff, eia, d0⟩ := (HI.out.2.ext hexq.out).bool ebi
              subst eia
              have hzn : zi < i := by rw [HN.out]; exact hz1
              have d1 : (wr.alloc (.cells #[.int .i64 zi, .float .f64 zd] 168)).cell? ⟨ib, ioff + zi, none⟩ = some (.bool bi) := ((Kp.refl (F := fun _ => False) wr).alloc _).cell d0 id
              rw [ebi] at hStep
              have HSt := Lib.hid hStep
              have hlen := inSet_len inn (xs.take q)
              rw [List.length_take] at hlen
              generalize inSet inn (xs.take q) = M at *
              clear hz hStep ebi hz1 hz2 hz3
              cases bi
              · have HS2 := Lib.hid (HSt.out.trans (by rw [if_neg (by simp), List.append_nil]))
                go_wp2
                go_roundw
                case rel => exact ⟨q + 1, by omega, by first | rfl | (congr 1; done) | (congr 1; omega), by rw [HS2.out]; exact hrow.out.alloc _, hexq.out.alloc _⟩
                case measure => simp [intOf]; omega
              · have HS2 := Lib.hid (HSt.out.trans (by rw [if_pos rfl]))
                have HR2 := Lib.hid hrow.out
                obtain ⟨aw, capw, elv, hcw, hlw⟩ := hrow.out.shape
                subst elv
                clear hrow hcw hlw
                go_wp2_with (first | (at_builtin; refine Halted.out ?_))
                refine Halted.mk (wp_appN (m := 1) (n := M.length) elem_flt rfl _ _ rfl ((hexq.out.alloc _).alloc _) rfl ((HR2.out.alloc _).alloc _) rfl (by have h := CellsAt.one (wr.alloc (.cells #[.int .i64 zi, .float .f64 zd] 168)) (.float .f64 zd) 45; rw [alloc_size] at h; exact h) (by rfl) (by simp [Value.oneCell']) (by omega) (by unfold maxLen; omega) ?_)
                intro v1 w3 hr1 hk1 hk2 _
                have HR5 := Lib.hid (And.intro hr1 hk1)
                clear hr1 hk1 hk2 s0 s1 d0 d1
                go_wp2
                go_roundw
                case rel =>
                  refine ⟨q + 1, by omega, by first | rfl | (congr 1; done) | (congr 1; omega), ?_, HR5.out.2⟩
                  have h := HR5.out.1
                  rw [HS2.out, ← flts_snoc, List.length_append]
                  exact h
                case measure => simp [intOf]; omega
            · have hall : xs.take q = xs := List.take_of_length_le (by have := HXS.out.2.1; omega)
              have hrow3 := hrow.out
              rw [hall] at hrow3
              have hL : inSet inn xs = spotsIn S (ls.zip inn) v := by rw [HXS.out.1]; exact spots_in0 S v HIL.out
              rw [hL] at hrow3
              have HOk := Lib.hid (spotsIn_ok S v (ls.zip inn))
              have HSuc := Lib.hid (show sharTo S (ls.zip inn) (namesB ls) x (j + 1) = sharedW (spotsIn S (ls.zip inn) v) y by rw [sharTo_succ S _ HV.out, hy.out])
              have hyle : y ≤ infW := by rw [hy.out]; exact sharTo_le _ _ _ HX1.out.2 j
              have hlen : (spotsIn S (ls.zip inn) v).length ≤ 1099511627776 := by
                rw [← hL]; have := inSet_len inn xs; have := HXS.out.2.1; omega
              obtain ⟨L, eL⟩ : ∃ L, L = spotsIn S (ls.zip inn) v := ⟨_, rfl⟩
              rw [← eL] at hrow3 hlen HOk HSuc
              obtain ⟨k, ek⟩ : ∃ k, k = L.length := ⟨_, rfl⟩
              rw [← ek] at hrow3 hlen
              obtain ⟨ao, cap4, eov, hcells, hle⟩ := hrow3.shape
              subst eov
              have HC := Lib.hid (And.intro ek hcells)
              have HYL := Lib.hid hyle
              clear hall hrow hrow3 hcells hle ek eL hL hyle
              by_cases hk2 : k < 2
              · have HSh := Lib.hid (sharedW_short (l := L) (by have := HC.out.1; omega) y)
                go_wp2
                go_roundw
                case rel => exact ⟨j + 1, _, by omega, by first | rfl | (congr 1; done) | (congr 1; omega), by first | rfl | trivial, Lib.hid (by rw [HSuc.out, HSh.out]), hexq⟩
                case measure => simp [intOf]; omega
              · have hk2' : ¬ (k : Int) < 2 := by omega
                have HMin := Lib.hid (fun (W : World) (hW : Ext wr W) => minF_any L ao k cap4 W HC.out.1 (HC.out.2.ext hW) (fun z hz => by have := HOk.out z hz; omega) (by omega) (by omega))
                have HIdx := Lib.hid (fun (W : World) (hW : Ext wr W) => indexLeast_any L ao k cap4 W HC.out.1 (HC.out.2.ext hW) (fun z hz => by have := HOk.out z hz; omega) (by omega) (by omega))
                generalize hw5 : wr = w5 at *
                clear hw5
                go_wp2_with fail
                refine (HMin.out _ (Kp.refl _)).mono ?_
                rintro e w6 ⟨_, rfl, hk6, rfl⟩
                go_wp2_with fail
                refine (HIdx.out _ hk6).mono ?_
                rintro e w7 ⟨_, rfl, hk7, rfl⟩
                have X7 := Lib.hid (hk6.trans hk7)
                clear hk6 hk7
                go_wp2
                go_loopw [88, 5] (fun iv sv wx => DivTo w5 (leastI L) L y k iv sv wx) (fun iv _ _ => k - (intOf iv).toNat)
                case atStart => exact ⟨0, y, Nat.zero_le _, rfl, rfl, rfl, X7⟩
                case round =>
                  obtain ⟨c, s, hc, rfl, rfl, hs, hexc⟩ := hrel
                  by_cases hlt3 : c < k
                  · have hsuc : divAll (leastI L) L y (c + 1) = if c = leastI L then s else fdiv s (L.getD c 0) := by rw [hs.out]; rfl
                    obtain ⟨g1, o1, eao, d1⟩ := (HC.out.2.ext hexc.out).flt (k := c) (by rw [← HC.out.1]; exact hlt3)
                    subst eao
                    have x1 := HOk.out _ (List.getElem_mem (by rw [← HC.out.1]; exact hlt3 : c < L.length))
                    have y1 : L.getD c 0 = L[c]'(by rw [← HC.out.1]; exact hlt3) := getD_at _
                    rw [← y1] at x1 d1
                    by_cases hqk : c = leastI L
                    · rw [if_pos hqk] at hsuc
                      have HS3 := Lib.hid hsuc
                      generalize L.getD c 0 = z1 at *
                      have q1 : ((c : Int) != (leastI L : Int)) = false := by simp [hqk]
                      have q2 : ((c : Int) == (leastI L : Int)) = true := by simp [hqk]
                      have HQ := Lib.hid hqk
                      clear hqk hsuc y1 x1
                      go_wp2
                      go_roundw
                      case rel => exact ⟨c + 1, s, by omega, by first | rfl | (congr 1; done) | (congr 1; omega), by first | rfl | trivial, HS3.out.symm, hexc⟩
                      case measure => simp [intOf]; omega
                    · rw [if_neg hqk] at hsuc
                      have xle : s ≤ infW := by rw [hs.out]; exact divAll_le HOk.out _ HYL.out c (by have := HC.out.1; omega)
                      have HS3 := Lib.hid hsuc
                      clear hsuc y1
                      generalize L.getD c 0 = z1 at *
                      have q1 : ((c : Int) != (leastI L : Int)) = true := by simp; omega
                      have q2 : ((c : Int) == (leastI L : Int)) = false := by simp; omega
                      have hrun := fun t W => div_run xle x1.1 x1.2 t W
                      have HQ := Lib.hid hqk
                      clear x1 xle hqk
                      go_wp2
                      go_roundw
                      case rel => exact ⟨c + 1, _, by omega, by first | rfl | (congr 1; done) | (congr 1; omega), by first | rfl | trivial, HS3.out.symm, hexc⟩
                      case measure => simp [intOf]; omega
                  · have HS3 := Lib.hid (show s = sharedW L y by rw [hs.out]; unfold sharedW; congr 1; have := HC.out.1; omega)
                    clear hs
                    go_wp2
                    go_roundw
                    case rel => exact ⟨j + 1, _, by omega, by first | rfl | (congr 1; done) | (congr 1; omega), by first | rfl | trivial, Lib.hid (by rw [HSuc.out, HS3.out]), hexq.out.trans hexc.out⟩
                    case measure => simp [intOf]; omega
        · obtain rfl : j = m := by omega
          obtain ⟨X2, eX2⟩ : ∃ X2, X2 = sharTo S (ls.zip inn) (namesB ls) x j := ⟨_, rfl⟩
          have hX2 : X2 ≤ infW := by rw [eX2]; exact sharTo_le _ _ _ HX1.out.2 j
          obtain rfl : y = X2 := by rw [hy.out, eX2]
          have HX2 := Lib.hid (And.intro eX2 hX2)
          have b3 := hexj.out.cell HB.out.2.2.2 id
          have HCL := Lib.hid (show ∀ z ∈ constsP S 0 ls, z.1 < ls.length ∧ oneW ≤ z.2 ∧ z.2 < infW by intro z hz; have := constsP_lt S ls 0 z hz; simpa using this)
          have HCS := Lib.hid HR.out.consts
          have HCI := Lib.hid (consts_in0 S HIL.out)
          generalize hcs : constsP S 0 ls = cs at *
          clear eX2 hX2 hy hcs
          go_wp2
          clear b3
          go_loopw [106, 5] (fun iv sv wr => FoldTo w (fun q => (inSet inn (cs.take q)).foldl fdiv y) cn iv sv wr) (fun iv _ _ => cn - (intOf iv).toNat)
          case atStart => exact ⟨0, _, Nat.zero_le _, rfl, rfl, rfl, hexj⟩
          case round =>
            obtain ⟨q, t, hq, rfl, rfl, ht, hexq⟩ := hrel
            by_cases hlt2 : q < cn
            · obtain ⟨z, hz⟩ : ∃ z, cs[q]? = some z := ⟨_, List.getElem?_eq_getElem (by rw [← ECN.out]; exact hlt2)⟩
              obtain ⟨sg, soff, eua, s0, s1⟩ := (HCS.out.ext hexq.out) q z hz
              subst eua
              obtain ⟨hz1, hz2, hz3⟩ := HCL.out z (List.mem_of_getElem? hz)
              have hStep := inSet_take (inn := inn) hz
              have htle : t ≤ infW := by
                rw [ht.out]
                exact foldl_div_le HX2.out.2 _ (inSet_ok fun u hu => (HCL.out u (List.mem_of_mem_take hu)).2)
              obtain ⟨zi, zd⟩ := z
              simp only at s0 s1 hz1 hz2 hz3 hStep
              obtain ⟨bi, ebi⟩ : ∃ bi, inn[zi]? = some bi := ⟨_, List.getElem?_eq_getElem (by rw [HIL.out]; exact hz1)⟩
              obtain ⟨ib, ioff, eia, d0⟩ := (HI.out.2.ext hexq.out).bool ebi
              subst eia
              have hzn : zi < i := by rw [HN.out]; exact hz1
              have d1 : (wr.alloc (.cells #[.int .i64 zi, .float .f64 zd] 168)).cell? ⟨ib, ioff + zi, none⟩ = some (.bool bi) := ((Kp.refl (F := fun _ => False) wr).alloc _).cell d0 id
              rw [ebi] at hStep
              have HSt := Lib.hid hStep
              have hrun := fun tt W => div_run htle hz2 hz3 tt W
              clear hz hStep ebi hz1 hz2 hz3 htle
              cases bi
              · have HS2 := Lib.hid (HSt.out.trans (by rw [if_neg (by simp), List.append_nil]))
                clear hrun
                go_wp2
                go_roundw
                case rel => exact ⟨q + 1, _, by omega, by first | rfl | (congr 1; done) | (congr 1; omega), by first | rfl | trivial, Lib.hid (by simp only; rw [HS2.out]; exact ht.out), hexq.out.alloc _⟩
                case measure => simp [intOf]; omega
              · have HS2 := Lib.hid (HSt.out.trans (by rw [if_pos rfl]))
                go_wp2
                go_roundw
                case rel => exact ⟨q + 1, _, by omega, by first | rfl | (congr 1; done) | (congr 1; omega), by first | rfl | trivial, Lib.hid (by simp only; rw [HS2.out, List.foldl_append]; exact congrArg (fun u => fdiv u zd) ht.out), hexq.out.alloc _⟩
                case measure => simp [intOf]; omega
            · have hall : cs.take q = cs := List.take_of_length_le (by have := ECN.out; omega)
              have ht2 : t = constTo S (ls.zip inn) y i := by
                rw [ht.out]
                unfold constTo
                simp only
                rw [hall, HCI.out, List.take_of_length_le (Nat.le_of_eq HPL.out)]
              have HT2 := Lib.hid (And.intro ht2 (show t ≤ infW by rw [ht2]; exact constTo_le _ _ HX2.out.2 _))
              have b0 := hexq.out.cell HB.out.1 id
              clear ht ht2 hall
              go_wp2
              clear b0
              go_loopw [125, 5] (fun iv sv wr => FoldTo w (shareTo (ls.zip inn) t) i iv sv wr) (fun iv _ _ => i - (intOf iv).toNat)
              case atStart => exact ⟨0, _, Nat.zero_le _, rfl, rfl, rfl, hexq⟩
              case round =>
                obtain ⟨d, s, hd, rfl, rfl, hs, hexd⟩ := hrel
                by_cases hlt3 : d < i
                · obtain ⟨l, hli⟩ : ∃ l, ls[d]? = some l := ⟨_, List.getElem?_eq_getElem (by rw [← HN.out]; exact hlt3)⟩
                  obtain ⟨bi, ebi⟩ : ∃ bi, inn[d]? = some bi := ⟨_, List.getElem?_eq_getElem (by have := HI.out.1; omega)⟩
                  obtain ⟨pg, poff, va, vcap, epa, p0, p1, p2, p3, _⟩ := HR.out.parts d l hli
                  subst epa
                  replace p0 := hexd.out.cell p0 id
                  replace p1 := hexd.out.cell p1 id
                  replace p2 := hexd.out.cell p2 id
                  replace p3 := hexd.out.cell p3 id
                  generalize rowsP S l = r1 at p1
                  generalize (varsL l).length = vn at p3
                  obtain ⟨ib, ioff, eia, d0⟩ := (HI.out.2.ext hexd.out).bool ebi
                  subst eia
                  have HZ := Lib.hid (zip_at hli ebi)
                  have hsle : s ≤ infW := by rw [hs.out]; exact shareTo_le _ HT2.out.2 d
                  clear hli ebi
                  by_cases h1 : l.1 = 1
                  · have H1 := Lib.hid h1
                    rw [decide_eq_true h1] at p0
                    generalize shareP l = r2 at p2
                    have d1 : (wr.alloc (.cells #[.bool true, .float .f64 r1, .float .f64 r2, .slice va vn vcap] 164)).cell? ⟨ib, ioff + d, none⟩ = some (.bool bi) := ((Kp.refl (F := fun _ => False) wr).alloc _).cell d0 id
                    have HS2 := Lib.hid (mulShare_off (s := s) (p := (l, bi)) (fun e => e.2 h1))
                    clear h1 hsle
                    cases bi
                    · go_wp2
                      go_roundw
                      case rel => exact ⟨d + 1, _, by omega, by first | rfl | (congr 1; done) | (congr 1; omega), by first | rfl | trivial, Lib.hid (by rw [shareTo_succ HZ.out, ← hs.out, HS2.out]), hexd.out.alloc _⟩
                      case measure => simp [intOf]; omega
                    · go_wp2
                      go_roundw
                      case rel => exact ⟨d + 1, _, by omega, by first | rfl | (congr 1; done) | (congr 1; omega), by first | rfl | trivial, Lib.hid (by rw [shareTo_succ HZ.out, ← hs.out, HS2.out]), hexd.out.alloc _⟩
                      case measure => simp [intOf]; omega
                  · have H1 := Lib.hid h1
                    rw [decide_eq_false h1] at p0
                    rw [shareP_no h1] at p2
                    have hrun := fun tt W => mul_run hsle (shareW_pos l).1 (shareW_pos l).2 tt W
                    obtain ⟨r2, er2⟩ : ∃ r2, r2 = shareW l := ⟨_, rfl⟩
                    rw [← er2] at p2 hrun
                    have HE2 := Lib.hid er2
                    have d1 : (wr.alloc (.cells #[.bool false, .float .f64 r1, .float .f64 r2, .slice va vn vcap] 164)).cell? ⟨ib, ioff + d, none⟩ = some (.bool bi) := ((Kp.refl (F := fun _ => False) wr).alloc _).cell d0 id
                    clear h1 hsle er2
                    cases bi
                    · clear hrun
                      go_wp2
                      go_roundw
                      case rel => exact ⟨d + 1, _, by omega, by first | rfl | (congr 1; done) | (congr 1; omega), by first | rfl | trivial, Lib.hid (by rw [shareTo_succ HZ.out, ← hs.out, mulShare_off (fun e => by cases e.1)]), hexd.out.alloc _⟩
                      case measure => simp [intOf]; omega
                    · go_wp2
                      go_roundw
                      case rel => exact ⟨d + 1, _, by omega, by first | rfl | (congr 1; done) | (congr 1; omega), by first | rfl | trivial, Lib.hid (by rw [shareTo_succ HZ.out, ← hs.out, mulShare_on H1.out, HE2.out]), hexd.out.alloc _⟩
                      case measure => simp [intOf]; omega
                · obtain rfl : d = i := by omega
                  have hfin : s = guessW S ls inn := by
                    rw [hs.out, HT2.out.1, HX2.out.1, HX1.out.1, guessW_eq HZ0.out (Nat.le_of_eq HPL.out) (Nat.le_of_eq EM.out.symm)]
                  have HFin := Lib.hid hfin
                  clear hfin hs
                  go_wp2
                  go_ret
                  exact RetN.mk hexd.out (congrArg (Value.float .f64) HFin.out)
end Go.Proofs.YtomeebimmmfmbaaGreat
