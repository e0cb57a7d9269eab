/- Texts joined for a claim (Ordered, OrdersG, Plan, Better, Least, Best1, Best2). -/
import Derived.Test.YtomeebimmmfmbaaGreatOw4
import Derived.Shelf.Abstract
import Derived.OwnWalk
/- cost.Ordered. -/
namespace Go.Proofs.YtomeebimmmfmbaaGreat
open Go.RowKit
set_option linter.unusedVariables false
attribute [local go_sem] run_store_float
abbrev OwnT (w0 : World) (W : World) (x : LitZ × (Option Addr × Nat)) : Prop := Row W 94 2 (.slice x.2.1 (termsOf x.1).length x.2.2) (termsOf x.1).length (tcells (termsOf x.1)) (New w0)
def OrdO (w : World) (p : ByteArray) (hs : List TermZ) (ls : List LitZ) (xs : List Int) (w' : World) (v : Value) : Prop :=
  (ordE ((p, hs, ()), ls, ()) xs ≠ 0 → v = .tuple #[ruleV ⟨#[]⟩ none 0 0 none 0 0, .int .i64 (ordE ((p, hs, ()), ls, ()) xs : Nat)]) ∧
  (ordE ((p, hs, ()), ls, ()) xs = 0 → ∃ ha hc ba bc vs, v = .tuple #[ruleV p ha hs.length hc ba xs.length bc, .int .i64 0] ∧ Row w' 94 2 (.slice ha hs.length hc) hs.length (tcells hs) (New w) ∧ vs.length = xs.length ∧
    Row w' 97 8 (.slice ba xs.length bc) xs.length (((ordL ls xs).zip vs).flatMap litC) (New w) ∧ (∀ x ∈ (ordL ls xs).zip vs, OwnT w w' x) ∧ Far ((ha, hc) :: vs))
theorem OrdO.v {w : World} {p : ByteArray} {hs : List TermZ} {ls : List LitZ} {xs : List Int} {w' : World} {v : Value} (h : OrdO w p hs ls xs w' v) (h1 : ∀ t ∈ hs, TermFit t) (h2 : ordE ((p, hs, ()), ls, ()) xs = 0 → ∀ l ∈ ordL ls xs, LitAll l) : OrdV (fun k => w.heap.size ≤ k) p hs ls xs w' v := by
  refine ⟨h.1, fun h0 => ?_⟩
  obtain ⟨ha, hc, ba, bc, vs, e, hr, hvs, hr9, hds, _⟩ := h.2 h0
  refine ⟨ha, hc, ba, bc, e, hr.termsAt rfl h1, ?_⟩
  have hl : (ordL ls xs).length = xs.length := ordL_len ls xs
  refine row_lits hr9 hl.symm (by rw [hvs, hl]) (h2 h0) (fun x hx => ?_) fun k hk => hk
  have hr := hds x hx
  have q34 : (termsOf x.1).length ≤ x.2.2 ∧ x.2.2 ≤ maxLen := by
    rcases hr.2 with ⟨ev, h0⟩ | ⟨g, cp, rest, ev, _, _, _, h1, h2⟩
    · simp only [Value.slice.injEq] at ev
      rw [h0, ev.2.2]; exact ⟨Nat.le_refl _, Nat.zero_le _⟩
    · simp only [Value.slice.injEq] at ev
      rw [ev.2.2]; exact ⟨h1, h2⟩
  have hmem : x.1 ∈ ordL ls xs := (List.of_mem_zip (show (x.1, x.2) ∈ (ordL ls xs).zip vs from hx)).1
  exact ⟨Row.termsAt hr rfl (h2 h0 _ hmem).terms, q34.1, q34.2⟩
def OrdTo (wb : World) (gx : Nat) (p : ByteArray) (ha : Option Addr) (hn hcap : Nat) (Ls : List LitZ) (m : Nat) (iv : Value) (w : World) : Prop := ∃ i : Nat, i ≤ m ∧ iv = .int .i64 i ∧ Hid (Ext wb w) ∧
  Hid (∃ bv vs, Blk w gx [.string p, .slice ha hn hcap, bv] 28 ∧ vs.length = i ∧ Row w 97 8 bv i (((Ls.take i).zip vs).flatMap litC) (New wb) ∧ (∀ x ∈ (Ls.take i).zip vs, OwnT wb w x) ∧ Far ((ha, hcap) :: vs))
open Classical in
set_option maxRecDepth 100000 in
set_option maxHeartbeats 8000000 in
theorem ordered_own (p : ByteArray) (hs : List TermZ) (ls : List LitZ) (ha : Option Addr) (hn hcap : Nat) (ba : Option Addr) (n bcap : Nat) (xs : List Int) (na : Option Addr) (m mcap : Nat) (w : World) (G : Nat → Prop) (hhn : hn = hs.length) (hh : TermsAt w G ha hs) (hhl : hn ≤ 1048576) (hbn : n = ls.length) (h : LitsAt w G ba ls) (hf : Fit ls)
    (hm : m = xs.length) (hx : CellsAt w na (ints xs)) (hml : m ≤ 1048576) (hmc : m ≤ mcap) (hmx : mcap ≤ maxLen) :
    Calls Tryz.prog 20 #[ruleV p ha hn hcap ba n bcap, .slice na m mcap] w (RetN w (OrdO w p hs ls xs)) := by
  obtain ⟨ec, eec⟩ : ∃ e, errR ((p, hs, ()), ls, ()) [] = e := ⟨_, rfl⟩
  have HBo := Lib.hid (fun (W : World) (hW : Ext w W) => bodyOf_any p hs ls ha hn hcap ba n bcap [] none 0 0 W G hhn (hh.ext hW) hhl hbn (h.ext hW) hf rfl (Nat.le_refl _) (stats_nil W) stats_fit0)
  have HCo := Lib.hid (fun (he : ec = 0) (gb : Nat) (W : World) (hW : Ext w W) (hB : BodyAt W gb [] ls) => bodyCost_any gb [] ls n xs na m mcap W hbn hf (Known.of (errR_zero (eec.trans he)).2) hB hm (hx.ext hW) (by omega) hmc hmx)
  have HCl := Lib.hid (fun (W : World) (hW : Ext w W) => cloneT_any hs ha hcap W hn hhn ((terms_cells hh).ext hW) hhl)
  have HN := Lib.hid (And.intro hbn (And.intro hm hhn)); have HE := Lib.hid h; have HF := Lib.hid hf; have hl : n ≤ 1048576 := by have := hf.len; omega
  have HH := Lib.hid hh
  have HXs := Lib.hid hx
  have EE := Lib.hid eec
  clear hbn h hf hhn hh hm hx eec hmx
  go_enter Tryz.func20, Tryz.ntmps20
  obtain ⟨wb, eb⟩ : ∃ wb, (w.alloc (.cells #[.string p, .slice ha hn hcap, .slice ba n bcap] 28)).alloc (.cells #[.string ⟨#[]⟩, .slice none 0 0, .slice none 0 0] 28) = wb := ⟨_, rfl⟩
  have hB1 : Blk wb w.heap.size [.string p, .slice ha hn hcap, .slice ba n bcap] 28 := by rw [← eb]; exact (Blk.new w _ _).alloc _
  have hB2 : Blk wb (w.heap.size + 1) [.string ⟨#[]⟩, .slice none 0 0, .slice none 0 0] 28 := by
    have := Blk.new (w.alloc (.cells #[.string p, .slice ha hn hcap, .slice ba n bcap] 28)) [.string ⟨#[]⟩, .slice none 0 0, .slice none 0 0] 28
    rw [alloc_size] at this
    rw [← eb]; exact this
  have hX : Ext w wb := by rw [← eb]; exact ((Kp.refl w).alloc _).alloc _
  obtain ⟨g0, eg0⟩ : ∃ g, w.heap.size = g := ⟨_, rfl⟩
  rw [eg0] at hB1 hB2
  have HB := Lib.hid (And.intro hB1 (And.intro hB2 (And.intro hX eg0)))
  have c0 : wb.cell? ⟨g0, 0, none⟩ = some (.string p) := by rw [hB1.cell']; rfl
  have c1 : wb.cell? ⟨g0, 1, none⟩ = some (.slice ha hn hcap) := by rw [hB1.cell']; rfl
  have c2 : wb.cell? ⟨g0, 2, none⟩ = some (.slice ba n bcap) := by rw [hB1.cell']; rfl
  clear hB1 hB2 hX
  go_wp2_with fail
  refine (HBo.out _ HB.out.2.2.1).mono ?_
  rintro e1 w1 ⟨v, rfl, hk1, hbv⟩
  have X1 := Lib.hid hk1
  clear hk1 HBo
  by_cases he : ec = 0
  · obtain ⟨gbd, rfl, _, hBd⟩ := hbv.1 (EE.out.trans he)
    have HBd := Lib.hid hBd
    have HC2 := Lib.hid (HCo.out he gbd)
    subst he
    clear hbv hBd HCo
    replace c0 := X1.out.cell c0 id
    replace c1 := X1.out.cell c1 id
    replace c2 := X1.out.cell c2 id
    go_wp2_with fail
    refine (HC2.out _ (HB.out.2.2.1.trans X1.out) HBd.out).mono ?_
    rintro e2 w2 ⟨v, rfl, hk2, rfl⟩
    have X2 := Lib.hid (X1.out.trans hk2)
    replace c0 := hk2.cell c0 id
    replace c1 := hk2.cell c1 id
    replace c2 := hk2.cell c2 id
    clear hk2 HC2 X1
    by_cases ho : orderOk ls xs
    · rw [decide_eq_true ho]
      have HO := Lib.hid ho
      have HCells := Lib.hid (show ∀ w', Ext w2 w' → (fun w' : World => w'.cell? ⟨g0, 0, none⟩ = some (.string p) ∧ w'.cell? ⟨g0, 1, none⟩ = some (.slice ha hn hcap)) w' from fun w' hw => ⟨hw.cell c0 id, hw.cell c1 id⟩)
      have HX2 := Lib.hid (HB.out.2.2.1.trans X2.out)
      clear ho eb c0 c1 c2
      go_wp2
      refine draw_begin (fun w' : World => w'.cell? ⟨g0, 0, none⟩ = some (.string p) ∧ w'.cell? ⟨g0, 1, none⟩ = some (.slice ha hn hcap)) [10] (by kernel_rfl) (HCells.out _ (Kp.refl w2).drew) (fun hHeld => ?_)
      (refine draw_free (i := 0) (v := ?_) rfl ?_ ?_; rotate_left; (intro w; go_simp; try with_reducible rfl)); (try simp only [Act.put, List.setIfInBounds_toArray, List.set_cons_zero, List.set_cons_succ])
      (refine draw_free (i := 1) (v := ?_) rfl ?_ ?_; rotate_left; (intro w; go_simp; try with_reducible rfl)); (try simp only [Act.put, List.setIfInBounds_toArray, List.set_cons_zero, List.set_cons_succ])
      (refine draw_in (i := 2) (v := ?_) rfl ?_ ?_; rotate_left; (intro w hSw; (try dsimp only at hSw); go_simp; try with_reducible rfl)); (try simp only [Act.put, List.setIfInBounds_toArray, List.set_cons_zero, List.set_cons_succ])
      (refine draw_free (i := 3) (v := ?_) rfl ?_ ?_; rotate_left; (intro w; go_simp; try with_reducible rfl)); (try simp only [Act.put, List.setIfInBounds_toArray, List.set_cons_zero, List.set_cons_succ])
      (refine draw_free (i := 4) (v := ?_) rfl ?_ ?_; rotate_left; (intro w; go_simp; try with_reducible rfl)); (try simp only [Act.put, List.setIfInBounds_toArray, List.set_cons_zero, List.set_cons_succ])
      (refine draw_in (i := 5) (v := ?_) rfl ?_ ?_; rotate_left; (intro w hSw; (try dsimp only at hSw); go_simp; try with_reducible rfl)); (try simp only [Act.put, List.setIfInBounds_toArray, List.set_cons_zero, List.set_cons_succ])
      refine draw_two (i := 6) (k := 9) ?_ ?_
      · refine comes_turn (i := 6) rfl (fun K hK => ?_)
        go_simp
        ((with_reducible refine (HCl.out _ (by first | exact HX2.out.drew | exact (HX2.out.alloc _).drew)).mono ?_); rintro e w1 ⟨v, rfl, hk1, hrt⟩; obtain ⟨ha', hcap', ehv, _, _⟩ := hrt.shape; subst ehv; have X1 := Lib.hid (show Ext w2 w1 by first | exact ((Kp.refl w2).drew).trans hk1 | exact (((Kp.refl w2).alloc _).drew).trans hk1); have HFirst := Lib.hid hk1; have TM1 := Lib.hid (show Row w1 94 2 (.slice ha' hn hcap') hn (tcells hs) (New w2) from hrt.mono fun g hg => Nat.le_trans (by first | exact (Kp.refl (F := fun _ => False) w2).drew.size | exact (((Kp.refl (F := fun _ => False) w2).alloc _).drew).size) hg); clear hk1 hrt)
        go_wp2_with fail
        refine hK.out _ _ ?_ (fun hHeld => ?_)
        · (try dsimp only); (exact HCells.out _ (by first | exact ((Kp.refl w2).alloc _).drew | exact X1.out.alloc _ | exact X1.out))
        clear hK K; (try simp only [Act.put, List.setIfInBounds_toArray, List.set_cons_zero, List.set_cons_succ])
        (refine draw_free (i := 7) (v := ?_) rfl ?_ ?_; rotate_left; (intro w; go_simp; try with_reducible rfl)); (try simp only [Act.put, List.setIfInBounds_toArray, List.set_cons_zero, List.set_cons_succ])
        (refine draw_free (i := 8) (v := ?_) rfl ?_ ?_; rotate_left; (intro w; go_simp; try with_reducible rfl)); (try simp only [Act.put, List.setIfInBounds_toArray, List.set_cons_zero, List.set_cons_succ])
        refine draw_one (i := 9) ?_
        refine comes_turn (i := 9) rfl (fun K hK => ?_)
        go_simp
        refine hK.out _ _ ?_ (fun hHeld => ?_)
        · (try dsimp only); (exact HCells.out _ (by first | exact ((Kp.refl w2).alloc _).drew | exact X1.out.alloc _ | exact X1.out))
        clear hK K; (try simp only [Act.put, List.setIfInBounds_toArray, List.set_cons_zero, List.set_cons_succ])
        refine draw_one (i := 10) ?_
        refine comes_late (i := 10) rfl (by kernel_rfl) (fun K hK => ?_)
        ((first | (obtain ⟨w3, e3⟩ : ∃ x, w1.alloc (.cells #[.string ⟨#[]⟩, .slice none 0 0, .slice none 0 0] 28) = x := ⟨_, rfl⟩; rw [e3]; obtain ⟨gx, eg⟩ : ∃ g, g = w1.heap.size := ⟨_, rfl⟩; rw [← eg]; have HZ := Lib.hid (show Zeros w2 w3 gx from by rw [← e3, eg]; exact ⟨Blk.new w1 _ _, X1.out.alloc _, X1.out.size⟩); have TM3 := Lib.hid (show Row w3 94 2 (.slice ha' hn hcap') hn (tcells hs) (New w2) by rw [← e3]; exact TM1.out.alloc _); clear e3 eg) | (obtain ⟨w3, e3⟩ : ∃ x, x = w1 := ⟨_, rfl⟩; subst e3; obtain ⟨gx, eg⟩ : ∃ g, g = w2.heap.size := ⟨_, rfl⟩; rw [← eg]; have HZ := Lib.hid (show Zeros w2 w3 gx from by rw [eg]; exact ⟨(Blk.new w2 _ _).drew.ext HFirst.out, X1.out, Nat.le_refl _⟩); have TM3 := TM1; clear eg)); have z0 : w3.cell? ⟨gx, 0, none⟩ = some (.string ⟨#[]⟩) := (by rw [HZ.out.blk.cell']; rfl); have z1 : w3.cell? ⟨gx, 1, none⟩ = some (.slice none 0 0) := (by rw [HZ.out.blk.cell']; rfl); have z2 : w3.cell? ⟨gx, 2, none⟩ = some (.slice none 0 0) := (by rw [HZ.out.blk.cell']; rfl); have f0 := HZ.out.blk.free 0; have f1 := HZ.out.blk.free 1; have f2 := HZ.out.blk.free 2)
        go_simp
        refine hK.out _ _ ?_
        clear hK K; (try simp only [Act.put, List.setIfInBounds_toArray, List.set_cons_zero, List.set_cons_succ])
        refine wpAnyD_done (by kernel_rfl) ?_ _
        clear hHeld
        obtain ⟨w4, ew4⟩ : ∃ x, ((w3.setCell ⟨gx, 0, none⟩ (.string p)).setCell ⟨gx, 1, none⟩ (.slice ha' hn hcap')).setCell ⟨gx, 2, none⟩ (.slice none 0 0) = x := ⟨_, rfl⟩
        rw [ew4]
        obtain ⟨hGX, hk34⟩ : Blk w4 gx [.string p, .slice ha' hn hcap', .slice none 0 0] 28 ∧ Kp (fun k => k = gx) w3 w4 := by rw [← ew4]; exact rule_set HZ.out.blk
        have HGX := Lib.hid hGX
        have X4 := Lib.hid (show Ext w2 w4 from HZ.out.ext.trans' hk34 fun k hk e => by have := HZ.out.new; omega)
        have TM4 := Lib.hid (TM3.out.kp' hk34 fun g hg _ e => by
          obtain ⟨cs, hb⟩ := TM3.out.blkOf hg
          subst e
          exact typ_tr (blk_ne hb HZ.out.blk))
        have EGX := Lib.hid (show w2.heap.size ≤ gx from HZ.out.new)
        clear ew4 hk34 hGX z0 z1 z2 f0 f1 f2 HZ TM3 TM1 X1 HFirst HCl
        go_wp2
        go_loopw [42] (fun iv wr => OrdTo w2 gx p ha' hn hcap' (ordL ls xs) m iv wr ∧ Hid (Row wr 94 2 (.slice ha' hn hcap') hn (tcells hs) (New w2))) (fun iv _ => m - (intOf iv).toNat)
        case atStart => exact ⟨⟨0, Nat.zero_le _, rfl, X4, Lib.hid ⟨_, [], HGX.out, rfl, Row.nil _ _ _ _, (fun x hx => by simp at hx), List.pairwise_singleton _ _⟩⟩, TM4⟩
        case round =>
          obtain ⟨⟨i, hi, rfl, hex, hin⟩, hhd⟩ := hrel
          generalize hw5 : wr = w5 at *; clear hw5
          obtain ⟨bv, vs, hB, hvs, hrow, hds, hfar⟩ := hin.out
          obtain ⟨oa, oc, eov, _, _⟩ := hrow.shape
          subst eov
          have XR := Lib.hid ((HB.out.2.2.1.trans X2.out).trans hex.out)
          have g2 : w5.cell? ⟨gx, 2, none⟩ = some (.slice oa i oc) := by rw [hB.cell']; rfl
          have HFar := Lib.hid (show Far ((ha', hcap') :: vs) ∧ ∀ x ∈ (ha', hcap') :: vs, ∀ a, x.1 = some a → a.block < w5.heap.size from ⟨hfar, fun x hx a e => by
            rcases List.mem_cons.1 hx with rfl | hx
            · exact (row_addr hhd.out e).1
            · refine zip_lt (L := (ordL ls xs).take i) ?_ (fun y hy b hb => (row_addr (hds y hy) hb).1) x hx a e
              rw [List.length_take, hvs, ordL_len]; have := HN.out.2.1; omega⟩)
          have HI := Lib.hid (And.intro hB (And.intro hvs (And.intro hrow hds)))
          clear hin hB hvs hrow hds hfar
          by_cases hlt : i < m
          · obtain ⟨x, hxi⟩ : ∃ x, xs[i]? = some x := ⟨_, List.getElem?_eq_getElem (by rw [← HN.out.2.1]; exact hlt)⟩
            obtain ⟨q, eq, l, hlq, hoi⟩ := order_lit HO.out hxi
            subst eq
            obtain ⟨ab, ao, ena, hcx⟩ := HXs.out i (.int .i64 (q : Int)) (by simp [ints, hxi])
            subst ena
            have d0 := XR.out.cell hcx id
            have hqn : q < n := by rw [HN.out.1]; exact (List.getElem?_eq_some_iff.1 hlq).1
            obtain ⟨b, off, a2, cap2, eao, hG, hb, hL, c0, c1, c2, c3, c4, c5, c6, c7⟩ := lit_at HE.out hlq
            subst eao
            replace c0 := XR.out.cell c0 id
            replace c1 := XR.out.cell c1 id
            replace c2 := XR.out.cell c2 id
            replace c3 := XR.out.cell c3 id
            replace c4 := XR.out.cell c4 id
            replace c5 := XR.out.cell c5 id
            replace c6 := XR.out.cell c6 id
            replace c7 := XR.out.cell c7 id
            have d1 : w5.cell? ⟨g0, 2, none⟩ = some (.slice (some ⟨b, off, none⟩) n bcap) := by rw [(HB.out.1.ext (X2.out.trans hex.out)).cell']; rfl
            obtain ⟨y0, e0⟩ : ∃ y, y = l.1 := ⟨_, rfl⟩
            obtain ⟨y1, e1⟩ : ∃ y, y = predOf l := ⟨_, rfl⟩
            obtain ⟨mm, emm⟩ : ∃ mm, mm = (termsOf l).length := ⟨_, rfl⟩
            obtain ⟨y3, e3⟩ : ∃ y, y = opOf l := ⟨_, rfl⟩
            obtain ⟨y4, e4⟩ : ∃ y, y = (leftOf l).1 := ⟨_, rfl⟩
            obtain ⟨y5, e5⟩ : ∃ y, y = (leftOf l).2.1 := ⟨_, rfl⟩
            obtain ⟨y6, e6⟩ : ∃ y, y = (rightOf l).1 := ⟨_, rfl⟩
            obtain ⟨y7, e7⟩ : ∃ y, y = (rightOf l).2.1 := ⟨_, rfl⟩
            rw [← e0] at c0
            rw [← e1] at c1
            rw [← emm] at c2
            rw [← e3] at c3
            rw [← e4] at c4
            rw [← e5] at c5
            rw [← e6] at c6
            rw [← e7] at c7
            have HLit := Lib.hid (show ∀ a c, litC (l, (a, c)) = [.int .i64 y0, .string y1, .slice a mm c, .int .i64 y3, .int .i64 y4, .string y5, .int .i64 y6, .string y7] from fun a c => by rw [e0, e1, emm, e3, e4, e5, e6, e7]; rfl)
            have hmm : mm ≤ 1048576 := by rw [emm]; exact HF.out.terms l (List.mem_of_getElem? hlq)
            have HCp := Lib.hid (show ∀ W, Ext w5 W → Calls Tryz.prog 54 #[litV y0 y1 a2 mm cap2 y3 y4 y5 y6 y7] W (RetN W fun w' v => ∃ a' c', v = litV y0 y1 a' mm c' y3 y4 y5 y6 y7 ∧ Row w' 94 2 (.slice a' mm c') mm (tcells (termsOf l)) (New W)) from fun W hW => copiedL_any (termsOf l) y0 y1 a2 mm cap2 y3 y4 y5 y6 y7 W emm ((terms_cells hL.terms).ext (XR.out.trans hW)) hmm)
            have HL := Lib.hid (And.intro emm (And.intro hlq hoi))
            have HCs := Lib.hid (show ∀ w', Ext w5 w' → (fun w' : World => w'.cell? ⟨gx, 2, none⟩ = some (.slice oa i oc) ∧ w'.cell? ⟨g0, 2, none⟩ = some (.slice (some ⟨b, off, none⟩) n bcap) ∧ w'.cell? ⟨b, off + q * 8, none⟩ = some (.int .i64 y0) ∧ w'.cell? ⟨b, off + q * 8 + 1, none⟩ = some (.string y1) ∧ w'.cell? ⟨b, off + q * 8 + 2, none⟩ = some (.slice a2 mm cap2) ∧ w'.cell? ⟨b, off + q * 8 + 3, none⟩ = some (.int .i64 y3) ∧ w'.cell? ⟨b, off + q * 8 + 4, none⟩ = some (.int .i64 y4) ∧ w'.cell? ⟨b, off + q * 8 + 5, none⟩ = some (.string y5) ∧ w'.cell? ⟨b, off + q * 8 + 6, none⟩ = some (.int .i64 y6) ∧ w'.cell? ⟨b, off + q * 8 + 7, none⟩ = some (.string y7)) w' from fun w' hw => ⟨hw.cell g2 id, hw.cell d1 id, hw.cell c0 id, hw.cell c1 id, hw.cell c2 id, hw.cell c3 id, hw.cell c4 id, hw.cell c5 id, hw.cell c6 id, hw.cell c7 id⟩)
            clear e0 e1 emm e3 e4 e5 e6 e7 g2 d1 c0 c1 c2 c3 c4 c5 c6 c7 hcx hL hlq hoi hxi hb hG
            go_wp2
            clear d0
            refine draw_begin (fun w' : World => w'.cell? ⟨gx, 2, none⟩ = some (.slice oa i oc) ∧ w'.cell? ⟨g0, 2, none⟩ = some (.slice (some ⟨b, off, none⟩) n bcap) ∧ w'.cell? ⟨b, off + q * 8, none⟩ = some (.int .i64 y0) ∧ w'.cell? ⟨b, off + q * 8 + 1, none⟩ = some (.string y1) ∧ w'.cell? ⟨b, off + q * 8 + 2, none⟩ = some (.slice a2 mm cap2) ∧ w'.cell? ⟨b, off + q * 8 + 3, none⟩ = some (.int .i64 y3) ∧ w'.cell? ⟨b, off + q * 8 + 4, none⟩ = some (.int .i64 y4) ∧ w'.cell? ⟨b, off + q * 8 + 5, none⟩ = some (.string y5) ∧ w'.cell? ⟨b, off + q * 8 + 6, none⟩ = some (.int .i64 y6) ∧ w'.cell? ⟨b, off + q * 8 + 7, none⟩ = some (.string y7)) [9, 11] (by kernel_rfl) (HCs.out _ (Kp.refl w5).drew) (fun hHeld => ?_)
            (refine draw_free (i := 0) (v := ?_) rfl ?_ ?_; rotate_left; (intro w; go_simp; try with_reducible rfl)); (try simp only [Act.put, List.setIfInBounds_toArray, List.set_cons_zero, List.set_cons_succ])
            (refine draw_in (i := 1) (v := ?_) rfl ?_ ?_; rotate_left; (intro w hSw; (try dsimp only at hSw); go_simp; try with_reducible rfl)); (try simp only [Act.put, List.setIfInBounds_toArray, List.set_cons_zero, List.set_cons_succ])
            (refine draw_free (i := 2) (v := ?_) rfl ?_ ?_; rotate_left; (intro w; go_simp; try with_reducible rfl)); (try simp only [Act.put, List.setIfInBounds_toArray, List.set_cons_zero, List.set_cons_succ])
            (refine draw_in (i := 3) (v := ?_) rfl ?_ ?_; rotate_left; (intro w hSw; (try dsimp only at hSw); go_simp; try with_reducible rfl)); (try simp only [Act.put, List.setIfInBounds_toArray, List.set_cons_zero, List.set_cons_succ])
            (refine draw_free (i := 4) (v := ?_) rfl ?_ ?_; rotate_left; (intro w; go_simp; try with_reducible rfl)); (try simp only [Act.put, List.setIfInBounds_toArray, List.set_cons_zero, List.set_cons_succ])
            (refine draw_in (i := 5) (v := ?_) rfl ?_ ?_; rotate_left; (intro w hSw; (try dsimp only at hSw); go_simp; try with_reducible rfl)); (try simp only [Act.put, List.setIfInBounds_toArray, List.set_cons_zero, List.set_cons_succ])
            (refine draw_in (i := 6) (v := ?_) rfl ?_ ?_; rotate_left; (intro w hSw; (try dsimp only at hSw); go_simp; try with_reducible rfl)); (try simp only [Act.put, List.setIfInBounds_toArray, List.set_cons_zero, List.set_cons_succ])
            refine draw_one (i := 7) ?_
            refine comes_turn (i := 7) rfl (fun K hK => ?_)
            go_simp
            (refine (HCp.out _ (Kp.refl w5).drew).mono ?_; rintro e w6 ⟨v, rfl, hk6, a3, c3', rfl, hrt⟩; have X6 := Lib.hid (show Ext w5 w6 from ((Kp.refl w5).drew).trans hk6); have HR6 := Lib.hid (show Row w6 94 2 (.slice a3 mm c3') mm (tcells (termsOf l)) (New w5) from hrt.mono fun g hg => hg); clear hk6 hrt)
            go_wp2_with fail
            refine hK.out _ _ ?_ (fun hHeld => ?_)
            · (try dsimp only); (exact HCs.out _ X6.out)
            clear hK K; (try simp only [Act.put, List.setIfInBounds_toArray, List.set_cons_zero, List.set_cons_succ])
            refine draw_one (i := 8) ?_
            refine comes_turn (i := 8) rfl (fun K hK => ?_)
            go_simp
            refine hK.out _ _ ?_ (fun hHeld => ?_)
            · (try dsimp only); (exact HCs.out _ (X6.out.alloc _))
            clear hK K; (try simp only [Act.put, List.setIfInBounds_toArray, List.set_cons_zero, List.set_cons_succ])
            refine draw_one (i := 9) ?_
            refine comes_late (i := 9) rfl (by kernel_rfl) (fun K hK => ?_)
            refine draw_appN elem_lit rfl _ _ rfl ((hex.out.trans X6.out).alloc _) rfl ((HI.out.2.2.1.ext X6.out).alloc _) rfl (CellsAt.new w6 [.int .i64 y0, .string y1, .slice a3 mm c3', .int .i64 y3, .int .i64 y4, .string y5, .int .i64 y6, .string y7] 97) (by rfl) (by rw [← HLit.out]; exact litC_one _) (by omega) (by unfold maxLen; omega) ?_; intro v1 w7 hr1 hk1 hk2
            refine hK.out _ _ ?_
            clear hK K; (try simp only [Act.put, List.setIfInBounds_toArray, List.set_cons_zero, List.set_cons_succ])
            (refine draw_free (i := 10) (v := ?_) rfl ?_ ?_; rotate_left; (intro w; go_simp; try with_reducible rfl)); (try simp only [Act.put, List.setIfInBounds_toArray, List.set_cons_zero, List.set_cons_succ])
            refine draw_one (i := 11) ?_
            refine comes_late (i := 11) rfl (by kernel_rfl) (fun K hK => ?_)
            (obtain ⟨b6, c6, ev6, _, _⟩ := hr1.shape; subst ev6; have hB7 : Blk w7 gx [.string p, .slice ha' hn hcap', .slice oa i oc] 28 := ((HI.out.1.ext X6.out).alloc _).kp hk2 (fun e => (by obtain ⟨cs, hb⟩ := HI.out.2.2.1.blkOf e; exact typ_lrC (blk_ne hb HI.out.1))); have x6 : w7.cell? ⟨gx, 2, none⟩ = some (.slice oa i oc) := (by rw [hB7.cell']; rfl); have x6f := hB7.free 2; have HA := Lib.hid (And.intro hr1 (And.intro hk1 (And.intro hB7 hk2))); clear hr1 hk1 hk2 hB7)
            go_simp
            refine hK.out _ _ ?_
            clear hK K; (try simp only [Act.put, List.setIfInBounds_toArray, List.set_cons_zero, List.set_cons_succ])
            refine wpAnyD_done (by kernel_rfl) ?_ _
            obtain ⟨hr1, hk1, hB7, hk2⟩ := HA.out
            obtain ⟨w8, ew8⟩ : ∃ w8, w7.setCell ⟨gx, 2, none⟩ (.slice b6 (i + 1) c6) = w8 := ⟨_, rfl⟩
            have hk78 : Kp (fun k => k = gx) w7 w8 := by rw [← ew8]; exact Kp.setCell (F := fun k => k = gx) (Kp.refl w7) (fun _ => rfl) _
            have hB8 : Blk w8 gx [.string p, .slice ha' hn hcap', .slice b6 (i + 1) c6] 28 := by rw [← ew8]; exact hB7.set 2 _
            have hx8 : Ext w2 w8 := by rw [← ew8]; exact Kp.setCell (F := fun _ => False) hk1 (fun h => by have := EGX.out; simp only at h; omega) _
            have hr8 := hr1.kp' hk78 fun g hg _ e => by
              obtain ⟨cs, hb⟩ := hr1.blkOf hg
              subst e
              exact typ_lrC (blk_ne hb hB7)
            have hmv : ∀ {v : Value} {n' : Nat} {cs : List Value}, Row w6 94 2 v n' cs (New w2) → Row w8 94 2 v n' cs (New w2) := fun hr => by
              have h1 := (hr.alloc (.cells #[.int .i64 y0, .string y1, .slice a3 mm c3', .int .i64 y3, .int .i64 y4, .string y5, .int .i64 y6, .string y7] 97)).kp' hk2 fun g hg _ e => by
                obtain ⟨cs, hb⟩ := ((HI.out.2.2.1.ext X6.out).alloc (.cells #[.int .i64 y0, .string y1, .slice a3 mm c3', .int .i64 y3, .int .i64 y4, .string y5, .int .i64 y6, .string y7] 97)).blkOf e
                obtain ⟨cs', hb'⟩ := (hr.alloc (.cells #[.int .i64 y0, .string y1, .slice a3 mm c3', .int .i64 y3, .int .i64 y4, .string y5, .int .i64 y6, .string y7] 97)).blkOf hg
                exact typ_tl (blk_ne hb' hb)
              exact h1.kp' hk78 fun g hg _ e => by
                obtain ⟨cs, hb⟩ := h1.blkOf hg
                subst e
                exact typ_tr (blk_ne hb hB7)
            have HFin := Lib.hid (show ∃ bv vs, Blk w8 gx [.string p, .slice ha' hn hcap', bv] 28 ∧ vs.length = i + 1 ∧ Row w8 97 8 bv (i + 1) ((((ordL ls xs).take (i + 1)).zip vs).flatMap litC) (New w2) ∧ (∀ x ∈ ((ordL ls xs).take (i + 1)).zip vs, OwnT w2 w8 x) ∧ Far ((ha', hcap') :: vs) from by
              have hlen : ((ordL ls xs).take i).length = vs.length := by rw [List.length_take, HI.out.2.1, ordL_len]; have := HN.out.2.1; omega
              have et := takeSnoc HL.out.2.2
              refine ⟨_, vs ++ [(a3, c3')], hB8, by rw [List.length_append, HI.out.2.1]; rfl, ?_, ?_, HFar.out.1.snoc HFar.out.2 fun b hb => (row_addr HR6.out hb).2⟩
              · rw [et, List.zip_append hlen, List.flatMap_append]
                have e2 : (([l].zip [(a3, c3')]).flatMap litC) = [.int .i64 y0, .string y1, .slice a3 mm c3', .int .i64 y3, .int .i64 y4, .string y5, .int .i64 y6, .string y7] := by
                  show litC (l, (a3, c3')) ++ [] = _
                  rw [List.append_nil, HLit.out]
                rw [e2]; exact hr8
              · intro x hx
                rw [et, List.zip_append hlen, List.mem_append] at hx
                rcases hx with hx | hx
                · exact hmv ((HI.out.2.2.2 x hx).ext X6.out)
                · simp at hx; subst hx
                  have h8 := hmv (HR6.out.mono fun g hg => Nat.le_trans hex.out.size hg)
                  rw [HL.out.1] at h8
                  exact h8)
            have HHd := Lib.hid (hmv (hhd.out.ext X6.out))
            have HX8 := Lib.hid hx8
            rw [ew8]
            clear hr1 hk1 hB7 hk78 hB8 hx8 hr8 x6 x6f HA ew8 hHeld hk2 hmv
            go_wp2
            go_roundw
            case rel => exact ⟨⟨i + 1, by omega, by first | rfl | (congr 1; done) | (congr 1; omega), HX8, HFin⟩, HHd⟩
            case measure => simp [intOf]; omega
          · have ei : m = i := by omega
            have hall : (ordL ls xs).take i = ordL ls xs := List.take_of_length_le (by rw [ordL_len, ← HN.out.2.1, ei]; exact Nat.le_refl _)
            rw [hall] at HI
            have l0 : w5.cell? ⟨gx, 0, none⟩ = some (.string p) := by rw [HI.out.1.cell']; rfl
            have l1 : w5.cell? ⟨gx, 1, none⟩ = some (.slice ha' hn hcap') := by rw [HI.out.1.cell']; rfl
            have hz2 := HB.out.2.1.ext (X2.out.trans hex.out)
            have z0 : w5.cell? ⟨g0 + 1, 0, none⟩ = some (.string ⟨#[]⟩) := by rw [hz2.cell']; rfl
            have z1 : w5.cell? ⟨g0 + 1, 1, none⟩ = some (.slice none 0 0) := by rw [hz2.cell']; rfl
            have z2 : w5.cell? ⟨g0 + 1, 2, none⟩ = some (.slice none 0 0) := by rw [hz2.cell']; rfl
            have f0 := hz2.free 0
            have f1 := hz2.free 1
            have f2 := hz2.free 2
            go_wp2
            generalize hw9 : World.setCell (World.setCell (World.setCell _ _ _) _ _) _ _ = w9
            obtain ⟨hD, hk9⟩ : Blk w9 (g0 + 1) [.string p, .slice ha' hn hcap', .slice oa i oc] 28 ∧ Kp (fun k => k = g0 + 1) w5 w9 := by rw [← hw9]; exact rule_set hz2
            have r0 : w9.cell? ⟨g0 + 1, 0, none⟩ = some (.string p) := by rw [hD.cell']; rfl
            have r1 : w9.cell? ⟨g0 + 1, 1, none⟩ = some (.slice ha' hn hcap') := by rw [hD.cell']; rfl
            have r2 : w9.cell? ⟨g0 + 1, 2, none⟩ = some (.slice oa i oc) := by rw [hD.cell']; rfl
            have HX9 := Lib.hid (show Ext w w9 from (HB.out.2.2.1.trans (X2.out.trans hex.out)).trans' hk9 fun k hk e => by have := HB.out.2.2.2; omega)
            have HK9 := Lib.hid hk9
            clear hw9 hk9 hz2 z0 z1 z2 f0 f1 f2 hD
            try simp only [Exit.inBlock, Exit.then]
            refine bodyPost_ret (v := .tuple #[ruleV p ha' hn hcap' oa i oc, .int .i64 0]) (by simp [results, Tryz.results20, go_sem, ruleV, r0, r1, r2]) rfl ?_
            have hE0 := ordE_some EE.out HO.out
            have hsz : ∀ k, w2.heap.size ≤ k → w.heap.size ≤ k := fun k hk => Nat.le_trans (HB.out.2.2.1.trans X2.out).size hk
            have hmv : ∀ {v : Value} {n' : Nat} {cs : List Value}, Row w5 94 2 v n' cs (New w2) → Row w9 94 2 v n' cs (New w) := fun hr => (hr.kp' HK9.out fun g hg _ e => by
              obtain ⟨cs, hb⟩ := hr.blkOf hg
              subst e
              exact typ_tr (blk_ne hb (HB.out.2.1.ext (X2.out.trans hex.out)))).mono fun g hg => hsz g hg
            have hr9 := HI.out.2.2.1.kp' HK9.out fun g hg _ e => by
              obtain ⟨cs, hb⟩ := HI.out.2.2.1.blkOf hg
              subst e
              exact typ_lrC (blk_ne hb (HB.out.2.1.ext (X2.out.trans hex.out)))
            have hhd9 := hmv hhd.out
            rw [HN.out.2.2] at hhd9
            rw [← ei, HN.out.2.1] at hr9
            refine RetN.mk HX9.out ⟨fun h0 => absurd hE0 h0, fun _ => ⟨ha', hcap', oa, oc, vs, ?_, hhd9, by rw [HI.out.2.1, ← ei, HN.out.2.1], hr9.mono fun g hg => hsz g hg, fun x hx => hmv (HI.out.2.2.2 x hx), HFar.out.1⟩⟩
            rw [← HN.out.2.2, ← HN.out.2.1, ei]
      · refine comes_turn (i := 9) rfl (fun K hK => ?_)
        go_simp
        refine hK.out _ _ ?_ (fun hHeld => ?_)
        · (try dsimp only); (exact HCells.out _ (by first | exact ((Kp.refl w2).alloc _).drew | exact X1.out.alloc _ | exact X1.out))
        clear hK K; (try simp only [Act.put, List.setIfInBounds_toArray, List.set_cons_zero, List.set_cons_succ])
        refine draw_one (i := 6) ?_
        refine comes_turn (i := 6) rfl (fun K hK => ?_)
        go_simp
        ((with_reducible refine (HCl.out _ (by first | exact HX2.out.drew | exact (HX2.out.alloc _).drew)).mono ?_); rintro e w1 ⟨v, rfl, hk1, hrt⟩; obtain ⟨ha', hcap', ehv, _, _⟩ := hrt.shape; subst ehv; have X1 := Lib.hid (show Ext w2 w1 by first | exact ((Kp.refl w2).drew).trans hk1 | exact (((Kp.refl w2).alloc _).drew).trans hk1); have HFirst := Lib.hid hk1; have TM1 := Lib.hid (show Row w1 94 2 (.slice ha' hn hcap') hn (tcells hs) (New w2) from hrt.mono fun g hg => Nat.le_trans (by first | exact (Kp.refl (F := fun _ => False) w2).drew.size | exact (((Kp.refl (F := fun _ => False) w2).alloc _).drew).size) hg); clear hk1 hrt)
        go_wp2_with fail
        refine hK.out _ _ ?_ (fun hHeld => ?_)
        · (try dsimp only); (exact HCells.out _ (by first | exact ((Kp.refl w2).alloc _).drew | exact X1.out.alloc _ | exact X1.out))
        clear hK K; (try simp only [Act.put, List.setIfInBounds_toArray, List.set_cons_zero, List.set_cons_succ])
        (refine draw_free (i := 7) (v := ?_) rfl ?_ ?_; rotate_left; (intro w; go_simp; try with_reducible rfl)); (try simp only [Act.put, List.setIfInBounds_toArray, List.set_cons_zero, List.set_cons_succ])
        (refine draw_free (i := 8) (v := ?_) rfl ?_ ?_; rotate_left; (intro w; go_simp; try with_reducible rfl)); (try simp only [Act.put, List.setIfInBounds_toArray, List.set_cons_zero, List.set_cons_succ])
        refine draw_one (i := 10) ?_
        refine comes_late (i := 10) rfl (by kernel_rfl) (fun K hK => ?_)
        ((first | (obtain ⟨w3, e3⟩ : ∃ x, w1.alloc (.cells #[.string ⟨#[]⟩, .slice none 0 0, .slice none 0 0] 28) = x := ⟨_, rfl⟩; rw [e3]; obtain ⟨gx, eg⟩ : ∃ g, g = w1.heap.size := ⟨_, rfl⟩; rw [← eg]; have HZ := Lib.hid (show Zeros w2 w3 gx from by rw [← e3, eg]; exact ⟨Blk.new w1 _ _, X1.out.alloc _, X1.out.size⟩); have TM3 := Lib.hid (show Row w3 94 2 (.slice ha' hn hcap') hn (tcells hs) (New w2) by rw [← e3]; exact TM1.out.alloc _); clear e3 eg) | (obtain ⟨w3, e3⟩ : ∃ x, x = w1 := ⟨_, rfl⟩; subst e3; obtain ⟨gx, eg⟩ : ∃ g, g = w2.heap.size := ⟨_, rfl⟩; rw [← eg]; have HZ := Lib.hid (show Zeros w2 w3 gx from by rw [eg]; exact ⟨(Blk.new w2 _ _).drew.ext HFirst.out, X1.out, Nat.le_refl _⟩); have TM3 := TM1; clear eg)); have z0 : w3.cell? ⟨gx, 0, none⟩ = some (.string ⟨#[]⟩) := (by rw [HZ.out.blk.cell']; rfl); have z1 : w3.cell? ⟨gx, 1, none⟩ = some (.slice none 0 0) := (by rw [HZ.out.blk.cell']; rfl); have z2 : w3.cell? ⟨gx, 2, none⟩ = some (.slice none 0 0) := (by rw [HZ.out.blk.cell']; rfl); have f0 := HZ.out.blk.free 0; have f1 := HZ.out.blk.free 1; have f2 := HZ.out.blk.free 2)
        go_simp
        refine hK.out _ _ ?_
        clear hK K; (try simp only [Act.put, List.setIfInBounds_toArray, List.set_cons_zero, List.set_cons_succ])
        refine wpAnyD_done (by kernel_rfl) ?_ _
        clear hHeld
        obtain ⟨w4, ew4⟩ : ∃ x, ((w3.setCell ⟨gx, 0, none⟩ (.string p)).setCell ⟨gx, 1, none⟩ (.slice ha' hn hcap')).setCell ⟨gx, 2, none⟩ (.slice none 0 0) = x := ⟨_, rfl⟩
        rw [ew4]
        obtain ⟨hGX, hk34⟩ : Blk w4 gx [.string p, .slice ha' hn hcap', .slice none 0 0] 28 ∧ Kp (fun k => k = gx) w3 w4 := by rw [← ew4]; exact rule_set HZ.out.blk
        have HGX := Lib.hid hGX
        have X4 := Lib.hid (show Ext w2 w4 from HZ.out.ext.trans' hk34 fun k hk e => by have := HZ.out.new; omega)
        have TM4 := Lib.hid (TM3.out.kp' hk34 fun g hg _ e => by
          obtain ⟨cs, hb⟩ := TM3.out.blkOf hg
          subst e
          exact typ_tr (blk_ne hb HZ.out.blk))
        have EGX := Lib.hid (show w2.heap.size ≤ gx from HZ.out.new)
        clear ew4 hk34 hGX z0 z1 z2 f0 f1 f2 HZ TM3 TM1 X1 HFirst HCl
        go_wp2
        go_loopw [42] (fun iv wr => OrdTo w2 gx p ha' hn hcap' (ordL ls xs) m iv wr ∧ Hid (Row wr 94 2 (.slice ha' hn hcap') hn (tcells hs) (New w2))) (fun iv _ => m - (intOf iv).toNat)
        case atStart => exact ⟨⟨0, Nat.zero_le _, rfl, X4, Lib.hid ⟨_, [], HGX.out, rfl, Row.nil _ _ _ _, (fun x hx => by simp at hx), List.pairwise_singleton _ _⟩⟩, TM4⟩
        case round =>
          obtain ⟨⟨i, hi, rfl, hex, hin⟩, hhd⟩ := hrel
          generalize hw5 : wr = w5 at *; clear hw5
          obtain ⟨bv, vs, hB, hvs, hrow, hds, hfar⟩ := hin.out
          obtain ⟨oa, oc, eov, _, _⟩ := hrow.shape
          subst eov
          have XR := Lib.hid ((HB.out.2.2.1.trans X2.out).trans hex.out)
          have g2 : w5.cell? ⟨gx, 2, none⟩ = some (.slice oa i oc) := by rw [hB.cell']; rfl
          have HFar := Lib.hid (show Far ((ha', hcap') :: vs) ∧ ∀ x ∈ (ha', hcap') :: vs, ∀ a, x.1 = some a → a.block < w5.heap.size from ⟨hfar, fun x hx a e => by
            rcases List.mem_cons.1 hx with rfl | hx
            · exact (row_addr hhd.out e).1
            · refine zip_lt (L := (ordL ls xs).take i) ?_ (fun y hy b hb => (row_addr (hds y hy) hb).1) x hx a e
              rw [List.length_take, hvs, ordL_len]; have := HN.out.2.1; omega⟩)
          have HI := Lib.hid (And.intro hB (And.intro hvs (And.intro hrow hds)))
          clear hin hB hvs hrow hds hfar
          by_cases hlt : i < m
          · obtain ⟨x, hxi⟩ : ∃ x, xs[i]? = some x := ⟨_, List.getElem?_eq_getElem (by rw [← HN.out.2.1]; exact hlt)⟩
            obtain ⟨q, eq, l, hlq, hoi⟩ := order_lit HO.out hxi
            subst eq
            obtain ⟨ab, ao, ena, hcx⟩ := HXs.out i (.int .i64 (q : Int)) (by simp [ints, hxi])
            subst ena
            have d0 := XR.out.cell hcx id
            have hqn : q < n := by rw [HN.out.1]; exact (List.getElem?_eq_some_iff.1 hlq).1
            obtain ⟨b, off, a2, cap2, eao, hG, hb, hL, c0, c1, c2, c3, c4, c5, c6, c7⟩ := lit_at HE.out hlq
            subst eao
            replace c0 := XR.out.cell c0 id
            replace c1 := XR.out.cell c1 id
            replace c2 := XR.out.cell c2 id
            replace c3 := XR.out.cell c3 id
            replace c4 := XR.out.cell c4 id
            replace c5 := XR.out.cell c5 id
            replace c6 := XR.out.cell c6 id
            replace c7 := XR.out.cell c7 id
            have d1 : w5.cell? ⟨g0, 2, none⟩ = some (.slice (some ⟨b, off, none⟩) n bcap) := by rw [(HB.out.1.ext (X2.out.trans hex.out)).cell']; rfl
            obtain ⟨y0, e0⟩ : ∃ y, y = l.1 := ⟨_, rfl⟩
            obtain ⟨y1, e1⟩ : ∃ y, y = predOf l := ⟨_, rfl⟩
            obtain ⟨mm, emm⟩ : ∃ mm, mm = (termsOf l).length := ⟨_, rfl⟩
            obtain ⟨y3, e3⟩ : ∃ y, y = opOf l := ⟨_, rfl⟩
            obtain ⟨y4, e4⟩ : ∃ y, y = (leftOf l).1 := ⟨_, rfl⟩
            obtain ⟨y5, e5⟩ : ∃ y, y = (leftOf l).2.1 := ⟨_, rfl⟩
            obtain ⟨y6, e6⟩ : ∃ y, y = (rightOf l).1 := ⟨_, rfl⟩
            obtain ⟨y7, e7⟩ : ∃ y, y = (rightOf l).2.1 := ⟨_, rfl⟩
            rw [← e0] at c0
            rw [← e1] at c1
            rw [← emm] at c2
            rw [← e3] at c3
            rw [← e4] at c4
            rw [← e5] at c5
            rw [← e6] at c6
            rw [← e7] at c7
            have HLit := Lib.hid (show ∀ a c, litC (l, (a, c)) = [.int .i64 y0, .string y1, .slice a mm c, .int .i64 y3, .int .i64 y4, .string y5, .int .i64 y6, .string y7] from fun a c => by rw [e0, e1, emm, e3, e4, e5, e6, e7]; rfl)
            have hmm : mm ≤ 1048576 := by rw [emm]; exact HF.out.terms l (List.mem_of_getElem? hlq)
            have HCp := Lib.hid (show ∀ W, Ext w5 W → Calls Tryz.prog 54 #[litV y0 y1 a2 mm cap2 y3 y4 y5 y6 y7] W (RetN W fun w' v => ∃ a' c', v = litV y0 y1 a' mm c' y3 y4 y5 y6 y7 ∧ Row w' 94 2 (.slice a' mm c') mm (tcells (termsOf l)) (New W)) from fun W hW => copiedL_any (termsOf l) y0 y1 a2 mm cap2 y3 y4 y5 y6 y7 W emm ((terms_cells hL.terms).ext (XR.out.trans hW)) hmm)
            have HL := Lib.hid (And.intro emm (And.intro hlq hoi))
            have HCs := Lib.hid (show ∀ w', Ext w5 w' → (fun w' : World => w'.cell? ⟨gx, 2, none⟩ = some (.slice oa i oc) ∧ w'.cell? ⟨g0, 2, none⟩ = some (.slice (some ⟨b, off, none⟩) n bcap) ∧ w'.cell? ⟨b, off + q * 8, none⟩ = some (.int .i64 y0) ∧ w'.cell? ⟨b, off + q * 8 + 1, none⟩ = some (.string y1) ∧ w'.cell? ⟨b, off + q * 8 + 2, none⟩ = some (.slice a2 mm cap2) ∧ w'.cell? ⟨b, off + q * 8 + 3, none⟩ = some (.int .i64 y3) ∧ w'.cell? ⟨b, off + q * 8 + 4, none⟩ = some (.int .i64 y4) ∧ w'.cell? ⟨b, off + q * 8 + 5, none⟩ = some (.string y5) ∧ w'.cell? ⟨b, off + q * 8 + 6, none⟩ = some (.int .i64 y6) ∧ w'.cell? ⟨b, off + q * 8 + 7, none⟩ = some (.string y7)) w' from fun w' hw => ⟨hw.cell g2 id, hw.cell d1 id, hw.cell c0 id, hw.cell c1 id, hw.cell c2 id, hw.cell c3 id, hw.cell c4 id, hw.cell c5 id, hw.cell c6 id, hw.cell c7 id⟩)
            clear e0 e1 emm e3 e4 e5 e6 e7 g2 d1 c0 c1 c2 c3 c4 c5 c6 c7 hcx hL hlq hoi hxi hb hG
            go_wp2
            clear d0
            refine draw_begin (fun w' : World => w'.cell? ⟨gx, 2, none⟩ = some (.slice oa i oc) ∧ w'.cell? ⟨g0, 2, none⟩ = some (.slice (some ⟨b, off, none⟩) n bcap) ∧ w'.cell? ⟨b, off + q * 8, none⟩ = some (.int .i64 y0) ∧ w'.cell? ⟨b, off + q * 8 + 1, none⟩ = some (.string y1) ∧ w'.cell? ⟨b, off + q * 8 + 2, none⟩ = some (.slice a2 mm cap2) ∧ w'.cell? ⟨b, off + q * 8 + 3, none⟩ = some (.int .i64 y3) ∧ w'.cell? ⟨b, off + q * 8 + 4, none⟩ = some (.int .i64 y4) ∧ w'.cell? ⟨b, off + q * 8 + 5, none⟩ = some (.string y5) ∧ w'.cell? ⟨b, off + q * 8 + 6, none⟩ = some (.int .i64 y6) ∧ w'.cell? ⟨b, off + q * 8 + 7, none⟩ = some (.string y7)) [9, 11] (by kernel_rfl) (HCs.out _ (Kp.refl w5).drew) (fun hHeld => ?_)
            (refine draw_free (i := 0) (v := ?_) rfl ?_ ?_; rotate_left; (intro w; go_simp; try with_reducible rfl)); (try simp only [Act.put, List.setIfInBounds_toArray, List.set_cons_zero, List.set_cons_succ])
            (refine draw_in (i := 1) (v := ?_) rfl ?_ ?_; rotate_left; (intro w hSw; (try dsimp only at hSw); go_simp; try with_reducible rfl)); (try simp only [Act.put, List.setIfInBounds_toArray, List.set_cons_zero, List.set_cons_succ])
            (refine draw_free (i := 2) (v := ?_) rfl ?_ ?_; rotate_left; (intro w; go_simp; try with_reducible rfl)); (try simp only [Act.put, List.setIfInBounds_toArray, List.set_cons_zero, List.set_cons_succ])
            (refine draw_in (i := 3) (v := ?_) rfl ?_ ?_; rotate_left; (intro w hSw; (try dsimp only at hSw); go_simp; try with_reducible rfl)); (try simp only [Act.put, List.setIfInBounds_toArray, List.set_cons_zero, List.set_cons_succ])
            (refine draw_free (i := 4) (v := ?_) rfl ?_ ?_; rotate_left; (intro w; go_simp; try with_reducible rfl)); (try simp only [Act.put, List.setIfInBounds_toArray, List.set_cons_zero, List.set_cons_succ])
            (refine draw_in (i := 5) (v := ?_) rfl ?_ ?_; rotate_left; (intro w hSw; (try dsimp only at hSw); go_simp; try with_reducible rfl)); (try simp only [Act.put, List.setIfInBounds_toArray, List.set_cons_zero, List.set_cons_succ])
            (refine draw_in (i := 6) (v := ?_) rfl ?_ ?_; rotate_left; (intro w hSw; (try dsimp only at hSw); go_simp; try with_reducible rfl)); (try simp only [Act.put, List.setIfInBounds_toArray, List.set_cons_zero, List.set_cons_succ])
            refine draw_one (i := 7) ?_
            refine comes_turn (i := 7) rfl (fun K hK => ?_)
            go_simp
            (refine (HCp.out _ (Kp.refl w5).drew).mono ?_; rintro e w6 ⟨v, rfl, hk6, a3, c3', rfl, hrt⟩; have X6 := Lib.hid (show Ext w5 w6 from ((Kp.refl w5).drew).trans hk6); have HR6 := Lib.hid (show Row w6 94 2 (.slice a3 mm c3') mm (tcells (termsOf l)) (New w5) from hrt.mono fun g hg => hg); clear hk6 hrt)
            go_wp2_with fail
            refine hK.out _ _ ?_ (fun hHeld => ?_)
            · (try dsimp only); (exact HCs.out _ X6.out)
            clear hK K; (try simp only [Act.put, List.setIfInBounds_toArray, List.set_cons_zero, List.set_cons_succ])
            refine draw_one (i := 8) ?_
            refine comes_turn (i := 8) rfl (fun K hK => ?_)
            go_simp
            refine hK.out _ _ ?_ (fun hHeld => ?_)
            · (try dsimp only); (exact HCs.out _ (X6.out.alloc _))
            clear hK K; (try simp only [Act.put, List.setIfInBounds_toArray, List.set_cons_zero, List.set_cons_succ])
            refine draw_one (i := 9) ?_
            refine comes_late (i := 9) rfl (by kernel_rfl) (fun K hK => ?_)
            refine draw_appN elem_lit rfl _ _ rfl ((hex.out.trans X6.out).alloc _) rfl ((HI.out.2.2.1.ext X6.out).alloc _) rfl (CellsAt.new w6 [.int .i64 y0, .string y1, .slice a3 mm c3', .int .i64 y3, .int .i64 y4, .string y5, .int .i64 y6, .string y7] 97) (by rfl) (by rw [← HLit.out]; exact litC_one _) (by omega) (by unfold maxLen; omega) ?_; intro v1 w7 hr1 hk1 hk2
            refine hK.out _ _ ?_
            clear hK K; (try simp only [Act.put, List.setIfInBounds_toArray, List.set_cons_zero, List.set_cons_succ])
            (refine draw_free (i := 10) (v := ?_) rfl ?_ ?_; rotate_left; (intro w; go_simp; try with_reducible rfl)); (try simp only [Act.put, List.setIfInBounds_toArray, List.set_cons_zero, List.set_cons_succ])
            refine draw_one (i := 11) ?_
            refine comes_late (i := 11) rfl (by kernel_rfl) (fun K hK => ?_)
            (obtain ⟨b6, c6, ev6, _, _⟩ := hr1.shape; subst ev6; have hB7 : Blk w7 gx [.string p, .slice ha' hn hcap', .slice oa i oc] 28 := ((HI.out.1.ext X6.out).alloc _).kp hk2 (fun e => (by obtain ⟨cs, hb⟩ := HI.out.2.2.1.blkOf e; exact typ_lrC (blk_ne hb HI.out.1))); have x6 : w7.cell? ⟨gx, 2, none⟩ = some (.slice oa i oc) := (by rw [hB7.cell']; rfl); have x6f := hB7.free 2; have HA := Lib.hid (And.intro hr1 (And.intro hk1 (And.intro hB7 hk2))); clear hr1 hk1 hk2 hB7)
            go_simp
            refine hK.out _ _ ?_
            clear hK K; (try simp only [Act.put, List.setIfInBounds_toArray, List.set_cons_zero, List.set_cons_succ])
            refine wpAnyD_done (by kernel_rfl) ?_ _
            obtain ⟨hr1, hk1, hB7, hk2⟩ := HA.out
            obtain ⟨w8, ew8⟩ : ∃ w8, w7.setCell ⟨gx, 2, none⟩ (.slice b6 (i + 1) c6) = w8 := ⟨_, rfl⟩
            have hk78 : Kp (fun k => k = gx) w7 w8 := by rw [← ew8]; exact Kp.setCell (F := fun k => k = gx) (Kp.refl w7) (fun _ => rfl) _
            have hB8 : Blk w8 gx [.string p, .slice ha' hn hcap', .slice b6 (i + 1) c6] 28 := by rw [← ew8]; exact hB7.set 2 _
            have hx8 : Ext w2 w8 := by rw [← ew8]; exact Kp.setCell (F := fun _ => False) hk1 (fun h => by have := EGX.out; simp only at h; omega) _
            have hr8 := hr1.kp' hk78 fun g hg _ e => by
              obtain ⟨cs, hb⟩ := hr1.blkOf hg
              subst e
              exact typ_lrC (blk_ne hb hB7)
            have hmv : ∀ {v : Value} {n' : Nat} {cs : List Value}, Row w6 94 2 v n' cs (New w2) → Row w8 94 2 v n' cs (New w2) := fun hr => by
              have h1 := (hr.alloc (.cells #[.int .i64 y0, .string y1, .slice a3 mm c3', .int .i64 y3, .int .i64 y4, .string y5, .int .i64 y6, .string y7] 97)).kp' hk2 fun g hg _ e => by
                obtain ⟨cs, hb⟩ := ((HI.out.2.2.1.ext X6.out).alloc (.cells #[.int .i64 y0, .string y1, .slice a3 mm c3', .int .i64 y3, .int .i64 y4, .string y5, .int .i64 y6, .string y7] 97)).blkOf e
                obtain ⟨cs', hb'⟩ := (hr.alloc (.cells #[.int .i64 y0, .string y1, .slice a3 mm c3', .int .i64 y3, .int .i64 y4, .string y5, .int .i64 y6, .string y7] 97)).blkOf hg
                exact typ_tl (blk_ne hb' hb)
              exact h1.kp' hk78 fun g hg _ e => by
                obtain ⟨cs, hb⟩ := h1.blkOf hg
                subst e
                exact typ_tr (blk_ne hb hB7)
            have HFin := Lib.hid (show ∃ bv vs, Blk w8 gx [.string p, .slice ha' hn hcap', bv] 28 ∧ vs.length = i + 1 ∧ Row w8 97 8 bv (i + 1) ((((ordL ls xs).take (i + 1)).zip vs).flatMap litC) (New w2) ∧ (∀ x ∈ ((ordL ls xs).take (i + 1)).zip vs, OwnT w2 w8 x) ∧ Far ((ha', hcap') :: vs) from by
              have hlen : ((ordL ls xs).take i).length = vs.length := by rw [List.length_take, HI.out.2.1, ordL_len]; have := HN.out.2.1; omega
              have et := takeSnoc HL.out.2.2
              refine ⟨_, vs ++ [(a3, c3')], hB8, by rw [List.length_append, HI.out.2.1]; rfl, ?_, ?_, HFar.out.1.snoc HFar.out.2 fun b hb => (row_addr HR6.out hb).2⟩
              · rw [et, List.zip_append hlen, List.flatMap_append]
                have e2 : (([l].zip [(a3, c3')]).flatMap litC) = [.int .i64 y0, .string y1, .slice a3 mm c3', .int .i64 y3, .int .i64 y4, .string y5, .int .i64 y6, .string y7] := by
                  show litC (l, (a3, c3')) ++ [] = _
                  rw [List.append_nil, HLit.out]
                rw [e2]; exact hr8
              · intro x hx
                rw [et, List.zip_append hlen, List.mem_append] at hx
                rcases hx with hx | hx
                · exact hmv ((HI.out.2.2.2 x hx).ext X6.out)
                · simp at hx; subst hx
                  have h8 := hmv (HR6.out.mono fun g hg => Nat.le_trans hex.out.size hg)
                  rw [HL.out.1] at h8
                  exact h8)
            have HHd := Lib.hid (hmv (hhd.out.ext X6.out))
            have HX8 := Lib.hid hx8
            rw [ew8]
            clear hr1 hk1 hB7 hk78 hB8 hx8 hr8 x6 x6f HA ew8 hHeld hk2 hmv
            go_wp2
            go_roundw
            case rel => exact ⟨⟨i + 1, by omega, by first | rfl | (congr 1; done) | (congr 1; omega), HX8, HFin⟩, HHd⟩
            case measure => simp [intOf]; omega
          · have ei : m = i := by omega
            have hall : (ordL ls xs).take i = ordL ls xs := List.take_of_length_le (by rw [ordL_len, ← HN.out.2.1, ei]; exact Nat.le_refl _)
            rw [hall] at HI
            have l0 : w5.cell? ⟨gx, 0, none⟩ = some (.string p) := by rw [HI.out.1.cell']; rfl
            have l1 : w5.cell? ⟨gx, 1, none⟩ = some (.slice ha' hn hcap') := by rw [HI.out.1.cell']; rfl
            have hz2 := HB.out.2.1.ext (X2.out.trans hex.out)
            have z0 : w5.cell? ⟨g0 + 1, 0, none⟩ = some (.string ⟨#[]⟩) := by rw [hz2.cell']; rfl
            have z1 : w5.cell? ⟨g0 + 1, 1, none⟩ = some (.slice none 0 0) := by rw [hz2.cell']; rfl
            have z2 : w5.cell? ⟨g0 + 1, 2, none⟩ = some (.slice none 0 0) := by rw [hz2.cell']; rfl
            have f0 := hz2.free 0
            have f1 := hz2.free 1
            have f2 := hz2.free 2
            go_wp2
            generalize hw9 : World.setCell (World.setCell (World.setCell _ _ _) _ _) _ _ = w9
            obtain ⟨hD, hk9⟩ : Blk w9 (g0 + 1) [.string p, .slice ha' hn hcap', .slice oa i oc] 28 ∧ Kp (fun k => k = g0 + 1) w5 w9 := by rw [← hw9]; exact rule_set hz2
            have r0 : w9.cell? ⟨g0 + 1, 0, none⟩ = some (.string p) := by rw [hD.cell']; rfl
            have r1 : w9.cell? ⟨g0 + 1, 1, none⟩ = some (.slice ha' hn hcap') := by rw [hD.cell']; rfl
            have r2 : w9.cell? ⟨g0 + 1, 2, none⟩ = some (.slice oa i oc) := by rw [hD.cell']; rfl
            have HX9 := Lib.hid (show Ext w w9 from (HB.out.2.2.1.trans (X2.out.trans hex.out)).trans' hk9 fun k hk e => by have := HB.out.2.2.2; omega)
            have HK9 := Lib.hid hk9
            clear hw9 hk9 hz2 z0 z1 z2 f0 f1 f2 hD
            try simp only [Exit.inBlock, Exit.then]
            refine bodyPost_ret (v := .tuple #[ruleV p ha' hn hcap' oa i oc, .int .i64 0]) (by simp [results, Tryz.results20, go_sem, ruleV, r0, r1, r2]) rfl ?_
            have hE0 := ordE_some EE.out HO.out
            have hsz : ∀ k, w2.heap.size ≤ k → w.heap.size ≤ k := fun k hk => Nat.le_trans (HB.out.2.2.1.trans X2.out).size hk
            have hmv : ∀ {v : Value} {n' : Nat} {cs : List Value}, Row w5 94 2 v n' cs (New w2) → Row w9 94 2 v n' cs (New w) := fun hr => (hr.kp' HK9.out fun g hg _ e => by
              obtain ⟨cs, hb⟩ := hr.blkOf hg
              subst e
              exact typ_tr (blk_ne hb (HB.out.2.1.ext (X2.out.trans hex.out)))).mono fun g hg => hsz g hg
            have hr9 := HI.out.2.2.1.kp' HK9.out fun g hg _ e => by
              obtain ⟨cs, hb⟩ := HI.out.2.2.1.blkOf hg
              subst e
              exact typ_lrC (blk_ne hb (HB.out.2.1.ext (X2.out.trans hex.out)))
            have hhd9 := hmv hhd.out
            rw [HN.out.2.2] at hhd9
            rw [← ei, HN.out.2.1] at hr9
            refine RetN.mk HX9.out ⟨fun h0 => absurd hE0 h0, fun _ => ⟨ha', hcap', oa, oc, vs, ?_, hhd9, by rw [HI.out.2.1, ← ei, HN.out.2.1], hr9.mono fun g hg => hsz g hg, fun x hx => hmv (HI.out.2.2.2 x hx), HFar.out.1⟩⟩
            rw [← HN.out.2.2, ← HN.out.2.1, ei]
    · rw [decide_eq_false ho]
      have HO := Lib.hid ho
      clear ho
      have hz2 := HB.out.2.1.ext X2.out
      have z0 : w2.cell? ⟨g0 + 1, 0, none⟩ = some (.string ⟨#[]⟩) := by rw [hz2.cell']; rfl
      have z1 : w2.cell? ⟨g0 + 1, 1, none⟩ = some (.slice none 0 0) := by rw [hz2.cell']; rfl
      have z2 : w2.cell? ⟨g0 + 1, 2, none⟩ = some (.slice none 0 0) := by rw [hz2.cell']; rfl
      have f0 := hz2.free 0
      have f1 := hz2.free 1
      have f2 := hz2.free 2
      go_wp2
      generalize hw9 : World.setCell (World.setCell (World.setCell _ _ _) _ _) _ _ = w9
      obtain ⟨hD, hk9⟩ : Blk w9 (g0 + 1) [.string ⟨#[]⟩, .slice none 0 0, .slice none 0 0] 28 ∧ Kp (fun k => k = g0 + 1) w2 w9 := by rw [← hw9]; exact rule_set hz2
      have r0 : w9.cell? ⟨g0 + 1, 0, none⟩ = some (.string ⟨#[]⟩) := by rw [hD.cell']; rfl
      have r1 : w9.cell? ⟨g0 + 1, 1, none⟩ = some (.slice none 0 0) := by rw [hD.cell']; rfl
      have r2 : w9.cell? ⟨g0 + 1, 2, none⟩ = some (.slice none 0 0) := by rw [hD.cell']; rfl
      have HX9 := Lib.hid (show Ext w w9 from (HB.out.2.2.1.trans X2.out).trans' hk9 fun k hk e => by have := HB.out.2.2.2; omega)
      have HK9 := Lib.hid hk9
      clear hw9 hk9 hz2 z0 z1 z2 f0 f1 f2 hD
      try simp only [Exit.inBlock, Exit.then]
      refine bodyPost_ret (v := .tuple #[ruleV ⟨#[]⟩ none 0 0 none 0 0, .int .i64 2]) (by simp [results, Tryz.results20, go_sem, ruleV, r0, r1, r2]) rfl ?_
      exact RetN.mk HX9.out ⟨fun _ => by rw [ordE_none EE.out HO.out]; rfl, fun h0 => by rw [ordE_none EE.out HO.out] at h0; cases h0⟩
  · have hv := hbv.2 (fun q => he (EE.out.symm.trans q))
    rw [EE.out] at hv
    subst hv
    have b2 : ((ec : Int) != 0) = true := by simp; omega
    have HEc := Lib.hid he
    clear he hbv
    have hz2 := HB.out.2.1.ext X1.out
    have z0 : w1.cell? ⟨g0 + 1, 0, none⟩ = some (.string ⟨#[]⟩) := by rw [hz2.cell']; rfl
    have z1 : w1.cell? ⟨g0 + 1, 1, none⟩ = some (.slice none 0 0) := by rw [hz2.cell']; rfl
    have z2 : w1.cell? ⟨g0 + 1, 2, none⟩ = some (.slice none 0 0) := by rw [hz2.cell']; rfl
    have f0 := hz2.free 0
    have f1 := hz2.free 1
    have f2 := hz2.free 2
    go_wp2
    generalize hw9 : World.setCell (World.setCell (World.setCell _ _ _) _ _) _ _ = w9
    obtain ⟨hD, hk9⟩ : Blk w9 (g0 + 1) [.string ⟨#[]⟩, .slice none 0 0, .slice none 0 0] 28 ∧ Kp (fun k => k = g0 + 1) w1 w9 := by rw [← hw9]; exact rule_set hz2
    have r0 : w9.cell? ⟨g0 + 1, 0, none⟩ = some (.string ⟨#[]⟩) := by rw [hD.cell']; rfl
    have r1 : w9.cell? ⟨g0 + 1, 1, none⟩ = some (.slice none 0 0) := by rw [hD.cell']; rfl
    have r2 : w9.cell? ⟨g0 + 1, 2, none⟩ = some (.slice none 0 0) := by rw [hD.cell']; rfl
    have HX9 := Lib.hid (show Ext w w9 from (HB.out.2.2.1.trans X1.out).trans' hk9 fun k hk e => by have := HB.out.2.2.2; omega)
    have HK9 := Lib.hid hk9
    clear hw9 hk9 hz2 z0 z1 z2 f0 f1 f2 hD
    try simp only [Exit.inBlock, Exit.then]
    refine bodyPost_ret (v := .tuple #[ruleV ⟨#[]⟩ none 0 0 none 0 0, .int .i64 (ec : Nat)]) (by simp [results, Tryz.results20, go_sem, ruleV, r0, r1, r2]) rfl ?_
    exact RetN.mk HX9.out ⟨fun _ => by rw [ordE_bad (by rw [EE.out]; exact HEc.out), EE.out], fun h0 => by rw [ordE_bad (by rw [EE.out]; exact HEc.out), EE.out] at h0; exact absurd h0 HEc.out⟩
end Go.Proofs.YtomeebimmmfmbaaGreat

/- The law of costs: orders. -/
namespace Go.Proofs.YtomeebimmmfmbaaGreat
open Go.RowKit
set_option linter.unusedVariables false
end Go.Proofs.YtomeebimmmfmbaaGreat

/- Costs: the best order and the greedy one, as plain functions; plans there are. No program in sight. -/
namespace Go.Proofs.YtomeebimmmfmbaaGreat
set_option linter.unusedVariables false
abbrev Plan := List Int × Nat
def lexLt : List Int → List Int → Bool
  | x :: xs, y :: ys => if x = y then lexLt xs ys else decide (x < y)
  | _, _ => false
def betterP (a b : Plan) : Bool := decide (a.2 < b.2) || (decide (a.2 = b.2) && lexLt a.1 b.1)
def pickP : Option Plan → Option Plan → Option Plan
  | b, none => b
  | none, some x => some x
  | some b, some x => if betterP x b then some x else some b
def leastP (q : Nat → Option Plan) : Nat → Option Plan
  | 0 => none
  | n + 1 => pickP (leastP q n) (q n)
theorem leastP_congr {q q' : Nat → Option Plan} : ∀ {n : Nat}, (∀ i, i < n → q i = q' i) → leastP q n = leastP q' n
  | 0, _ => rfl
  | n + 1, h => by
    show pickP _ _ = pickP _ _
    rw [leastP_congr (fun i hi => h i (by omega)), h n (by omega)]
theorem pickP_or (b x : Option Plan) : pickP b x = b ∨ pickP b x = x := by
  cases b with
  | none => cases x with
    | none => exact .inl rfl
    | some x => exact .inr rfl
  | some b => cases x with
    | none => exact .inl rfl
    | some x =>
      show (if betterP x b then some x else some b) = _ ∨ (if betterP x b then some x else some b) = _
      split
      · exact .inr rfl
      · exact .inl rfl
theorem leastP_mem {q : Nat → Option Plan} {p : Plan} : ∀ {n : Nat}, leastP q n = some p → ∃ i, i < n ∧ q i = some p
  | 0, h => by cases h
  | n + 1, h => by
    rcases pickP_or (leastP q n) (q n) with e | e
    · have h' : pickP (leastP q n) (q n) = some p := h
      rw [e] at h'
      obtain ⟨i, hi, hq⟩ := leastP_mem h'
      exact ⟨i, by omega, hq⟩
    · have h' : pickP (leastP q n) (q n) = some p := h
      rw [e] at h'
      exact ⟨n, by omega, h'⟩
theorem pickP_some {b x : Option Plan} (h : b.isSome = true ∨ x.isSome = true) : (pickP b x).isSome = true := by
  cases b <;> cases x <;> simp only [pickP] <;> simp_all
  split <;> rfl
theorem leastP_some {q : Nat → Option Plan} : ∀ {n i : Nat}, i < n → (q i).isSome = true → (leastP q n).isSome = true
  | n + 1, i, hi, h => by
    by_cases e : i = n
    · subst e; exact pickP_some (.inr h)
    · exact pickP_some (.inl (leastP_some (by omega) h))
def bitsS (n s : Nat) : List Bool := (List.range n).map fun i => s.testBit i
theorem bits_len (n s : Nat) : (bitsS n s).length = n := by simp [bitsS]
theorem bits_at {n s i : Nat} (h : i < n) : (bitsS n s)[i]? = some (s.testBit i) := by
  unfold bitsS
  rw [List.getElem?_map, List.getElem?_range h]; rfl
theorem subBit : ∀ (i s : Nat), s.testBit i = true → 2 ^ i ≤ s ∧ ∀ j, (s - 2 ^ i).testBit j = (s.testBit j && decide (j ≠ i))
  | 0, s, h => by
    rw [Nat.testBit_zero, decide_eq_true_eq] at h
    refine ⟨by simp; omega, fun j => ?_⟩
    cases j with
    | zero => rw [Nat.testBit_zero]; simp; omega
    | succ j =>
      rw [Nat.testBit_succ, Nat.testBit_succ]
      have e : (s - 2 ^ 0) / 2 = s / 2 := by simp; omega
      rw [e]; simp
  | i + 1, s, h => by
    rw [Nat.testBit_succ] at h
    obtain ⟨h1, h2⟩ := subBit i (s / 2) h
    have hp : 2 ^ (i + 1) = 2 * 2 ^ i := by rw [Nat.pow_succ]; omega
    refine ⟨by rw [hp]; omega, fun j => ?_⟩
    have e1 : (s - 2 ^ (i + 1)) / 2 = s / 2 - 2 ^ i := by rw [hp]; omega
    have e2 : (s - 2 ^ (i + 1)) % 2 = s % 2 := by rw [hp]; omega
    cases j with
    | zero => rw [Nat.testBit_zero, Nat.testBit_zero, e2]; simp
    | succ j =>
      rw [Nat.testBit_succ, Nat.testBit_succ, e1, h2 j]
      congr 1
      rw [decide_eq_decide]; omega
theorem bits_sub {n s i : Nat} (h : s.testBit i = true) : bitsS n (s - 2 ^ i) = (bitsS n s).set i false := by
  apply List.ext_getElem?
  intro j
  rw [List.getElem?_set]
  by_cases hj : j < n
  · rw [bits_at hj]
    by_cases e : i = j
    · subst e
      rw [if_pos rfl, if_pos (by rw [bits_len]; exact hj), (subBit i s h).2 i]; simp
    · have hd : decide (j ≠ i) = true := by simp; exact fun h => e h.symm
      rw [if_neg e, bits_at hj, (subBit i s h).2 j, hd, Bool.and_true]
  · rw [List.getElem?_eq_none_iff.2 (by rw [bits_len]; omega)]
    by_cases e : i = j
    · rw [if_pos e, if_neg (by rw [bits_len]; omega)]
    · rw [if_neg e, List.getElem?_eq_none_iff.2 (by rw [bits_len]; omega)]
theorem bits_all (n : Nat) : bitsS n (2 ^ n - 1) = List.replicate n true := by
  apply List.ext_getElem?
  intro j
  by_cases hj : j < n
  · rw [bits_at hj, Nat.testBit_two_pow_sub_one, decide_eq_true hj, List.getElem?_replicate, if_pos hj]
  · rw [List.getElem?_eq_none_iff.2 (by rw [bits_len]; omega), List.getElem?_replicate, if_neg hj]
theorem bits_some {n s : Nat} (h0 : s ≠ 0) (hs : s < 2 ^ n) : ∃ i, i < n ∧ s.testBit i = true := by
  obtain ⟨i, hi⟩ := Nat.exists_testBit_of_ne_zero h0
  refine ⟨i, ?_, hi⟩
  rcases Nat.lt_or_ge i n with h | h
  · exact h
  · have := Nat.testBit_lt_two_pow (Nat.lt_of_lt_of_le hs (Nat.pow_le_pow_right (by decide) h))
    rw [this] at hi; cases hi
noncomputable def candP (T : Nat → Option Plan) (g s i : Nat) : Option Plan := if s.testBit i = true then (T (s - 2 ^ i)).map (fun p => (p.1 ++ [(i : Int)], fadd p.2 g)) else none
open Classical in
noncomputable def rowP (S : List StatZ) (ls : List LitZ) (T : Nat → Option Plan) (s : Nat) : Option Plan := if s = 0 then some ([], 0) else if stands ls (bitsS ls.length s) then leastP (candP T (guessW S ls (bitsS ls.length s)) s) ls.length else none
noncomputable def tabP (S : List StatZ) (ls : List LitZ) : Nat → Nat → Option Plan
  | 0, _ => none
  | k + 1, s => if s = k then rowP S ls (tabP S ls k) k else tabP S ls k s
noncomputable def planS (S : List StatZ) (ls : List LitZ) (s : Nat) : Option Plan := tabP S ls (s + 1) s
theorem tab_plan (S : List StatZ) (ls : List LitZ) {s : Nat} : ∀ {k : Nat}, s < k → tabP S ls k s = planS S ls s
  | k + 1, h => by
    by_cases e : s = k
    · subst e; rfl
    · show (if s = k then _ else tabP S ls k s) = _
      rw [if_neg e, tab_plan S ls (by omega)]
theorem cand_congr {T T' : Nat → Option Plan} {s : Nat} (h : ∀ u, u < s → T u = T' u) (g i : Nat) : candP T g s i = candP T' g s i := by
  unfold candP
  split
  · rename_i hb
    have := (subBit i s hb).1
    have hp := Nat.two_pow_pos i
    rw [h _ (by omega)]
  · rfl
theorem plan_eq (S : List StatZ) (ls : List LitZ) (s : Nat) : planS S ls s = rowP S ls (planS S ls) s := by
  have e : planS S ls s = rowP S ls (tabP S ls s) s := by
    show (if s = s then _ else _) = _
    rw [if_pos rfl]
  rw [e]
  unfold rowP
  split
  · rfl
  · split
    · exact leastP_congr fun i hi => cand_congr (fun u hu => tab_plan S ls hu) _ _
    · rfl
theorem count_unset {xs : List Bool} {i : Nat} (h : xs[i]? = some true) : (xs.set i false).countP id + 1 = xs.countP id := by
  induction xs generalizing i with
  | nil => cases h
  | cons b xs ih =>
    cases i with
    | zero =>
      have : b = true := by simpa using h
      subst this
      simp
    | succ i =>
      have h' : xs[i]? = some true := by simpa using h
      rw [List.set_cons_succ, List.countP_cons, List.countP_cons, ← ih h']; omega
theorem cand_ok {S : List StatZ} {ls : List LitZ} (K : Known S ls) {s i : Nat} (hi : i < ls.length) (ih : ∀ u p, u < s → planS S ls u = some p → p.2 ≤ infW ∧ p.1.length = (bitsS ls.length u).countP id) {g : Nat} (hg : g ≤ infW) {p : Plan} (h : candP (planS S ls) g s i = some p) : p.2 ≤ infW ∧ p.1.length = (bitsS ls.length s).countP id := by
  unfold candP at h
  split at h
  · rename_i hb
    obtain ⟨y, hy, rfl⟩ := Option.map_eq_some_iff.1 h
    have hle := (subBit i s hb).1
    have hp := Nat.two_pow_pos i
    obtain ⟨h1, h2⟩ := ih _ y (by omega) hy
    refine ⟨fadd_le h1 hg, ?_⟩
    rw [bits_sub hb] at h2
    have h3 := count_unset (xs := bitsS ls.length s) (i := i) (by rw [bits_at hi, hb])
    show (y.1 ++ [(i : Int)]).length = _
    rw [List.length_append, h2]; exact h3
  · cases h
theorem plan_ok {S : List StatZ} {ls : List LitZ} (K : Known S ls) : ∀ (s : Nat) (p : Plan), planS S ls s = some p → p.2 ≤ infW ∧ p.1.length = (bitsS ls.length s).countP id := by
  intro s
  induction s using Nat.strongRecOn with
  | _ s ih =>
    intro p h
    rw [plan_eq] at h
    unfold rowP at h
    split at h
    · rename_i h0
      cases h
      subst h0
      refine ⟨Nat.zero_le _, ?_⟩
      have : (bitsS ls.length 0).countP id = 0 := by
        rw [List.countP_eq_zero]
        intro b hb
        unfold bitsS at hb
        obtain ⟨i, _, rfl⟩ := List.mem_map.1 hb
        simp
      rw [this]; rfl
    · split at h
      · obtain ⟨i, hi, hq⟩ := leastP_mem h
        exact cand_ok K hi (fun u p hu => ih u hu p) (guessW_le K _) hq
      · cases h
theorem plan_len {S : List StatZ} {ls : List LitZ} (K : Known S ls) {s : Nat} {p : Plan} (h : planS S ls s = some p) : p.1.length ≤ ls.length := by
  rw [(plan_ok K s p h).2]
  exact Nat.le_trans List.countP_le_length (by rw [bits_len]; exact Nat.le_refl _)
theorem stands_drop {ls : List LitZ} {inn : List Bool} (hl : inn.length = ls.length) (h : stands ls inn) (hne : ∃ i : Nat, inn[i]? = some true) : ∃ i : Nat, inn[i]? = some true ∧ stands ls (inn.set i false) := by
  by_cases hf : ∃ (i : Nat) (l : LitZ), inn[i]? = some true ∧ ls[i]? = some l ∧ l.1 ≠ 1
  · obtain ⟨i, l, hi, hli, hk⟩ := hf
    refine ⟨i, hi, fun j u hj hu hku v hv => ?_⟩
    rw [List.getElem?_set] at hu
    by_cases e : i = j
    · rw [if_pos e] at hu
      split at hu <;> cases hu
    · rw [if_neg e] at hu
      obtain ⟨m, x, h1, h2, h3, h4⟩ := h j u hj hu hku v hv
      refine ⟨m, x, h1, ?_, h3, h4⟩
      have : i ≠ m := fun e => by
        subst e
        rw [hli] at h1; cases h1
        exact hk h3
      rw [List.getElem?_set, if_neg this]; exact h2
  · obtain ⟨i, hi⟩ := hne
    refine ⟨i, hi, fun j u hj hu hku v hv => absurd ⟨j, u, ?_, hj, hku⟩ hf⟩
    rw [List.getElem?_set] at hu
    by_cases e : i = j
    · rw [if_pos e] at hu
      split at hu <;> cases hu
    · rw [if_neg e] at hu; exact hu
theorem plan_some (S : List StatZ) (ls : List LitZ) : ∀ (s : Nat), s < 2 ^ ls.length → stands ls (bitsS ls.length s) → (planS S ls s).isSome = true := by
  intro s
  induction s using Nat.strongRecOn with
  | _ s ih =>
    intro hlt hs
    rw [plan_eq]
    unfold rowP
    by_cases h0 : s = 0
    · rw [if_pos h0]; rfl
    · rw [if_neg h0, if_pos hs]
      obtain ⟨i0, hi0, hb0⟩ := bits_some h0 hlt
      obtain ⟨i, hi, hst⟩ := stands_drop (bits_len _ _) hs ⟨i0, by rw [bits_at hi0, hb0]⟩
      have hin : i < ls.length := by rw [← bits_len ls.length s]; exact (List.getElem?_eq_some_iff.1 hi).1
      rw [bits_at hin] at hi
      have hb : s.testBit i = true := by simpa using hi
      have hle := (subBit i s hb).1
      have hp := Nat.two_pow_pos i
      refine leastP_some hin ?_
      unfold candP
      rw [if_pos hb, Option.isSome_map]
      exact ih _ (by omega) (by omega) (by rw [bits_sub hb]; exact hst)
theorem names_bound (v : ByteArray) : ∀ (ls : List LitZ) (N : List ByteArray), hasT (ls.foldl namesL N) v = true → hasT N v = true ∨ ∃ l ∈ ls, l.1 = 1 ∧ v ∈ varsT (termsOf l)
  | [], N, h => .inl h
  | l :: ls, N, h => by
    rcases names_bound v ls _ h with h | ⟨l', hl, h⟩
    · unfold namesL at h
      split at h
      · rename_i h1
        have ht : ∀ (ts : List TermZ) (N : List ByteArray), hasT (namesT N ts) v = true → hasT N v = true ∨ v ∈ varsT ts := by
          intro ts
          induction ts with
          | nil => intro N h; exact .inl h
          | cons t ts ih =>
            intro N h
            rcases ih _ h with h | h
            · unfold addName at h
              split at h
              · rename_i hk
                rw [hasT_iff, List.mem_append, List.mem_singleton] at h
                rcases h with h | h
                · exact .inl (hasT_iff.2 h)
                · refine .inr ?_
                  unfold varsT
                  rw [List.filterMap_cons, if_pos hk.1, h]
                  exact List.mem_cons_self
              · exact .inl h
            · refine .inr ?_
              unfold varsT at h ⊢
              rw [List.filterMap_cons]
              split
              · exact h
              · exact List.mem_cons_of_mem _ h
        rcases ht _ _ h with h | h
        · exact .inl h
        · exact .inr ⟨l, List.mem_cons_self, h1, h⟩
      · exact .inl h
    · exact .inr ⟨l', List.mem_cons_of_mem _ hl, h⟩
theorem safeT_bound {N : List ByteArray} {b : Bool} {t : TermZ} (h : safeT N b t = true) (h1 : t.1 = 1) : hasT N t.2.1 = true := by
  unfold safeT at h
  rw [if_neg (by omega), decide_eq_true_eq] at h
  rcases h with h | h | h
  · omega
  · omega
  · exact h
theorem full_stands {r : RuleZ} (h : checkR r = 0) : stands r.2.1 (List.replicate r.2.1.length true) := by
  unfold checkR at h
  have hp : parted r = true := by
    by_cases e : parted r = true
    · exact e
    · rw [if_neg e] at h; cases h
  rw [if_pos hp] at h
  have hs : safeR r = true := by
    by_cases e : safeR r = true
    · exact e
    · rw [if_neg e] at h; cases h
  intro i l hi _ hk v hv
  have hmem := List.mem_of_getElem? hi
  have hlit : litOk l = true := by
    unfold parted at hp
    rw [Bool.and_eq_true, List.all_eq_true] at hp
    exact hp.2 l hmem
  have hsafe : safeL (namesB r.2.1) l = true := by
    unfold safeR at hs
    rw [Bool.and_eq_true, List.all_eq_true, List.all_eq_true] at hs
    exact hs.2 l hmem
  have hN : hasT (namesB r.2.1) v = true := by
    obtain ⟨j, t, hj, ht1, rfl⟩ := mem_varsT.1 hv
    unfold safeL at hsafe
    by_cases h3 : l.1 = 3
    · rw [if_pos h3, Bool.and_eq_true] at hsafe
      unfold asks at hj
      rw [if_neg (by omega)] at hj
      have hm := List.mem_of_getElem? hj
      rw [List.mem_cons, List.mem_singleton] at hm
      rcases hm with rfl | rfl
      · exact safeT_bound hsafe.1 ht1
      · exact safeT_bound hsafe.2 ht1
    · rw [if_neg h3] at hsafe
      by_cases h2 : l.1 = 2
      · rw [if_pos h2, List.all_eq_true] at hsafe
        unfold asks at hj
        rw [if_pos h2] at hj
        exact safeT_bound (hsafe t (List.mem_of_getElem? hj)) ht1
      · unfold litOk at hlit
        rw [if_neg (by omega), if_neg h3] at hlit
        cases hlit
  rcases names_bound v r.2.1 [] hN with h | ⟨x, hx, hx1, hxv⟩
  · cases h
  · obtain ⟨m, hm⟩ := List.mem_iff_getElem?.1 hx
    refine ⟨m, x, hm, ?_, hx1, hxv⟩
    rw [List.getElem?_replicate, if_pos (List.getElem?_eq_some_iff.1 hm).1]
noncomputable def bestE (r : RuleZ) (S : List StatZ) : List Int × Nat × Nat := if errR r S = 0 then if 12 < r.2.1.length then ([], 0, 3) else match planS S r.2.1 (2 ^ r.2.1.length - 1) with
  | some p => (p.1, p.2, 0)
  | none => ([], 0, 0) else ([], 0, errR r S)
theorem best_some {r : RuleZ} {S : List StatZ} (h : checkR r = 0) : ∃ p, planS S r.2.1 (2 ^ r.2.1.length - 1) = some p := by
  have hp := Nat.two_pow_pos r.2.1.length
  have h1 := plan_some S r.2.1 (2 ^ r.2.1.length - 1) (by omega) (by rw [bits_all]; exact full_stands h)
  exact Option.isSome_iff_exists.1 h1
open Classical in
noncomputable def candG (S : List StatZ) (ls : List LitZ) (inn : List Bool) (i : Nat) : Option Plan := if inn[i]? = some false ∧ stands ls (inn.set i true) then some ([(i : Int)], guessW S ls (inn.set i true)) else none
noncomputable def nextG (S : List StatZ) (ls : List LitZ) (inn : List Bool) : Option Plan := leastP (candG S ls inn) ls.length
abbrev GreedZ := List Int × Nat × List Bool
noncomputable def stepG (S : List StatZ) (ls : List LitZ) (x : GreedZ) : GreedZ := match nextG S ls x.2.2 with
  | some p => (x.1 ++ [p.1.headD 0], fadd x.2.1 p.2, x.2.2.set (p.1.headD 0).toNat true)
  | none => x
noncomputable def greedG (S : List StatZ) (ls : List LitZ) : Nat → GreedZ
  | 0 => ([], 0, List.replicate ls.length false)
  | k + 1 => stepG S ls (greedG S ls k)
noncomputable def greedyE (r : RuleZ) (S : List StatZ) : List Int × Nat × Nat := if errR r S = 0 then ((greedG S r.2.1 r.2.1.length).1, (greedG S r.2.1 r.2.1.length).2.1, 0) else ([], 0, errR r S)
theorem stands_more {ls : List LitZ} {inn : List Bool} (hl : inn.length = ls.length) (hall : stands ls (List.replicate ls.length true)) (h : stands ls inn) (hne : ∃ i : Nat, inn[i]? = some false) : ∃ i : Nat, inn[i]? = some false ∧ stands ls (inn.set i true) := by
  by_cases hf : ∃ (i : Nat) (l : LitZ), inn[i]? = some false ∧ ls[i]? = some l ∧ l.1 = 1
  · obtain ⟨i, l, hi, hli, hk⟩ := hf
    refine ⟨i, hi, fun j u hj hu hku v hv => ?_⟩
    have hij : i ≠ j := fun e => by
      subst e
      rw [hli] at hj; cases hj
      exact hku hk
    rw [List.getElem?_set, if_neg hij] at hu
    obtain ⟨m, x, h1, h2, h3, h4⟩ := h j u hj hu hku v hv
    refine ⟨m, x, h1, ?_, h3, h4⟩
    rw [List.getElem?_set]
    by_cases e : i = m
    · rw [if_pos e, if_pos (List.getElem?_eq_some_iff.1 hi).1]
    · rw [if_neg e]; exact h2
  · obtain ⟨i, hi⟩ := hne
    refine ⟨i, hi, fun j u hj hu hku v hv => ?_⟩
    have hjl : j < ls.length := (List.getElem?_eq_some_iff.1 hj).1
    obtain ⟨m, x, h1, h2, h3, h4⟩ := hall j u hj (by rw [List.getElem?_replicate, if_pos hjl]) hku v hv
    refine ⟨m, x, h1, ?_, h3, h4⟩
    have hml : m < ls.length := (List.getElem?_eq_some_iff.1 h1).1
    rw [List.getElem?_set]
    by_cases e : i = m
    · rw [if_pos e, if_pos (List.getElem?_eq_some_iff.1 hi).1]
    · rw [if_neg e]
      have hm : inn[m]? = some inn[m] := List.getElem?_eq_getElem (by omega)
      rw [hm]
      cases hb : inn[m] with
      | true => rfl
      | false => exact absurd ⟨m, x, by rw [hm, hb], h1, h3⟩ hf
theorem stands_none {ls : List LitZ} (n : Nat) : stands ls (List.replicate n false) := fun i l _ h => by
  rw [List.getElem?_replicate] at h
  split at h <;> cases h
structure GreedOk (ls : List LitZ) (k : Nat) (x : GreedZ) : Prop where
  len : x.1.length = k
  inn : x.2.2.length = ls.length
  st : stands ls x.2.2
  count : x.2.2.countP id = k
  set : setW ls.length x.1 = some x.2.2
  cost : x.2.1 ≤ infW
theorem candG_some {S : List StatZ} {ls : List LitZ} {inn : List Bool} {i : Nat} {p : Plan} (h : candG S ls inn i = some p) : p = ([(i : Int)], guessW S ls (inn.set i true)) ∧ inn[i]? = some false ∧ stands ls (inn.set i true) := by
  unfold candG at h
  split at h
  · rename_i hc
    cases h
    exact ⟨rfl, hc.1, hc.2⟩
  · cases h
theorem count_set {xs : List Bool} {i : Nat} (h : xs[i]? = some false) : (xs.set i true).countP id = xs.countP id + 1 := by
  induction xs generalizing i with
  | nil => cases h
  | cons b xs ih =>
    cases i with
    | zero =>
      have : b = false := by simpa using h
      subst this
      simp
    | succ i =>
      have h' : xs[i]? = some false := by simpa using h
      rw [List.set_cons_succ, List.countP_cons, List.countP_cons, ih h']; omega
theorem setW_snoc {n : Nat} {xs : List Int} {inn : List Bool} {i : Nat} (h : setW n xs = some inn) (hi : inn[i]? = some false) : setW n (xs ++ [(i : Int)]) = some (inn.set i true) := by
  unfold setW at h ⊢
  rw [List.foldl_append, h]
  show putNum (some inn) (i : Int) = _
  unfold putNum
  simp only [Int.toNat_natCast]
  rw [if_pos ⟨by omega, hi⟩]
theorem next_some {S : List StatZ} {ls : List LitZ} (hall : stands ls (List.replicate ls.length true)) {k : Nat} (hk : k < ls.length) {x : GreedZ} (h : GreedOk ls k x) : ∃ (i : Nat), i < ls.length ∧ x.2.2[i]? = some false ∧ stands ls (x.2.2.set i true) ∧ nextG S ls x.2.2 = some ([(i : Int)], guessW S ls (x.2.2.set i true)) := by
  have hne : ∃ i : Nat, x.2.2[i]? = some false := by
    by_cases e : ∃ i : Nat, x.2.2[i]? = some false
    · exact e
    · have hc : x.2.2.countP id = x.2.2.length := List.countP_eq_length.2 fun b hb => by
        obtain ⟨i, hi⟩ := List.mem_iff_getElem?.1 hb
        cases b with
        | true => rfl
        | false => exact absurd ⟨i, hi⟩ e
      rw [h.count, h.inn] at hc
      omega
  obtain ⟨i, hi, hst⟩ := stands_more h.inn hall h.st hne
  have hil : i < ls.length := by rw [← h.inn]; exact (List.getElem?_eq_some_iff.1 hi).1
  have hs : (nextG S ls x.2.2).isSome = true := leastP_some hil (by unfold candG; rw [if_pos ⟨hi, hst⟩]; rfl)
  obtain ⟨p, hp⟩ := Option.isSome_iff_exists.1 hs
  obtain ⟨j, hj, hq⟩ := leastP_mem hp
  obtain ⟨rfl, h1, h2⟩ := candG_some hq
  exact ⟨j, hj, h1, h2, hp⟩
theorem step_ok {S : List StatZ} {ls : List LitZ} (K : Known S ls) (hall : stands ls (List.replicate ls.length true)) {k : Nat} (hk : k < ls.length) {x : GreedZ} (h : GreedOk ls k x) : GreedOk ls (k + 1) (stepG S ls x) := by
  obtain ⟨i, hi, h1, h2, h3⟩ := next_some (S := S) hall hk h
  unfold stepG
  rw [h3]
  simp only [List.headD_cons, Int.toNat_natCast]
  exact ⟨by rw [List.length_append, h.len]; rfl, by rw [List.length_set]; exact h.inn, h2, by rw [count_set h1, h.count], setW_snoc h.set h1, fadd_le h.cost (guessW_le K _)⟩
theorem greed_ok {S : List StatZ} {ls : List LitZ} (K : Known S ls) (hall : stands ls (List.replicate ls.length true)) : ∀ {k : Nat}, k ≤ ls.length → GreedOk ls k (greedG S ls k)
  | 0, _ => ⟨rfl, List.length_replicate, stands_none _, by show List.countP id (List.replicate _ false) = 0; rw [List.countP_eq_zero]; intro b hb; rw [(List.mem_replicate.1 hb).2]; simp, rfl, Nat.zero_le _⟩
  | k + 1, hk => step_ok K hall (by omega) (greed_ok K hall (by omega))
end Go.Proofs.YtomeebimmmfmbaaGreat

/- Orders compared: cmp.Compare, slices.Compare, less, better. -/
namespace Go.Proofs.YtomeebimmmfmbaaGreat
open Go.RowKit
set_option linter.unusedVariables false
attribute [local go_sem] run_store_float
theorem lexLt_at : ∀ {i : Nat} {xs ys : List Int} {x y : Int}, (∀ j, j < i → xs[j]? = ys[j]?) → xs[i]? = some x → ys[i]? = some y → x ≠ y → lexLt xs ys = decide (x < y)
  | 0, a :: xs, b :: ys, x, y, _, hx, hy, hne => by
    cases hx; cases hy
    show (if a = b then _ else _) = _
    rw [if_neg hne]
  | i + 1, a :: xs, b :: ys, x, y, h, hx, hy, hne => by
    have h0 := h 0 (by omega)
    have e : a = b := by simpa using h0
    show (if a = b then lexLt xs ys else _) = _
    rw [if_pos e]
    exact lexLt_at (i := i) (fun j hj => by simpa using h (j + 1) (by omega)) (by simpa using hx) (by simpa using hy) hne
  | 0, [], _, _, _, _, hx, _, _ => by cases hx
  | _ + 1, [], _, _, _, _, hx, _, _ => by simp at hx
  | 0, _ :: _, [], _, _, _, _, hy, _ => by cases hy
  | _ + 1, _ :: _, [], _, _, _, _, hy, _ => by simp at hy
theorem lexLt_same : ∀ (xs : List Int), lexLt xs xs = false
  | [] => rfl
  | x :: xs => by
    show (if x = x then lexLt xs xs else _) = _
    rw [if_pos rfl]; exact lexLt_same xs
theorem eq_upto {xs ys : List Int} {n : Nat} (hx : xs.length = n) (hy : ys.length = n) (h : ∀ j, j < n → xs[j]? = ys[j]?) : xs = ys := by
  apply List.ext_getElem?
  intro j
  by_cases hj : j < n
  · exact h j hj
  · rw [List.getElem?_eq_none_iff.2 (by omega), List.getElem?_eq_none_iff.2 (by omega)]
theorem cmpInt_any (x y : Int) (w : World) : Calls Tryz.prog 124 #[.int .i64 x, .int .i64 y] w (RetN w fun w' v => v = .int .i64 (if x < y then -1 else if y < x then 1 else 0)) := by
  have q1 : (x != x) = false := by simp
  have q2 : (y != y) = false := by simp
  have HN : ∀ (z : Int) (W : World), Calls Tryz.prog 146 #[.int .i64 z] W (RetN W fun w' v => v = .bool false) := fun z W => by
    have q1 : (z != z) = false := by simp
    go_enter Tryz.func146, Tryz.ntmps146
    go_wp2
    go_ret
    exact RetN.mk (Kp.refl _) rfl
  have HN := Lib.hid HN
  go_enter Tryz.func124, Tryz.ntmps124
  go_wp2_with fail
  refine (HN.out _ _).mono ?_
  rintro e w1 ⟨v, rfl, hk1, rfl⟩
  go_wp2_with fail
  refine (HN.out _ _).mono ?_
  rintro e w2 ⟨v, rfl, hk2, rfl⟩
  have X2 := Lib.hid (hk1.trans hk2)
  clear hk1 hk2
  by_cases h1 : x < y
  · go_wp2
    go_ret
    exact RetN.mk X2.out (by first | rfl | (simp [h1]; done))
  · have HH1 := Lib.hid h1
    by_cases h2 : y < x
    · go_wp2
      go_ret
      exact RetN.mk X2.out (by first | rfl | (simp [h1, h2]; done) | (have h3 : ¬ x < y := h1; simp [h3, h2]))
    · go_wp2
      go_ret
      exact RetN.mk X2.out (by first | rfl | (simp [h1, h2]; done))
def AlikeI (xs ys : List Int) (w0 : World) (n : Nat) (iv : Value) (w : World) : Prop := ∃ i : Nat, i ≤ n ∧ iv = .int .i64 i ∧ Hid (∀ j, j < i → xs[j]? = ys[j]?) ∧ Hid (Ext w0 w)
theorem alike_succ {xs ys : List Int} {i : Nat} {x y : Int} (h : ∀ j, j < i → xs[j]? = ys[j]?) (hx : xs[i]? = some x) (hy : ys[i]? = some y) (e : x = y) : ∀ j, j < i + 1 → xs[j]? = ys[j]? := fun j hj => by
  by_cases h1 : j = i
  · subst h1; rw [hx, hy, e]
  · exact h j (by omega)
set_option maxRecDepth 100000 in
set_option maxHeartbeats 1000000 in
theorem compare_any (xs ys : List Int) (ao bo : Option Addr) (n acap bcap : Nat) (w : World) (hx : xs.length = n) (hy : ys.length = n) (ha : CellsAt w ao (ints xs)) (hb : CellsAt w bo (ints ys)) (hl : n ≤ 4611686018427387904) :
    Calls Tryz.prog 87 #[.slice ao n acap, .slice bo n bcap] w (RetN w fun w' v => ∃ z : Int, v = .int .i64 z ∧ decide (z < 0) = lexLt xs ys) := by
  have HX := Lib.hid hx; have HY := Lib.hid hy; have HA := Lib.hid ha; have HB := Lib.hid hb
  clear hx hy ha hb
  go_enter Tryz.func87, Tryz.ntmps87
  go_wp2
  go_loopw [11] (fun iv wr => AlikeI xs ys w n iv wr) (fun iv _ => n - (intOf iv).toNat)
  case atStart => exact ⟨0, Nat.zero_le _, rfl, fun j hj => by omega, Kp.refl w⟩
  case round =>
    obtain ⟨i, hi, rfl, heq, hex⟩ := hrel
    by_cases hlt : i < n
    · have h1 : i < xs.length := by rw [HX.out]; exact hlt
      have h2 : i < ys.length := by rw [HY.out]; exact hlt
      obtain ⟨g1, o1, e1, d1⟩ := (HA.out.ext hex.out).int h1
      obtain ⟨g2, o2, e2, d2⟩ := (HB.out.ext hex.out).int h2
      subst e1 e2
      have HG := Lib.hid (And.intro (List.getElem?_eq_getElem h1) (List.getElem?_eq_getElem h2))
      generalize xs[i] = x at *
      generalize ys[i] = y at *
      clear h1 h2
      go_wp2_with fail
      refine (cmpInt_any x y wr).mono ?_
      rintro e w1 ⟨v, rfl, hk1, rfl⟩
      have X1 := Lib.hid (hex.out.trans hk1)
      clear hk1 d1 d2
      by_cases hxy : x = y
      · have q : (if x < y then (-1 : Int) else if y < x then 1 else 0) = 0 := by rw [if_neg (by omega), if_neg (by omega)]
        rw [q]
        have HN := Lib.hid (alike_succ heq.out HG.out.1 HG.out.2 hxy)
        clear q hxy
        go_wp2
        go_roundw
        case rel => exact ⟨i + 1, by omega, by first | rfl | (congr 1; done) | (congr 1; omega), HN, X1⟩
        case measure => simp [intOf]; omega
      · have hlex := lexLt_at heq.out HG.out.1 HG.out.2 hxy
        obtain ⟨z, ez, hz0, hzl⟩ : ∃ z : Int, (if x < y then (-1 : Int) else if y < x then 1 else 0) = z ∧ (z != 0) = true ∧ decide (z < 0) = decide (x < y) := by
          refine ⟨_, rfl, ?_⟩
          by_cases h1 : x < y
          · rw [if_pos h1]; simp [h1]
          · rw [if_neg h1, if_pos (by omega)]; simp [h1]
        rw [ez]
        have HL := Lib.hid (hzl.trans hlex.symm)
        have hz1 : ¬ z = 0 := by simpa using hz0
        clear ez hzl hlex hxy
        go_wp2
        go_ret
        exact RetN.mk X1.out ⟨z, rfl, HL.out⟩
    · obtain rfl : i = n := by omega
      have e := eq_upto HX.out HY.out heq.out
      have HL := Lib.hid (show lexLt xs ys = false by rw [e]; exact lexLt_same _)
      clear e
      go_wp2
      go_ret
      exact RetN.mk hex.out ⟨0, rfl, HL.out.symm⟩
set_option maxRecDepth 100000 in
set_option maxHeartbeats 1000000 in
theorem better_any (xs ys : List Int) (c d : Nat) (ao bo : Option Addr) (n acap bcap : Nat) (w : World) (hx : xs.length = n) (hy : ys.length = n) (ha : CellsAt w ao (ints xs)) (hb : CellsAt w bo (ints ys)) (hc : c ≤ infW) (hd : d ≤ infW) (hl : n ≤ 4611686018427387904) :
    Calls Tryz.prog 49 #[.agg #[.slice ao n acap, .float .f64 c], .agg #[.slice bo n bcap, .float .f64 d]] w (RetN w fun w' v => v = .bool (betterP (xs, c) (ys, d))) := by
  have HC := Lib.hid (fun (W : World) (hW : Ext w W) => compare_any xs ys ao bo n acap bcap W hx hy (ha.ext hW) (hb.ext hW) hl)
  have ho : (FloatKind.format .f64).order c d = some (compare c d) := order_pos hc hd
  clear hx hy ha hb hc hd
  have hB1 := (Blk.new w [.slice ao n acap, .float .f64 c] 110).alloc (.cells #[.slice bo n bcap, .float .f64 d] 110)
  have XB := Lib.hid (show Ext w ((w.alloc (.cells #[.slice ao n acap, .float .f64 c] 110)).alloc (.cells #[.slice bo n bcap, .float .f64 d] 110)) from ((Kp.refl w).alloc _).alloc _)
  clear hB1
  rcases Nat.lt_trichotomy c d with h | h | h
  · rw [Nat.compare_eq_lt.2 h] at ho
    have HR := Lib.hid (show betterP (xs, c) (ys, d) = true by unfold betterP; rw [decide_eq_true h]; rfl)
    clear h
    go_enter Tryz.func49, Tryz.ntmps49
    go_wp2
    go_ret
    exact RetN.mk XB.out (congrArg Value.bool HR.out.symm)
  · subst h
    rw [Nat.compare_eq_eq.2 rfl] at ho
    have HR := Lib.hid (show betterP (xs, c) (ys, c) = lexLt xs ys by unfold betterP; simp)
    go_enter Tryz.func49, Tryz.ntmps49
    go_wp2_with fail
    refine (HC.out _ XB.out).mono ?_
    rintro e w1 ⟨v, rfl, hk1, z, rfl, hz⟩
    have X1 := Lib.hid (XB.out.trans hk1)
    have HZ := Lib.hid hz
    clear hk1 hz
    go_wp2
    go_ret
    exact RetN.mk X1.out (congrArg Value.bool (by first | exact HZ.out.trans HR.out.symm | (rw [HR.out, ← HZ.out])))
  · rw [Nat.compare_eq_gt.2 h] at ho
    have HR := Lib.hid (show betterP (xs, c) (ys, d) = false by
      unfold betterP
      rw [decide_eq_false (show ¬ c < d by omega), decide_eq_false (show ¬ c = d by omega)]; rfl)
    clear h
    go_enter Tryz.func49, Tryz.ntmps49
    go_wp2
    go_ret
    exact RetN.mk XB.out (congrArg Value.bool HR.out.symm)
end Go.Proofs.YtomeebimmmfmbaaGreat

/- Plans in memory; the best of several: leastOf. -/
namespace Go.Proofs.YtomeebimmmfmbaaGreat
open Go.RowKit
set_option linter.unusedVariables false
attribute [local go_sem] run_store_float
def PlanAt (w : World) (M : Nat → Prop) (b : Nat) (p : Plan) : Prop := ∃ ov, Blk w b [ov, .float .f64 p.2] 110 ∧ Row w 3 1 ov p.1.length (ints p.1) M
def PlanO (w : World) (M : Nat → Prop) (v : Value) : Option Plan → Prop
  | none => v = .pointer none
  | some p => ∃ b, v = .pointer (some ⟨b, 0, none⟩) ∧ PlanAt w M b p
theorem PlanAt.mono {w : World} {M M' : Nat → Prop} {b : Nat} {p : Plan} (h : PlanAt w M b p) (hM : ∀ g, M g → M' g) : PlanAt w M' b p := by
  obtain ⟨ov, h1, h2⟩ := h
  exact ⟨ov, h1, h2.mono hM⟩
theorem PlanO.mono {w : World} {M M' : Nat → Prop} {v : Value} {o : Option Plan} (h : PlanO w M v o) (hM : ∀ g, M g → M' g) : PlanO w M' v o := by
  cases o with
  | none => exact h
  | some p =>
    obtain ⟨b, e, h⟩ := h
    exact ⟨b, e, h.mono hM⟩
def NoPlan (w : World) (F : Nat → Prop) : Prop := ∀ k cs e, Blk w k cs e → F k → e ≠ 110 ∧ e ≠ 3
theorem PlanAt.kp {F M : Nat → Prop} {w w' : World} {b : Nat} {p : Plan} (h : PlanAt w M b p) (hk : Kp F w w') (hF : NoPlan w F) : PlanAt w' M b p := by
  obtain ⟨ov, h1, h2⟩ := h
  refine ⟨ov, h1.kp hk fun hf => (hF _ _ _ h1 hf).1 rfl, h2.kp' hk fun g hg _ hf => ?_⟩
  obtain ⟨cs, hb⟩ := h2.blkOf hg
  exact (hF _ _ _ hb hf).2 rfl
theorem PlanO.kp {F M : Nat → Prop} {w w' : World} {v : Value} {o : Option Plan} (h : PlanO w M v o) (hk : Kp F w w') (hF : NoPlan w F) : PlanO w' M v o := by
  cases o with
  | none => exact h
  | some p =>
    obtain ⟨b, e, h⟩ := h
    exact ⟨b, e, h.kp hk hF⟩
theorem noPlan_none (w : World) : NoPlan w (fun _ => False) := fun k cs e _ h => h.elim
theorem PlanO.ext {M : Nat → Prop} {w w' : World} {v : Value} {o : Option Plan} (h : PlanO w M v o) (hk : Ext w w') : PlanO w' M v o := h.kp hk (noPlan_none w)
theorem PlanAt.ext {M : Nat → Prop} {w w' : World} {b : Nat} {p : Plan} (h : PlanAt w M b p) (hk : Ext w w') : PlanAt w' M b p := h.kp hk (noPlan_none w)
def MadeT (f : FuncId) (first captured : Array Value) (I : World → Prop) (F : Nat → Prop) (n : Nat) (q : Nat → Option Plan) : Prop :=
  (∀ args w, (callFunc f args).run Tryz.prog w = .ok (Next.enter f args) w) ∧ (∀ w, I w → NoPlan w F) ∧ (∀ w w', I w → Ext w w' → I w') ∧
  ∀ w, I w → ∀ i : Nat, i < n → Calls Tryz.prog f (first.push (.int .i64 i) ++ captured) w (fun e w' => ∃ v, e = .returned v ∧ I w' ∧ Kp F w w' ∧ PlanO w' (New w) v (q i))
def LeastPTo (q : Nat → Option Plan) (I : World → Prop) (F : Nat → Prop) (w0 : World) (n : Nat) (iv bv : Value) (w : World) : Prop := ∃ (i : Nat) (b0 : Value), i ≤ n ∧ iv = .int .i64 i ∧ b0 = bv ∧ Hid (I w) ∧ Hid (Kp F w0 w) ∧ Hid (PlanO w (New w0) b0 (leastP q i))
theorem PlanO.cases {w : World} {M : Nat → Prop} {v : Value} {o : Option Plan} (h : PlanO w M v o) : (v = .pointer none ∧ o = none) ∨ ∃ p b, o = some p ∧ v = .pointer (some ⟨b, 0, none⟩) ∧ PlanAt w M b p := by
  cases o with
  | none => exact .inl ⟨h, rfl⟩
  | some p =>
    obtain ⟨b, e, h⟩ := h
    exact .inr ⟨p, b, rfl, e, h⟩
theorem PlanAt.cells {w : World} {M : Nat → Prop} {b : Nat} {p : Plan} (h : PlanAt w M b p) : ∃ oa ocap, w.cell? ⟨b, 0, none⟩ = some (.slice oa p.1.length ocap) ∧ w.cell? ⟨b, 1, none⟩ = some (.float .f64 p.2) ∧ CellsAt w oa (ints p.1) ∧ p.1.length ≤ ocap ∧ ocap ≤ maxLen := by
  obtain ⟨ov, h1, h2⟩ := h
  obtain ⟨oa, ocap, rfl, h3, h4, h5⟩ := h2.cap
  exact ⟨oa, ocap, by rw [h1.cell']; rfl, by rw [h1.cell']; rfl, h3, h4, h5⟩
set_option maxRecDepth 100000 in
set_option maxHeartbeats 4000000 in
theorem leastOf_any (f : FuncId) (first captured : Array Value) (I : World → Prop) (F : Nat → Prop) (n : Nat) (q : Nat → Option Plan) (L : Nat) (w : World) (hI : I w) (hM : MadeT f first captured I F n q) (hq : ∀ i p, i < n → q i = some p → p.2 ≤ infW ∧ p.1.length = L) (hL : L ≤ 1048576) (hn : n ≤ 1048576) :
    Calls Tryz.prog 46 #[.int .i64 n, .func (Fn.func f) first captured, .func (Fn.func 49) #[] #[]] w (fun e w' => ∃ v, e = .returned v ∧ I w' ∧ Kp F w w' ∧ PlanO w' (New w) v (leastP q n)) := by
  have hent := hM.1
  have hentB : ∀ args w, (callFunc 49 args).run Tryz.prog w = .ok (Next.enter 49 args) w := enters_of Tryz.func49 (by kernel_rfl) rfl
  have HM := Lib.hid hM.2
  have HQ := Lib.hid hq
  have HI := Lib.hid hI
  clear hM hq hI
  go_enter Tryz.func46, Tryz.ntmps46
  go_wp2
  go_loopw [11, 7] (fun iv bv wr => LeastPTo q I F w n iv bv wr) (fun iv _ _ => n - (intOf iv).toNat)
  case atStart => exact ⟨0, _, Nat.zero_le _, rfl, rfl, HI.out, Kp.refl w, rfl⟩
  case round =>
    clear HI
    obtain ⟨i, b0, hi, rfl, rfl, hIr, hkr, hbr⟩ := hrel
    by_cases hlt : i < n
    · have HC := Lib.hid (HM.out.2.2 wr hIr.out i hlt)
      go_wp2_with fail
      refine HC.out.mono ?_
      rintro e w1 ⟨v, rfl, hI1, hk1, ho1⟩
      have I1 := Lib.hid hI1
      have X1 := Lib.hid (hkr.out.trans hk1)
      have HN1 := Lib.hid (HM.out.1 _ hIr.out)
      have HB1 := Lib.hid (hbr.out.kp hk1 HN1.out)
      have HO1 := Lib.hid (show PlanO w1 (New w) v (q i) from ho1.mono fun g hg => Nat.le_trans hkr.out.size hg)
      clear hI1 hk1 ho1 hIr hkr hbr HC
      rcases HO1.out.cases with ⟨rfl, hqi⟩ | ⟨p, b, hqi, rfl, hp⟩
      · have HFin := Lib.hid (show PlanO w1 (New w) b0 (leastP q (i + 1)) by
          show PlanO w1 _ _ (pickP (leastP q i) (q i))
          rw [hqi]
          have e : pickP (leastP q i) none = leastP q i := by cases leastP q i <;> rfl
          rw [e]; exact HB1.out)
        clear hqi
        go_wp2
        go_quiet (fail)
        go_wp2
        go_roundw
        case rel => exact ⟨i + 1, _, by omega, by first | rfl | (congr 1; done) | (congr 1; omega), rfl, HM.out.2.1 _ _ I1.out ((Kp.refl w1).drewN _), X1.out.drewN _, HFin.out.ext ((Kp.refl w1).drewN _)⟩
        case measure => simp [intOf]; omega
      · rcases HB1.out.cases with ⟨rfl, hb0⟩ | ⟨p2, b2, hb0, rfl, hp2⟩
        · have HFin := Lib.hid (show PlanO w1 (New w) (.pointer (some ⟨b, 0, none⟩)) (leastP q (i + 1)) by
            show PlanO w1 _ _ (pickP (leastP q i) (q i))
            rw [hqi, hb0]; exact ⟨b, rfl, hp⟩)
          clear hqi hb0 hp HB1 HO1
          go_wp2
          go_quiet (fail)
          go_wp2
          go_roundw
          case rel => exact ⟨i + 1, _, by omega, by first | rfl | (congr 1; done) | (congr 1; omega), rfl, HM.out.2.1 _ _ I1.out ((Kp.refl w1).drewN _), X1.out.drewN _, HFin.out.ext ((Kp.refl w1).drewN _)⟩
          case measure => simp [intOf]; omega
        · obtain ⟨a1, k1, c1, c2, c3, c4, c5⟩ := hp.cells
          obtain ⟨a2, k2, d1, d2, d3, d4, d5⟩ := hp2.cells
          obtain ⟨j, hj, hqj⟩ := leastP_mem hb0
          have hL1 := HQ.out i p hlt hqi
          have hL2 := HQ.out j p2 (by omega) hqj
          have HCall := Lib.hid (fun (W : World) (hW : Ext w1 W) => better_any p.1 p2.1 p.2 p2.2 a1 a2 L k1 k2 W hL1.2 hL2.2 (c3.ext hW) (d3.ext hW) hL1.1 hL2.1 (by omega))
          have HStep := Lib.hid (show ∀ r, betterP p p2 = r → leastP q (i + 1) = if r = true then some p else some p2 from fun r hr => by
            show pickP (leastP q i) (q i) = _
            rw [hqi, hb0, ← hr]
            rfl)
          have HPs := Lib.hid (And.intro hp hp2)
          rw [hL1.2] at c1
          rw [hL2.2] at d1
          generalize hp2c : p.2 = pc at *
          generalize hp22 : p2.2 = pd at *
          obtain ⟨r, er⟩ : ∃ r, betterP (p.1, pc) (p2.1, pd) = r := ⟨_, rfl⟩
          have ER := Lib.hid (show betterP p p2 = r from by rw [← er, ← hp2c, ← hp22])
          have HCells := Lib.hid (show ∀ w', Ext w1 w' → (fun w' : World => w'.cell? ⟨b, 0, none⟩ = some (.slice a1 L k1) ∧ w'.cell? ⟨b, 1, none⟩ = some (.float .f64 pc) ∧ w'.cell? ⟨b2, 0, none⟩ = some (.slice a2 L k2) ∧ w'.cell? ⟨b2, 1, none⟩ = some (.float .f64 pd)) w' from fun w' hw => ⟨hw.cell c1 id, hw.cell c2 id, hw.cell d1 id, hw.cell d2 id⟩)
          have ER2 := Lib.hid er
          clear hqi hqj hb0 hp hp2 HB1 HO1 hL1 hL2 c3 c4 c5 d3 d4 d5 hp2c hp22 er c1 c2 d1 d2 hj
          go_wp2
          refine draw_begin (fun w' : World => w'.cell? ⟨b, 0, none⟩ = some (.slice a1 L k1) ∧ w'.cell? ⟨b, 1, none⟩ = some (.float .f64 pc) ∧ w'.cell? ⟨b2, 0, none⟩ = some (.slice a2 L k2) ∧ w'.cell? ⟨b2, 1, none⟩ = some (.float .f64 pd)) [13] (by kernel_rfl) (HCells.out _ (Kp.refl w1).drew) (fun hHeld => ?_)
          (refine draw_free (i := 0) (v := ?_) rfl ?_ ?_; rotate_left; (intro w; go_simp; try with_reducible rfl)); (try simp only [Act.put, List.setIfInBounds_toArray, List.set_cons_zero, List.set_cons_succ])
          (refine draw_free (i := 1) (v := ?_) rfl ?_ ?_; rotate_left; (intro w; go_simp; try with_reducible rfl)); (try simp only [Act.put, List.setIfInBounds_toArray, List.set_cons_zero, List.set_cons_succ])
          (refine draw_free (i := 2) (v := ?_) rfl ?_ ?_; rotate_left; (intro w; go_simp; try with_reducible rfl)); (try simp only [Act.put, List.setIfInBounds_toArray, List.set_cons_zero, List.set_cons_succ])
          (first | (refine draw_free (i := 3) (v := ?_) rfl ?_ ?_; rotate_left; (intro w; go_simp; try with_reducible rfl)) | (refine draw_out (i := 3) rfl ?_)); (try simp only [Act.put, List.setIfInBounds_toArray, List.set_cons_zero, List.set_cons_succ])
          (first | (refine draw_free (i := 4) (v := ?_) rfl ?_ ?_; rotate_left; (intro w; go_simp; try with_reducible rfl)) | (refine draw_out (i := 4) rfl ?_)); (try simp only [Act.put, List.setIfInBounds_toArray, List.set_cons_zero, List.set_cons_succ])
          (first | (refine draw_free (i := 5) (v := ?_) rfl ?_ ?_; rotate_left; (intro w; go_simp; try with_reducible rfl)) | (refine draw_out (i := 5) rfl ?_)); (try simp only [Act.put, List.setIfInBounds_toArray, List.set_cons_zero, List.set_cons_succ])
          (first | (refine draw_free (i := 6) (v := ?_) rfl ?_ ?_; rotate_left; (intro w; go_simp; try with_reducible rfl)) | (refine draw_out (i := 6) rfl ?_)); (try simp only [Act.put, List.setIfInBounds_toArray, List.set_cons_zero, List.set_cons_succ])
          (first | (refine draw_free (i := 7) (v := ?_) rfl ?_ ?_; rotate_left; (intro w; go_simp; try with_reducible rfl)) | (refine draw_out (i := 7) rfl ?_)); (try simp only [Act.put, List.setIfInBounds_toArray, List.set_cons_zero, List.set_cons_succ])
          (first | (refine draw_free (i := 8) (v := ?_) rfl ?_ ?_; rotate_left; (intro w; go_simp; try with_reducible rfl)) | (refine draw_out (i := 8) rfl ?_)); (try simp only [Act.put, List.setIfInBounds_toArray, List.set_cons_zero, List.set_cons_succ])
          (first | (refine draw_in (i := 9) (v := ?_) rfl ?_ ?_; rotate_left; (intro w hSw; (try dsimp only at hSw); go_simp; try with_reducible rfl)) | (refine draw_out (i := 9) rfl ?_)); (try simp only [Act.put, List.setIfInBounds_toArray, List.set_cons_zero, List.set_cons_succ])
          (first | (refine draw_free (i := 10) (v := ?_) rfl ?_ ?_; rotate_left; (intro w; go_simp; try with_reducible rfl)) | (refine draw_out (i := 10) rfl ?_)); (try simp only [Act.put, List.setIfInBounds_toArray, List.set_cons_zero, List.set_cons_succ])
          (first | (refine draw_free (i := 11) (v := ?_) rfl ?_ ?_; rotate_left; (intro w; go_simp; try with_reducible rfl)) | (refine draw_out (i := 11) rfl ?_)); (try simp only [Act.put, List.setIfInBounds_toArray, List.set_cons_zero, List.set_cons_succ])
          (first | (refine draw_in (i := 12) (v := ?_) rfl ?_ ?_; rotate_left; (intro w hSw; (try dsimp only at hSw); go_simp; try with_reducible rfl)) | (refine draw_out (i := 12) rfl ?_)); (try simp only [Act.put, List.setIfInBounds_toArray, List.set_cons_zero, List.set_cons_succ])
          refine draw_one (i := 13) ?_
          refine comes_late (i := 13) rfl (by kernel_rfl) (fun K hK => ?_)
          go_simp
          (refine (HCall.out _ (Kp.refl w1).drew).mono ?_; rintro e w2 ⟨v, rfl, hk2, rfl⟩; rw [ER2.out]; have X2 := Lib.hid (show Ext w1 w2 from (Kp.refl w1).drew.trans hk2); clear hk2)
          go_wp2_with fail
          refine hK.out _ _ ?_
          clear hK K; (try simp only [Act.put, List.setIfInBounds_toArray, List.set_cons_zero, List.set_cons_succ])
          (first | (refine draw_free (i := 14) (v := ?_) rfl ?_ ?_; rotate_left; (intro w; go_simp; try with_reducible rfl)) | (refine draw_out (i := 14) rfl ?_)); (try simp only [Act.put, List.setIfInBounds_toArray, List.set_cons_zero, List.set_cons_succ])
          (refine draw_free (i := 15) (v := ?_) rfl ?_ ?_; rotate_left; (intro w; go_simp; try with_reducible rfl)); (try simp only [Act.put, List.setIfInBounds_toArray, List.set_cons_zero, List.set_cons_succ])
          refine wpAnyD_done (by kernel_rfl) ?_ _
          have I2 := Lib.hid (HM.out.2.1 _ _ I1.out X2.out)
          have XX := Lib.hid (X1.out.ext X2.out)
          have P2 := Lib.hid (And.intro (HPs.out.1.ext X2.out) (HPs.out.2.ext X2.out))
          clear hHeld HCells HCall I1 X1 X2 HPs
          cases r
          · have HFin := Lib.hid (show PlanO w2 (New w) (.pointer (some ⟨b2, 0, none⟩)) (leastP q (i + 1)) by
              rw [HStep.out _ ER.out]; exact ⟨b2, rfl, P2.out.2⟩)
            go_wp2
            go_roundw
            case rel => exact ⟨i + 1, _, by omega, by first | rfl | (congr 1; done) | (congr 1; omega), rfl, I2, XX, HFin⟩
            case measure => simp [intOf]; omega
          · have HFin := Lib.hid (show PlanO w2 (New w) (.pointer (some ⟨b, 0, none⟩)) (leastP q (i + 1)) by
              rw [HStep.out _ ER.out]; exact ⟨b, rfl, P2.out.1⟩)
            go_wp2
            go_roundw
            case rel => exact ⟨i + 1, _, by omega, by first | rfl | (congr 1; done) | (congr 1; omega), rfl, I2, XX, HFin⟩
            case measure => simp [intOf]; omega
    · obtain rfl : i = n := by omega
      go_wp2
      go_ret
      exact ⟨_, rfl, hIr.out, hkr.out, hbr.out⟩
end Go.Proofs.YtomeebimmmfmbaaGreat

/- cost.Best: the plans' table; the function that makes a plan of a number. -/
namespace Go.Proofs.YtomeebimmmfmbaaGreat
open Go.RowKit
set_option linter.unusedVariables false
attribute [local go_sem] run_store_float
theorem clone_any (xs : List Int) (ao : Option Addr) (cap : Nat) (w : World) (n : Nat) (hn : n = xs.length) (hc : CellsAt w ao (ints xs)) (hm : n ≤ 1048576) :
    Calls Tryz.prog 48 #[.slice ao n cap] w (RetN w fun w' v => Row w' 3 1 v n (ints xs) (New w)) := by
  have hq : ∀ w : World, (binOp .eql 29 (.slice ao n cap) (.slice none 0 0)).run Tryz.prog w = .ok (.bool ao.isNone) w := fun w => Lib.run_eql_slice_nil w _ _ _ _ _ _ _ Tryz.underlying29
  have HNN := Lib.hid (show n = (ints xs).length by rw [ints_len]; exact hn)
  have h1 := Lib.hid (ints_one xs)
  generalize ints xs = vs at *
  clear hn
  have hl : n ≤ maxLen := by unfold maxLen; omega
  cases ao with
  | none =>
    have hv : vs = [] := by
      cases vs with
      | nil => rfl
      | cons x vs => obtain ⟨b, o, h, _⟩ := hc.off (by simp); cases h
    subst hv
    have h0 : n = 0 := HNN.out
    subst h0
    go_enter Tryz.func48, Tryz.ntmps48
    go_wp2
    go_ret
    exact RetN.mk (Kp.refl _) (Row.nil _ _ _ _)
  | some a =>
    go_enter Tryz.func48, Tryz.ntmps48
    go_wp2_with (first | (at_builtin; refine Halted.out ?_))
    refine Halted.mk (wp_appN elem_int rfl _ _ rfl ((Kp.refl (F := fun _ => False) w).alloc _) rfl (Row.empty w 3 1 (New w) (Nat.le_refl _)) rfl (hc.alloc _) (by rw [HNN.out, Nat.mul_one]) h1.out (by omega) (by omega) ?_)
    intro v1 w1 hr1 hk1 _ _
    have HR := Lib.hid hr1; clear hr1
    go_wp2
    go_ret
    exact RetN.mk hk1 (by simpa using HR.out)
theorem pow_le {n i : Nat} (hn : n ≤ 12) (hi : i ≤ n) : 2 ^ i ≤ 4096 := Nat.le_trans (Nat.pow_le_pow_right (by decide) (Nat.le_trans hi hn)) (by decide)
theorem wrap_nat {x : Nat} (h : x ≤ 4096) : IntKind.i64.wrap (x : Int) = (x : Int) := IntWalk.i64_in _ (by omega)
theorem wrap_pow {i : Nat} (hi : i ≤ 12) : IntKind.i64.wrap ((2 : Int) ^ i) = (2 : Int) ^ i := by
  have h := pow_le (Nat.le_refl 12) hi
  have e : (2 : Int) ^ i = ((2 ^ i : Nat) : Int) := by rw [Int.natCast_pow]; rfl
  rw [e]
  exact wrap_nat h
theorem andNot_bit {s i : Nat} (hs : s < 4096) (h : s.testBit i = true) : bits .andNot .i64 (s : Int) ((2 : Int) ^ i) = ((s - 2 ^ i : Nat) : Int) := by
  have hle := (subBit i s h).1
  have e : (2 : Int) ^ i = ((2 ^ i : Nat) : Int) := by rw [Int.natCast_pow]; rfl
  have h1 : ((BitVec.ofInt 64 (s : Int)) &&& ~~~(BitVec.ofInt 64 ((2 ^ i : Nat) : Int))).toNat = s - 2 ^ i := by
    rw [BitVec.ofInt_natCast, BitVec.ofInt_natCast]
    apply Nat.eq_of_testBit_eq
    intro j
    rw [(subBit i s h).2 j, BitVec.testBit_toNat, BitVec.getLsbD_and, BitVec.getLsbD_not, BitVec.getLsbD_ofNat, BitVec.getLsbD_ofNat]
    by_cases hj : j < 64
    · rw [decide_eq_true hj, Nat.testBit_two_pow]
      simp only [Bool.true_and]
      congr 1
      by_cases e : j = i
      · subst e; simp
      · have e' : ¬ i = j := fun h => e h.symm
        simp [e, e']
    · have hz : s.testBit j = false := Nat.testBit_lt_two_pow (Nat.lt_of_lt_of_le hs (Nat.le_trans (by decide : 4096 ≤ 2 ^ 64) (Nat.pow_le_pow_right (by decide) (by omega))))
      rw [decide_eq_false hj, hz]; simp
  unfold bits
  rw [e]
  show IntKind.i64.wrap (((BitVec.ofInt 64 (s : Int)) &&& ~~~(BitVec.ofInt 64 ((2 ^ i : Nat) : Int))).toNat : Int) = _
  rw [h1]
  exact wrap_nat (Nat.le_trans (Nat.sub_le _ _) (Nat.le_of_lt hs))
theorem and_bit {s i : Nat} (hs : s < 4096) : bits .and .i64 ((s : Int) / (2 : Int) ^ i) 1 = if s.testBit i = true then 1 else 0 := by
  have e : (s : Int) / (2 : Int) ^ i = ((s / 2 ^ i : Nat) : Int) := by rw [Int.natCast_ediv, Int.natCast_pow]; rfl
  have hlt : s / 2 ^ i < 4096 := Nat.lt_of_le_of_lt (Nat.div_le_self _ _) hs
  have hb : s.testBit i = decide (s / 2 ^ i % 2 = 1) := Nat.testBit_eq_decide_div_mod_eq
  rw [e]
  generalize s / 2 ^ i = x at *
  have h1 : ((BitVec.ofInt 64 (x : Int)) &&& (BitVec.ofInt 64 1)).toNat = x % 2 := by
    rw [BitVec.ofInt_natCast, BitVec.toNat_and, BitVec.toNat_ofNat, Nat.mod_eq_of_lt (by omega)]
    show x &&& 1 = _
    exact Nat.and_one_is_mod x
  unfold bits
  show IntKind.i64.wrap (((BitVec.ofInt 64 (x : Int)) &&& (BitVec.ofInt 64 1)).toNat : Int) = _
  rw [h1, hb]
  rcases Nat.mod_two_eq_zero_or_one x with h | h
  · rw [h]; rfl
  · rw [h]; rfl
def TabAt (M : Nat → Prop) (w : World) (gp N k : Nat) (S : List StatZ) (ls : List LitZ) : Prop := ∃ vals : List Value, vals.length = N ∧ Blk w gp vals 108 ∧ ∀ (u : Nat) v, vals[u]? = some v → PlanO w M v (if u < k then planS S ls u else none)
theorem TabAt.kp {M F : Nat → Prop} {w w' : World} {gp N k : Nat} {S : List StatZ} {ls : List LitZ} (h : TabAt M w gp N k S ls) (hk : Kp F w w') (hg : ¬ F gp) (hF : NoPlan w F) : TabAt M w' gp N k S ls := by
  obtain ⟨vals, h1, h2, h3⟩ := h
  exact ⟨vals, h1, h2.kp hk hg, fun u v hu => (h3 u v hu).kp hk hF⟩
theorem TabAt.ext {M : Nat → Prop} {w w' : World} {gp N k : Nat} {S : List StatZ} {ls : List LitZ} (h : TabAt M w gp N k S ls) (hk : Ext w w') : TabAt M w' gp N k S ls := h.kp hk id (noPlan_none w)
theorem TabAt.get {M : Nat → Prop} {w : World} {gp N k : Nat} {S : List StatZ} {ls : List LitZ} (h : TabAt M w gp N k S ls) {u : Nat} (hu : u < N) (hk : u < k) : ∃ v, w.cell? ⟨gp, u, none⟩ = some v ∧ PlanO w M v (planS S ls u) := by
  obtain ⟨vals, h1, h2, h3⟩ := h
  have hv : vals[u]? = some (vals[u]'(by omega)) := List.getElem?_eq_getElem (by omega)
  refine ⟨_, by rw [h2.cell', hv], ?_⟩
  have := h3 u _ hv
  rw [if_pos hk] at this; exact this
theorem typ_pp : 108 ≠ 110 ∧ 108 ≠ 3 := by decide
theorem noPlan_tab {M : Nat → Prop} {w : World} {gp N k : Nat} {S : List StatZ} {ls : List LitZ} (h : TabAt M w gp N k S ls) : NoPlan w (fun i => i = gp) := fun k cs e hb hk => by
  obtain ⟨vals, h1, h2, h3⟩ := h
  subst hk
  rw [blk_ne hb h2]; exact typ_pp
theorem TabAt.set {M : Nat → Prop} {w : World} {gp N k : Nat} {S : List StatZ} {ls : List LitZ} (h : TabAt M w gp N k S ls) {v : Value} (hv : PlanO w M v (planS S ls k)) : TabAt M (w.setCell ⟨gp, k, none⟩ v) gp N (k + 1) S ls := by
  have hN := noPlan_tab h
  obtain ⟨vals, h1, h2, h3⟩ := h
  have hk : Kp (fun i => i = gp) w (w.setCell ⟨gp, k, none⟩ v) := Kp.setCell (F := fun i => i = gp) (Kp.refl w) (fun _ => rfl) _
  refine ⟨vals.set k v, by rw [List.length_set]; exact h1, h2.set k v, fun u x hx => ?_⟩
  rw [List.getElem?_set] at hx
  by_cases e : k = u
  · subst e
    rw [if_pos rfl] at hx
    split at hx
    · cases hx
      rw [if_pos (by omega)]; exact hv.kp hk hN
    · cases hx
  · rw [if_neg e] at hx
    have := (h3 u x hx).kp hk hN
    by_cases hu : u < k
    · rw [if_pos hu] at this; rw [if_pos (by omega)]; exact this
    · rw [if_neg hu] at this; rw [if_neg (by omega)]; exact this
set_option maxRecDepth 100000 in
set_option maxHeartbeats 4000000 in
theorem bestMade_any {M : Nat → Prop} (S : List StatZ) (ls : List LitZ) (n N s i g : Nat) (gin gi gpl gp gset ggu : Nat) (L : Nat) (w : World) (hn : n ≤ 12) (hi : i < n) (hs : s < N) (hN : N ≤ 4096)
    (hin : Blk w gin [.slice (some ⟨gi, 0, none⟩) n n] 111) (hb : CellsAt w (some ⟨gi, 0, none⟩) (bools (bitsS n s))) (hpl : Blk w gpl [.slice (some ⟨gp, 0, none⟩) N N] 107) (hset : Blk w gset [.int .i64 s] 3) (hgu : Blk w ggu [.float .f64 g] 45)
    (hT : TabAt M w gp N s S ls) (hg : g ≤ infW) (hq : ∀ u p, u < s → planS S ls u = some p → p.2 ≤ infW ∧ p.1.length ≤ 12) :
    Calls Tryz.prog 47 #[.int .i64 i, .pointer (some ⟨gin, 0, none⟩), .pointer (some ⟨gpl, 0, none⟩), .pointer (some ⟨gset, 0, none⟩), .pointer (some ⟨ggu, 0, none⟩)] w (RetN w fun w' v => PlanO w' (New w) v (candP (planS S ls) g s i)) := by
  have hw1 : IntKind.i64.wrap ((2 : Int) ^ i) = (2 : Int) ^ i := wrap_pow (by omega)
  have c1 : w.cell? ⟨gin, 0, none⟩ = some (.slice (some ⟨gi, 0, none⟩) n n) := by rw [hin.cell']; rfl
  have c2 : w.cell? ⟨gi, i, none⟩ = some (.bool (s.testBit i)) := by
    obtain ⟨_, _, e, h⟩ := hb i (.bool (s.testBit i)) (by simp [bools, bits_at hi])
    cases e
    rw [Nat.zero_add] at h; exact h
  have c3 : w.cell? ⟨gpl, 0, none⟩ = some (.slice (some ⟨gp, 0, none⟩) N N) := by rw [hpl.cell']; rfl
  have c4 : w.cell? ⟨gset, 0, none⟩ = some (.int .i64 s) := by rw [hset.cell']; rfl
  have c5 : w.cell? ⟨ggu, 0, none⟩ = some (.float .f64 g) := by rw [hgu.cell']; rfl
  clear hin hb hpl hset hgu
  by_cases hbit : s.testBit i = true
  · obtain ⟨hle, _⟩ := subBit i s hbit
    have hpos := Nat.two_pow_pos i
    have hand := andNot_bit (s := s) (i := i) (by omega) hbit
    obtain ⟨v, c6, hv⟩ := hT.get (u := s - 2 ^ i) (by omega) (by omega)
    rw [hbit] at c2
    have hq' := hq (s - 2 ^ i)
    have hu1 : s - 2 ^ i < s := by omega
    obtain ⟨u, eu⟩ : ∃ u, u = s - 2 ^ i := ⟨_, rfl⟩
    rw [← eu] at hand c6 hv hq' hu1
    have EU := Lib.hid (And.intro eu hbit)
    have hux : ((u : Nat) : Int).toNat = u := Int.toNat_natCast u
    have hu2 : (u : Int) < (N : Int) := by omega
    have hu3 : u < N := by omega
    clear hq hT eu
    rcases hv.cases with ⟨rfl, hp⟩ | ⟨p, b, hp, rfl, hpa⟩
    · have HR := Lib.hid (show candP (planS S ls) g s i = none by
        unfold candP
        rw [if_pos EU.out.2, ← EU.out.1, hp]; rfl)
      clear hp hv hbit hle hpos
      go_enter Tryz.func47, Tryz.ntmps47
      go_wp2
      go_quiet (fail)
      go_wp2
      go_ret
      exact RetN.mk ((Kp.refl w).drewN _) (by rw [HR.out]; rfl)
    · have hqp := hq' p hu1 hp
      obtain ⟨oa, oc, d1, d2, d3, d4, d5⟩ := hpa.cells
      obtain ⟨m, em⟩ : ∃ m, m = p.1.length := ⟨_, rfl⟩
      obtain ⟨pc, epc⟩ : ∃ pc, pc = p.2 := ⟨_, rfl⟩
      rw [← em] at d1 hqp
      rw [← epc] at d2 hqp
      have hadd : ∀ W, (binOp .add 45 (.float .f64 pc) (.float .f64 g)).run Tryz.prog W = .ok (.float .f64 (fadd pc g)) W := fun W => run_float_arith W .add _ .f64 _ _ _ (fadd_eq hqp.1 hg)
      have hm := hqp.2
      have HR := Lib.hid (show candP (planS S ls) g s i = some (p.1 ++ [(i : Int)], fadd pc g) by
        unfold candP
        rw [if_pos EU.out.2, ← EU.out.1, hp, epc]; rfl)
      have HCl := Lib.hid (fun (W : World) (hW : Ext w W) => clone_any p.1 oa oc W m em (d3.ext hW) (by omega))
      have HM := Lib.hid em
      have HCells := Lib.hid (show ∀ w', Ext w w' → (fun w' : World => w'.cell? ⟨b, 0, none⟩ = some (.slice oa m oc) ∧ w'.cell? ⟨b, 1, none⟩ = some (.float .f64 pc) ∧ w'.cell? ⟨ggu, 0, none⟩ = some (.float .f64 g)) w' from fun w' hw => ⟨hw.cell d1 id, hw.cell d2 id, hw.cell c5 id⟩)
      clear hp hv hbit hle hpos hq' hqp hpa d1 d2 d3 d4 d5 em epc c5
      go_enter Tryz.func47, Tryz.ntmps47
      go_wp2
      go_quiet (fail)
      go_wp2
      go_quiet (fail)
      go_wp2
      generalize hwz : World.drewN (World.drewN _ _) _ = w1
      have X1 := Lib.hid (show Ext w w1 from by rw [← hwz]; exact ((Kp.refl w).drewN _).drewN _)
      have HC1 := Lib.hid (show ∀ w', Ext w1 w' → (fun w' : World => w'.cell? ⟨b, 0, none⟩ = some (.slice oa m oc) ∧ w'.cell? ⟨b, 1, none⟩ = some (.float .f64 pc) ∧ w'.cell? ⟨ggu, 0, none⟩ = some (.float .f64 g)) w' from fun w' hw => HCells.out w' (X1.out.trans hw))
      clear hwz HCells c1 c2 c3 c4 c6 hand hw1
      refine draw_begin (fun w' : World => w'.cell? ⟨b, 0, none⟩ = some (.slice oa m oc) ∧ w'.cell? ⟨b, 1, none⟩ = some (.float .f64 pc) ∧ w'.cell? ⟨ggu, 0, none⟩ = some (.float .f64 g)) [] (by kernel_rfl) (HC1.out _ (Kp.refl w1).drew) (fun hHeld => ?_)
      (refine draw_free (i := 0) (v := ?_) rfl ?_ ?_; rotate_left; (intro w; go_simp; try with_reducible rfl)); (try simp only [Act.put, List.setIfInBounds_toArray, List.set_cons_zero, List.set_cons_succ])
      (refine draw_free (i := 1) (v := ?_) rfl ?_ ?_; rotate_left; (intro w; go_simp; try with_reducible rfl)); (try simp only [Act.put, List.setIfInBounds_toArray, List.set_cons_zero, List.set_cons_succ])
      (refine draw_free (i := 2) (v := ?_) rfl ?_ ?_; rotate_left; (intro w; go_simp; try with_reducible rfl)); (try simp only [Act.put, List.setIfInBounds_toArray, List.set_cons_zero, List.set_cons_succ])
      (refine draw_in (i := 3) (v := ?_) rfl ?_ ?_; rotate_left; (intro w hSw; (try dsimp only at hSw); go_simp; try with_reducible rfl)); (try simp only [Act.put, List.setIfInBounds_toArray, List.set_cons_zero, List.set_cons_succ])
      (refine draw_free (i := 5) (v := ?_) rfl ?_ ?_; rotate_left; (intro w; go_simp; try with_reducible rfl)); (try simp only [Act.put, List.setIfInBounds_toArray, List.set_cons_zero, List.set_cons_succ])
      (refine draw_free (i := 8) (v := ?_) rfl ?_ ?_; rotate_left; (intro w; go_simp; try with_reducible rfl)); (try simp only [Act.put, List.setIfInBounds_toArray, List.set_cons_zero, List.set_cons_succ])
      (refine draw_free (i := 9) (v := ?_) rfl ?_ ?_; rotate_left; (intro w; go_simp; try with_reducible rfl)); (try simp only [Act.put, List.setIfInBounds_toArray, List.set_cons_zero, List.set_cons_succ])
      (refine draw_free (i := 10) (v := ?_) rfl ?_ ?_; rotate_left; (intro w; go_simp; try with_reducible rfl)); (try simp only [Act.put, List.setIfInBounds_toArray, List.set_cons_zero, List.set_cons_succ])
      (refine draw_in (i := 11) (v := ?_) rfl ?_ ?_; rotate_left; (intro w hSw; (try dsimp only at hSw); go_simp; try with_reducible rfl)); (try simp only [Act.put, List.setIfInBounds_toArray, List.set_cons_zero, List.set_cons_succ])
      (refine draw_in (i := 12) (v := ?_) rfl ?_ ?_; rotate_left; (intro w hSw; (try dsimp only at hSw); go_simp; try with_reducible rfl)); (try simp only [Act.put, List.setIfInBounds_toArray, List.set_cons_zero, List.set_cons_succ])
      (refine draw_free (i := 13) (v := ?_) rfl ?_ ?_; rotate_left; (intro w; go_simp; try with_reducible rfl)); (try simp only [Act.put, List.setIfInBounds_toArray, List.set_cons_zero, List.set_cons_succ])
      refine draw_two (i := 4) (k := 6) ?_ ?_
      · refine comes_turn (i := 4) rfl (fun K hK => ?_)
        go_simp
        ((with_reducible refine (HCl.out _ (by first | exact X1.out.drew | exact (X1.out.alloc _).drew)).mono ?_); rintro e w2 ⟨v, rfl, hk2, hr2⟩; obtain ⟨va, vc, ev, _, _⟩ := hr2.shape; subst ev; have HX2 := Lib.hid (show Ext w1 w2 from (by first | exact ((Kp.refl w1).drew).trans hk2 | exact (((Kp.refl w1).alloc _).drew).trans hk2)); have HR2 := Lib.hid (show Row w2 3 1 (.slice va m vc) m (ints p.1) (New w1) from hr2.mono fun k h => Nat.le_trans (by first | exact ((Kp.refl (F := fun _ => False) w1).drew).size | exact (((Kp.refl (F := fun _ => False) w1).alloc _).drew).size) h); have HSrc := Lib.hid hk2; clear hk2 hr2)
        go_wp2_with fail
        refine hK.out _ _ ?_ (fun hHeld => ?_)
        · (try dsimp only); (first | exact HC1.out _ HX3.out | exact HC1.out _ (HX3.out.alloc _) | exact HC1.out _ HX2.out | exact HC1.out _ (HX2.out.alloc _) | exact HC1.out _ ((Kp.refl w1).alloc _).drew)
        clear hK K; (try simp only [Act.put, List.setIfInBounds_toArray, List.set_cons_zero, List.set_cons_succ])
        refine draw_one (i := 6) ?_
        refine comes_turn (i := 6) rfl (fun K hK => ?_)
        go_simp
        refine hK.out _ _ ?_ (fun hHeld => ?_)
        · (try dsimp only); (first | exact HC1.out _ HX3.out | exact HC1.out _ (HX3.out.alloc _) | exact HC1.out _ HX2.out | exact HC1.out _ (HX2.out.alloc _) | exact HC1.out _ ((Kp.refl w1).alloc _).drew)
        clear hK K; (try simp only [Act.put, List.setIfInBounds_toArray, List.set_cons_zero, List.set_cons_succ])
        refine draw_one (i := 7) ?_
        refine comes_turn (i := 7) rfl (fun K hK => ?_)
        (first | refine draw_appN elem_int rfl _ _ rfl (HX2.out.alloc _) rfl (HR2.out.alloc _) rfl (CellsAt.one w2 (.int .i64 i) 3) (by rfl) (by simp [Value.oneCell']) (by omega) (by unfold maxLen; omega) ?_ | refine draw_appN elem_int rfl _ _ rfl HX2.out rfl HR2.out rfl (CellsAt.ext (w := (w1.alloc (.cells #[Value.int .i64 i] 3)).drew) (CellsAt.one w1 (.int .i64 i) 3) HSrc.out) (by rfl) (by simp [Value.oneCell']) (by omega) (by unfold maxLen; omega) ?_); intro v3 w3 hr3 hk3 _; obtain ⟨v3a, v3c, ev3, _, _⟩ := hr3.shape; subst ev3; have HX3 := Lib.hid hk3; have HR3 := Lib.hid hr3; clear hk3 hr3
        refine hK.out _ _ ?_ (fun hHeld => ?_)
        · (try dsimp only); (first | exact HC1.out _ HX3.out | exact HC1.out _ (HX3.out.alloc _) | exact HC1.out _ HX2.out | exact HC1.out _ (HX2.out.alloc _) | exact HC1.out _ ((Kp.refl w1).alloc _).drew)
        clear hK K; (try simp only [Act.put, List.setIfInBounds_toArray, List.set_cons_zero, List.set_cons_succ])
        (refine draw_free (i := 14) (v := ?_) rfl ?_ ?_; rotate_left; (intro w; go_simp; try with_reducible rfl)); (try simp only [Act.put, List.setIfInBounds_toArray, List.set_cons_zero, List.set_cons_succ])
        refine draw_one (i := 15) ?_
        refine comes_turn (i := 15) rfl (fun K hK => ?_)
        go_simp
        refine hK.out _ _ ?_ (fun hHeld => ?_)
        · (try dsimp only); (first | exact HC1.out _ HX3.out | exact HC1.out _ (HX3.out.alloc _) | exact HC1.out _ HX2.out | exact HC1.out _ (HX2.out.alloc _) | exact HC1.out _ ((Kp.refl w1).alloc _).drew)
        clear hK K; (try simp only [Act.put, List.setIfInBounds_toArray, List.set_cons_zero, List.set_cons_succ])
        (refine draw_free (i := 16) (v := ?_) rfl ?_ ?_; rotate_left; (intro w; go_simp; try with_reducible rfl)); (try simp only [Act.put, List.setIfInBounds_toArray, List.set_cons_zero, List.set_cons_succ])
        refine wpAnyD_done (by kernel_rfl) ?_ _
        clear hHeld HC1 HCl HSrc HX2 HR2
        go_wp2
        go_ret
        refine RetN.mk ((X1.out.trans HX3.out).alloc _) ?_
        rw [HR.out]
        refine ⟨_, rfl, .slice v3a (m + 1) v3c, Blk.new w3 _ _, ?_⟩
        have h := (HR3.out.alloc (.cells #[.slice v3a (m + 1) v3c, .float .f64 (fadd pc g)] 110)).mono (M' := New w) fun k hk => Nat.le_trans X1.out.size hk
        have e1 : (p.1 ++ [(i : Int)]).length = m + 1 := by rw [List.length_append, HM.out]; rfl
        have e2 : ints (p.1 ++ [(i : Int)]) = ints p.1 ++ [.int .i64 i] := by simp [ints]
        show Row _ _ _ _ (p.1 ++ [(i : Int)]).length (ints (p.1 ++ [(i : Int)])) _
        rw [e1, e2]; exact h
      · refine comes_turn (i := 6) rfl (fun K hK => ?_)
        go_simp
        refine hK.out _ _ ?_ (fun hHeld => ?_)
        · (try dsimp only); (first | exact HC1.out _ HX3.out | exact HC1.out _ (HX3.out.alloc _) | exact HC1.out _ HX2.out | exact HC1.out _ (HX2.out.alloc _) | exact HC1.out _ ((Kp.refl w1).alloc _).drew)
        clear hK K; (try simp only [Act.put, List.setIfInBounds_toArray, List.set_cons_zero, List.set_cons_succ])
        refine draw_one (i := 4) ?_
        refine comes_turn (i := 4) rfl (fun K hK => ?_)
        go_simp
        ((with_reducible refine (HCl.out _ (by first | exact X1.out.drew | exact (X1.out.alloc _).drew)).mono ?_); rintro e w2 ⟨v, rfl, hk2, hr2⟩; obtain ⟨va, vc, ev, _, _⟩ := hr2.shape; subst ev; have HX2 := Lib.hid (show Ext w1 w2 from (by first | exact ((Kp.refl w1).drew).trans hk2 | exact (((Kp.refl w1).alloc _).drew).trans hk2)); have HR2 := Lib.hid (show Row w2 3 1 (.slice va m vc) m (ints p.1) (New w1) from hr2.mono fun k h => Nat.le_trans (by first | exact ((Kp.refl (F := fun _ => False) w1).drew).size | exact (((Kp.refl (F := fun _ => False) w1).alloc _).drew).size) h); have HSrc := Lib.hid hk2; clear hk2 hr2)
        go_wp2_with fail
        refine hK.out _ _ ?_ (fun hHeld => ?_)
        · (try dsimp only); (first | exact HC1.out _ HX3.out | exact HC1.out _ (HX3.out.alloc _) | exact HC1.out _ HX2.out | exact HC1.out _ (HX2.out.alloc _) | exact HC1.out _ ((Kp.refl w1).alloc _).drew)
        clear hK K; (try simp only [Act.put, List.setIfInBounds_toArray, List.set_cons_zero, List.set_cons_succ])
        refine draw_one (i := 7) ?_
        refine comes_turn (i := 7) rfl (fun K hK => ?_)
        (first | refine draw_appN elem_int rfl _ _ rfl (HX2.out.alloc _) rfl (HR2.out.alloc _) rfl (CellsAt.one w2 (.int .i64 i) 3) (by rfl) (by simp [Value.oneCell']) (by omega) (by unfold maxLen; omega) ?_ | refine draw_appN elem_int rfl _ _ rfl HX2.out rfl HR2.out rfl (CellsAt.ext (w := (w1.alloc (.cells #[Value.int .i64 i] 3)).drew) (CellsAt.one w1 (.int .i64 i) 3) HSrc.out) (by rfl) (by simp [Value.oneCell']) (by omega) (by unfold maxLen; omega) ?_); intro v3 w3 hr3 hk3 _; obtain ⟨v3a, v3c, ev3, _, _⟩ := hr3.shape; subst ev3; have HX3 := Lib.hid hk3; have HR3 := Lib.hid hr3; clear hk3 hr3
        refine hK.out _ _ ?_ (fun hHeld => ?_)
        · (try dsimp only); (first | exact HC1.out _ HX3.out | exact HC1.out _ (HX3.out.alloc _) | exact HC1.out _ HX2.out | exact HC1.out _ (HX2.out.alloc _) | exact HC1.out _ ((Kp.refl w1).alloc _).drew)
        clear hK K; (try simp only [Act.put, List.setIfInBounds_toArray, List.set_cons_zero, List.set_cons_succ])
        (refine draw_free (i := 14) (v := ?_) rfl ?_ ?_; rotate_left; (intro w; go_simp; try with_reducible rfl)); (try simp only [Act.put, List.setIfInBounds_toArray, List.set_cons_zero, List.set_cons_succ])
        refine draw_one (i := 15) ?_
        refine comes_turn (i := 15) rfl (fun K hK => ?_)
        go_simp
        refine hK.out _ _ ?_ (fun hHeld => ?_)
        · (try dsimp only); (first | exact HC1.out _ HX3.out | exact HC1.out _ (HX3.out.alloc _) | exact HC1.out _ HX2.out | exact HC1.out _ (HX2.out.alloc _) | exact HC1.out _ ((Kp.refl w1).alloc _).drew)
        clear hK K; (try simp only [Act.put, List.setIfInBounds_toArray, List.set_cons_zero, List.set_cons_succ])
        (refine draw_free (i := 16) (v := ?_) rfl ?_ ?_; rotate_left; (intro w; go_simp; try with_reducible rfl)); (try simp only [Act.put, List.setIfInBounds_toArray, List.set_cons_zero, List.set_cons_succ])
        refine wpAnyD_done (by kernel_rfl) ?_ _
        clear hHeld HC1 HCl HSrc HX2 HR2
        go_wp2
        go_ret
        refine RetN.mk ((X1.out.trans HX3.out).alloc _) ?_
        rw [HR.out]
        refine ⟨_, rfl, .slice v3a (m + 1) v3c, Blk.new w3 _ _, ?_⟩
        have h := (HR3.out.alloc (.cells #[.slice v3a (m + 1) v3c, .float .f64 (fadd pc g)] 110)).mono (M' := New w) fun k hk => Nat.le_trans X1.out.size hk
        have e1 : (p.1 ++ [(i : Int)]).length = m + 1 := by rw [List.length_append, HM.out]; rfl
        have e2 : ints (p.1 ++ [(i : Int)]) = ints p.1 ++ [.int .i64 i] := by simp [ints]
        show Row _ _ _ _ (p.1 ++ [(i : Int)]).length (ints (p.1 ++ [(i : Int)])) _
        rw [e1, e2]; exact h
  · have hbf : s.testBit i = false := by simpa using hbit
    rw [hbf] at c2
    have HR := Lib.hid (show candP (planS S ls) g s i = none by
      unfold candP
      rw [if_neg hbit])
    clear hbit hT hq hbf
    go_enter Tryz.func47, Tryz.ntmps47
    go_wp2
    go_quiet (fail)
    go_wp2
    go_ret
    exact RetN.mk ((Kp.refl w).drewN _) (by rw [HR.out]; rfl)
end Go.Proofs.YtomeebimmmfmbaaGreat

/- cost.Best. -/
namespace Go.Proofs.YtomeebimmmfmbaaGreat
open Go.RowKit
set_option linter.unusedVariables false
attribute [local go_sem] run_store_float
theorem bestE_bad {r : RuleZ} {S : List StatZ} (h : errR r S ≠ 0) : bestE r S = ([], 0, errR r S) := by unfold bestE; rw [if_neg h]
theorem bestE_long {r : RuleZ} {S : List StatZ} (h : errR r S = 0) (hn : 12 < r.2.1.length) : bestE r S = ([], 0, 3) := by unfold bestE; rw [if_pos h, if_pos hn]
theorem bestE_some {r : RuleZ} {S : List StatZ} {p : Plan} (h : errR r S = 0) (hn : ¬ 12 < r.2.1.length) (hp : planS S r.2.1 (2 ^ r.2.1.length - 1) = some p) : bestE r S = (p.1, p.2, 0) := by unfold bestE; rw [if_pos h, if_neg hn, hp]
theorem TabAt.skip {M : Nat → Prop} {w : World} {gp N k : Nat} {S : List StatZ} {ls : List LitZ} (h : TabAt M w gp N k S ls) (hk : planS S ls k = none) : TabAt M w gp N (k + 1) S ls := by
  obtain ⟨vals, h1, h2, h3⟩ := h
  refine ⟨vals, h1, h2, fun u v hu => ?_⟩
  have := h3 u v hu
  by_cases e : u = k
  · subst e
    rw [if_neg (Nat.lt_irrefl _)] at this
    rw [if_pos (by omega), hk]; exact this
  · by_cases hl : u < k
    · rw [if_pos hl] at this; rw [if_pos (by omega)]; exact this
    · rw [if_neg hl] at this; rw [if_neg (by omega)]; exact this
theorem plan_row {S : List StatZ} {ls : List LitZ} {s : Nat} (h0 : s ≠ 0) : (stands ls (bitsS ls.length s) → planS S ls s = leastP (candP (planS S ls) (guessW S ls (bitsS ls.length s)) s) ls.length) ∧ (¬ stands ls (bitsS ls.length s) → planS S ls s = none) := by
  have h := plan_eq S ls s
  unfold rowP at h
  rw [if_neg h0] at h
  exact ⟨fun hs => by rw [if_pos hs] at h; exact h, fun hs => by rw [if_neg hs] at h; exact h⟩
structure BestSt (w1 w : World) (gp gpl gset N s : Nat) (S : List StatZ) (ls : List LitZ) : Prop where
  ext : Ext w1 w
  pl : Blk w gpl [.slice (some ⟨gp, 0, none⟩) N N] 107
  set : Blk w gset [.int .i64 s] 3
  tab : TabAt (New w1) w gp N s S ls
  new : w1.heap.size ≤ gp
def BestTo (w1 : World) (gp gpl N : Nat) (S : List StatZ) (ls : List LitZ) (pv : Value) (w : World) : Prop := ∃ s gset, 1 ≤ s ∧ s ≤ N ∧ pv = .pointer (some ⟨gset, 0, none⟩) ∧ Hid (BestSt w1 w gp gpl gset N s S ls)
def fillB (n s i : Nat) : List Bool := (bitsS n s).take i ++ List.replicate (n - i) false
theorem fill_zero (n s : Nat) : fillB n s 0 = List.replicate n false := by simp [fillB]
theorem fill_all (n s : Nat) : fillB n s n = bitsS n s := by simp [fillB, List.take_of_length_le (show (bitsS n s).length ≤ n by rw [bits_len]; exact Nat.le_refl _)]
theorem fill_len {n s i : Nat} (h : i ≤ n) : (fillB n s i).length = n := by simp [fillB, bits_len]; omega
theorem fill_succ {n s i : Nat} (h : i < n) : (fillB n s i).set i (s.testBit i) = fillB n s (i + 1) := by
  apply List.ext_getElem?
  intro j
  rw [List.getElem?_set]
  have hl : ((bitsS n s).take i).length = i := by rw [List.length_take, bits_len]; omega
  have hl2 : ((bitsS n s).take (i + 1)).length = i + 1 := by rw [List.length_take, bits_len]; omega
  by_cases e : i = j
  · subst e
    rw [if_pos rfl, if_pos (by rw [fill_len (by omega)]; exact h)]
    unfold fillB
    rw [List.getElem?_append_left (by omega), List.getElem?_take, if_pos (by omega), bits_at h]
  · rw [if_neg e]
    unfold fillB
    by_cases hj : j < i
    · rw [List.getElem?_append_left (by omega), List.getElem?_append_left (by omega), List.getElem?_take, List.getElem?_take, if_pos hj, if_pos (by omega)]
    · rw [List.getElem?_append_right (by omega), List.getElem?_append_right (by omega), List.getElem?_replicate, List.getElem?_replicate, hl, hl2]
      by_cases hn : j < n
      · rw [if_pos (by omega), if_pos (by omega)]
      · rw [if_neg (by omega), if_neg (by omega)]
def FillTo (w0 : World) (gi gin n s : Nat) (iv : Value) (w : World) : Prop := ∃ i : Nat, i ≤ n ∧ iv = .int .i64 i ∧ Hid (Blk w gi (bools (fillB n s i)) 4) ∧ Hid (Blk w gin [.slice (some ⟨gi, 0, none⟩) n n] 111) ∧ Hid (Ext w0 w)
theorem typ_bb : 4 ≠ 111 := by decide
def setAt (pv : Value) (w : World) : Nat := match pv with
  | .pointer (some a) => (match w.cell? a with
    | some v => (intOf v).toNat
    | none => 0)
  | _ => 0
theorem setAt_eq {w : World} {g : Nat} {z : Int} {t : TypeId} (h : Blk w g [.int .i64 z] t) : setAt (.pointer (some ⟨g, 0, none⟩)) w = z.toNat := by
  have e : w.cell? ⟨g, 0, none⟩ = some (.int .i64 z) := by rw [h.cell']; rfl
  show (match w.cell? ⟨g, 0, none⟩ with | some v => (intOf v).toNat | none => 0) = _
  rw [e]; rfl
def BestO (M : Nat → Prop) (E : List Int × Nat × Nat) (w' : World) (v : Value) : Prop := ∃ lv, v = .tuple #[lv, .float .f64 E.2.1, .int .i64 E.2.2] ∧ Row w' 3 1 lv E.1.length (ints E.1) M
def BestV (E : List Int × Nat × Nat) (w' : World) (v : Value) : Prop := ∃ a c, v = .tuple #[.slice a E.1.length c, .float .f64 E.2.1, .int .i64 E.2.2] ∧ CellsAt w' a (ints E.1) ∧ E.1.length ≤ c ∧ c ≤ maxLen
theorem BestO.v {M : Nat → Prop} {E : List Int × Nat × Nat} {w' : World} {v : Value} (h : BestO M E w' v) : BestV E w' v := by
  obtain ⟨lv, rfl, hr⟩ := h
  obtain ⟨a, c, rfl, h1, h2, h3⟩ := hr.cap
  exact ⟨a, c, rfl, h1, h2, h3⟩
open Classical in
set_option maxRecDepth 100000 in
set_option maxHeartbeats 8000000 in
theorem best_own (p : ByteArray) (hs : List TermZ) (ls : List LitZ) (ha : Option Addr) (hn hcap : Nat) (ba : Option Addr) (n bcap : Nat) (S : List StatZ) (sa : Option Addr) (sn scap : Nat) (w : World) (G : Nat → Prop) (hhn : hn = hs.length) (hh : TermsAt w G ha hs) (hhl : hn ≤ 1048576) (hbn : n = ls.length) (h : LitsAt w G ba ls) (hf : Fit ls)
    (hsn : sn = S.length) (hsc : sn ≤ scap) (hS : StatsAt w sa S) (hSf : StatsFit S) :
    Calls Tryz.prog 17 #[ruleV p ha hn hcap ba n bcap, .slice sa sn scap] w (RetN w (BestO (New w) (bestE ((p, hs, ()), ls, ()) S))) := by
  obtain ⟨e, ee⟩ : ∃ e, e = errR ((p, hs, ()), ls, ()) S := ⟨_, rfl⟩
  have hl : n ≤ 1048576 := by have := hf.len; omega
  have HBo := Lib.hid (fun (W : World) (hW : Ext w W) => bodyOf_any p hs ls ha hn hcap ba n bcap S sa sn scap W G hhn (hh.ext hW) hhl hbn (h.ext hW) hf hsn hsc (hS.ext hW) hSf)
  have HStands := Lib.hid (fun (gb : Nat) (inn : List Bool) (ia : Option Addr) (icap : Nat) (W : World) (hB : BodyAt W gb S ls) (hin : inn.length = n) (hI : CellsAt W ia (bools inn)) => stands_any gb S ls n inn ia icap W hbn hl (varsL_fit hf) hB hin hI)
  have HG := Lib.hid (fun (he : e = 0) (gb : Nat) (inn : List Bool) (ia : Option Addr) (icap : Nat) (W : World) (hB : BodyAt W gb S ls) (hin : inn.length = n) (hI : CellsAt W ia (bools inn)) => guess_any gb S ls n inn ia icap W hbn hf (Known.of (errR_zero (ee.symm.trans he)).2) hB hin hI)
  have EE := Lib.hid ee
  have HN := Lib.hid hbn
  clear hhn hh hbn h hf hsn hS hSf ee
  go_enter Tryz.func17, Tryz.ntmps17
  go_wp2_with fail
  obtain ⟨wb, eb⟩ : ∃ wb, w.alloc (.cells #[.string p, .slice ha hn hcap, .slice ba n bcap] 28) = wb := ⟨_, rfl⟩
  rw [eb]
  have HB := Lib.hid (Blk.new w [.string p, .slice ha hn hcap, .slice ba n bcap] 28)
  have HX := Lib.hid ((Kp.refl (F := fun _ => False) w).alloc (.cells #[.string p, .slice ha hn hcap, .slice ba n bcap] 28))
  have eb2 : w.alloc (.cells [Value.string p, .slice ha hn hcap, .slice ba n bcap].toArray 28) = wb := eb
  rw [eb2] at HB
  rw [eb] at HX
  clear eb eb2
  refine (HBo.out _ HX.out).mono ?_
  rintro e1 w1 ⟨v, rfl, hk1, hbv⟩
  have X1 := Lib.hid (HX.out.trans hk1)
  have HBr := Lib.hid (HB.out.ext hk1)
  have r2 : w1.cell? ⟨w.heap.size, 2, none⟩ = some (.slice ba n bcap) := by rw [HBr.out.cell']; rfl
  clear hk1 HX HB
  by_cases he : e = 0
  · obtain ⟨gb, rfl, _, hB⟩ := hbv.yes (EE.out.symm.trans he)
    have HB := Lib.hid hB
    have HE := Lib.hid (EE.out.symm.trans he)
    have HK := Lib.hid (Known.of (errR_zero HE.out).2)
    have HG2 := Lib.hid (HG.out he gb)
    have HSt2 := Lib.hid (HStands.out gb)
    clear hbv hB he HG HStands
    by_cases hn12 : 12 < n
    · have HL := Lib.hid hn12
      go_wp2
      go_ret3
      exact RetN.mk X1.out (by rw [bestE_long HE.out (by rw [HN.out] at hn12; exact hn12)]; exact ⟨_, rfl, Row.nil _ _ _ _⟩)
    · have hn13 : n ≤ 12 := by omega
      have hnle : (n : Int) ≤ 12 := by omega
      obtain ⟨N, eN⟩ : ∃ N, N = 2 ^ n := ⟨_, rfl⟩
      have hN1 : N ≤ 4096 := by rw [eN]; exact pow_le (Nat.le_refl 12) hn13
      have hN0 : 1 ≤ N := by rw [eN]; exact Nat.two_pow_pos n
      have hw1 : IntKind.i64.wrap ((2 : Int) ^ n) = (N : Int) := by rw [wrap_pow hn13, eN, Int.natCast_pow]; rfl
      have HNN := Lib.hid eN
      have hmk := run_make_row' (P := Tryz.prog) 107 108 (.pointer none) 8 Tryz.underlying107 (by kernel_rfl) rfl .i64 .i64 N (by omega) (by omega)
      obtain ⟨wA, eA⟩ : ∃ wA, w1.alloc (.cells (madeCells #[.pointer none] N) 108) = wA := ⟨_, rfl⟩
      have hA : Blk wA w1.heap.size (List.replicate N (.pointer none)) 108 := by rw [← eA]; exact blk_made w1 _ N _
      have xA : Ext w1 wA := by rw [← eA]; exact (Kp.refl w1).alloc _
      obtain ⟨wB, eB⟩ : ∃ wB, wA.alloc (.cells #[.slice (some ⟨w1.heap.size, 0, none⟩) N N] 107) = wB := ⟨_, rfl⟩
      have hB0 : Blk wB wA.heap.size [.slice (some ⟨w1.heap.size, 0, none⟩) N N] 107 := by rw [← eB]; exact Blk.new wA _ _
      have xB : Ext wA wB := by rw [← eB]; exact (Kp.refl wA).alloc _
      obtain ⟨wC, eC⟩ : ∃ wC, wB.alloc (.cells #[.slice none 0 0, .float .f64 0] 110) = wC := ⟨_, rfl⟩
      have hC : Blk wC wB.heap.size [.slice none 0 0, .float .f64 0] 110 := by rw [← eC]; exact Blk.new wB _ _
      have xC : Ext wB wC := by rw [← eC]; exact (Kp.refl wB).alloc _
      obtain ⟨wD, eD⟩ : ∃ wD, wC.setCell ⟨w1.heap.size, 0, none⟩ (.pointer (some ⟨wB.heap.size, 0, none⟩)) = wD := ⟨_, rfl⟩
      obtain ⟨wE, eE⟩ : ∃ wE, wD.alloc (.cells #[.int .i64 1] 3) = wE := ⟨_, rfl⟩
      have hT0 : TabAt (New w1) wC w1.heap.size N 0 S ls := ⟨List.replicate N (.pointer none), List.length_replicate, (hA.ext xB).ext xC, fun u v hu => by
        rw [List.getElem?_replicate] at hu
        split at hu
        · cases hu; rw [if_neg (by omega)]; rfl
        · cases hu⟩
      have hT1 : TabAt (New w1) wD w1.heap.size N 1 S ls := by
        rw [← eD]
        refine hT0.set ?_
        rw [plan_eq]
        show PlanO wC _ _ (rowP S ls (planS S ls) 0)
        unfold rowP
        rw [if_pos rfl]
        exact ⟨_, rfl, .slice none 0 0, hC, Row.nil _ _ _ _⟩
      have xD : Ext w1 wD := by rw [← eD]; exact Kp.setCell (F := fun _ => False) ((xA.trans xB).trans xC) (fun h => by simp only at h; omega) _
      have xE : Ext wD wE := by rw [← eE]; exact (Kp.refl wD).alloc _
      have hDpl : Blk wD wA.heap.size [.slice (some ⟨w1.heap.size, 0, none⟩) N N] 107 := by
        rw [← eD]
        exact (hB0.ext xC).other (fun h => by
          have : wA.heap.size = w1.heap.size := h
          have h1 := hA.lt
          omega) _
      have hEset : Blk wE wD.heap.size [.int .i64 1] 3 := by rw [← eE]; exact Blk.new wD _ _
      have HSt := Lib.hid (show BestSt w1 wE w1.heap.size wA.heap.size wD.heap.size N 1 S ls from ⟨xD.trans xE, hDpl.ext xE, hEset, hT1.ext xE, Nat.le_refl _⟩)
      have c1 : wC.cell? ⟨wA.heap.size, 0, none⟩ = some (.slice (some ⟨w1.heap.size, 0, none⟩) N N) := by rw [(hB0.ext xC).cell']; rfl
      have c0 : wB.cell? ⟨wA.heap.size, 0, none⟩ = some (.slice (some ⟨w1.heap.size, 0, none⟩) N N) := by rw [hB0.cell']; rfl
      have c2 : wC.cell? ⟨w1.heap.size, 0, none⟩ = some (.pointer none) := by
        rw [((hA.ext xB).ext xC).cell', List.getElem?_replicate, if_pos (by omega)]
      have c3 := ((hA.ext xB).ext xC).free 0
      clear hA xA hB0 xB hC xC hT0 hT1 xD xE hDpl hEset eN
      go_wp2
      obtain ⟨gp, egp⟩ : ∃ g, g = w1.heap.size := ⟨_, rfl⟩
      obtain ⟨gpl, egpl⟩ : ∃ g, g = wA.heap.size := ⟨_, rfl⟩
      obtain ⟨gs0, egs⟩ : ∃ g, g = wD.heap.size := ⟨_, rfl⟩
      rw [← egp, ← egpl, ← egs] at HSt
      rw [← egp, ← egpl, ← egs]
      clear c0 c1 c2 c3 eA eB eC eD eE egp egpl egs hmk hw1 r2
      go_loopw [11] (fun pv wr => BestTo w1 gp gpl N S ls pv wr) (fun pv wr => N - setAt pv wr)
      case atStart => exact ⟨1, gs0, Nat.le_refl _, hN0, rfl, HSt⟩
      case round =>
        clear HSt
        obtain ⟨s, gset, hs1, hsN, rfl, hst⟩ := hrel
        have s0 : wr.cell? ⟨gset, 0, none⟩ = some (.int .i64 s) := by rw [hst.out.set.cell']; rfl
        have p0 : wr.cell? ⟨gpl, 0, none⟩ = some (.slice (some ⟨gp, 0, none⟩) N N) := by rw [hst.out.pl.cell']; rfl
        have HMr := Lib.hid (setAt_eq hst.out.set)
        by_cases hlt : s < N
        · have hltI : (s : Int) < (N : Int) := by omega
          have hmk2 := run_make_row' (P := Tryz.prog) 111 4 (.bool false) 1 Tryz.underlying111 (by kernel_rfl) rfl .i64 .i64 n (by omega) (by omega)
          obtain ⟨wF, eF⟩ : ∃ wF, wr.alloc (.cells (madeCells #[.bool false] n) 4) = wF := ⟨_, rfl⟩
          have hF : Blk wF wr.heap.size (List.replicate n (.bool false)) 4 := by rw [← eF]; exact blk_made wr _ n _
          have xF : Ext wr wF := by rw [← eF]; exact (Kp.refl wr).alloc _
          obtain ⟨wH, eH⟩ : ∃ wH, wF.alloc (.cells #[.slice (some ⟨wr.heap.size, 0, none⟩) n n] 111) = wH := ⟨_, rfl⟩
          have hH : Blk wH wF.heap.size [.slice (some ⟨wr.heap.size, 0, none⟩) n n] 111 := by rw [← eH]; exact Blk.new wF _ _
          have xH : Ext wF wH := by rw [← eH]; exact (Kp.refl wF).alloc _
          have h0 : wH.cell? ⟨wF.heap.size, 0, none⟩ = some (.slice (some ⟨wr.heap.size, 0, none⟩) n n) := by rw [hH.cell']; rfl
          obtain ⟨gi, egi⟩ : ∃ g, g = wr.heap.size := ⟨_, rfl⟩
          obtain ⟨gin, egin⟩ : ∃ g, g = wF.heap.size := ⟨_, rfl⟩
          have HFi := Lib.hid (show Blk wH gi (bools (fillB n s 0)) 4 ∧ Blk wH gin [.slice (some ⟨gi, 0, none⟩) n n] 111 ∧ Ext wr wH ∧ wr.heap.size ≤ gi from ⟨by rw [fill_zero, bools_rep, egi]; exact hF.ext xH, by rw [egi, egin]; exact hH, xF.trans xH, by rw [egi]; exact Nat.le_refl _⟩)
          clear hF xF hH xH
          go_wp2
          rw [← egi, ← egin]
          clear eF eH h0 egi egin hmk2 s0 p0
          generalize hw5 : wr = w5 at *
          have HW5 := Lib.hid hw5
          clear hw5
          go_loopw [49] (fun iv wk => FillTo w5 gi gin n s iv wk) (fun iv _ => n - (intOf iv).toNat)
          case atStart => exact ⟨0, Nat.zero_le _, rfl, HFi.out.1, HFi.out.2.1, HFi.out.2.2.1⟩
          case round =>
            obtain ⟨i, hi, rfl, hbl, hgin, hex⟩ := hrel
            have g0 : wr.cell? ⟨gin, 0, none⟩ = some (.slice (some ⟨gi, 0, none⟩) n n) := by rw [hgin.out.cell']; rfl
            by_cases hlt2 : i < n
            · obtain ⟨bb, ebb⟩ : ∃ bb, s.testBit i = bb := ⟨_, rfl⟩
              have hand := and_bit (s := s) (i := i) (by omega)
              obtain ⟨bz, ebz⟩ : ∃ bz : Int, (if s.testBit i = true then (1 : Int) else 0) = bz := ⟨_, rfl⟩
              have q1 : (bz == 1) = bb := by rw [← ebz, ← ebb]; cases s.testBit i <;> rfl
              have q2 : decide (bz = 1) = bb := by rw [← ebz, ← ebb]; cases s.testBit i <;> rfl
              rw [ebz] at hand
              have hi64 : (i : Int) ≤ 64 := by omega
              have s0 := hex.out.cell (show w5.cell? ⟨gset, 0, none⟩ = some (.int .i64 s) by rw [hst.out.set.cell']; rfl) id
              have b0 : ∃ y, wr.cell? ⟨gi, i, none⟩ = some (.bool y) := by
                have h1 : i < (fillB n s i).length := by rw [fill_len hi]; exact hlt2
                exact ⟨_, by rw [hbl.out.cell']; simp [bools, h1]; rfl⟩
              obtain ⟨y, b0⟩ := b0
              have b1 := hbl.out.free i
              have HJ := Lib.hid (show ∀ w', Ext wr w' → (fun w' : World => w'.cell? ⟨gin, 0, none⟩ = some (.slice (some ⟨gi, 0, none⟩) n n) ∧ w'.cell? ⟨gset, 0, none⟩ = some (.int .i64 s)) w' from fun w' hw => ⟨hw.cell g0 id, hw.cell s0 id⟩)
              obtain ⟨w7, e7⟩ : ∃ x, wr.setCell ⟨gi, i, none⟩ (.bool bb) = x := ⟨_, rfl⟩
              have h7 : Blk w7 gi (bools (fillB n s (i + 1))) 4 := by
                have h := hbl.out.set i (.bool bb)
                rw [e7] at h
                have e : (bools (fillB n s i)).set i (.bool bb) = bools (fillB n s (i + 1)) := by
                  rw [← fill_succ hlt2, ebb]; simp [bools, List.map_set]
                rw [e] at h; exact h
              have h7n : Blk w7 gin [.slice (some ⟨gi, 0, none⟩) n n] 111 := by
                rw [← e7]
                exact hgin.out.other (fun h => typ_bb (blk_ne hbl.out (by rw [← show gin = gi from h]; exact hgin.out))) _
              have h7x : Ext w5 w7 := by rw [← e7]; exact Kp.setCell (F := fun _ => False) hex.out (fun h => by have := HFi.out.2.2.2; simp only at h; omega) _
              have HFin := Lib.hid (And.intro h7.drew (And.intro h7n.drew h7x.drew))
              clear h7 h7n h7x ebb ebz g0 s0 hst
              go_wp2
              refine draw_begin (fun w' : World => w'.cell? ⟨gin, 0, none⟩ = some (.slice (some ⟨gi, 0, none⟩) n n) ∧ w'.cell? ⟨gset, 0, none⟩ = some (.int .i64 s)) [8] (by kernel_rfl) (HJ.out _ (Kp.refl wr).drew) (fun hHeld => ?_)
              (refine draw_in (i := 0) (v := ?_) rfl ?_ ?_; rotate_left; (intro w hSw; (try dsimp only at hSw); go_simp; try with_reducible rfl)); (try simp only [Act.put, List.setIfInBounds_toArray, List.set_cons_zero, List.set_cons_succ])
              (refine draw_free (i := 1) (v := ?_) rfl ?_ ?_; rotate_left; (intro w; go_simp; try with_reducible rfl)); (try simp only [Act.put, List.setIfInBounds_toArray, List.set_cons_zero, List.set_cons_succ])
              (refine draw_in (i := 2) (v := ?_) rfl ?_ ?_; rotate_left; (intro w hSw; (try dsimp only at hSw); go_simp; try with_reducible rfl)); (try simp only [Act.put, List.setIfInBounds_toArray, List.set_cons_zero, List.set_cons_succ])
              (refine draw_free (i := 3) (v := ?_) rfl ?_ ?_; rotate_left; (intro w; go_simp; try with_reducible rfl)); (try simp only [Act.put, List.setIfInBounds_toArray, List.set_cons_zero, List.set_cons_succ])
              (refine draw_free (i := 4) (v := ?_) rfl ?_ ?_; rotate_left; (intro w; go_simp; try with_reducible rfl)); (try simp only [Act.put, List.setIfInBounds_toArray, List.set_cons_zero, List.set_cons_succ])
              (refine draw_free (i := 5) (v := ?_) rfl ?_ ?_; rotate_left; (intro w; go_simp; try with_reducible rfl)); (try simp only [Act.put, List.setIfInBounds_toArray, List.set_cons_zero, List.set_cons_succ])
              (refine draw_free (i := 6) (v := ?_) rfl ?_ ?_; rotate_left; (intro w; go_simp; try with_reducible rfl)); (try simp only [Act.put, List.setIfInBounds_toArray, List.set_cons_zero, List.set_cons_succ])
              (refine draw_in (i := 7) (v := ?_) rfl ?_ ?_; rotate_left; (intro w hSw; (try dsimp only at hSw); go_simp; try with_reducible rfl)); (try simp only [Act.put, List.setIfInBounds_toArray, List.set_cons_zero, List.set_cons_succ])
              refine draw_one (i := 8) ?_
              refine comes_late (i := 8) rfl (by kernel_rfl) (fun K hK => ?_)
              go_simp
              refine hK.out _ _ ?_
              clear hK K; (try simp only [Act.put, List.setIfInBounds_toArray, List.set_cons_zero, List.set_cons_succ])
              refine wpAnyD_done (by kernel_rfl) ?_ _
              clear hHeld HJ
              go_wp2
              clear e7 b0 b1 hand q1 q2
              go_roundw
              case rel => exact ⟨i + 1, by omega, by first | rfl | (congr 1; done) | (congr 1; omega), HFin.out.1, HFin.out.2.1, HFin.out.2.2⟩
              case measure => simp [intOf]; omega
            · obtain rfl : i = n := by omega
              have hbits := hbl.out
              rw [fill_all] at hbits
              have HI := Lib.hid (show CellsAt wr (some ⟨gi, 0, none⟩) (bools (bitsS i s)) from CellsAt.pre (rest := []) (by rw [List.append_nil]; exact hbits))
              have HX1 := Lib.hid (hst.out.ext.trans hex.out)
              have HPl := Lib.hid (hst.out.pl.ext hex.out)
              have HSetB := Lib.hid (hst.out.set.ext hex.out)
              have HTab := Lib.hid (hst.out.tab.ext hex.out)
              have HNew := Lib.hid hst.out.new
              clear hbits hst hbl HFi
              go_wp2_with fail
              refine (HSt2.out (bitsS i s) _ i wr (HB.out.ext HX1.out) (bits_len _ _) HI.out).mono ?_
              rintro e1 w6 ⟨v, rfl, hk6, rfl⟩
              replace HX1 := Lib.hid (HX1.out.trans hk6)
              replace HPl := Lib.hid (HPl.out.ext hk6)
              replace HSetB := Lib.hid (HSetB.out.ext hk6)
              replace HTab := Lib.hid (HTab.out.ext hk6)
              replace HI := Lib.hid (HI.out.ext hk6)
              have HGin := Lib.hid (hgin.out.ext hk6)
              clear hk6 hgin hex g0
              have HRow := Lib.hid (plan_row (S := S) (ls := ls) (s := s) (by omega))
              by_cases hstand : stands ls (bitsS i s)
              · have hd : decide (stands ls (bitsS i s)) = true := decide_eq_true hstand
                rw [hd]
                have HPlan := Lib.hid (HRow.out.1 (by rw [← HN.out]; exact hstand))
                clear hd hstand HRow
                have g1 : w6.cell? ⟨gin, 0, none⟩ = some (.slice (some ⟨gi, 0, none⟩) i i) := by rw [HGin.out.cell']; rfl
                go_wp2_with fail
                refine (HG2.out (bitsS i s) _ i w6 (HB.out.ext HX1.out) (bits_len _ _) HI.out).mono ?_
                rintro e1 wg ⟨v, rfl, hkg, rfl⟩
                obtain ⟨g, eg⟩ : ∃ g, guessW S ls (bitsS i s) = g := ⟨_, rfl⟩
                rw [eg]
                have hgl : g ≤ infW := by rw [← eg]; exact guessW_le HK.out _
                obtain ⟨wG, eG⟩ : ∃ x, wg.alloc (.cells #[.float .f64 g] 45) = x := ⟨_, rfl⟩
                obtain ⟨ggu, eggu⟩ : ∃ x, x = wg.heap.size := ⟨_, rfl⟩
                have HGu := Lib.hid (show Blk wG ggu [.float .f64 g] 45 by rw [← eG, eggu]; exact Blk.new wg _ _)
                have hxG : Ext w6 wG := by rw [← eG]; exact hkg.alloc _
                replace HX1 := Lib.hid (HX1.out.trans hxG)
                replace HPl := Lib.hid (HPl.out.ext hxG)
                replace HSetB := Lib.hid (HSetB.out.ext hxG)
                replace HTab := Lib.hid (HTab.out.ext hxG)
                replace HI := Lib.hid (HI.out.ext hxG)
                replace HGin := Lib.hid (HGin.out.ext hxG)
                rw [show guessW S ls (bitsS ls.length s) = g from by rw [← HN.out]; exact eg] at HPlan
                have HPOk := Lib.hid (fun (u : Nat) (pp : Plan) (_ : u < s) (hp : planS S ls u = some pp) => And.intro (plan_ok HK.out u pp hp).1 (Nat.le_trans (plan_len HK.out hp) (by rw [← HN.out]; exact hn13)))
                have HCOk := Lib.hid (fun (j : Nat) (pp : Plan) (hj : j < i) (hp : candP (planS S ls) g s j = some pp) => cand_ok HK.out (by rw [← HN.out]; exact hj) (fun u p _ => plan_ok HK.out u p) hgl hp)
                have HGL := Lib.hid hgl
                have HMade := Lib.hid (show MadeT 47 #[] #[.pointer (some ⟨gin, 0, none⟩), .pointer (some ⟨gpl, 0, none⟩), .pointer (some ⟨gset, 0, none⟩), .pointer (some ⟨ggu, 0, none⟩)] (fun W => Ext wG W) (fun _ => False) i (candP (planS S ls) g s) from
                  ⟨enters_of Tryz.func47 (by kernel_rfl) rfl, fun W _ => noPlan_none W, fun W W' h h' => h.trans h', fun W hW j hj =>
                    (bestMade_any S ls i N s j g gin gi gpl gp gset ggu 0 W hn13 hj hlt hN1 (HGin.out.ext hW) (HI.out.ext hW) (HPl.out.ext hW) (HSetB.out.ext hW) (HGu.out.ext hW) (HTab.out.ext hW) HGL.out HPOk.out).mono fun e1 w' ⟨v, h1, h2, h3⟩ => ⟨v, h1, hW.trans h2, h2, h3⟩⟩)
                have p1 : wG.cell? ⟨gpl, 0, none⟩ = some (.slice (some ⟨gp, 0, none⟩) N N) := by rw [HPl.out.cell']; rfl
                have s1 : wG.cell? ⟨gset, 0, none⟩ = some (.int .i64 s) := by rw [HSetB.out.cell']; rfl
                have HJ := Lib.hid (show ∀ w', Ext wG w' → (fun w' : World => w'.cell? ⟨gpl, 0, none⟩ = some (.slice (some ⟨gp, 0, none⟩) N N) ∧ w'.cell? ⟨gset, 0, none⟩ = some (.int .i64 s)) w' from fun w' hw => ⟨hw.cell p1 id, hw.cell s1 id⟩)
                have hil : i ≤ 1048576 := hl
                have HLen := Lib.hid (show (bitsS ls.length s).countP id ≤ 1048576 from Nat.le_trans List.countP_le_length (by rw [bits_len, ← HN.out]; exact hl))
                clear hkg eg hgl hxG g1
                go_wp2
                rw [← eggu]
                clear eG eggu p1 s1
                refine draw_begin (fun w' : World => w'.cell? ⟨gpl, 0, none⟩ = some (.slice (some ⟨gp, 0, none⟩) N N) ∧ w'.cell? ⟨gset, 0, none⟩ = some (.int .i64 s)) [6] (by kernel_rfl) (HJ.out _ (Kp.refl wG).drew) (fun hHeld => ?_)
                (refine draw_in (i := 0) (v := ?_) rfl ?_ ?_; rotate_left; (intro w hSw; (try dsimp only at hSw); go_simp; try with_reducible rfl)); (try simp only [Act.put, List.setIfInBounds_toArray, List.set_cons_zero, List.set_cons_succ])
                (refine draw_in (i := 1) (v := ?_) rfl ?_ ?_; rotate_left; (intro w hSw; (try dsimp only at hSw); go_simp; try with_reducible rfl)); (try simp only [Act.put, List.setIfInBounds_toArray, List.set_cons_zero, List.set_cons_succ])
                (refine draw_free (i := 2) (v := ?_) rfl ?_ ?_; rotate_left; (intro w; go_simp; try with_reducible rfl)); (try simp only [Act.put, List.setIfInBounds_toArray, List.set_cons_zero, List.set_cons_succ])
                (refine draw_free (i := 3) (v := ?_) rfl ?_ ?_; rotate_left; (intro w; go_simp; try with_reducible rfl)); (try simp only [Act.put, List.setIfInBounds_toArray, List.set_cons_zero, List.set_cons_succ])
                refine draw_one (i := 4) ?_
                refine comes_turn (i := 4) rfl (fun K hK => ?_)
                go_simp
                (refine (leastOf_any 47 #[] _ (fun W => Ext wG W) (fun _ => False) i (candP (planS S ls) g s) _ _ ((Kp.refl wG).drew) HMade.out (fun j pp hj hp => HCOk.out j pp hj hp) HLen.out hil).mono ?_; rintro e1 w8 ⟨v8, rfl, hk8, _, ho8⟩; obtain ⟨q8, ev8⟩ : ∃ q, v8 = .pointer q := (by rcases PlanO.cases ho8 with ⟨ev, _⟩ | ⟨_, _, _, ev, _⟩ <;> exact ⟨_, ev⟩); subst ev8; have HK8 := Lib.hid (show Ext wG w8 from hk8); have HO8 := Lib.hid (show PlanO w8 (New w1) (.pointer q8) (planS S ls s) from (by rw [HPlan.out, ← HN.out]; exact ho8.mono fun k hk => Nat.le_trans (HX1.out.trans (Kp.refl wG).drew).size hk)); clear hk8 ho8)
                go_wp2_with fail
                refine hK.out _ _ ?_ (fun hHeld => ?_)
                · (try dsimp only); (exact HJ.out _ HK8.out)
                clear hK K; (try simp only [Act.put, List.setIfInBounds_toArray, List.set_cons_zero, List.set_cons_succ])
                (refine draw_in (i := 5) (v := ?_) rfl ?_ ?_; rotate_left; (intro w hSw; (try dsimp only at hSw); go_simp; try with_reducible rfl)); (try simp only [Act.put, List.setIfInBounds_toArray, List.set_cons_zero, List.set_cons_succ])
                refine draw_one (i := 6) ?_
                refine comes_late (i := 6) rfl (by kernel_rfl) (fun K hK => ?_)
                (obtain ⟨x8, hx8⟩ : ∃ x8, w8.cell? ⟨gp, s, none⟩ = some x8 := (by obtain ⟨vals, v1, v2, v3⟩ := HTab.out.ext HK8.out; exact ⟨vals[s]'(by omega), by rw [v2.cell']; exact List.getElem?_eq_getElem (by omega)⟩); have f8 : w8.frozen? ⟨gp, s, none⟩ = false := (by obtain ⟨vals, v1, v2, v3⟩ := HTab.out.ext HK8.out; exact v2.free s))
                go_simp
                refine hK.out _ _ ?_
                clear hK K; (try simp only [Act.put, List.setIfInBounds_toArray, List.set_cons_zero, List.set_cons_succ])
                refine wpAnyD_done (by kernel_rfl) ?_ _
                clear hHeld HJ HMade HPOk HCOk HI HGin HGu
                obtain ⟨w9, e9⟩ : ∃ x, w8.setCell ⟨gp, s, none⟩ (.pointer q8) = x := ⟨_, rfl⟩
                have hT9 : TabAt (New w1) w9 gp N (s + 1) S ls := by rw [← e9]; exact (HTab.out.ext HK8.out).set HO8.out
                have hk9 : Kp (fun k => k = gp) w8 w9 := by rw [← e9]; exact Kp.setCell (F := fun k => k = gp) (Kp.refl w8) (fun _ => rfl) _
                have hx9 : Ext w1 w9 := by rw [← e9]; exact Kp.setCell (F := fun _ => False) (HX1.out.trans HK8.out) (fun h => by have := HNew.out; simp only at h; omega) _
                have hT8 := HTab.out.ext HK8.out
                replace HPl := Lib.hid (show Blk w9 gpl [.slice (some ⟨gp, 0, none⟩) N N] 107 from (HPl.out.ext HK8.out).kp hk9 fun h => by
                  obtain ⟨vals, v1, v2, v3⟩ := hT8
                  have h2 := HPl.out.ext HK8.out
                  rw [h] at h2
                  exact absurd (blk_ne h2 v2) (by decide))
                replace HSetB := Lib.hid (show Blk w9 gset [.int .i64 s] 3 from (HSetB.out.ext HK8.out).kp hk9 fun h => by
                  obtain ⟨vals, v1, v2, v3⟩ := hT8
                  have h2 := HSetB.out.ext HK8.out
                  rw [h] at h2
                  exact absurd (blk_ne h2 v2) (by decide))
                replace HX1 := Lib.hid hx9
                have HT9 := Lib.hid hT9
                first | rw [e9] | skip
                clear hT9 hk9 hx9 hT8 hx8 f8 HK8 HO8 HTab
                have s0 : w9.cell? ⟨gset, 0, none⟩ = some (.int .i64 s) := by rw [HSetB.out.cell']; rfl
                obtain ⟨wI, eI⟩ : ∃ wI, w9.alloc (.cells #[.int .i64 s] 3) = wI := ⟨_, rfl⟩
                have hI : Blk wI w9.heap.size [.int .i64 s] 3 := by rw [← eI]; exact Blk.new w9 _ _
                have xI : Ext w9 wI := by rw [← eI]; exact (Kp.refl w9).alloc _
                obtain ⟨wJ, eJ⟩ : ∃ wJ, wI.setCell ⟨w9.heap.size, 0, none⟩ (.int .i64 (s + 1)) = wJ := ⟨_, rfl⟩
                have hJ : Blk wJ w9.heap.size [.int .i64 (s + 1)] 3 := by rw [← eJ]; exact hI.set 0 _
                have xJ : Ext w9 wJ := by rw [← eJ]; exact Kp.setCell (F := fun _ => False) xI (fun h => by simp only at h; omega) _
                have i0 : wI.cell? ⟨w9.heap.size, 0, none⟩ = some (.int .i64 s) := by rw [hI.cell']; rfl
                have i1 := hI.free 0
                have i2 : IntKind.i64.wrap ((s : Int) + 1) = (s : Int) + 1 := IntWalk.i64_in _ (by omega)
                have HFin := Lib.hid (show BestSt w1 wJ gp gpl w9.heap.size N (s + 1) S ls from ⟨HX1.out.trans xJ, HPl.out.ext xJ, hJ, HT9.out.ext xJ, HNew.out⟩)
                have HMs := Lib.hid (setAt_eq hJ)
                clear hI xI hJ xJ
                go_wp2
                clear eI eJ i0 i1 i2 s0
                go_roundw
                case rel => exact ⟨s + 1, _, by omega, by omega, rfl, HFin⟩
                case measure =>
                  have h2 := HMs.out
                  have h3 := HMr.out
                  rw [show ((s : Int) + 1).toNat = s + 1 by omega] at h2
                  rw [Int.toNat_natCast] at h3
                  rw [HW5.out, h2, h3]
                  omega
              · have hd : decide (stands ls (bitsS i s)) = false := decide_eq_false hstand
                rw [hd]
                have HT9 := Lib.hid (HTab.out.skip (HRow.out.2 (by rw [← HN.out]; exact hstand)))
                clear hd hstand HRow HTab HI HGin
                have s0 : w6.cell? ⟨gset, 0, none⟩ = some (.int .i64 s) := by rw [HSetB.out.cell']; rfl
                obtain ⟨wI, eI⟩ : ∃ wI, w6.alloc (.cells #[.int .i64 s] 3) = wI := ⟨_, rfl⟩
                have hI : Blk wI w6.heap.size [.int .i64 s] 3 := by rw [← eI]; exact Blk.new w6 _ _
                have xI : Ext w6 wI := by rw [← eI]; exact (Kp.refl w6).alloc _
                obtain ⟨wJ, eJ⟩ : ∃ wJ, wI.setCell ⟨w6.heap.size, 0, none⟩ (.int .i64 (s + 1)) = wJ := ⟨_, rfl⟩
                have hJ : Blk wJ w6.heap.size [.int .i64 (s + 1)] 3 := by rw [← eJ]; exact hI.set 0 _
                have xJ : Ext w6 wJ := by rw [← eJ]; exact Kp.setCell (F := fun _ => False) xI (fun h => by simp only at h; omega) _
                have i0 : wI.cell? ⟨w6.heap.size, 0, none⟩ = some (.int .i64 s) := by rw [hI.cell']; rfl
                have i1 := hI.free 0
                have i2 : IntKind.i64.wrap ((s : Int) + 1) = (s : Int) + 1 := IntWalk.i64_in _ (by omega)
                have HFin := Lib.hid (show BestSt w1 wJ gp gpl w6.heap.size N (s + 1) S ls from ⟨HX1.out.trans xJ, HPl.out.ext xJ, hJ, HT9.out.ext xJ, HNew.out⟩)
                have HMs := Lib.hid (setAt_eq hJ)
                clear hI xI hJ xJ
                go_wp2
                clear eI eJ i0 i1 i2 s0
                go_roundw
                case rel => exact ⟨s + 1, _, by omega, by omega, rfl, HFin⟩
                case measure =>
                  have h2 := HMs.out
                  have h3 := HMr.out
                  rw [show ((s : Int) + 1).toNat = s + 1 by omega] at h2
                  rw [Int.toNat_natCast] at h3
                  rw [HW5.out, h2, h3]
                  omega
        · obtain rfl : s = N := by omega
          obtain ⟨pp, hpp⟩ := best_some (S := S) (errR_zero HE.out).1
          have hsm : s - 1 < s := by omega
          have HVal := Lib.hid (bestE_some HE.out (by rw [HN.out] at hn12; exact hn12) hpp)
          have eN2 : 2 ^ ls.length - 1 = s - 1 := by rw [← HN.out, HNN.out]
          have hpp' : planS S ls (s - 1) = some pp := by rw [← eN2]; exact hpp
          obtain ⟨x, cx, ox⟩ := hst.out.tab.get hsm hsm
          rw [hpp'] at ox
          obtain ⟨b, rfl, hpa⟩ := ox
          obtain ⟨ov, hb1, hb2⟩ := hpa
          obtain ⟨oa, oc, eov, -, -⟩ := hb2.shape
          subst eov
          have d1 : wr.cell? ⟨b, 0, none⟩ = some (.slice oa pp.1.length oc) := by rw [hb1.cell']; rfl
          have d2 : wr.cell? ⟨b, 1, none⟩ = some (.float .f64 pp.2) := by rw [hb1.cell']; rfl
          have i3 : IntKind.i64.wrap ((s : Int) - 1) = ((s - 1 : Nat) : Int) := by
            rw [show (s : Int) - 1 = ((s - 1 : Nat) : Int) by omega]
            exact IntWalk.i64_in _ (by omega)
          have i4 : ((s : Int) - 1) = ((s - 1 : Nat) : Int) := by omega
          have i5 : ((s : Int) - 1).toNat = s - 1 := by omega
          obtain ⟨m, em⟩ : ∃ m, m = pp.1.length := ⟨_, rfl⟩
          obtain ⟨pc, epc⟩ : ∃ pc, pc = pp.2 := ⟨_, rfl⟩
          rw [← em] at d1 hb2
          rw [← epc] at d2
          have HD := Lib.hid (And.intro hb2 (And.intro em epc))
          have HX := Lib.hid (X1.out.trans hst.out.ext)
          clear hpp hpp' hb1 hb2 em epc eN2 hst
          go_wp2
          go_quiet (fail)
          go_wp2
          go_ret3
          refine RetN.mk (HX.out.drewN _) ?_
          rw [HVal.out]
          obtain ⟨h1, h4, h5⟩ := HD.out
          refine ⟨.slice oa m oc, by rw [h5]; rfl, ?_⟩
          rw [← h4]
          exact (h1.kp' ((Kp.refl wr).drewN _) fun _ _ _ h => h).mono fun k hk => Nat.le_trans X1.out.size hk
  · have hv := hbv.no (fun q => he (EE.out.trans q))
    rw [← EE.out] at hv
    subst hv
    have b1 : ((e : Int) == 0) = false := by simp; omega
    have b2 : ((e : Int) != 0) = true := by simp; omega
    have HH := Lib.hid he
    clear he hbv
    go_wp2
    go_ret3
    exact RetN.mk X1.out (by rw [bestE_bad (fun q => HH.out (EE.out.trans q)), ← EE.out]; exact ⟨_, rfl, Row.nil _ _ _ _⟩)
theorem best_any (p : ByteArray) (hs : List TermZ) (ls : List LitZ) (ha : Option Addr) (hn hcap : Nat) (ba : Option Addr) (n bcap : Nat) (S : List StatZ) (sa : Option Addr) (sn scap : Nat) (w : World) (G : Nat → Prop) (hhn : hn = hs.length) (hh : TermsAt w G ha hs) (hhl : hn ≤ 1048576) (hbn : n = ls.length) (h : LitsAt w G ba ls) (hf : Fit ls)
    (hsn : sn = S.length) (hsc : sn ≤ scap) (hS : StatsAt w sa S) (hSf : StatsFit S) :
    Calls Tryz.prog 17 #[ruleV p ha hn hcap ba n bcap, .slice sa sn scap] w (RetN w (BestV (bestE ((p, hs, ()), ls, ()) S))) :=
  (best_own p hs ls ha hn hcap ba n bcap S sa sn scap w G hhn hh hhl hbn h hf hsn hsc hS hSf).mono fun e w' ⟨v, h1, h2, h3⟩ => ⟨v, h1, h2, h3.v⟩
end Go.Proofs.YtomeebimmmfmbaaGreat
