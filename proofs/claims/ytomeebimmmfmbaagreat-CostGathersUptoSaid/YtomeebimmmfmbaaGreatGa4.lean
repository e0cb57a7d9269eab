/- Texts joined for a claim (Wanted, BodyFns, BodyR, Stands, Guess). -/
import Derived.Test.YtomeebimmmfmbaaGreatGa3
/- The law of costs: wanted. -/
namespace Go.Proofs.YtomeebimmmfmbaaGreat
open Go.RowKit
set_option linter.unusedVariables false

/-- The rule that grows. -/
def WantTo (Q : World → LitZ × (Option Addr × Nat) → Prop) (wb : World) (gx : Nat) (p : ByteArray) (ha : Option Addr) (hn hcap : Nat) (Ls : List LitZ) (m : Nat) (iv : Value) (w : World) : Prop := ∃ i : Nat, i ≤ m ∧ iv = .int .i64 i ∧ Hid (Ext wb w) ∧
  Hid (∃ bv vs, Blk w gx [.string p, .slice ha hn hcap, bv] 28 ∧ vs.length = i ∧ Row w 97 8 bv i (((Ls.take i).zip vs).flatMap litC) (New wb) ∧ ∀ x ∈ (Ls.take i).zip vs, Q w x)
open Classical in
set_option maxRecDepth 100000 in
set_option maxHeartbeats 8000000 in
theorem wanted_any (p : ByteArray) (hs : List TermZ) (ls : List LitZ) (ha : Option Addr) (hn hcap : Nat) (ba : Option Addr) (n bcap : Nat) (xs : List Int) (na : Option Addr) (m mcap : Nat) (w : World) (G : Nat → Prop) (hhn : hn = hs.length) (hh : TermsAt w G ha hs) (hhl : hn ≤ 1048576) (hbn : n = ls.length) (h : LitsAt w G ba ls) (hf : Fit ls)
    (hm : m = xs.length) (hx : CellsAt w na (ints xs)) (hml : m ≤ 1048576) (hmc : m ≤ mcap) (hmx : mcap ≤ maxLen) (hG : ∀ k, G k → k < w.heap.size) :
    Calls Tryz.prog 37 #[ruleV p ha hn hcap ba n bcap, .slice na m mcap] w (RetN w (OrdV (fun k => G k ∨ w.heap.size ≤ k) p hs ls xs)) := by
  have HRi := Lib.hid (fun (W : World) (hW : Ext w W) => refRight_any p hs ls ha hn hcap ba n bcap [] none 0 0 W G hhn (hh.ext hW) hhl hbn (h.ext hW) hf rfl (stats_nil W) stats_fit0)
  have HOr := Lib.hid (fun (W : World) (hW : Ext w W) => refOrder_any p ls ha hn hcap ba n bcap xs na m mcap W G hbn (h.ext hW) hf hm (hx.ext hW) (by omega) hmc hmx)
  have HN := Lib.hid (And.intro hbn (And.intro hm hhn)); have HE := Lib.hid h; have HF := Lib.hid hf; have hl : n ≤ 1048576 := by have := hf.len; omega
  have HH := Lib.hid (And.intro hh hG)
  have HXs := Lib.hid hx
  obtain ⟨ec, eec⟩ : ∃ e, errR ((p, hs, ()), ls, ()) [] = e := ⟨_, rfl⟩
  rw [eec] at HRi
  have EE := Lib.hid eec
  clear hbn h hf hhn hh hm hx hG eec hmx
  go_enter Tryz.func37, Tryz.ntmps37
  obtain ⟨wb, eb⟩ : ∃ wb, (w.alloc (.cells #[.string p, .slice ha hn hcap, .slice ba n bcap] 28)).alloc (.cells #[.string ⟨#[]⟩, .slice none 0 0, .slice none 0 0] 28) = wb := ⟨_, rfl⟩
  have hB1 : Blk wb w.heap.size [.string p, .slice ha hn hcap, .slice ba n bcap] 28 := by rw [← eb]; exact (Blk.new w _ _).alloc _
  have hB2 : Blk wb (w.heap.size + 1) [.string ⟨#[]⟩, .slice none 0 0, .slice none 0 0] 28 := by
    have := Blk.new (w.alloc (.cells #[.string p, .slice ha hn hcap, .slice ba n bcap] 28)) [.string ⟨#[]⟩, .slice none 0 0, .slice none 0 0] 28
    rw [alloc_size] at this
    rw [← eb]; exact this
  have hX : Ext w wb := by rw [← eb]; exact ((Kp.refl w).alloc _).alloc _
  obtain ⟨g0, eg0⟩ : ∃ g, w.heap.size = g := ⟨_, rfl⟩
  rw [eg0] at hB1 hB2
  have HB := Lib.hid (And.intro hB1 (And.intro hB2 (And.intro hX eg0)))
  have c0 : wb.cell? ⟨g0, 0, none⟩ = some (.string p) := by rw [hB1.cell']; rfl
  have c1 : wb.cell? ⟨g0, 1, none⟩ = some (.slice ha hn hcap) := by rw [hB1.cell']; rfl
  have c2 : wb.cell? ⟨g0, 2, none⟩ = some (.slice ba n bcap) := by rw [hB1.cell']; rfl
  clear hB1 hB2 hX
  go_wp2_with fail
  refine (HRi.out _ HB.out.2.2.1).mono ?_
  rintro e1 w1 ⟨v, rfl, hk1, rfl⟩
  have X1 := Lib.hid hk1
  clear hk1 HRi
  by_cases he : ec = 0
  · subst he
    replace c0 := X1.out.cell c0 id
    replace c1 := X1.out.cell c1 id
    replace c2 := X1.out.cell c2 id
    go_wp2_with fail
    refine (HOr.out _ (HB.out.2.2.1.trans X1.out)).mono ?_
    rintro e2 w2 ⟨v, rfl, hk2, rfl⟩
    have X2 := Lib.hid (X1.out.trans hk2)
    replace c0 := hk2.cell c0 id
    replace c1 := hk2.cell c1 id
    replace c2 := hk2.cell c2 id
    clear hk2 HOr X1
    by_cases ho : orderOk ls xs
    · rw [decide_eq_true ho]
      have HO := Lib.hid ho
      clear ho eb
      go_wp2
      obtain ⟨gx, eg⟩ : ∃ g, w2.heap.size = g := ⟨_, rfl⟩
      rw [eg]
      obtain ⟨w3, ew3⟩ : ∃ x, w2.alloc (.cells #[.string p, .slice ha hn hcap, .slice none 0 0] 28) = x := ⟨_, rfl⟩
      rw [ew3]
      have HGX := Lib.hid (show Blk w3 gx [.string p, .slice ha hn hcap, .slice none 0 0] 28 by rw [← ew3, ← eg]; exact Blk.new w2 _ _)
      have X3 := Lib.hid (show Ext w2 w3 by rw [← ew3]; exact (Kp.refl w2).alloc _)
      have EGX := Lib.hid (show w2.heap.size = gx from eg)
      clear ew3 eg c0 c1 c2
      go_loopw [8] (fun iv wr => WantTo (fun _ x => TermsAt w G x.2.1 (termsOf x.1) ∧ (termsOf x.1).length ≤ x.2.2 ∧ x.2.2 ≤ maxLen) w2 gx p ha hn hcap (ordL ls xs) m iv wr) (fun iv _ => m - (intOf iv).toNat)
      case atStart => exact ⟨0, Nat.zero_le _, rfl, X3, Lib.hid ⟨_, [], HGX.out, rfl, Row.nil _ _ _ _, fun x hx => by simp at hx⟩⟩
      case round =>
        obtain ⟨i, hi, rfl, hex, hin⟩ := hrel
        generalize hw5 : wr = w5 at *; clear hw5
        obtain ⟨bv, vs, hB, hvs, hrow, hds⟩ := hin.out
        obtain ⟨oa, oc, eov, _, _⟩ := hrow.shape
        subst eov
        have XR := Lib.hid ((HB.out.2.2.1.trans X2.out).trans hex.out)
        have g2 : w5.cell? ⟨gx, 2, none⟩ = some (.slice oa i oc) := by rw [hB.cell']; rfl
        have g2f := hB.free 2
        have HI := Lib.hid (And.intro hB (And.intro hvs (And.intro hrow hds)))
        clear hin hB hvs hrow hds
        by_cases hlt : i < m
        · obtain ⟨x, hxi⟩ : ∃ x, xs[i]? = some x := ⟨_, List.getElem?_eq_getElem (by rw [← HN.out.2.1]; exact hlt)⟩
          obtain ⟨q, eq, l, hlq, hoi⟩ := order_lit HO.out hxi
          subst eq
          obtain ⟨ab, ao, ena, hcx⟩ := HXs.out i (.int .i64 (q : Int)) (by simp [ints, hxi])
          subst ena
          have d0 := XR.out.cell hcx id
          have hqn : q < n := by rw [HN.out.1]; exact (List.getElem?_eq_some_iff.1 hlq).1
          obtain ⟨b, off, a2, cap2, eao, hG, hb, hL, c0, c1, c2, c3, c4, c5, c6, c7⟩ := lit_at HE.out hlq
          subst eao
          replace c0 := XR.out.cell c0 id
          replace c1 := XR.out.cell c1 id
          replace c2 := XR.out.cell c2 id
          replace c3 := XR.out.cell c3 id
          replace c4 := XR.out.cell c4 id
          replace c5 := XR.out.cell c5 id
          replace c6 := XR.out.cell c6 id
          replace c7 := XR.out.cell c7 id
          have d1 : w5.cell? ⟨g0, 2, none⟩ = some (.slice (some ⟨b, off, none⟩) n bcap) := by rw [(HB.out.1.ext (X2.out.trans hex.out)).cell']; rfl
          obtain ⟨y0, e0⟩ : ∃ y, y = l.1 := ⟨_, rfl⟩
          obtain ⟨y1, e1⟩ : ∃ y, y = predOf l := ⟨_, rfl⟩
          obtain ⟨mm, emm⟩ : ∃ mm, mm = (termsOf l).length := ⟨_, rfl⟩
          obtain ⟨y3, e3⟩ : ∃ y, y = opOf l := ⟨_, rfl⟩
          obtain ⟨y4, e4⟩ : ∃ y, y = (leftOf l).1 := ⟨_, rfl⟩
          obtain ⟨y5, e5⟩ : ∃ y, y = (leftOf l).2.1 := ⟨_, rfl⟩
          obtain ⟨y6, e6⟩ : ∃ y, y = (rightOf l).1 := ⟨_, rfl⟩
          obtain ⟨y7, e7⟩ : ∃ y, y = (rightOf l).2.1 := ⟨_, rfl⟩
          rw [← e0] at c0
          rw [← e1] at c1
          rw [← emm] at c2
          rw [← e3] at c3
          rw [← e4] at c4
          rw [← e5] at c5
          rw [← e6] at c6
          rw [← e7] at c7
          have HLit := Lib.hid (show litC (l, (a2, cap2)) = [.int .i64 y0, .string y1, .slice a2 mm cap2, .int .i64 y3, .int .i64 y4, .string y5, .int .i64 y6, .string y7] from by rw [e0, e1, emm, e3, e4, e5, e6, e7]; rfl)
          have HL := Lib.hid (And.intro hL (And.intro hlq hoi))
          have HCs := Lib.hid (show ∀ w', Ext w5 w' → (fun w' : World => w'.cell? ⟨gx, 2, none⟩ = some (.slice oa i oc) ∧ w'.cell? ⟨g0, 2, none⟩ = some (.slice (some ⟨b, off, none⟩) n bcap) ∧ w'.cell? ⟨ab, ao + i, none⟩ = some (.int .i64 (q : Int)) ∧ w'.cell? ⟨b, off + q * 8, none⟩ = some (.int .i64 y0) ∧ w'.cell? ⟨b, off + q * 8 + 1, none⟩ = some (.string y1) ∧ w'.cell? ⟨b, off + q * 8 + 2, none⟩ = some (.slice a2 mm cap2) ∧ w'.cell? ⟨b, off + q * 8 + 3, none⟩ = some (.int .i64 y3) ∧ w'.cell? ⟨b, off + q * 8 + 4, none⟩ = some (.int .i64 y4) ∧ w'.cell? ⟨b, off + q * 8 + 5, none⟩ = some (.string y5) ∧ w'.cell? ⟨b, off + q * 8 + 6, none⟩ = some (.int .i64 y6) ∧ w'.cell? ⟨b, off + q * 8 + 7, none⟩ = some (.string y7)) w' from fun w' hw => ⟨hw.cell g2 id, hw.cell d1 id, hw.cell d0 id, hw.cell c0 id, hw.cell c1 id, hw.cell c2 id, hw.cell c3 id, hw.cell c4 id, hw.cell c5 id, hw.cell c6 id, hw.cell c7 id⟩)
          clear e0 e1 emm e3 e4 e5 e6 e7 g2 d1 d0 c0 c1 c2 c3 c4 c5 c6 c7 hcx hL hlq hoi hxi hb hG
          go_wp2
          refine draw_begin (fun w' : World => w'.cell? ⟨gx, 2, none⟩ = some (.slice oa i oc) ∧ w'.cell? ⟨g0, 2, none⟩ = some (.slice (some ⟨b, off, none⟩) n bcap) ∧ w'.cell? ⟨ab, ao + i, none⟩ = some (.int .i64 (q : Int)) ∧ w'.cell? ⟨b, off + q * 8, none⟩ = some (.int .i64 y0) ∧ w'.cell? ⟨b, off + q * 8 + 1, none⟩ = some (.string y1) ∧ w'.cell? ⟨b, off + q * 8 + 2, none⟩ = some (.slice a2 mm cap2) ∧ w'.cell? ⟨b, off + q * 8 + 3, none⟩ = some (.int .i64 y3) ∧ w'.cell? ⟨b, off + q * 8 + 4, none⟩ = some (.int .i64 y4) ∧ w'.cell? ⟨b, off + q * 8 + 5, none⟩ = some (.string y5) ∧ w'.cell? ⟨b, off + q * 8 + 6, none⟩ = some (.int .i64 y6) ∧ w'.cell? ⟨b, off + q * 8 + 7, none⟩ = some (.string y7)) [11, 13] (by kernel_rfl) (HCs.out _ (Kp.refl w5).drew) (fun hHeld => ?_)
          (refine draw_free (i := 0) (v := ?_) rfl ?_ ?_; rotate_left; (intro w; go_simp; try with_reducible rfl)); (try simp only [Act.put, List.setIfInBounds_toArray, List.set_cons_zero, List.set_cons_succ])
          (refine draw_in (i := 1) (v := ?_) rfl ?_ ?_; rotate_left; (intro w hSw; (try dsimp only at hSw); go_simp; try with_reducible rfl)); (try simp only [Act.put, List.setIfInBounds_toArray, List.set_cons_zero, List.set_cons_succ])
          (refine draw_free (i := 2) (v := ?_) rfl ?_ ?_; rotate_left; (intro w; go_simp; try with_reducible rfl)); (try simp only [Act.put, List.setIfInBounds_toArray, List.set_cons_zero, List.set_cons_succ])
          (refine draw_in (i := 3) (v := ?_) rfl ?_ ?_; rotate_left; (intro w hSw; (try dsimp only at hSw); go_simp; try with_reducible rfl)); (try simp only [Act.put, List.setIfInBounds_toArray, List.set_cons_zero, List.set_cons_succ])
          (refine draw_free (i := 4) (v := ?_) rfl ?_ ?_; rotate_left; (intro w; go_simp; try with_reducible rfl)); (try simp only [Act.put, List.setIfInBounds_toArray, List.set_cons_zero, List.set_cons_succ])
          (refine draw_free (i := 5) (v := ?_) rfl ?_ ?_; rotate_left; (intro w; go_simp; try with_reducible rfl)); (try simp only [Act.put, List.setIfInBounds_toArray, List.set_cons_zero, List.set_cons_succ])
          (refine draw_in (i := 6) (v := ?_) rfl ?_ ?_; rotate_left; (intro w hSw; (try dsimp only at hSw); go_simp; try with_reducible rfl)); (try simp only [Act.put, List.setIfInBounds_toArray, List.set_cons_zero, List.set_cons_succ])
          (refine draw_in (i := 7) (v := ?_) rfl ?_ ?_; rotate_left; (intro w hSw; (try dsimp only at hSw); go_simp; try with_reducible rfl)); (try simp only [Act.put, List.setIfInBounds_toArray, List.set_cons_zero, List.set_cons_succ])
          (refine draw_in (i := 8) (v := ?_) rfl ?_ ?_; rotate_left; (intro w hSw; (try dsimp only at hSw); go_simp; try with_reducible rfl)); (try simp only [Act.put, List.setIfInBounds_toArray, List.set_cons_zero, List.set_cons_succ])
          (refine draw_in (i := 9) (v := ?_) rfl ?_ ?_; rotate_left; (intro w hSw; (try dsimp only at hSw); go_simp; try with_reducible rfl)); (try simp only [Act.put, List.setIfInBounds_toArray, List.set_cons_zero, List.set_cons_succ])
          refine draw_one (i := 10) ?_
          refine comes_turn (i := 10) rfl (fun K hK => ?_)
          go_simp
          refine hK.out _ _ ?_ (fun hHeld => ?_)
          · (try dsimp only); (exact HCs.out _ ((Kp.refl w5).alloc _).drew)
          clear hK K; (try simp only [Act.put, List.setIfInBounds_toArray, List.set_cons_zero, List.set_cons_succ])
          refine draw_one (i := 11) ?_
          refine comes_late (i := 11) rfl (by kernel_rfl) (fun K hK => ?_)
          refine draw_appN elem_lit rfl _ _ rfl (hex.out.alloc _).drew rfl (HI.out.2.2.1.alloc _).drew rfl (CellsAt.new w5 [.int .i64 y0, .string y1, .slice a2 mm cap2, .int .i64 y3, .int .i64 y4, .string y5, .int .i64 y6, .string y7] 97) (by rfl) (by rw [← HLit.out]; exact litC_one _) (by omega) (by unfold maxLen; omega) ?_; intro v1 w6 hr1 hk1 hk2
          refine hK.out _ _ ?_
          clear hK K; (try simp only [Act.put, List.setIfInBounds_toArray, List.set_cons_zero, List.set_cons_succ])
          (refine draw_free (i := 12) (v := ?_) rfl ?_ ?_; rotate_left; (intro w; go_simp; try with_reducible rfl)); (try simp only [Act.put, List.setIfInBounds_toArray, List.set_cons_zero, List.set_cons_succ])
          refine draw_one (i := 13) ?_
          refine comes_late (i := 13) rfl (by kernel_rfl) (fun K hK => ?_)
          (obtain ⟨b6, c6, ev6, _, _⟩ := hr1.shape; subst ev6; have hB6 : Blk w6 gx [.string p, .slice ha hn hcap, .slice oa i oc] 28 := (HI.out.1.alloc _).drew.kp hk2 (fun e => (by obtain ⟨cs, hb⟩ := HI.out.2.2.1.blkOf e; exact typ_lrC (blk_ne hb HI.out.1))); have x6 : w6.cell? ⟨gx, 2, none⟩ = some (.slice oa i oc) := (by rw [hB6.cell']; rfl); have x6f := hB6.free 2; have HA := Lib.hid (And.intro hr1 (And.intro hk1 (And.intro hB6 hk2))); clear hr1 hk1 hk2 hB6)
          go_simp
          refine hK.out _ _ ?_
          clear hK K; (try simp only [Act.put, List.setIfInBounds_toArray, List.set_cons_zero, List.set_cons_succ])
          refine wpAnyD_done (by kernel_rfl) ?_ _
          obtain ⟨hr1, hk1, hB6, hk2⟩ := HA.out
          obtain ⟨w7, ew7⟩ : ∃ w7, w6.setCell ⟨gx, 2, none⟩ (.slice b6 (i + 1) c6) = w7 := ⟨_, rfl⟩
          have hk67 : Kp (fun k => k = gx) w6 w7 := by rw [← ew7]; exact Kp.setCell (F := fun k => k = gx) (Kp.refl w6) (fun _ => rfl) _
          have hB7 : Blk w7 gx [.string p, .slice ha hn hcap, .slice b6 (i + 1) c6] 28 := by rw [← ew7]; exact hB6.set 2 _
          have hx7 : Ext w2 w7 := by rw [← ew7]; exact Kp.setCell (F := fun _ => False) hk1 (fun h => by have := EGX.out; simp only at h; omega) _
          have hr7 := hr1.kp' hk67 fun g hg _ e => by
            obtain ⟨cs, hb⟩ := hr1.blkOf hg
            subst e
            exact typ_lrC (blk_ne hb hB6)
          have HFin := Lib.hid (show ∃ bv vs, Blk w7 gx [.string p, .slice ha hn hcap, bv] 28 ∧ vs.length = i + 1 ∧ Row w7 97 8 bv (i + 1) ((((ordL ls xs).take (i + 1)).zip vs).flatMap litC) (New w2) ∧ ∀ x ∈ ((ordL ls xs).take (i + 1)).zip vs, TermsAt w G x.2.1 (termsOf x.1) ∧ (termsOf x.1).length ≤ x.2.2 ∧ x.2.2 ≤ maxLen from by
            have hlen : ((ordL ls xs).take i).length = vs.length := by rw [List.length_take, HI.out.2.1, ordL_len]; have := HN.out.2.1; omega
            have et := takeSnoc HL.out.2.2
            refine ⟨_, vs ++ [(a2, cap2)], hB7, by rw [List.length_append, HI.out.2.1]; rfl, ?_, ?_⟩
            · rw [et, List.zip_append hlen, List.flatMap_append]
              have e2 : (([l].zip [(a2, cap2)]).flatMap litC) = [.int .i64 y0, .string y1, .slice a2 mm cap2, .int .i64 y3, .int .i64 y4, .string y5, .int .i64 y6, .string y7] := by
                show litC (l, (a2, cap2)) ++ [] = _
                rw [List.append_nil, HLit.out]
              rw [e2]; exact hr7
            · intro x hx
              rw [et, List.zip_append hlen, List.mem_append] at hx
              rcases hx with hx | hx
              · exact HI.out.2.2.2 x hx
              · simp at hx; subst hx
                exact ⟨HL.out.1.terms, HL.out.1.len, HL.out.1.cap⟩)
          have HX7 := Lib.hid hx7
          rw [ew7]
          clear hr1 hk1 hB6 hk67 hB7 hx7 hr7 x6 x6f HA ew7 hHeld hk2
          go_wp2
          go_roundw
          case rel => exact ⟨i + 1, by omega, by first | rfl | (congr 1; done) | (congr 1; omega), HX7, HFin⟩
          case measure => simp [intOf]; omega
        · have ei : m = i := by omega
          have hall : (ordL ls xs).take i = ordL ls xs := List.take_of_length_le (by rw [ordL_len, ← HN.out.2.1, ei]; exact Nat.le_refl _)
          rw [hall] at HI
          have l0 : w5.cell? ⟨gx, 0, none⟩ = some (.string p) := by rw [HI.out.1.cell']; rfl
          have l1 : w5.cell? ⟨gx, 1, none⟩ = some (.slice ha hn hcap) := by rw [HI.out.1.cell']; rfl
          have hz2 := HB.out.2.1.ext (X2.out.trans hex.out)
          have z0 : w5.cell? ⟨g0 + 1, 0, none⟩ = some (.string ⟨#[]⟩) := by rw [hz2.cell']; rfl
          have z1 : w5.cell? ⟨g0 + 1, 1, none⟩ = some (.slice none 0 0) := by rw [hz2.cell']; rfl
          have z2 : w5.cell? ⟨g0 + 1, 2, none⟩ = some (.slice none 0 0) := by rw [hz2.cell']; rfl
          have f0 := hz2.free 0
          have f1 := hz2.free 1
          have f2 := hz2.free 2
          go_wp2
          generalize hw9 : World.setCell (World.setCell (World.setCell _ _ _) _ _) _ _ = w9
          obtain ⟨hD, hk9⟩ : Blk w9 (g0 + 1) [.string p, .slice ha hn hcap, .slice oa i oc] 28 ∧ Kp (fun k => k = g0 + 1) w5 w9 := by rw [← hw9]; exact rule_set hz2
          have r0 : w9.cell? ⟨g0 + 1, 0, none⟩ = some (.string p) := by rw [hD.cell']; rfl
          have r1 : w9.cell? ⟨g0 + 1, 1, none⟩ = some (.slice ha hn hcap) := by rw [hD.cell']; rfl
          have r2 : w9.cell? ⟨g0 + 1, 2, none⟩ = some (.slice oa i oc) := by rw [hD.cell']; rfl
          have HX9 := Lib.hid (show Ext w w9 from (HB.out.2.2.1.trans (X2.out.trans hex.out)).trans' hk9 fun k hk e => by have := HB.out.2.2.2; omega)
          have HK9 := Lib.hid hk9
          clear hw9 hk9 hz2 z0 z1 z2 f0 f1 f2 hD
          try simp only [Exit.inBlock, Exit.then]
          refine bodyPost_ret (v := .tuple #[ruleV p ha hn hcap oa i oc, .int .i64 0]) (by simp [results, Tryz.results37, go_sem, ruleV, r0, r1, r2]) rfl ?_
          have hE0 := ordE_some EE.out HO.out
          refine RetN.mk HX9.out ⟨fun h0 => absurd hE0 h0, fun _ => ⟨ha, hcap, oa, oc, ?_, (HH.out.1.ext HX9.out).mono fun _ h => .inl h, ?_⟩⟩
          · rw [← HN.out.2.2, ← HN.out.2.1, ei]
          · have hall2 : ∀ l ∈ ordL ls xs, LitAll l := fun l hl => lits_all HE.out l (ordL_mem HO.out l hl)
            have hr9 := HI.out.2.2.1.kp' HK9.out fun g hg _ e => by
              obtain ⟨cs, hb⟩ := HI.out.2.2.1.blkOf hg
              subst e
              exact typ_lrC (blk_ne hb (HB.out.2.1.ext (X2.out.trans hex.out)))
            refine row_lits hr9 (by rw [ordL_len, ← HN.out.2.1, ei]) (by rw [HI.out.2.1, ordL_len, ← HN.out.2.1, ei]) hall2 (fun x hx => ?_) fun k hk => .inr (by have h8 := (HB.out.2.2.1.trans X2.out).size; have h9 := HB.out.2.2.2; have h7 : w2.heap.size ≤ k := hk; omega)
            obtain ⟨t1, t2, t3⟩ := HI.out.2.2.2 x hx
            exact ⟨(t1.ext HX9.out).mono fun _ h => .inl h, t2, t3⟩
    · rw [decide_eq_false ho]
      have HO := Lib.hid ho
      clear ho
      have hz2 := HB.out.2.1.ext X2.out
      have z0 : w2.cell? ⟨g0 + 1, 0, none⟩ = some (.string ⟨#[]⟩) := by rw [hz2.cell']; rfl
      have z1 : w2.cell? ⟨g0 + 1, 1, none⟩ = some (.slice none 0 0) := by rw [hz2.cell']; rfl
      have z2 : w2.cell? ⟨g0 + 1, 2, none⟩ = some (.slice none 0 0) := by rw [hz2.cell']; rfl
      have f0 := hz2.free 0
      have f1 := hz2.free 1
      have f2 := hz2.free 2
      go_wp2
      generalize hw9 : World.setCell (World.setCell (World.setCell _ _ _) _ _) _ _ = w9
      obtain ⟨hD, hk9⟩ : Blk w9 (g0 + 1) [.string ⟨#[]⟩, .slice none 0 0, .slice none 0 0] 28 ∧ Kp (fun k => k = g0 + 1) w2 w9 := by rw [← hw9]; exact rule_set hz2
      have r0 : w9.cell? ⟨g0 + 1, 0, none⟩ = some (.string ⟨#[]⟩) := by rw [hD.cell']; rfl
      have r1 : w9.cell? ⟨g0 + 1, 1, none⟩ = some (.slice none 0 0) := by rw [hD.cell']; rfl
      have r2 : w9.cell? ⟨g0 + 1, 2, none⟩ = some (.slice none 0 0) := by rw [hD.cell']; rfl
      have HX9 := Lib.hid (show Ext w w9 from (HB.out.2.2.1.trans X2.out).trans' hk9 fun k hk e => by have := HB.out.2.2.2; omega)
      have HK9 := Lib.hid hk9
      clear hw9 hk9 hz2 z0 z1 z2 f0 f1 f2 hD
      try simp only [Exit.inBlock, Exit.then]
      refine bodyPost_ret (v := .tuple #[ruleV ⟨#[]⟩ none 0 0 none 0 0, .int .i64 2]) (by simp [results, Tryz.results37, go_sem, ruleV, r0, r1, r2]) rfl ?_
      exact RetN.mk HX9.out ⟨fun _ => by rw [ordE_none EE.out HO.out]; rfl, fun h0 => by rw [ordE_none EE.out HO.out] at h0; cases h0⟩
  · have b2 : ((ec : Int) != 0) = true := by simp; omega
    have HEc := Lib.hid he
    clear he
    have hz2 := HB.out.2.1.ext X1.out
    have z0 : w1.cell? ⟨g0 + 1, 0, none⟩ = some (.string ⟨#[]⟩) := by rw [hz2.cell']; rfl
    have z1 : w1.cell? ⟨g0 + 1, 1, none⟩ = some (.slice none 0 0) := by rw [hz2.cell']; rfl
    have z2 : w1.cell? ⟨g0 + 1, 2, none⟩ = some (.slice none 0 0) := by rw [hz2.cell']; rfl
    have f0 := hz2.free 0
    have f1 := hz2.free 1
    have f2 := hz2.free 2
    go_wp2
    generalize hw9 : World.setCell (World.setCell (World.setCell _ _ _) _ _) _ _ = w9
    obtain ⟨hD, hk9⟩ : Blk w9 (g0 + 1) [.string ⟨#[]⟩, .slice none 0 0, .slice none 0 0] 28 ∧ Kp (fun k => k = g0 + 1) w1 w9 := by rw [← hw9]; exact rule_set hz2
    have r0 : w9.cell? ⟨g0 + 1, 0, none⟩ = some (.string ⟨#[]⟩) := by rw [hD.cell']; rfl
    have r1 : w9.cell? ⟨g0 + 1, 1, none⟩ = some (.slice none 0 0) := by rw [hD.cell']; rfl
    have r2 : w9.cell? ⟨g0 + 1, 2, none⟩ = some (.slice none 0 0) := by rw [hD.cell']; rfl
    have HX9 := Lib.hid (show Ext w w9 from (HB.out.2.2.1.trans X1.out).trans' hk9 fun k hk e => by have := HB.out.2.2.2; omega)
    have HK9 := Lib.hid hk9
    clear hw9 hk9 hz2 z0 z1 z2 f0 f1 f2 hD
    try simp only [Exit.inBlock, Exit.then]
    refine bodyPost_ret (v := .tuple #[ruleV ⟨#[]⟩ none 0 0 none 0 0, .int .i64 (ec : Nat)]) (by simp [results, Tryz.results37, go_sem, ruleV, r0, r1, r2]) rfl ?_
    exact RetN.mk HX9.out ⟨fun _ => by rw [ordE_bad (by rw [EE.out]; exact HEc.out), EE.out], fun h0 => by rw [ordE_bad (by rw [EE.out]; exact HEc.out), EE.out] at h0; exact absurd h0 HEc.out⟩
end Go.Proofs.YtomeebimmmfmbaaGreat

/- cost: share, named, the closure that looks a predicate up. -/
namespace Go.Proofs.YtomeebimmmfmbaaGreat
open Go.RowKit
set_option linter.unusedVariables false
attribute [local go_sem] run_store_float

theorem share_any (l : LitZ) (k : Int) (p : ByteArray) (a : Option Addr) (m cap : Nat) (op lk : Int) (lt : ByteArray) (rk : Int) (rt : ByteArray) (w : World) (hk : l.1 = k) (ho : opOf l = op) :
    Calls Tryz.prog 79 #[litV k p a m cap op lk lt rk rt] w (RetN w fun w' v => v = .float .f64 (shareW l)) := by
  have hsh : shareW l = if k = 2 then 4602678819172646912 else if op = 1 then 4591870180066957722 else if op = 2 then 4606281698874543309 else 4600877379321698714 := by unfold shareW; rw [hk, ho]
  rw [hsh]
  clear hsh hk ho
  by_cases a1 : k = 2
  · rw [if_pos a1]
    have m1 : (k == 2) = true := by simp [a1]
    have HA := Lib.hid a1; clear a1
    go_enter Tryz.func79, Tryz.ntmps79
    go_wp2
    go_ret
    exact RetN.mk ((Kp.refl w).alloc _) rfl
  · rw [if_neg a1]
    have m1 : (k == 2) = false := by simp [a1]
    by_cases a2 : op = 1
    · rw [if_pos a2]
      have m2 : (op == 1) = true := by simp [a2]
      have HA := Lib.hid (And.intro a1 a2); clear a1 a2
      go_enter Tryz.func79, Tryz.ntmps79
      go_wp2
      go_ret
      exact RetN.mk ((Kp.refl w).alloc _) rfl
    · rw [if_neg a2]
      have m2 : (op == 1) = false := by simp [a2]
      by_cases a3 : op = 2
      · rw [if_pos a3]
        have m3 : (op == 2) = true := by simp [a3]
        have HA := Lib.hid (And.intro a1 (And.intro a2 a3)); clear a1 a2 a3
        go_enter Tryz.func79, Tryz.ntmps79
        go_wp2
        go_ret
        exact RetN.mk ((Kp.refl w).alloc _) rfl
      · rw [if_neg a3]
        have m3 : (op == 2) = false := by simp [a3]
        have HA := Lib.hid (And.intro a1 (And.intro a2 a3)); clear a1 a2 a3
        go_enter Tryz.func79, Tryz.ntmps79
        go_wp2
        go_ret
        exact RetN.mk ((Kp.refl w).alloc _) rfl

theorem varsT_take {ts : List TermZ} {i : Nat} {t : TermZ} (h : ts[i]? = some t) : varsT (ts.take (i + 1)) = varsT (ts.take i) ++ if t.1 = 1 then [t.2.1] else [] := by
  unfold varsT
  rw [filterMap_take _ h]
  congr 1
  split <;> rfl
theorem varsT_len (ts : List TermZ) : (varsT ts).length ≤ ts.length := List.length_filterMap_le _ _
def NamedTo (w0 : World) (ts : List TermZ) (n : Nat) (iv lv : Value) (w : World) : Prop := ∃ i : Nat, i ≤ n ∧ iv = .int .i64 i ∧ Hid (Row w 9 1 lv (varsT (ts.take i)).length (strs (varsT (ts.take i))) (New w0)) ∧ Hid (Ext w0 w)
set_option maxRecDepth 100000 in
set_option maxHeartbeats 1000000 in
theorem namedC_any (ts : List TermZ) (ao : Option Addr) (n cap : Nat) (w : World) (G : Nat → Prop) (hn : n = ts.length) (h : TermsAt w G ao ts) (hl : n ≤ 1048576) :
    Calls Tryz.prog 80 #[.slice ao n cap] w (RetN w fun w' v => Row w' 9 1 v (varsT ts).length (strs (varsT ts)) (New w)) := by
  have HN := Lib.hid hn; have HE := Lib.hid h; clear hn h
  go_enter Tryz.func80, Tryz.ntmps80
  go_wp2
  go_loopw [8, 3] (fun iv lv wr => NamedTo w ts n iv lv wr) (fun iv _ _ => n - (intOf iv).toNat)
  case atStart => exact ⟨0, Nat.zero_le _, rfl, Row.nil _ _ _ _, Kp.refl w⟩
  case round =>
    obtain ⟨i, hi, rfl, hrow, hex⟩ := hrel
    by_cases hlt : i < n
    · obtain ⟨t, ht⟩ : ∃ t, ts[i]? = some t := ⟨_, List.getElem?_eq_getElem (by rw [← HN.out]; exact hlt)⟩
      obtain ⟨b, off, eao, hc0, hc1, _⟩ := term_at (HE.out.ext hex.out) ht
      subst eao
      obtain ⟨k, s, ⟨⟩⟩ := t
      simp only at hc0 hc1
      have HT := Lib.hid (varsT_take ht)
      have hlen : (varsT (ts.take i)).length ≤ i := by have := varsT_len (ts.take i); rw [List.length_take] at this; omega
      clear ht
      by_cases h1 : k = 1
      · subst h1
        obtain ⟨M, eM⟩ : ∃ M, varsT (ts.take i) = M := ⟨_, rfl⟩
        rw [eM] at hrow hlen HT
        have HR := Lib.hid hrow.out
        obtain ⟨aw, capw, elv, hcw, hlw⟩ := hrow.out.shape
        subst elv
        clear hrow hcw hlw eM
        go_wp2_with (first | (at_builtin; refine Halted.out ?_))
        refine Halted.mk (wp_appN (m := 1) (n := M.length) elem_strV rfl _ _ rfl ((hex.out.alloc _).alloc _) rfl ((HR.out.alloc _).alloc _) rfl (by have h := CellsAt.one (wr.alloc (.cells #[.int .i64 1, .string s] 94)) (.string s) 9; rw [alloc_size] at h; exact h) (by rfl) (by simp [Value.oneCell']) (by omega) (by unfold maxLen; omega) ?_)
        intro v1 w3 hr1 hk1 hk2 _
        have HR5 := Lib.hid (And.intro hr1 hk1)
        clear hr1 hk1 hk2 hc0 hc1
        go_wp2
        go_roundw
        case rel =>
          refine ⟨i + 1, by omega, by first | rfl | (congr 1; done) | (congr 1; omega), ?_, HR5.out.2⟩
          have h := HR5.out.1
          rw [HT.out, if_pos (by first | rfl | trivial), ← strs_snoc, List.length_append]
          exact h
        case measure => simp [intOf]; omega
      · have n1 : (k == 1) = false := by simp [h1]
        have HH := Lib.hid h1; clear h1
        go_wp2
        go_roundw
        case rel => exact ⟨i + 1, by omega, by first | rfl | (congr 1; done) | (congr 1; omega), by rw [HT.out, if_neg HH.out, List.append_nil]; exact hrow.out.alloc _, hex.out.alloc _⟩
        case measure => simp [intOf]; omega
    · have e : ts.take i = ts := List.take_of_length_le (by have := HN.out; omega)
      have HR := hrow
      rw [e] at HR
      clear e hrow
      go_wp2
      go_ret
      exact RetN.mk hex.out HR.out

theorem lookFn_any (p : ByteArray) (x : Nat) (da : Option Addr) (m dcap : Nat) (g : Nat) (s : ByteArray) (w : World) (hc : w.cell? ⟨g, 1, none⟩ = some (.string s)) :
    Calls Tryz.prog 82 #[statV p x da m dcap, .pointer (some ⟨g, 0, none⟩)] w (RetN w fun w' v => v = .bool (decide (p = s))) := by
  have e0 : (w.alloc (.cells #[.string p, .float .f64 x, .slice da m dcap] 48)).cell? ⟨g, 1, none⟩ = some (.string s) := ((Kp.refl (F := fun _ => False) w).alloc _).cell hc id
  clear hc
  by_cases h : p = s
  · have hb := str_eq s
    subst h
    go_enter Tryz.func82, Tryz.ntmps82
    go_wp2
    go_ret
    exact RetN.mk ((Kp.refl w).alloc _) (congrArg Value.bool (by simp))
  · have hb := str_ne h
    have H := Lib.hid h; clear h
    go_enter Tryz.func82, Tryz.ntmps82
    go_wp2
    go_ret
    exact RetN.mk ((Kp.refl w).alloc _) (congrArg Value.bool (decide_eq_false H.out).symm)
end Go.Proofs.YtomeebimmmfmbaaGreat

/- cost: a body, read. -/
namespace Go.Proofs.YtomeebimmmfmbaaGreat
open Go.RowKit
set_option linter.unusedVariables false

/-- A body of a rule, and what is known. -/
def BodyAt (w : World) (gb : Nat) (S : List StatZ) (ls : List LitZ) : Prop := ∃ w0 gm na ncap col pv cv m, BodyIn w0 w gb gm (.slice na (namesB ls).length ncap) col S ls (fun v => spotsP S v 0 ls) (constsP S 0 ls) pv cv m ∧ CellsAt w na (strs (namesB ls)) ∧ (namesB ls).length ≤ ncap
/-- What bodyOf answers. -/
def BodyV (w : World) (r : RuleZ) (S : List StatZ) (w' : World) (v : Value) : Prop := (errR r S = 0 → ∃ gb, v = .tuple #[.pointer (some ⟨gb, 0, none⟩), .int .i64 0] ∧ w.heap.size ≤ gb ∧ BodyAt w' gb S r.2.1) ∧ (errR r S ≠ 0 → v = .tuple #[.pointer none, .int .i64 (errR r S)])
theorem BodyAt.ext {w w' : World} {gb : Nat} {S : List StatZ} {ls : List LitZ} (h : BodyAt w gb S ls) (hk : Ext w w') : BodyAt w' gb S ls := by
  obtain ⟨w0, gm, na, ncap, col, pv, cv, m, h1, h2, h3⟩ := h
  exact ⟨w0, gm, na, ncap, col, pv, cv, m, h1.on hk, h2.ext hk, h3⟩

/-- Spots from an address on. -/
def SpotsAt (w : World) (ao : Option Addr) (xs : List (Nat × Nat)) : Prop := ∀ (j : Nat) (x : Nat × Nat), xs[j]? = some x → ∃ g off, ao = some ⟨g, off, none⟩ ∧ w.cell? ⟨g, off + j * 2, none⟩ = some (.int .i64 x.1) ∧ w.cell? ⟨g, off + j * 2 + 1, none⟩ = some (.float .f64 x.2)
theorem SpotsAt.ext {w w' : World} {ao : Option Addr} {xs : List (Nat × Nat)} (h : SpotsAt w ao xs) (hk : Ext w w') : SpotsAt w' ao xs := fun j x hj => by
  obtain ⟨g, off, e, h1, h2⟩ := h j x hj
  exact ⟨g, off, e, hk.cell h1 id, hk.cell h2 id⟩
theorem Row.spotsAt {w : World} {e : TypeId} {v : Value} {xs : List (Nat × Nat)} {M : Nat → Prop} (h : Row w e 2 v xs.length (xs.flatMap spotC) M) : ∃ ao cap, v = .slice ao xs.length cap ∧ SpotsAt w ao xs := by
  obtain ⟨ao, cap, ev, hc, _⟩ := h.shape
  refine ⟨ao, cap, ev, fun j x hj => ?_⟩
  have h0 := flat_get spotC 2 spotC_len xs j x 0 hj (by decide)
  have h1 := flat_get spotC 2 spotC_len xs j x 1 hj (by decide)
  obtain ⟨g, off, e0, c0⟩ := hc _ _ (h0.trans rfl)
  obtain ⟨g', off', e1, c1⟩ := hc _ _ (h1.trans rfl)
  rw [e0] at e1; cases e1
  exact ⟨g, off, e0, by simpa using c0, by rw [Nat.add_assoc]; exact c1⟩
/-- Parts from an address on. -/
def PartsAt (w : World) (ao : Option Addr) (S : List StatZ) (ls : List LitZ) : Prop := ∀ (i : Nat) (l : LitZ), ls[i]? = some l → ∃ g off va vcap, ao = some ⟨g, off, none⟩ ∧ w.cell? ⟨g, off + i * 4, none⟩ = some (.bool (decide (l.1 = 1))) ∧ w.cell? ⟨g, off + i * 4 + 1, none⟩ = some (.float .f64 (rowsP S l)) ∧ w.cell? ⟨g, off + i * 4 + 2, none⟩ = some (.float .f64 (shareP l)) ∧ w.cell? ⟨g, off + i * 4 + 3, none⟩ = some (.slice va (varsL l).length vcap) ∧ CellsAt w va (strs (varsL l))
/-- A body as it is read. -/
structure BodyR (w : World) (gb : Nat) (S : List StatZ) (ls : List LitZ) (pa : Option Addr) (pcap : Nat) (na : Option Addr) (ncap gm : Nat) (m : List (ByteArray × Value)) (ca : Option Addr) (ccap : Nat) : Prop where
  blk : Blk w gb [.slice pa ls.length pcap, .slice na (namesB ls).length ncap, .map (some gm), .slice ca (constsP S 0 ls).length ccap] 121
  parts : PartsAt w pa S ls
  names : CellsAt w na (strs (namesB ls))
  map : MapIs w gm m
  spots : ∀ v, ∃ ua ucap, (getM m v).getD (.slice none 0 0) = .slice ua (spotsP S v 0 ls).length ucap ∧ SpotsAt w ua (spotsP S v 0 ls)
  consts : SpotsAt w ca (constsP S 0 ls)
theorem BodyAt.read {w : World} {gb : Nat} {S : List StatZ} {ls : List LitZ} (h : BodyAt w gb S ls) : ∃ pa pcap na ncap gm m ca ccap, BodyR w gb S ls pa pcap na ncap gm m ca ccap := by
  obtain ⟨w0, gm, na, ncap, col, pv, cv, m, h1, h2, h3⟩ := h
  obtain ⟨_, _, _, hB, hM, ⟨vs, h6, h7, h8⟩, h9, h10⟩ := h1
  obtain ⟨pa, pcap, rfl, hpc, _⟩ := h7.shape
  obtain ⟨ca, ccap, rfl, hcs⟩ := h9.spotsAt
  refine ⟨pa, pcap, na, ncap, gm, m, ca, ccap, hB, fun i l hi => ?_, h2, hM, fun v => (h10 v).spotsAt, hcs⟩
  have hv : i < vs.length := by rw [h6]; exact (List.getElem?_eq_some_iff.1 hi).1
  have hz : (ls.zip vs)[i]? = some (l, vs[i]) := by rw [List.getElem?_zip_eq_some]; exact ⟨hi, List.getElem?_eq_getElem hv⟩
  have c := fun k (hk : k < 4) => flat_get (partC S) 4 (partC_len S) (ls.zip vs) i (l, vs[i]) k hz hk
  obtain ⟨g, off, e0, c0⟩ := hpc _ _ ((c 0 (by decide)).trans rfl)
  obtain ⟨g1, off1, e1, c1⟩ := hpc _ _ ((c 1 (by decide)).trans rfl)
  obtain ⟨g2, off2, e2, c2⟩ := hpc _ _ ((c 2 (by decide)).trans rfl)
  obtain ⟨g3, off3, e3, c3⟩ := hpc _ _ ((c 3 (by decide)).trans rfl)
  rw [e0] at e1 e2 e3; cases e1; cases e2; cases e3
  obtain ⟨va, vcap, ev, hvc, _⟩ := (h8 _ (List.mem_of_getElem? hz)).shape
  cases ev
  exact ⟨g, off, _, _, e0, by simpa using c0, by rw [Nat.add_assoc]; exact c1, by rw [Nat.add_assoc]; exact c2, by rw [Nat.add_assoc]; exact c3, hvc⟩

/-- The builtin min of two words. -/
theorem min_run {x y : Nat} (hx : x ≤ infW) (hy : y ≤ infW) (at_ : Array TypeId) (ty : TypeId) (W : World) : (Builtin.min_ at_ ty #[.float .f64 x, .float .f64 y]).run Tryz.prog W = .ok (.float .f64 (if y < x then y else x)) W := by
  have h := order_pos hx hy
  have h' : (FloatKind.format .f64).order x y = some (compare x y) := h
  rcases Nat.lt_trichotomy x y with k | k | k
  · rw [Nat.compare_eq_lt.2 k] at h'
    rw [if_neg (by omega)]
    simp [Builtin.min_, Builtin.min2, h']
  · subst k
    rw [Nat.compare_eq_eq.2 rfl] at h'
    rw [if_neg (Nat.lt_irrefl _)]
    simp [Builtin.min_, Builtin.min2, h']
  · rw [Nat.compare_eq_gt.2 k] at h'
    rw [if_pos k]
    simp [Builtin.min_, Builtin.min2, h']
theorem eq_order {x y : Nat} (hx : x ≤ infW) (hy : y ≤ infW) : ((FloatKind.format .f64).order x y == some .eq) = decide (x = y) := by
  show (Ieee.double.order x y == some .eq) = _
  rw [order_pos hx hy]
  rcases Nat.lt_trichotomy x y with h | h | h
  · rw [Nat.compare_eq_lt.2 h, decide_eq_false (by omega)]; rfl
  · subst h; rw [Nat.compare_eq_eq.2 rfl, decide_eq_true rfl]; rfl
  · rw [Nat.compare_eq_gt.2 h, decide_eq_false (by omega)]; rfl

def MinTo (w0 : World) (L : List Nat) (n : Nat) (iv mv : Value) (w : World) : Prop := ∃ i : Nat, 1 ≤ i ∧ i ≤ n ∧ iv = .int .i64 i ∧ mv = .float .f64 (L.getD (leastTo L i) 0) ∧ Hid (Ext w0 w)
theorem getD_at {L : List Nat} {i : Nat} (h : i < L.length) : L.getD i 0 = L[i] := by rw [List.getD_eq_getElem?_getD, List.getElem?_eq_getElem h]; rfl
set_option maxRecDepth 100000 in
set_option maxHeartbeats 1000000 in
theorem minF_any (L : List Nat) (ao : Option Addr) (n cap : Nat) (w : World) (hn : n = L.length) (h : CellsAt w ao (flts L)) (hL : ∀ x ∈ L, x ≤ infW) (hl : n ≤ 4611686018427387904) (h1 : 1 ≤ n) :
    Calls Tryz.prog 86 #[.slice ao n cap] w (RetN w fun w' v => v = .float .f64 (L.getD (leastI L) 0)) := by
  have HN := Lib.hid hn; have HE := Lib.hid h; have HL := Lib.hid hL
  obtain ⟨g, off, eao, d0⟩ := h.flt (k := 0) (by omega)
  subst eao
  have hz : L[0]'(by omega) = L.getD (leastTo L 1) 0 := by
    have e : leastTo L 1 = 0 := by unfold leastTo; split <;> rfl
    rw [e, getD_at (by omega)]
  rw [hz, Nat.add_zero] at d0
  generalize hx0 : L.getD (leastTo L 1) 0 = x0 at d0
  have HX0 := Lib.hid hx0
  clear hn h hL hz hx0
  have g1 : ¬ (n : Int) < 1 := by omega
  go_enter Tryz.func86, Tryz.ntmps86
  go_wp2
  go_loopw [4, 3] (fun iv mv wr => MinTo w L n iv mv wr) (fun iv _ _ => n - (intOf iv).toNat)
  case atStart => exact ⟨1, Nat.le_refl _, h1, rfl, by rw [HX0.out], Kp.refl w⟩
  case round =>
    obtain ⟨i, hi1, hi, rfl, rfl, hex⟩ := hrel
    by_cases hlt : i < n
    · have hli : i < L.length := by rw [← HN.out]; exact hlt
      obtain ⟨g, off, eao, d1⟩ := (HE.out.ext hex.out).flt (k := i) hli
      cases eao
      have hk : leastTo L i < L.length := by have := leastTo_le L i hi1; omega
      have hmin := fun at_ ty W => min_run (x := L.getD (leastTo L i) 0) (y := L[i]) (by rw [getD_at hk]; exact HL.out _ (List.getElem_mem hk)) (HL.out _ (List.getElem_mem hli)) at_ ty W
      have hst : L.getD (leastTo L (i + 1)) 0 = if L[i] < L.getD (leastTo L i) 0 then L[i] else L.getD (leastTo L i) 0 := by
        show L.getD (if L.getD i 0 < L.getD (leastTo L i) 0 then i else leastTo L i) 0 = _
        rw [getD_at hli]
        split
        · exact getD_at hli
        · rfl
      generalize hX : L.getD (leastTo L i) 0 = X at *
      generalize L[i] = Y at *
      have HSt := Lib.hid hst
      clear hst hk hli hX
      go_wp2
      go_roundw
      case rel => exact ⟨i + 1, by omega, by omega, by first | rfl | (congr 1; done) | (congr 1; omega), by rw [HSt.out], hex⟩
      case measure => simp [intOf]; omega
    · have HF := Lib.hid (show leastTo L i = leastI L by unfold leastI; congr 1; have := HN.out; omega)
      go_wp2
      go_ret
      exact RetN.mk hex.out (by rw [← HF.out]; rfl)

def NoEq (w0 : World) (L : List Nat) (x : Nat) (n : Nat) (iv : Value) (w : World) : Prop := ∃ i : Nat, i ≤ n ∧ iv = .int .i64 i ∧ Hid (∀ j, j < i → L.getD j 0 ≠ x) ∧ Hid (Ext w0 w)
set_option maxRecDepth 100000 in
set_option maxHeartbeats 1000000 in
theorem indexLeast_any (L : List Nat) (ao : Option Addr) (n cap : Nat) (w : World) (hn : n = L.length) (h : CellsAt w ao (flts L)) (hL : ∀ x ∈ L, x ≤ infW) (hl : n ≤ 4611686018427387904) (h1 : 1 ≤ n) :
    Calls Tryz.prog 85 #[.slice ao n cap, .float .f64 (L.getD (leastI L) 0)] w (RetN w fun w' v => v = .int .i64 (leastI L)) := by
  have HN := Lib.hid hn; have HE := Lib.hid h; have HL := Lib.hid hL
  have hk : leastI L < L.length := leastTo_le L _ (by omega)
  have hX : L.getD (leastI L) 0 ≤ infW := by rw [getD_at hk]; exact hL _ (List.getElem_mem hk)
  obtain ⟨x, ex⟩ : ∃ x, x = L.getD (leastI L) 0 := ⟨_, rfl⟩
  rw [← ex] at hX ⊢
  have EX := Lib.hid (And.intro ex hk)
  clear hn h hL ex hk
  go_enter Tryz.func85, Tryz.ntmps85
  go_wp2
  go_loopw [8] (fun iv wr => NoEq w L x n iv wr) (fun iv _ => n - (intOf iv).toNat)
  case atStart => exact ⟨0, Nat.zero_le _, rfl, fun j hj => by omega, Kp.refl w⟩
  case round =>
    obtain ⟨i, hi, rfl, hno, hex⟩ := hrel
    by_cases hlt : i < n
    · have hli : i < L.length := by rw [← HN.out]; exact hlt
      obtain ⟨g, off, eao, d1⟩ := (HE.out.ext hex.out).flt (k := i) hli
      subst eao
      have ho := eq_order hX (HL.out _ (List.getElem_mem hli))
      have hg := getD_at hli
      generalize L[i] = y at *
      have HG := Lib.hid hg
      clear hg hli
      by_cases hxy : x = y
      · rw [decide_eq_true hxy] at ho
        have hleast : leastI L = i := by
          rcases Nat.lt_trichotomy (leastI L) i with k | k | k
          · exact absurd EX.out.1.symm (hno.out _ k)
          · exact k
          · have := leastTo_first L L.length i k
            rw [HG.out] at this
            have e := EX.out.1
            unfold leastI at e
            omega
        have HLe := Lib.hid hleast
        have HXY := Lib.hid hxy
        clear hleast hxy
        go_wp2
        go_ret
        exact RetN.mk hex.out (by rw [HLe.out]; rfl)
      · rw [decide_eq_false hxy] at ho
        have HXY := Lib.hid hxy
        clear hxy
        go_wp2
        go_roundw
        case rel =>
          refine ⟨i + 1, by omega, by first | rfl | (congr 1; done) | (congr 1; omega), fun j hj => ?_, hex⟩
          by_cases e : j = i
          · rw [e, HG.out]; exact fun q => HXY.out q.symm
          · exact hno.out j (by omega)
        case measure => simp [intOf]; omega
    · exact absurd EX.out.1.symm (hno.out _ (by have := EX.out.2; have := HN.out; omega))
end Go.Proofs.YtomeebimmmfmbaaGreat

/- cost: stands; slices.IndexFunc, ContainsFunc at texts. -/
namespace Go.Proofs.YtomeebimmmfmbaaGreat
open Go.RowKit
set_option linter.unusedVariables false
attribute [local go_sem] run_store_float

def TellS (f : FuncId) (first captured : Array Value) (w0 : World) (q : ByteArray → Bool) : Prop :=
  (∀ args w, (callFunc f args).run Tryz.prog w = .ok (Next.enter f args) w) ∧ ∀ w, Ext w0 w → ∀ (x : ByteArray), Calls Tryz.prog f (first.push (.string x) ++ captured) w (RetN w fun w' v => v = .bool (q x))
def NoneSF (w0 : World) (ts : List ByteArray) (q : ByteArray → Bool) (n : Nat) (iv : Value) (w : World) : Prop := ∃ i : Nat, i ≤ n ∧ iv = .int .i64 i ∧ Hid (∀ (j : Nat) u, j < i → ts[j]? = some u → q u = false) ∧ Hid (Ext w0 w)
set_option maxRecDepth 100000 in
set_option maxHeartbeats 1000000 in
theorem indexSF_any (ts : List ByteArray) (ao : Option Addr) (n cap : Nat) (f : FuncId) (first captured : Array Value) (q : ByteArray → Bool) (w : World) (hn : n = ts.length) (h : CellsAt w ao (strs ts)) (hq : TellS f first captured w q) (hl : n ≤ 4611686018427387904) :
    Calls Tryz.prog 123 #[.slice ao n cap, .func (Fn.func f) first captured] w (RetN w fun w' v => ∃ z : Int, v = .int .i64 z ∧ decide (0 ≤ z) = ts.any q) := by
  have HN := Lib.hid hn; have HE := Lib.hid h; clear hn h
  have hent := hq.1
  have HQ := Lib.hid hq.2; clear hq
  go_enter Tryz.func123, Tryz.ntmps123
  go_wp2
  go_loopw [8] (fun iv wr => NoneSF w ts q n iv wr) (fun iv _ => n - (intOf iv).toNat)
  case atStart => exact ⟨0, Nat.zero_le _, rfl, fun j u h => by omega, Kp.refl w⟩
  case round =>
    obtain ⟨i, hi, rfl, hno, hex⟩ := hrel
    by_cases hlt : i < n
    · have hlt' : i < ts.length := by rw [← HN.out]; exact hlt
      obtain ⟨b, off, eao, hc0⟩ := (HE.out.ext hex.out).str hlt'
      subst eao
      have ht : ts[i]? = some ts[i] := List.getElem?_eq_getElem hlt'
      generalize ts[i] = t at *
      obtain ⟨r, er⟩ : ∃ r : Bool, q t = r := ⟨_, rfl⟩
      have HC0 := HQ.out wr hex.out t
      rw [er] at HC0
      have HC := Lib.hid HC0
      have HT := Lib.hid (And.intro ht er)
      clear ht hlt' er HC0
      cases r
      · go_wp2_with fail
        refine HC.out.mono ?_
        rintro e w1 ⟨v, rfl, hk1, rfl⟩
        have HX := Lib.hid (hex.out.trans hk1); clear hk1 hc0
        go_wp2
        go_roundw
        case rel =>
          refine ⟨i + 1, by omega, by first | rfl | (congr 1; done) | (congr 1; omega), fun j u hj hu => ?_, HX⟩
          by_cases e : j = i
          · subst e; rw [HT.out.1] at hu; cases hu; exact HT.out.2
          · exact hno.out j u (by omega) hu
        case measure => simp [intOf]; omega
      · go_wp2_with fail
        refine HC.out.mono ?_
        rintro e w1 ⟨v, rfl, hk1, rfl⟩
        have HX := Lib.hid (hex.out.trans hk1); clear hk1 hc0
        go_wp2
        go_ret
        exact RetN.mk HX.out ⟨i, rfl, by rw [any_true HT.out.1 HT.out.2]; simp⟩
    · go_wp2
      go_ret
      exact RetN.mk hex.out ⟨-1, rfl, by rw [any_false HN.out fun j u hj => hno.out j u (by omega)]; decide⟩
set_option maxRecDepth 100000 in
theorem containsSF_any (ts : List ByteArray) (ao : Option Addr) (n cap : Nat) (f : FuncId) (first captured : Array Value) (q : ByteArray → Bool) (w : World) (hn : n = ts.length) (h : CellsAt w ao (strs ts)) (hq : TellS f first captured w q) (hl : n ≤ 4611686018427387904) :
    Calls Tryz.prog 83 #[.slice ao n cap, .func (Fn.func f) first captured] w (RetN w fun w' v => v = .bool (ts.any q)) := by
  have HI := Lib.hid (indexSF_any ts ao n cap f first captured q w hn h hq hl)
  clear hn h hq hl
  go_enter Tryz.func83, Tryz.ntmps83
  go_wp2_with fail
  refine HI.out.mono ?_
  rintro e w1 ⟨v, rfl, hk, z, rfl, hz⟩
  go_wp2
  go_ret
  exact RetN.mk hk (congrArg Value.bool (by first | exact hz | simp [← hz]))

theorem varsL_pos {l : LitZ} (h : l.1 = 1) : varsL l = varsT (termsOf l) := if_pos h
/-- The variables that a set binds, literal by literal. -/
def bindsL (p : LitZ × Bool) : List ByteArray := if p.2 = true ∧ p.1.1 = 1 then varsL p.1 else []
def bindsTo (ps : Pairs) (i : Nat) : List ByteArray := (ps.take i).flatMap bindsL
theorem bindsTo_succ {ps : Pairs} {i : Nat} {p : LitZ × Bool} (h : ps[i]? = some p) : bindsTo ps (i + 1) = bindsTo ps i ++ bindsL p := flat_take _ h
theorem binds_iff {ls : List LitZ} {inn : List Bool} (hin : inn.length = ls.length) {v : ByteArray} {n : Nat} (hn : ls.length ≤ n) : v ∈ bindsTo (ls.zip inn) n ↔ boundIn ls inn v := by
  unfold bindsTo
  rw [List.take_of_length_le (by rw [zip_len hin]; exact hn), List.mem_flatMap]
  constructor
  · rintro ⟨⟨l, b⟩, hp, hv⟩
    obtain ⟨i, hi⟩ := List.mem_iff_getElem?.1 hp
    rw [List.getElem?_zip_eq_some] at hi
    unfold bindsL at hv
    split at hv
    · rename_i h
      obtain ⟨rfl, h1⟩ := h
      exact ⟨i, l, hi.1, hi.2, h1, by rw [← varsL_pos h1]; exact hv⟩
    · cases hv
  · rintro ⟨i, l, h1, h2, h3, h4⟩
    refine ⟨(l, true), List.mem_of_getElem? (zip_at h1 h2), ?_⟩
    unfold bindsL
    rw [if_pos ⟨rfl, h3⟩]
    rw [varsL_pos h3]; exact h4
theorem stands_vars {ls : List LitZ} {inn : List Bool} : stands ls inn ↔ ∀ (i : Nat) (l : LitZ), ls[i]? = some l → inn[i]? = some true → ∀ v ∈ varsL l, boundIn ls inn v := by
  constructor
  · intro h i l h1 h2 v hv
    by_cases hl : l.1 = 1
    · rw [varsL_pos hl] at hv
      exact ⟨i, l, h1, h2, hl, hv⟩
    · exact h i l h1 h2 hl v (by unfold varsL at hv; rw [if_neg hl] at hv; exact hv)
  · intro h i l h1 h2 h3 v hv
    exact h i l h1 h2 v (by unfold varsL; rw [if_neg h3]; exact hv)

/-- A map that tells just these. -/
def TellsM (m : List (ByteArray × Value)) (bs : List ByteArray) : Prop := ∀ v, getM m v = if hasT bs v = true then some (Value.bool true) else none
theorem take_snoc2 {α : Type} {l : List α} {i : Nat} {x : α} (h : l[i]? = some x) : l.take (i + 1) = l.take i ++ [x] := by rw [List.take_add_one, h]; rfl
theorem hasT_snoc (bs : List ByteArray) (s v : ByteArray) : hasT (bs ++ [s]) v = (hasT bs v || decide (s = v)) := by
  unfold hasT; rw [List.any_append]; simp
theorem TellsM.put {m : List (ByteArray × Value)} {bs : List ByteArray} (h : TellsM m bs) (s : ByteArray) : TellsM (putM m s (.bool true)) (bs ++ [s]) := fun v => by
  rw [getM_put, h v, hasT_snoc]
  by_cases hv : v = s
  · rw [if_pos hv, decide_eq_true hv.symm, Bool.or_true]; rfl
  · rw [if_neg hv, decide_eq_false (Ne.symm hv), Bool.or_false]
theorem TellsM.nil : TellsM [] [] := fun v => rfl

theorem boundFn_any (g2 gc : Nat) (m : List (ByteArray × Value)) (bs : List ByteArray) (s : ByteArray) (w : World) (hc : Blk w gc [.map (some g2)] 81) (hm : MapIs w g2 m) (ht : TellsM m bs) :
    Calls Tryz.prog 84 #[.string s, .pointer (some ⟨gc, 0, none⟩)] w (RetN w fun w' v => v = .bool (!hasT bs s)) := by
  have c0 : w.cell? ⟨gc, 0, none⟩ = some (.map (some g2)) := by rw [hc.cell']; rfl
  have hlk := run_lookup_str (P := Tryz.prog) (w := w) Tryz.underlying81 Tryz.underlying9 (z := .bool false) (by kernel_rfl) hm s
  rw [ht s] at hlk
  clear hc hm ht
  cases h : hasT bs s
  · rw [h] at hlk
    have hl2 : (Instr.lookup 81 (.map (some g2)) (.string s) false).run Tryz.prog w = .ok (.bool false) w := hlk
    clear h hlk
    go_enter Tryz.func84, Tryz.ntmps84
    go_wp2
    go_ret
    exact RetN.mk (Kp.refl w) rfl
  · rw [h] at hlk
    have hl2 : (Instr.lookup 81 (.map (some g2)) (.string s) false).run Tryz.prog w = .ok (.bool true) w := hlk
    clear h hlk
    go_enter Tryz.func84, Tryz.ntmps84
    go_wp2
    go_ret
    exact RetN.mk (Kp.refl w) rfl

def BindTo (w0 : World) (g2 gc : Nat) (ps : Pairs) (n : Nat) (iv : Value) (w : World) : Prop := ∃ i : Nat, i ≤ n ∧ iv = .int .i64 i ∧ Hid (∃ m, MapIs w g2 m ∧ TellsM m (bindsTo ps i)) ∧ Hid (Blk w gc [.map (some g2)] 81) ∧ Hid (Ext w0 w)
def BindIn (w0 : World) (g2 gc : Nat) (A : List ByteArray) (V : List ByteArray) (on : Bool) (n : Nat) (iv : Value) (gp : Nat) (pv : List Value) (w : World) : Prop := ∃ j : Nat, j ≤ n ∧ iv = .int .i64 j ∧ Hid (∃ m, MapIs w g2 m ∧ TellsM m (A ++ if on = true then V.take j else [])) ∧ Hid (Blk w gc [.map (some g2)] 81) ∧ Hid (Ext w0 w) ∧ Hid (Blk w gp pv 164)
theorem map_lt_ext {w0 w w' : World} {g2 : Nat} (h : Ext w0 w) (hg : w0.heap.size ≤ g2) (hk : Kp (fun k => k = g2) w w') : Ext w0 w' := h.trans' hk fun i hi e => by omega

open Classical in
set_option maxRecDepth 100000 in
set_option maxHeartbeats 8000000 in
theorem stands_any (gb : Nat) (S : List StatZ) (ls : List LitZ) (n : Nat) (inn : List Bool) (ia : Option Addr) (icap : Nat) (w : World) (hn : n = ls.length) (hl : n ≤ 1048576) (hv : ∀ l ∈ ls, (varsL l).length ≤ 1048576) (hB : BodyAt w gb S ls) (hin : inn.length = n) (hI : CellsAt w ia (bools inn)) :
    Calls Tryz.prog 44 #[.pointer (some ⟨gb, 0, none⟩), .slice ia n icap] w (RetN w fun w' v => v = .bool (decide (stands ls inn))) := by
  obtain ⟨pa, pcap, na, ncap, gm, mm, ca, ccap, hR⟩ := hB.read
  have HR := Lib.hid hR
  have HN := Lib.hid hn
  have HV := Lib.hid hv
  have HI := Lib.hid (And.intro hin hI)
  obtain ⟨c1v, ec1⟩ : ∃ v, v = Value.slice na (namesB ls).length ncap := ⟨_, rfl⟩
  obtain ⟨c3v, ec3⟩ : ∃ v, v = Value.slice ca (constsP S 0 ls).length ccap := ⟨_, rfl⟩
  have b0 : w.cell? ⟨gb, 0, none⟩ = some (.slice pa n pcap) := by rw [hR.blk.cell', hn]; rfl
  have HB0 := Lib.hid b0
  have hmm := @run_makeMap Tryz.prog
  have b0' : ((w.alloc (.map #[] 0)).alloc (.cells #[.map (some w.heap.size)] 81)).cell? ⟨gb, 0, none⟩ = some (.slice pa n pcap) := (((Kp.refl (F := fun _ => False) w).alloc _).alloc _).cell b0 id
  clear hB hR hn hv hin hI ec1 ec3
  go_enter Tryz.func44, Tryz.ntmps44
  go_wp2
  obtain ⟨w4, ew4⟩ : ∃ w4, (w.alloc (.map #[] 0)).alloc (.cells #[.map (some w.heap.size)] 81) = w4 := ⟨_, rfl⟩
  rw [ew4]
  obtain ⟨g2, eg2⟩ : ∃ g2, g2 = w.heap.size := ⟨_, rfl⟩
  obtain ⟨gc, egc⟩ : ∃ gc, gc = g2 + 1 := ⟨_, rfl⟩
  have hx4 : Ext w w4 := by rw [← ew4]; exact ((Kp.refl w).alloc _).alloc _
  have hc4 : Blk w4 gc [.map (some g2)] 81 := by
    have h := Blk.new (w.alloc (.map #[] 0)) [.map (some w.heap.size)] 81
    rw [alloc_size] at h
    have ew4' : (w.alloc (.map #[] 0)).alloc (.cells [Value.map (some w.heap.size)].toArray 81) = w4 := ew4
    rw [ew4', ← eg2, ← egc] at h; exact h
  have hm4 : MapIs w4 g2 [] := by
    have h := (MapIs.new w).ext ((Kp.refl _).alloc (.cells #[.map (some w.heap.size)] 81))
    rw [ew4, ← eg2] at h; exact h
  have HC4 := Lib.hid hc4
  have HM4 := Lib.hid hm4
  have HX4 := Lib.hid hx4
  have HG2 := Lib.hid (show w.heap.size ≤ g2 ∧ gc ≠ g2 by omega)
  rw [← eg2]
  rw [← egc]
  clear ew4 hx4 hc4 hm4 eg2 egc hmm b0' b0
  go_loopw [18] (fun iv wr => BindTo w g2 gc (ls.zip inn) n iv wr) (fun iv _ => n - (intOf iv).toNat)
  case atStart => exact ⟨0, Nat.zero_le _, rfl, ⟨[], HM4.out, TellsM.nil⟩, HC4.out, HX4.out⟩
  case round =>
    obtain ⟨i, hi, rfl, hm, hc, hex⟩ := hrel
    by_cases hlt : i < n
    · obtain ⟨l, hli⟩ : ∃ l, ls[i]? = some l := ⟨_, List.getElem?_eq_getElem (by rw [← HN.out]; exact hlt)⟩
      obtain ⟨bi, ebi⟩ : ∃ bi, inn[i]? = some bi := ⟨_, List.getElem?_eq_getElem (by have := HI.out.1; omega)⟩
      obtain ⟨pg, poff, va, vcap, epa, p0, p1, p2, p3, hvc⟩ := HR.out.parts i l hli
      subst epa
      replace p0 := hex.out.cell p0 id
      replace p1 := hex.out.cell p1 id
      replace p2 := hex.out.cell p2 id
      replace p3 := hex.out.cell p3 id
      obtain ⟨po, epo⟩ : ∃ po, po = decide (l.1 = 1) := ⟨_, rfl⟩
      rw [← epo] at p0
      obtain ⟨V, eV⟩ : ∃ V, V = varsL l := ⟨_, rfl⟩
      rw [← eV] at p3 hvc
      obtain ⟨vn, evn⟩ : ∃ vn, vn = V.length := ⟨_, rfl⟩
      rw [← evn] at p3
      have hvn : vn ≤ 1048576 := by rw [evn, eV]; exact HV.out l (List.mem_of_getElem? hli)
      generalize rowsP S l = r1 at p1
      generalize shareP l = r2 at p2
      have HL := Lib.hid (And.intro hli (And.intro ebi (And.intro epo (And.intro eV (And.intro evn hvc)))))
      have HZ := Lib.hid (zip_at hli ebi)
      clear hli ebi epo eV evn hvc
      obtain ⟨wx, ewx⟩ : ∃ wx, wr.alloc (.cells #[.bool po, .float .f64 r1, .float .f64 r2, .slice va vn vcap] 164) = wx := ⟨_, rfl⟩
      obtain ⟨gp, egp⟩ : ∃ gp, gp = wr.heap.size := ⟨_, rfl⟩
      have hgp := Blk.new wr [.bool po, .float .f64 r1, .float .f64 r2, .slice va vn vcap] 164
      have ewx' : wr.alloc (.cells [Value.bool po, .float .f64 r1, .float .f64 r2, .slice va vn vcap].toArray 164) = wx := ewx
      rw [ewx', ← egp] at hgp
      have HGP := Lib.hid hgp
      have hxx : Ext wr wx := by rw [← ewx]; exact (Kp.refl wr).alloc _
      have EGP := Lib.hid (And.intro egp ewx)
      obtain ⟨m, hm1, hm2⟩ := hm.out
      have HMx := Lib.hid (show ∃ m, MapIs wx g2 m ∧ TellsM m (bindsTo (ls.zip inn) i ++ if (bi && po) = true then V.take 0 else []) from ⟨m, hm1.ext hxx, by simpa using hm2⟩)
      have HCx := Lib.hid (hc.out.ext hxx)
      have HXx := Lib.hid (hex.out.trans hxx)
      clear hgp ewx ewx' hxx hm1 hm2 egp hm
      go_wp2
      rw [EGP.out.2, ← EGP.out.1]
      clear p0 p1 p2 p3
      go_loopw [26] (fun iv wr => BindIn w g2 gc (bindsTo (ls.zip inn) i) V (bi && po) vn iv gp [.bool po, .float .f64 r1, .float .f64 r2, .slice va vn vcap] wr) (fun iv _ => vn - (intOf iv).toNat)
      case atStart => exact ⟨0, Nat.zero_le _, rfl, HMx.out, HCx.out, HXx.out, HGP.out⟩
      case round =>
        obtain ⟨j, hj, rfl, hmj, hcj, hexj, hgpj⟩ := hrel
        by_cases hlt2 : j < vn
        · have hjl : j < V.length := by rw [← HL.out.2.2.2.2.1]; exact hlt2
          obtain ⟨sb, soff, eva, s0⟩ := (HL.out.2.2.2.2.2.ext hexj.out).str hjl
          subst eva
          have hvj : V[j]? = some V[j] := List.getElem?_eq_getElem hjl
          generalize V[j] = v at *
          have HVj := Lib.hid hvj
          obtain ⟨ib, ioff, eia, d0⟩ := (HI.out.2.ext hexj.out).bool HL.out.2.1
          subst eia
          have q0 : wr.cell? ⟨gp, 0, none⟩ = some (.bool po) := by rw [hgpj.out.cell']; rfl
          have cc : wr.cell? ⟨gc, 0, none⟩ = some (.map (some g2)) := by rw [hcj.out.cell']; rfl
          obtain ⟨m, hm1, hm2⟩ := hmj.out
          clear hvj hjl hmj
          by_cases hon : bi = true ∧ po = true
          · obtain ⟨rfl, rfl⟩ := hon
            obtain ⟨w2, hrun, hM2, hk2⟩ := run_update_str (P := Tryz.prog) Tryz.underlying81 Tryz.underlying9 hm1 v (.bool true)
            have HM2 := Lib.hid (show ∃ m, MapIs w2 g2 m ∧ TellsM m (bindsTo (ls.zip inn) i ++ if (true && true) = true then V.take (j + 1) else []) from ⟨_, hM2, by
              have h := hm2.put v
              simp only [Bool.and_self, if_true] at h ⊢
              rw [List.append_assoc] at h
              rw [take_snoc2 HVj.out]; exact h⟩)
            have hne : gp ≠ g2 := fun e => by have := hgpj.out; rw [e] at this; exact blk_map this hm1
            have HC2 := Lib.hid (hcj.out.kp hk2 HG2.out.2)
            have HX2 := Lib.hid (map_lt_ext hexj.out HG2.out.1 hk2)
            have HP2 := Lib.hid (hgpj.out.kp hk2 hne)
            clear hM2 hk2 hne hm1 hm2
            go_wp2
            go_roundw
            case rel => exact ⟨j + 1, by omega, by first | rfl | (congr 1; done) | (congr 1; omega), HM2.out, HC2.out, HX2.out, HP2.out⟩
            case measure => simp [intOf]; omega
          · have hoff : (bi && po) = false := by cases bi <;> cases po <;> simp_all
            have HM2 := Lib.hid (show ∃ m, MapIs wr g2 m ∧ TellsM m (bindsTo (ls.zip inn) i ++ if (bi && po) = true then V.take (j + 1) else []) from ⟨m, hm1, by rw [hoff] at hm2 ⊢; exact hm2⟩)
            have HOff := Lib.hid hoff
            clear hm1 hm2 hoff
            cases bi
            · clear hon
              go_wp2
              go_roundw
              case rel => exact ⟨j + 1, by omega, by first | rfl | (congr 1; done) | (congr 1; omega), HM2.out, hcj.out, hexj.out, hgpj.out⟩
              case measure => simp [intOf]; omega
            · obtain rfl : po = false := by cases po <;> simp_all
              clear hon
              go_wp2
              go_roundw
              case rel => exact ⟨j + 1, by omega, by first | rfl | (congr 1; done) | (congr 1; omega), HM2.out, hcj.out, hexj.out, hgpj.out⟩
              case measure => simp [intOf]; omega
        · have HM2 := Lib.hid (show ∃ m, MapIs wr g2 m ∧ TellsM m (bindsTo (ls.zip inn) (i + 1)) by
            obtain ⟨m, hm1, hm2⟩ := hmj.out
            refine ⟨m, hm1, ?_⟩
            rw [bindsTo_succ HZ.out]
            have e : (if (bi && po) = true then V.take j else []) = bindsL (l, bi) := by
              unfold bindsL
              rw [HL.out.2.2.1, List.take_of_length_le (by have := HL.out.2.2.2.2.1; omega), HL.out.2.2.2.1]
              cases bi <;> simp
            rw [e] at hm2; exact hm2)
          have hcm : ¬ (j : Int) < (vn : Int) := by omega
          clear hmj
          go_wp2
          go_roundw
          case rel => exact ⟨i + 1, by omega, by first | rfl | (congr 1; done) | (congr 1; omega), HM2.out, hcj.out, hexj.out⟩
          case measure => simp [intOf]; omega
    · obtain ⟨m, hm1, hm2⟩ := hm.out
      have HB := Lib.hid (fun (v : ByteArray) => (binds_iff (ls := ls) (inn := inn) (by have := HI.out.1; have := HN.out; omega) (v := v) (n := i) (by have := HN.out; omega)))
      generalize hbs : bindsTo (ls.zip inn) i = bs at *
      have hent : ∀ args w, (callFunc 84 args).run Tryz.prog w = .ok (Next.enter 84 args) w := enters_of Tryz.func84 (by kernel_rfl) rfl
      have HFn := Lib.hid (fun (W0 : World) (hW0 : Ext wr W0) => (show TellS 84 #[] #[.pointer (some ⟨gc, 0, none⟩)] W0 (fun v => !hasT bs v) from ⟨hent, fun w' hw' x => boundFn_any g2 gc m bs x w' ((hc.out.ext hW0).ext hw') ((hm1.ext hW0).ext hw') hm2⟩))
      have b0 := hex.out.cell HB0.out id
      generalize hw5 : wr = w5 at *
      clear hw5 hent hm hm1 hm2 hbs
      go_wp2
      go_loopw [47] (fun iv wr => ∃ q : Nat, q ≤ n ∧ iv = .int .i64 q ∧ Hid (∀ (j : Nat) (l : LitZ), j < q → ls[j]? = some l → inn[j]? = some true → ∀ v ∈ varsL l, v ∈ bs) ∧ Hid (Ext w5 wr)) (fun iv _ => n - (intOf iv).toNat)
      case atStart => exact ⟨0, Nat.zero_le _, rfl, fun j l hj => by omega, Kp.refl _⟩
      case round =>
        obtain ⟨q, hq, rfl, hall, hexq⟩ := hrel
        have XQ := Lib.hid (hex.out.trans hexq.out)
        by_cases hlt2 : q < n
        · obtain ⟨l, hli⟩ : ∃ l, ls[q]? = some l := ⟨_, List.getElem?_eq_getElem (by rw [← HN.out]; exact hlt2)⟩
          obtain ⟨bi, ebi⟩ : ∃ bi, inn[q]? = some bi := ⟨_, List.getElem?_eq_getElem (by have := HI.out.1; omega)⟩
          obtain ⟨pg, poff, va, vcap, epa, p0, p1, p2, p3, hvc⟩ := HR.out.parts q l hli
          subst epa
          replace p0 := XQ.out.cell p0 id
          replace p1 := XQ.out.cell p1 id
          replace p2 := XQ.out.cell p2 id
          replace p3 := XQ.out.cell p3 id
          generalize decide (l.1 = 1) = po at p0
          obtain ⟨V, eV⟩ : ∃ V, V = varsL l := ⟨_, rfl⟩
          rw [← eV] at p3 hvc
          obtain ⟨vn, evn⟩ : ∃ vn, vn = V.length := ⟨_, rfl⟩
          rw [← evn] at p3
          have hvn : vn ≤ 1048576 := by rw [evn, eV]; exact HV.out l (List.mem_of_getElem? hli)
          generalize rowsP S l = r1 at p1
          generalize shareP l = r2 at p2
          obtain ⟨ib, ioff, eia, d0⟩ := (HI.out.2.ext XQ.out).bool ebi
          subst eia
          have d1 : (wr.alloc (.cells #[.bool po, .float .f64 r1, .float .f64 r2, .slice va vn vcap] 164)).cell? ⟨ib, ioff + q, none⟩ = some (.bool bi) := ((Kp.refl (F := fun _ => False) wr).alloc _).cell d0 id
          have HL := Lib.hid (And.intro hli (And.intro ebi (And.intro eV evn)))
          have HCF := Lib.hid (fun (W : World) (hW : Ext wr W) => containsSF_any V va vn vcap 84 #[] #[.pointer (some ⟨gc, 0, none⟩)] (fun v => !hasT bs v) W evn (hvc.ext (XQ.out.trans hW)) (HFn.out W (hexq.out.trans hW)) (by omega))
          clear hli ebi eV evn hvc
          cases bi
          · go_wp2
            go_roundw
            case rel =>
              refine ⟨q + 1, by omega, by first | rfl | (congr 1; done) | (congr 1; omega), fun j l' hj hl' hb v hv => ?_, hexq.out.alloc _⟩
              by_cases e : j = q
              · subst e; rw [HL.out.2.1] at hb; cases hb
              · exact hall.out j l' (by omega) hl' hb v hv
            case measure => simp [intOf]; omega
          · go_wp2_with fail
            refine (HCF.out _ ((Kp.refl wr).alloc _)).mono ?_
            rintro e w6 ⟨v, rfl, hk6, rfl⟩
            have X6 := Lib.hid ((hexq.out.alloc _).trans hk6)
            clear hk6 p0 p1 p2 p3 d0 d1
            cases hany : V.any fun v => !hasT bs v
            · have HY := Lib.hid (show ∀ v ∈ varsL l, v ∈ bs from fun v hv => by
                rw [← HL.out.2.2.1] at hv
                have := List.any_eq_false.1 hany v hv
                exact hasT_iff.1 (by simpa using this))
              clear hany
              go_wp2
              go_roundw
              case rel =>
                refine ⟨q + 1, by omega, by first | rfl | (congr 1; done) | (congr 1; omega), fun j l' hj hl' hb v hv => ?_, X6⟩
                by_cases e : j = q
                · subst e; rw [HL.out.1] at hl'; cases hl'; exact HY.out v hv
                · exact hall.out j l' (by omega) hl' hb v hv
              case measure => simp [intOf]; omega
            · have HY := Lib.hid (show ¬ stands ls inn from fun hs => by
                obtain ⟨v, hv, hd⟩ := List.any_eq_true.1 hany
                rw [HL.out.2.2.1] at hv
                rw [hasT_iff.2 ((HB.out v).2 (stands_vars.1 hs q l HL.out.1 HL.out.2.1 v hv))] at hd; cases hd)
              clear hany
              go_wp2
              go_ret
              exact RetN.mk (hex.out.trans X6.out) (congrArg Value.bool (decide_eq_false HY.out).symm)
        · have HY := Lib.hid (show stands ls inn from stands_vars.2 fun j l h1 h2 v hv => (HB.out v).1 (hall.out j l (by have := (List.getElem?_eq_some_iff.1 h1).1; have := HN.out; omega) h1 h2 v hv))
          clear hall
          go_wp2
          go_ret
          exact RetN.mk XQ.out (congrArg Value.bool (decide_eq_true HY.out).symm)
end Go.Proofs.YtomeebimmmfmbaaGreat

/- cost: the guess of a set. -/
namespace Go.Proofs.YtomeebimmmfmbaaGreat
open Go.RowKit
set_option linter.unusedVariables false
attribute [local go_sem] run_store_float

theorem inSet_take {inn : List Bool} {xs : List (Nat × Nat)} {q : Nat} {x : Nat × Nat} (h : xs[q]? = some x) : inSet inn (xs.take (q + 1)) = inSet inn (xs.take q) ++ if inn[x.1]? = some true then [x.2] else [] := by
  unfold inSet
  rw [filterMap_take _ h]
  congr 1
  split <;> rfl
theorem inSet_len (inn : List Bool) (xs : List (Nat × Nat)) : (inSet inn xs).length ≤ xs.length := List.length_filterMap_le _ _
theorem spots_in0 (S : List StatZ) (v : ByteArray) {ls : List LitZ} {inn : List Bool} (h : inn.length = ls.length) : inSet inn (spotsP S v 0 ls) = spotsIn S (ls.zip inn) v := spots_in S v ls 0 [] inn rfl h
theorem consts_in0 (S : List StatZ) {ls : List LitZ} {inn : List Bool} (h : inn.length = ls.length) : inSet inn (constsP S 0 ls) = constsIn S (ls.zip inn) := consts_in S ls 0 [] inn rfl h
theorem spots_len0 {S : List StatZ} {v : ByteArray} {ls : List LitZ} (hf : Fit ls) : (spotsP S v 0 ls).length ≤ 1099511627776 := by
  have h1 := spotsP_len' S v 1048576 ls 0 hf.terms
  have h2 := Nat.mul_le_mul_right 1048576 hf.len
  omega
theorem consts_len0 {S : List StatZ} {ls : List LitZ} (hf : Fit ls) : (constsP S 0 ls).length ≤ 1099511627776 := by
  have h1 := constsP_len' S 1048576 ls 0 hf.terms
  have h2 := Nat.mul_le_mul_right 1048576 hf.len
  omega
theorem rowsP_pos {S : List StatZ} {l : LitZ} (h : l.1 = 1) : rowsP S l = rowsW S l := if_pos h
theorem shareP_no {l : LitZ} (h : l.1 ≠ 1) : shareP l = shareW l := if_neg h

def MulZ (w0 : World) (S : List StatZ) (ps : Pairs) (n : Nat) (iv sv : Value) (w : World) : Prop := ∃ i x : Nat, i ≤ n ∧ iv = .int .i64 i ∧ sv = .float .f64 x ∧ Hid (x = mulTo S ps i ∧ x ≤ infW ∧ ∀ j, j < i → ¬ ∃ l : LitZ, ps[j]? = some (l, true) ∧ l.1 = 1 ∧ zeroW (rowsW S l) = true) ∧ Hid (Ext w0 w)
def SelTo (w0 : World) (inn : List Bool) (xs : List (Nat × Nat)) (n : Nat) (iv lv : Value) (w : World) : Prop := ∃ q : Nat, q ≤ n ∧ iv = .int .i64 q ∧ Hid (Row w 45 1 lv (inSet inn (xs.take q)).length (flts (inSet inn (xs.take q))) (New w0)) ∧ Hid (Ext w0 w)

set_option maxRecDepth 100000 in
set_option maxHeartbeats 20000000 in
theorem guess_any (gb : Nat) (S : List StatZ) (ls : List LitZ) (n : Nat) (inn : List Bool) (ia : Option Addr) (icap : Nat) (w : World) (hn : n = ls.length) (hf : Fit ls) (K : Known S ls) (hB : BodyAt w gb S ls) (hin : inn.length = n) (hI : CellsAt w ia (bools inn)) :
    Calls Tryz.prog 45 #[.pointer (some ⟨gb, 0, none⟩), .slice ia n icap] w (RetN w fun w' v => v = .float .f64 (guessW S ls inn)) := by
  obtain ⟨pa, pcap, na, ncap, gm, mm, ca, ccap, hR⟩ := hB.read
  have hl : n ≤ 1048576 := by have := hf.len; omega
  have HR := Lib.hid hR
  have HN := Lib.hid hn
  have HF := Lib.hid hf
  have HK := Lib.hid K
  have HI := Lib.hid (And.intro hin hI)
  have HPL := Lib.hid (show (ls.zip inn).length = n by rw [zip_len (by omega)]; omega)
  have HIL := Lib.hid (show inn.length = ls.length by omega)
  obtain ⟨m, em⟩ : ∃ m, m = (namesB ls).length := ⟨_, rfl⟩
  have hm1 : m ≤ 1099511627776 := by
    have h1 := namesB_len hf.terms
    have h2 := hf.len
    have h3 := Nat.mul_le_mul_right 1048576 h2
    omega
  have EM := Lib.hid em
  obtain ⟨cn, ecn⟩ : ∃ cn, cn = (constsP S 0 ls).length := ⟨_, rfl⟩
  have hcn : cn ≤ 1099511627776 := by rw [ecn]; exact consts_len0 hf
  have ECN := Lib.hid ecn
  have b0 : w.cell? ⟨gb, 0, none⟩ = some (.slice pa n pcap) := by rw [hR.blk.cell', hn]; rfl
  have b1 : w.cell? ⟨gb, 1, none⟩ = some (.slice na m ncap) := by rw [hR.blk.cell', em]; rfl
  have b2 : w.cell? ⟨gb, 2, none⟩ = some (.map (some gm)) := by rw [hR.blk.cell']; rfl
  have b3 : w.cell? ⟨gb, 3, none⟩ = some (.slice ca cn ccap) := by rw [hR.blk.cell', ecn]; rfl
  have HB := Lib.hid (And.intro b0 (And.intro b1 (And.intro b2 b3)))
  clear hB hR hn hin hI em ecn b1 b2 b3 hf K
  go_enter Tryz.func45, Tryz.ntmps45
  go_wp2
  clear b0
  go_loopw [25, 5] (fun iv sv wr => MulZ w S (ls.zip inn) n iv sv wr) (fun iv _ _ => n - (intOf iv).toNat)
  case atStart => exact ⟨0, _, Nat.zero_le _, rfl, rfl, ⟨rfl, by decide, fun j hj => by omega⟩, Kp.refl _⟩
  case round =>
    obtain ⟨i, x, hi, rfl, rfl, hx, hex⟩ := hrel
    by_cases hlt : i < n
    · obtain ⟨l, hli⟩ : ∃ l, ls[i]? = some l := ⟨_, List.getElem?_eq_getElem (by rw [← HN.out]; exact hlt)⟩
      obtain ⟨bi, ebi⟩ : ∃ bi, inn[i]? = some bi := ⟨_, List.getElem?_eq_getElem (by have := HI.out.1; omega)⟩
      obtain ⟨pg, poff, va, vcap, epa, p0, p1, p2, p3, _⟩ := HR.out.parts i l hli
      subst epa
      replace p0 := hex.out.cell p0 id
      replace p1 := hex.out.cell p1 id
      replace p2 := hex.out.cell p2 id
      replace p3 := hex.out.cell p3 id
      generalize shareP l = r2 at p2
      generalize (varsL l).length = vn at p3
      obtain ⟨ib, ioff, eia, d0⟩ := (HI.out.2.ext hex.out).bool ebi
      subst eia
      have HZ := Lib.hid (zip_at hli ebi)
      clear hli ebi
      by_cases h1 : l.1 = 1
      · have H1 := Lib.hid h1
        rw [decide_eq_true h1] at p0
        rw [rowsP_pos h1] at p1
        have hfin := HK.out.rowsFin l
        obtain ⟨y, ey⟩ : ∃ y, y = rowsW S l := ⟨_, rfl⟩
        rw [← ey] at p1 hfin
        have EY := Lib.hid ey
        have d1 : (wr.alloc (.cells #[.bool true, .float .f64 y, .float .f64 r2, .slice va vn vcap] 164)).cell? ⟨ib, ioff + i, none⟩ = some (.bool bi) := ((Kp.refl (F := fun _ => False) wr).alloc _).cell d0 id
        clear ey h1
        cases bi
        · clear hfin
          go_wp2
          go_roundw
          case rel => exact ⟨i + 1, _, by omega, by first | rfl | (congr 1; done) | (congr 1; omega), by first | rfl | trivial, Lib.hid ⟨by rw [mulTo_succ S HZ.out, mulRows_off (fun e => by cases e.1)]; exact hx.out.1, hx.out.2.1, none_succ (fun ⟨l', q, _⟩ => by rw [HZ.out] at q; cases q) hx.out.2.2⟩, hex.out.alloc _⟩
          case measure => simp [intOf]; omega
        · cases hz : zeroW y
          · have hq := eq_zero_run hfin hz
            have hpos := fin_lt hfin hz
            have hrun := fun t W => mul_run (s := x) hx.out.2.1 hpos.1 hpos.2 t W
            have HP := Lib.hid (And.intro hpos hz)
            clear hfin hz hpos
            go_wp2
            go_roundw
            case rel =>
              refine ⟨i + 1, _, by omega, by first | rfl | (congr 1; done) | (congr 1; omega), by first | rfl | trivial, Lib.hid ⟨?_, fmul_le hx.out.2.1 HP.out.1.1 HP.out.1.2, none_succ ?_ hx.out.2.2⟩, hex.out.alloc _⟩
              · rw [mulTo_succ S HZ.out, mulRows_on H1.out, ← hx.out.1, EY.out]
              · rintro ⟨l', q, _, r⟩
                rw [HZ.out] at q; cases q
                rw [← EY.out, HP.out.2] at r; cases r
            case measure => simp [intOf]; omega
          · have hq := eq_zero_run hfin hz
            have HP := Lib.hid hz
            clear hfin hz
            go_wp2
            go_ret
            exact RetN.mk (hex.out.alloc _) (congrArg (Value.float .f64) (guessW_zero HZ.out H1.out (by rw [← EY.out]; exact HP.out)).symm)
      · have H1 := Lib.hid h1
        rw [decide_eq_false h1] at p0
        generalize rowsP S l = r1 at p1
        have d1 : (wr.alloc (.cells #[.bool false, .float .f64 r1, .float .f64 r2, .slice va vn vcap] 164)).cell? ⟨ib, ioff + i, none⟩ = some (.bool bi) := ((Kp.refl (F := fun _ => False) wr).alloc _).cell d0 id
        clear h1
        cases bi
        · go_wp2
          go_roundw
          case rel => exact ⟨i + 1, _, by omega, by first | rfl | (congr 1; done) | (congr 1; omega), by first | rfl | trivial, Lib.hid ⟨by rw [mulTo_succ S HZ.out, mulRows_off (fun e => H1.out e.2)]; exact hx.out.1, hx.out.2.1, none_succ (fun ⟨l', q, r, _⟩ => by rw [HZ.out] at q; cases q) hx.out.2.2⟩, hex.out.alloc _⟩
          case measure => simp [intOf]; omega
        · go_wp2
          go_roundw
          case rel => exact ⟨i + 1, _, by omega, by first | rfl | (congr 1; done) | (congr 1; omega), by first | rfl | trivial, Lib.hid ⟨by rw [mulTo_succ S HZ.out, mulRows_off (fun e => H1.out e.2)]; exact hx.out.1, hx.out.2.1, none_succ (fun ⟨l', q, r, _⟩ => by rw [HZ.out] at q; cases q; exact H1.out r) hx.out.2.2⟩, hex.out.alloc _⟩
          case measure => simp [intOf]; omega
    · obtain rfl : i = n := by omega
      have hz0 : zeroIn S (ls.zip inn) = false := zeroIn_no (n := i) (by have := HPL.out; omega) hx.out.2.2
      have HZ0 := Lib.hid hz0
      have HX1 := Lib.hid (And.intro hx.out.1 hx.out.2.1)
      have b1 := hex.out.cell HB.out.2.1 id
      clear hz0 hx
      go_wp2
      clear b1
      go_loopw [53, 5] (fun iv sv wr => FoldTo w (sharTo S (ls.zip inn) (namesB ls) x) m iv sv wr) (fun iv _ _ => m - (intOf iv).toNat)
      case atStart => exact ⟨0, _, Nat.zero_le _, rfl, rfl, rfl, hex⟩
      case round =>
        obtain ⟨j, y, hj, rfl, rfl, hy, hexj⟩ := hrel
        by_cases hlt : j < m
        · have hltv : j < (namesB ls).length := by rw [← EM.out]; exact hlt
          obtain ⟨vb, voff, eao, v0⟩ := (HR.out.names.ext hexj.out).str hltv
          subst eao
          have hvj : (namesB ls)[j]? = some (namesB ls)[j] := List.getElem?_eq_getElem hltv
          generalize (namesB ls)[j] = v at *
          have HV := Lib.hid hvj
          have b2 := hexj.out.cell HB.out.2.2.1 id
          obtain ⟨ua, ucap, eu, hsp⟩ := HR.out.spots v
          have hlk := run_lookup_str (P := Tryz.prog) (w := wr) Tryz.underlying118 Tryz.underlying9 (z := .slice none 0 0) (by kernel_rfl) (HR.out.map.ext hexj.out) v
          rw [eu] at hlk
          obtain ⟨xs, exs⟩ : ∃ xs, xs = spotsP S v 0 ls := ⟨_, rfl⟩
          rw [← exs] at hlk hsp
          obtain ⟨un, eun⟩ : ∃ un, un = xs.length := ⟨_, rfl⟩
          rw [← eun] at hlk
          have hun : un ≤ 1099511627776 := by rw [eun, exs]; exact spots_len0 HF.out
          have HXS := Lib.hid (And.intro exs (And.intro eun hsp))
          have HLt := Lib.hid (show ∀ z ∈ xs, z.1 < ls.length ∧ oneW ≤ z.2 ∧ z.2 < infW by rw [exs]; intro z hz; have := spotsP_lt S v ls 0 z hz; simpa using this)
          clear hvj hltv eu hsp exs eun
          go_wp2
          clear b2 v0 hlk
          go_loopw [64, 10] (fun iv lv wr => SelTo w inn xs un iv lv wr) (fun iv _ _ => un - (intOf iv).toNat)
          case atStart => exact ⟨0, Nat.zero_le _, rfl, Row.nil _ _ _ _, hexj⟩
          case round =>
            obtain ⟨q, hq, rfl, hrow, hexq⟩ := hrel
            by_cases hlt2 : q < un
            · obtain ⟨z, hz⟩ : ∃ z, xs[q]? = some z := ⟨_, List.getElem?_eq_getElem (by rw [← HXS.out.2.1]; exact hlt2)⟩
              obtain ⟨sg, soff, eua, s0, s1⟩ := (HXS.out.2.2.ext hexq.out) q z hz
              subst eua
              obtain ⟨hz1, hz2, hz3⟩ := HLt.out z (List.mem_of_getElem? hz)
              have hStep := inSet_take (inn := inn) hz
              obtain ⟨zi, zd⟩ := z
              simp only at s0 s1 hz1 hz2 hz3 hStep
              obtain ⟨bi, ebi⟩ : ∃ bi, inn[zi]? = some bi := ⟨_, List.getElem?_eq_getElem (by rw [HIL.out]; exact hz1)⟩
              obtain ⟨ib, ioff, eia, d0⟩ := (HI.out.2.ext hexq.out).bool ebi
              subst eia
              have hzn : zi < i := by rw [HN.out]; exact hz1
              have d1 : (wr.alloc (.cells #[.int .i64 zi, .float .f64 zd] 168)).cell? ⟨ib, ioff + zi, none⟩ = some (.bool bi) := ((Kp.refl (F := fun _ => False) wr).alloc _).cell d0 id
              rw [ebi] at hStep
              have HSt := Lib.hid hStep
              have hlen := inSet_len inn (xs.take q)
              rw [List.length_take] at hlen
              generalize inSet inn (xs.take q) = M at *
              clear hz hStep ebi hz1 hz2 hz3
              cases bi
              · have HS2 := Lib.hid (HSt.out.trans (by rw [if_neg (by simp), List.append_nil]))
                go_wp2
                go_roundw
                case rel => exact ⟨q + 1, by omega, by first | rfl | (congr 1; done) | (congr 1; omega), by rw [HS2.out]; exact hrow.out.alloc _, hexq.out.alloc _⟩
                case measure => simp [intOf]; omega
              · have HS2 := Lib.hid (HSt.out.trans (by rw [if_pos rfl]))
                have HR2 := Lib.hid hrow.out
                obtain ⟨aw, capw, elv, hcw, hlw⟩ := hrow.out.shape
                subst elv
                clear hrow hcw hlw
                go_wp2_with (first | (at_builtin; refine Halted.out ?_))
                refine Halted.mk (wp_appN (m := 1) (n := M.length) elem_flt rfl _ _ rfl ((hexq.out.alloc _).alloc _) rfl ((HR2.out.alloc _).alloc _) rfl (by have h := CellsAt.one (wr.alloc (.cells #[.int .i64 zi, .float .f64 zd] 168)) (.float .f64 zd) 45; rw [alloc_size] at h; exact h) (by rfl) (by simp [Value.oneCell']) (by omega) (by unfold maxLen; omega) ?_)
                intro v1 w3 hr1 hk1 hk2 _
                have HR5 := Lib.hid (And.intro hr1 hk1)
                clear hr1 hk1 hk2 s0 s1 d0 d1
                go_wp2
                go_roundw
                case rel =>
                  refine ⟨q + 1, by omega, by first | rfl | (congr 1; done) | (congr 1; omega), ?_, HR5.out.2⟩
                  have h := HR5.out.1
                  rw [HS2.out, ← flts_snoc, List.length_append]
                  exact h
                case measure => simp [intOf]; omega
            · have hall : xs.take q = xs := List.take_of_length_le (by have := HXS.out.2.1; omega)
              have hrow3 := hrow.out
              rw [hall] at hrow3
              have hL : inSet inn xs = spotsIn S (ls.zip inn) v := by rw [HXS.out.1]; exact spots_in0 S v HIL.out
              rw [hL] at hrow3
              have HOk := Lib.hid (spotsIn_ok S v (ls.zip inn))
              have HSuc := Lib.hid (show sharTo S (ls.zip inn) (namesB ls) x (j + 1) = sharedW (spotsIn S (ls.zip inn) v) y by rw [sharTo_succ S _ HV.out, hy.out])
              have hyle : y ≤ infW := by rw [hy.out]; exact sharTo_le _ _ _ HX1.out.2 j
              have hlen : (spotsIn S (ls.zip inn) v).length ≤ 1099511627776 := by
                rw [← hL]; have := inSet_len inn xs; have := HXS.out.2.1; omega
              obtain ⟨L, eL⟩ : ∃ L, L = spotsIn S (ls.zip inn) v := ⟨_, rfl⟩
              rw [← eL] at hrow3 hlen HOk HSuc
              obtain ⟨k, ek⟩ : ∃ k, k = L.length := ⟨_, rfl⟩
              rw [← ek] at hrow3 hlen
              obtain ⟨ao, cap4, eov, hcells, hle⟩ := hrow3.shape
              subst eov
              have HC := Lib.hid (And.intro ek hcells)
              have HYL := Lib.hid hyle
              clear hall hrow hrow3 hcells hle ek eL hL hyle
              by_cases hk2 : k < 2
              · have HSh := Lib.hid (sharedW_short (l := L) (by have := HC.out.1; omega) y)
                go_wp2
                go_roundw
                case rel => exact ⟨j + 1, _, by omega, by first | rfl | (congr 1; done) | (congr 1; omega), by first | rfl | trivial, Lib.hid (by rw [HSuc.out, HSh.out]), hexq⟩
                case measure => simp [intOf]; omega
              · have hk2' : ¬ (k : Int) < 2 := by omega
                have HMin := Lib.hid (fun (W : World) (hW : Ext wr W) => minF_any L ao k cap4 W HC.out.1 (HC.out.2.ext hW) (fun z hz => by have := HOk.out z hz; omega) (by omega) (by omega))
                have HIdx := Lib.hid (fun (W : World) (hW : Ext wr W) => indexLeast_any L ao k cap4 W HC.out.1 (HC.out.2.ext hW) (fun z hz => by have := HOk.out z hz; omega) (by omega) (by omega))
                generalize hw5 : wr = w5 at *
                clear hw5
                go_wp2_with fail
                refine (HMin.out _ (Kp.refl _)).mono ?_
                rintro e w6 ⟨_, rfl, hk6, rfl⟩
                go_wp2_with fail
                refine (HIdx.out _ hk6).mono ?_
                rintro e w7 ⟨_, rfl, hk7, rfl⟩
                have X7 := Lib.hid (hk6.trans hk7)
                clear hk6 hk7
                go_wp2
                go_loopw [88, 5] (fun iv sv wx => DivTo w5 (leastI L) L y k iv sv wx) (fun iv _ _ => k - (intOf iv).toNat)
                case atStart => exact ⟨0, y, Nat.zero_le _, rfl, rfl, rfl, X7⟩
                case round =>
                  obtain ⟨c, s, hc, rfl, rfl, hs, hexc⟩ := hrel
                  by_cases hlt3 : c < k
                  · have hsuc : divAll (leastI L) L y (c + 1) = if c = leastI L then s else fdiv s (L.getD c 0) := by rw [hs.out]; rfl
                    obtain ⟨g1, o1, eao, d1⟩ := (HC.out.2.ext hexc.out).flt (k := c) (by rw [← HC.out.1]; exact hlt3)
                    subst eao
                    have x1 := HOk.out _ (List.getElem_mem (by rw [← HC.out.1]; exact hlt3 : c < L.length))
                    have y1 : L.getD c 0 = L[c]'(by rw [← HC.out.1]; exact hlt3) := getD_at _
                    rw [← y1] at x1 d1
                    by_cases hqk : c = leastI L
                    · rw [if_pos hqk] at hsuc
                      have HS3 := Lib.hid hsuc
                      generalize L.getD c 0 = z1 at *
                      have q1 : ((c : Int) != (leastI L : Int)) = false := by simp [hqk]
                      have q2 : ((c : Int) == (leastI L : Int)) = true := by simp [hqk]
                      have HQ := Lib.hid hqk
                      clear hqk hsuc y1 x1
                      go_wp2
                      go_roundw
                      case rel => exact ⟨c + 1, s, by omega, by first | rfl | (congr 1; done) | (congr 1; omega), by first | rfl | trivial, HS3.out.symm, hexc⟩
                      case measure => simp [intOf]; omega
                    · rw [if_neg hqk] at hsuc
                      have xle : s ≤ infW := by rw [hs.out]; exact divAll_le HOk.out _ HYL.out c (by have := HC.out.1; omega)
                      have HS3 := Lib.hid hsuc
                      clear hsuc y1
                      generalize L.getD c 0 = z1 at *
                      have q1 : ((c : Int) != (leastI L : Int)) = true := by simp; omega
                      have q2 : ((c : Int) == (leastI L : Int)) = false := by simp; omega
                      have hrun := fun t W => div_run xle x1.1 x1.2 t W
                      have HQ := Lib.hid hqk
                      clear x1 xle hqk
                      go_wp2
                      go_roundw
                      case rel => exact ⟨c + 1, _, by omega, by first | rfl | (congr 1; done) | (congr 1; omega), by first | rfl | trivial, HS3.out.symm, hexc⟩
                      case measure => simp [intOf]; omega
                  · have HS3 := Lib.hid (show s = sharedW L y by rw [hs.out]; unfold sharedW; congr 1; have := HC.out.1; omega)
                    clear hs
                    go_wp2
                    go_roundw
                    case rel => exact ⟨j + 1, _, by omega, by first | rfl | (congr 1; done) | (congr 1; omega), by first | rfl | trivial, Lib.hid (by rw [HSuc.out, HS3.out]), hexq.out.trans hexc.out⟩
                    case measure => simp [intOf]; omega
        · obtain rfl : j = m := by omega
          obtain ⟨X2, eX2⟩ : ∃ X2, X2 = sharTo S (ls.zip inn) (namesB ls) x j := ⟨_, rfl⟩
          have hX2 : X2 ≤ infW := by rw [eX2]; exact sharTo_le _ _ _ HX1.out.2 j
          obtain rfl : y = X2 := by rw [hy.out, eX2]
          have HX2 := Lib.hid (And.intro eX2 hX2)
          have b3 := hexj.out.cell HB.out.2.2.2 id
          have HCL := Lib.hid (show ∀ z ∈ constsP S 0 ls, z.1 < ls.length ∧ oneW ≤ z.2 ∧ z.2 < infW by intro z hz; have := constsP_lt S ls 0 z hz; simpa using this)
          have HCS := Lib.hid HR.out.consts
          have HCI := Lib.hid (consts_in0 S HIL.out)
          generalize hcs : constsP S 0 ls = cs at *
          clear eX2 hX2 hy hcs
          go_wp2
          clear b3
          go_loopw [106, 5] (fun iv sv wr => FoldTo w (fun q => (inSet inn (cs.take q)).foldl fdiv y) cn iv sv wr) (fun iv _ _ => cn - (intOf iv).toNat)
          case atStart => exact ⟨0, _, Nat.zero_le _, rfl, rfl, rfl, hexj⟩
          case round =>
            obtain ⟨q, t, hq, rfl, rfl, ht, hexq⟩ := hrel
            by_cases hlt2 : q < cn
            · obtain ⟨z, hz⟩ : ∃ z, cs[q]? = some z := ⟨_, List.getElem?_eq_getElem (by rw [← ECN.out]; exact hlt2)⟩
              obtain ⟨sg, soff, eua, s0, s1⟩ := (HCS.out.ext hexq.out) q z hz
              subst eua
              obtain ⟨hz1, hz2, hz3⟩ := HCL.out z (List.mem_of_getElem? hz)
              have hStep := inSet_take (inn := inn) hz
              have htle : t ≤ infW := by
                rw [ht.out]
                exact foldl_div_le HX2.out.2 _ (inSet_ok fun u hu => (HCL.out u (List.mem_of_mem_take hu)).2)
              obtain ⟨zi, zd⟩ := z
              simp only at s0 s1 hz1 hz2 hz3 hStep
              obtain ⟨bi, ebi⟩ : ∃ bi, inn[zi]? = some bi := ⟨_, List.getElem?_eq_getElem (by rw [HIL.out]; exact hz1)⟩
              obtain ⟨ib, ioff, eia, d0⟩ := (HI.out.2.ext hexq.out).bool ebi
              subst eia
              have hzn : zi < i := by rw [HN.out]; exact hz1
              have d1 : (wr.alloc (.cells #[.int .i64 zi, .float .f64 zd] 168)).cell? ⟨ib, ioff + zi, none⟩ = some (.bool bi) := ((Kp.refl (F := fun _ => False) wr).alloc _).cell d0 id
              rw [ebi] at hStep
              have HSt := Lib.hid hStep
              have hrun := fun tt W => div_run htle hz2 hz3 tt W
              clear hz hStep ebi hz1 hz2 hz3 htle
              cases bi
              · have HS2 := Lib.hid (HSt.out.trans (by rw [if_neg (by simp), List.append_nil]))
                clear hrun
                go_wp2
                go_roundw
                case rel => exact ⟨q + 1, _, by omega, by first | rfl | (congr 1; done) | (congr 1; omega), by first | rfl | trivial, Lib.hid (by simp only; rw [HS2.out]; exact ht.out), hexq.out.alloc _⟩
                case measure => simp [intOf]; omega
              · have HS2 := Lib.hid (HSt.out.trans (by rw [if_pos rfl]))
                go_wp2
                go_roundw
                case rel => exact ⟨q + 1, _, by omega, by first | rfl | (congr 1; done) | (congr 1; omega), by first | rfl | trivial, Lib.hid (by simp only; rw [HS2.out, List.foldl_append]; exact congrArg (fun u => fdiv u zd) ht.out), hexq.out.alloc _⟩
                case measure => simp [intOf]; omega
            · have hall : cs.take q = cs := List.take_of_length_le (by have := ECN.out; omega)
              have ht2 : t = constTo S (ls.zip inn) y i := by
                rw [ht.out]
                unfold constTo
                simp only
                rw [hall, HCI.out, List.take_of_length_le (Nat.le_of_eq HPL.out)]
              have HT2 := Lib.hid (And.intro ht2 (show t ≤ infW by rw [ht2]; exact constTo_le _ _ HX2.out.2 _))
              have b0 := hexq.out.cell HB.out.1 id
              clear ht ht2 hall
              go_wp2
              clear b0
              go_loopw [125, 5] (fun iv sv wr => FoldTo w (shareTo (ls.zip inn) t) i iv sv wr) (fun iv _ _ => i - (intOf iv).toNat)
              case atStart => exact ⟨0, _, Nat.zero_le _, rfl, rfl, rfl, hexq⟩
              case round =>
                obtain ⟨d, s, hd, rfl, rfl, hs, hexd⟩ := hrel
                by_cases hlt3 : d < i
                · obtain ⟨l, hli⟩ : ∃ l, ls[d]? = some l := ⟨_, List.getElem?_eq_getElem (by rw [← HN.out]; exact hlt3)⟩
                  obtain ⟨bi, ebi⟩ : ∃ bi, inn[d]? = some bi := ⟨_, List.getElem?_eq_getElem (by have := HI.out.1; omega)⟩
                  obtain ⟨pg, poff, va, vcap, epa, p0, p1, p2, p3, _⟩ := HR.out.parts d l hli
                  subst epa
                  replace p0 := hexd.out.cell p0 id
                  replace p1 := hexd.out.cell p1 id
                  replace p2 := hexd.out.cell p2 id
                  replace p3 := hexd.out.cell p3 id
                  generalize rowsP S l = r1 at p1
                  generalize (varsL l).length = vn at p3
                  obtain ⟨ib, ioff, eia, d0⟩ := (HI.out.2.ext hexd.out).bool ebi
                  subst eia
                  have HZ := Lib.hid (zip_at hli ebi)
                  have hsle : s ≤ infW := by rw [hs.out]; exact shareTo_le _ HT2.out.2 d
                  clear hli ebi
                  by_cases h1 : l.1 = 1
                  · have H1 := Lib.hid h1
                    rw [decide_eq_true h1] at p0
                    generalize shareP l = r2 at p2
                    have d1 : (wr.alloc (.cells #[.bool true, .float .f64 r1, .float .f64 r2, .slice va vn vcap] 164)).cell? ⟨ib, ioff + d, none⟩ = some (.bool bi) := ((Kp.refl (F := fun _ => False) wr).alloc _).cell d0 id
                    have HS2 := Lib.hid (mulShare_off (s := s) (p := (l, bi)) (fun e => e.2 h1))
                    clear h1 hsle
                    cases bi
                    · go_wp2
                      go_roundw
                      case rel => exact ⟨d + 1, _, by omega, by first | rfl | (congr 1; done) | (congr 1; omega), by first | rfl | trivial, Lib.hid (by rw [shareTo_succ HZ.out, ← hs.out, HS2.out]), hexd.out.alloc _⟩
                      case measure => simp [intOf]; omega
                    · go_wp2
                      go_roundw
                      case rel => exact ⟨d + 1, _, by omega, by first | rfl | (congr 1; done) | (congr 1; omega), by first | rfl | trivial, Lib.hid (by rw [shareTo_succ HZ.out, ← hs.out, HS2.out]), hexd.out.alloc _⟩
                      case measure => simp [intOf]; omega
                  · have H1 := Lib.hid h1
                    rw [decide_eq_false h1] at p0
                    rw [shareP_no h1] at p2
                    have hrun := fun tt W => mul_run hsle (shareW_pos l).1 (shareW_pos l).2 tt W
                    obtain ⟨r2, er2⟩ : ∃ r2, r2 = shareW l := ⟨_, rfl⟩
                    rw [← er2] at p2 hrun
                    have HE2 := Lib.hid er2
                    have d1 : (wr.alloc (.cells #[.bool false, .float .f64 r1, .float .f64 r2, .slice va vn vcap] 164)).cell? ⟨ib, ioff + d, none⟩ = some (.bool bi) := ((Kp.refl (F := fun _ => False) wr).alloc _).cell d0 id
                    clear h1 hsle er2
                    cases bi
                    · clear hrun
                      go_wp2
                      go_roundw
                      case rel => exact ⟨d + 1, _, by omega, by first | rfl | (congr 1; done) | (congr 1; omega), by first | rfl | trivial, Lib.hid (by rw [shareTo_succ HZ.out, ← hs.out, mulShare_off (fun e => by cases e.1)]), hexd.out.alloc _⟩
                      case measure => simp [intOf]; omega
                    · go_wp2
                      go_roundw
                      case rel => exact ⟨d + 1, _, by omega, by first | rfl | (congr 1; done) | (congr 1; omega), by first | rfl | trivial, Lib.hid (by rw [shareTo_succ HZ.out, ← hs.out, mulShare_on H1.out, HE2.out]), hexd.out.alloc _⟩
                      case measure => simp [intOf]; omega
                · obtain rfl : d = i := by omega
                  have hfin : s = guessW S ls inn := by
                    rw [hs.out, HT2.out.1, HX2.out.1, HX1.out.1, guessW_eq HZ0.out (Nat.le_of_eq HPL.out) (Nat.le_of_eq EM.out.symm)]
                  have HFin := Lib.hid hfin
                  clear hfin hs
                  go_wp2
                  go_ret
                  exact RetN.mk hexd.out (congrArg (Value.float .f64) HFin.out)
end Go.Proofs.YtomeebimmmfmbaaGreat
