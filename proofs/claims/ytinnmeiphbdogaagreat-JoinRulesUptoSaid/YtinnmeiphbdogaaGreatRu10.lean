/- Proved here: the statement JoinRulesUptoSaid: the law returns true for every input of the bound that the row names and leaves its arguments as they were. No condition of its own. -/
import Derived.Test.YtinnmeiphbdogaaGreatRu9
import Derived.Deep.CondSized
/- The law of joins: awake: the chapter's bindings. -/
namespace Go.Proofs.YtinnmeiphbdogaaGreat
open Go.RowKit Go.Shelf
set_option linter.unusedVariables false
attribute [local go_sem] Oper.semAt_some
theorem base_there (bb : Nat) (w : World) : (binOp .neq 29 (.pointer (some ⟨bb, 0, none⟩)) (.pointer none)).run Tryz.prog w = .ok (.bool true) w := by kernel_rfl
set_option maxRecDepth 100000 in
set_option maxHeartbeats 4000000 in
theorem awake14_any (w : World) : Calls Tryz.prog 12 #[] w (RetN w fun w' v => v = .bool true) := by
 go_enter Tryz.func12, Tryz.ntmps12
 go_wp2_with fail
 refine (given_any w).mono ?_
 rintro e w1 ⟨vw1, rfl, hkw1, bb, E, SS, rfl, hBv, hCv⟩
 have Xw1 := Lib.hid (show Ext w w1 from hkw1)
 clear hkw1
 have HBv := Lib.hid (And.intro hBv hCv)
 clear hBv hCv
 have hnb := base_there bb w1
 go_wp2_with fail
 refine (path_any (ls := []) (ma := none) (mn := 0) (mc := 0) (w := w1) rfl (lits_nil w1 none) (by decide)).mono ?_
 rintro e w2 ⟨vw2, rfl, hkw2, ha1, hc1, ba1, bc1, hv1, hT1, hL1⟩
 have Xw2 := Lib.hid (show Ext w1 w2 from hkw2)
 clear hkw2
 have hv12 : vw2 = ruleV ⟨#[116]⟩ ha1 2 hc1 ba1 2 bc1 := hv1
 subst hv12
 have T1 := Lib.hid hT1
 have L1 := Lib.hid hL1
 clear hT1 hL1 hv1
 go_wp2_with fail
 refine (each_known (p := ⟨#[116]⟩) (hs := pathHs) (ls := (pathLs ++ [])) (ha := ha1) (ba := ba1) (hn := 2) (hcap := hc1) (n := 2) (bcap := bc1) rfl (T1.out.ext (Kp.refl w2)) (by decide) rfl (L1.out.ext (Kp.refl w2)) (fit_of (by kernel_rfl)) (few_of (by kernel_rfl)) (by decide) (HBv.out.1.ext Xw2.out) HBv.out.2 [(⟨#[97, 59, 98, 59, 98, 59]⟩ : ByteArray), (⟨#[97, 59, 98, 59, 99, 59]⟩ : ByteArray), (⟨#[98, 59, 98, 59, 98, 59]⟩ : ByteArray), (⟨#[98, 59, 98, 59, 99, 59]⟩ : ByteArray), (⟨#[98, 59, 99, 59, 97, 59]⟩ : ByteArray), (⟨#[99, 59, 97, 59, 98, 59]⟩ : ByteArray)] 6 (by kernel_rfl) rfl (by decide)).mono ?_
 rintro e w3 ⟨vw3, rfl, hkw3, ea2, ec2, rfl, hE2⟩
 have Xw3 := Lib.hid (show Ext w2 w3 from hkw3)
 clear hkw3
 have E2 := Lib.hid hE2
 clear hE2
 obtain ⟨w4, ew4⟩ : ∃ x, w3.alloc (.cells #[.string ⟨#[97, 59, 98, 59, 98, 59]⟩, .string ⟨#[97, 59, 98, 59, 99, 59]⟩, .string ⟨#[98, 59, 98, 59, 98, 59]⟩, .string ⟨#[98, 59, 98, 59, 99, 59]⟩, .string ⟨#[98, 59, 99, 59, 97, 59]⟩, .string ⟨#[99, 59, 97, 59, 98, 59]⟩] 9) = x := ⟨_, rfl⟩
 have Xw4 := Lib.hid (show Ext w3 w4 from by rw [<- ew4]; exact (Kp.refl w3).alloc _)
 have Sw4 := Lib.hid (show CellsAt w4 (some ⟨w3.heap.size, 0, none⟩) (strs [(⟨#[97, 59, 98, 59, 98, 59]⟩ : ByteArray), (⟨#[97, 59, 98, 59, 99, 59]⟩ : ByteArray), (⟨#[98, 59, 98, 59, 98, 59]⟩ : ByteArray), (⟨#[98, 59, 98, 59, 99, 59]⟩ : ByteArray), (⟨#[98, 59, 99, 59, 97, 59]⟩ : ByteArray), (⟨#[99, 59, 97, 59, 98, 59]⟩ : ByteArray)]) from by rw [<- ew4]; exact CellsAt.new w3 (strs [(⟨#[97, 59, 98, 59, 98, 59]⟩ : ByteArray), (⟨#[97, 59, 98, 59, 99, 59]⟩ : ByteArray), (⟨#[98, 59, 98, 59, 98, 59]⟩ : ByteArray), (⟨#[98, 59, 98, 59, 99, 59]⟩ : ByteArray), (⟨#[98, 59, 99, 59, 97, 59]⟩ : ByteArray), (⟨#[99, 59, 97, 59, 98, 59]⟩ : ByteArray)]) _)
 go_wp2_with fail
 clear ew4
 refine (same_known [(⟨#[97, 59, 98, 59, 98, 59]⟩ : ByteArray), (⟨#[97, 59, 98, 59, 99, 59]⟩ : ByteArray), (⟨#[98, 59, 98, 59, 98, 59]⟩ : ByteArray), (⟨#[98, 59, 98, 59, 99, 59]⟩ : ByteArray), (⟨#[98, 59, 99, 59, 97, 59]⟩ : ByteArray), (⟨#[99, 59, 97, 59, 98, 59]⟩ : ByteArray)] (ea2) (some ⟨w3.heap.size, 0, none⟩) 6 ec2 6 w4 rfl (E2.out.ext Xw4.out) (Sw4.out.ext (Kp.refl w4)) (by decide)).mono ?_
 rintro e w5 ⟨vw5, rfl, hkw5, rfl⟩
 have Xw5 := Lib.hid (show Ext w4 w5 from hkw5)
 clear hkw5
 clear hnb
 go_wp2_with fail
 refine (v14_any ⟨#[88]⟩ w5).mono ?_
 rintro e w6 ⟨vw6, rfl, hkw6, rfl⟩
 have Xw6 := Lib.hid (show Ext w5 w6 from hkw6)
 clear hkw6
 obtain ⟨w7, ew7⟩ : ∃ x, w6.alloc (.cells #[.int .i64 1, .string ⟨#[88]⟩] 38) = x := ⟨_, rfl⟩
 have Xw7 := Lib.hid (show Ext w6 w7 from by rw [<- ew7]; exact (Kp.refl w6).alloc _)
 have T3 := Lib.hid (show TermsAt w7 TT (some ⟨w6.heap.size, 0, none⟩) [((1 : Int), (⟨#[88]⟩ : ByteArray), ())] from by rw [<- ew7]; exact terms_new w6 [((1 : Int), (⟨#[88]⟩ : ByteArray), ())] (by kernel_rfl))
 go_wp2_with fail
 clear ew7
 refine (neg14_any ⟨#[110]⟩ (some ⟨w6.heap.size, 0, none⟩) 1 1 w7).mono ?_
 rintro e w8 ⟨vw8, rfl, hkw8, rfl⟩
 have Xw8 := Lib.hid (show Ext w7 w8 from hkw8)
 clear hkw8
 obtain ⟨w9, ew9⟩ : ∃ x, w8.alloc (.cells #[.int .i64 2, .string ⟨#[110]⟩, .slice (some ⟨w6.heap.size, 0, none⟩) 1 1, .int .i64 0, .int .i64 0, .string ⟨#[]⟩, .int .i64 0, .string ⟨#[]⟩] 40) = x := ⟨_, rfl⟩
 have Xw9 := Lib.hid (show Ext w8 w9 from by rw [<- ew9]; exact (Kp.refl w8).alloc _)
 have L4 := Lib.hid (show LitsAt w9 TT (some ⟨w8.heap.size, 0, none⟩) [(((2) : Int), ((⟨#[110]⟩ : ByteArray), [((1 : Int), (⟨#[88]⟩ : ByteArray), ())], ()), (0 : Int), ((0 : Int), (⟨#[]⟩ : ByteArray), ()), ((0 : Int), (⟨#[]⟩ : ByteArray), ()), ())] from by
  rw [<- ew9]
  refine lits_new w8 [(((2) : Int), ((⟨#[110]⟩ : ByteArray), [((1 : Int), (⟨#[88]⟩ : ByteArray), ())], ()), (0 : Int), ((0 : Int), (⟨#[]⟩ : ByteArray), ()), ((0 : Int), (⟨#[]⟩ : ByteArray), ()), ())] [(some ⟨w6.heap.size, 0, none⟩, 1)] rfl (by kernel_rfl) fun x hx => ?_
  simp only [List.zip_cons_cons, List.zip_nil_right, List.mem_cons, List.not_mem_nil, or_false] at hx
  rcases hx with rfl
  ·exact ⟨(T3.out.ext Xw8.out), Nat.le_refl _, (by decide : 1 ≤ maxLen)⟩)
 go_wp2_with fail
 clear ew9
 refine (path_any (ls := [(((2) : Int), ((⟨#[110]⟩ : ByteArray), [((1 : Int), (⟨#[88]⟩ : ByteArray), ())], ()), (0 : Int), ((0 : Int), (⟨#[]⟩ : ByteArray), ()), ((0 : Int), (⟨#[]⟩ : ByteArray), ()), ())]) (ma := some ⟨w8.heap.size, 0, none⟩) (mn := 1) (mc := 1) (w := w9) rfl (L4.out.ext (Kp.refl w9)) (by decide)).mono ?_
 rintro e w10 ⟨vw10, rfl, hkw10, ha5, hc5, ba5, bc5, hv5, hT5, hL5⟩
 have Xw10 := Lib.hid (show Ext w9 w10 from hkw10)
 clear hkw10
 have hv52 : vw10 = ruleV ⟨#[116]⟩ ha5 2 hc5 ba5 3 bc5 := hv5
 subst hv52
 have T5 := Lib.hid hT5
 have L5 := Lib.hid hL5
 clear hT5 hL5 hv5
 go_wp2_with fail
 refine (each_known (p := ⟨#[116]⟩) (hs := pathHs) (ls := (pathLs ++ [(((2) : Int), ((⟨#[110]⟩ : ByteArray), [((1 : Int), (⟨#[88]⟩ : ByteArray), ())], ()), (0 : Int), ((0 : Int), (⟨#[]⟩ : ByteArray), ()), ((0 : Int), (⟨#[]⟩ : ByteArray), ()), ())])) (ha := ha5) (ba := ba5) (hn := 2) (hcap := hc5) (n := 3) (bcap := bc5) rfl (T5.out.ext (Kp.refl w10)) (by decide) rfl (L5.out.ext (Kp.refl w10)) (fit_of (by kernel_rfl)) (few_of (by kernel_rfl)) (by decide) (HBv.out.1.ext (Xw2.out.trans (Xw3.out.trans (Xw4.out.trans (Xw5.out.trans (Xw6.out.trans (Xw7.out.trans (Xw8.out.trans (Xw9.out.trans Xw10.out))))))))) HBv.out.2 [(⟨#[97, 59, 98, 59, 99, 59]⟩ : ByteArray), (⟨#[98, 59, 98, 59, 99, 59]⟩ : ByteArray), (⟨#[98, 59, 99, 59, 97, 59]⟩ : ByteArray)] 3 (by kernel_rfl) rfl (by decide)).mono ?_
 rintro e w11 ⟨vw11, rfl, hkw11, ea6, ec6, rfl, hE6⟩
 have Xw11 := Lib.hid (show Ext w10 w11 from hkw11)
 clear hkw11
 have E6 := Lib.hid hE6
 clear hE6
 obtain ⟨w12, ew12⟩ : ∃ x, w11.alloc (.cells #[.string ⟨#[97, 59, 98, 59, 99, 59]⟩, .string ⟨#[98, 59, 98, 59, 99, 59]⟩, .string ⟨#[98, 59, 99, 59, 97, 59]⟩] 9) = x := ⟨_, rfl⟩
 have Xw12 := Lib.hid (show Ext w11 w12 from by rw [<- ew12]; exact (Kp.refl w11).alloc _)
 have Sw12 := Lib.hid (show CellsAt w12 (some ⟨w11.heap.size, 0, none⟩) (strs [(⟨#[97, 59, 98, 59, 99, 59]⟩ : ByteArray), (⟨#[98, 59, 98, 59, 99, 59]⟩ : ByteArray), (⟨#[98, 59, 99, 59, 97, 59]⟩ : ByteArray)]) from by rw [<- ew12]; exact CellsAt.new w11 (strs [(⟨#[97, 59, 98, 59, 99, 59]⟩ : ByteArray), (⟨#[98, 59, 98, 59, 99, 59]⟩ : ByteArray), (⟨#[98, 59, 99, 59, 97, 59]⟩ : ByteArray)]) _)
 go_wp2_with fail
 clear ew12
 refine (same_known [(⟨#[97, 59, 98, 59, 99, 59]⟩ : ByteArray), (⟨#[98, 59, 98, 59, 99, 59]⟩ : ByteArray), (⟨#[98, 59, 99, 59, 97, 59]⟩ : ByteArray)] (ea6) (some ⟨w11.heap.size, 0, none⟩) 3 ec6 3 w12 rfl (E6.out.ext Xw12.out) (Sw12.out.ext (Kp.refl w12)) (by decide)).mono ?_
 rintro e w13 ⟨vw13, rfl, hkw13, rfl⟩
 have Xw13 := Lib.hid (show Ext w12 w13 from hkw13)
 clear hkw13
 go_wp2
 go_ret
 exact RetN.mk (Xw1.out.trans (Xw2.out.trans (Xw3.out.trans (Xw4.out.trans (Xw5.out.trans (Xw6.out.trans (Xw7.out.trans (Xw8.out.trans (Xw9.out.trans (Xw10.out.trans (Xw11.out.trans (Xw12.out.trans Xw13.out)))))))))))) rfl
end Go.Proofs.YtinnmeiphbdogaaGreat

/- The law of joins: atomKept, kept. -/
namespace Go.Proofs.YtinnmeiphbdogaaGreat
open Go.RowKit
set_option linter.unusedVariables false
set_option maxRecDepth 100000 in
set_option maxHeartbeats 2000000 in
theorem atomKept_any (p : ByteArray) (ts : List TermZ) (w0 : World) (a2 ao : Option Addr) (n c2 cap : Nat) (w : World) (G : Nat -> Prop) (hM : TermsK w0 w a2 n c2 ts) (hf : ∀ t ∈ ts, TermFit t) (h : TermsAt w G ao ts) (hl : n ≤ 1048576) :
 Calls Tryz.prog 73 #[.agg #[.string p, .slice a2 n c2], .agg #[.string p, .slice ao n cap]] w (RetN w fun w' v => v = .bool true) := by
 obtain ⟨gm, rfl, hmk, hc1, hc2⟩ := hM.mark
 have HA := Lib.hid (hM.at hf)
 have HB := Lib.hid h
 have HN := Lib.hid (show n = ts.length from by obtain ⟨_, _, _, e, _⟩ := hM; exact e)
 obtain ⟨g0, eg0⟩ : ∃ g, w.heap.size = g := ⟨_, rfl⟩
 obtain ⟨w1, e1⟩ : ∃ x, (w.alloc (.cells #[.string p, .slice (some ⟨gm, 0, none⟩) n c2] 24)).alloc (.cells #[.string p, .slice ao n cap] 24) = x := ⟨_, rfl⟩
 have hB1 : Blk w1 g0 [.string p, .slice (some ⟨gm, 0, none⟩) n c2] 24 := by rw [<- e1, <- eg0]; exact (Blk.new w _ _).alloc _
 have hB2 : Blk w1 (g0 + 1) [.string p, .slice ao n cap] 24 := by
  have h := Blk.new (w.alloc (.cells #[.string p, .slice (some ⟨gm, 0, none⟩) n c2] 24)) [.string p, .slice ao n cap] 24
  rw [alloc_size, eg0] at h
  rw [<- e1]; exact h
 have hx1 : Ext w w1 := by rw [<- e1]; exact ((Kp.refl w).alloc _).alloc _
 have r0 : w1.cell? ⟨g0, 0, none⟩ = some (.string p) := by rw [hB1.cell']; rfl
 have r1 : w1.cell? ⟨g0, 1, none⟩ = some (.slice (some ⟨gm, 0, none⟩) n c2) := by rw [hB1.cell']; rfl
 have s0 : w1.cell? ⟨g0 + 1, 0, none⟩ = some (.string p) := by rw [hB2.cell']; rfl
 have s1 : w1.cell? ⟨g0 + 1, 1, none⟩ = some (.slice ao n cap) := by rw [hB2.cell']; rfl
 have m0 := hx1.cell hmk id
 have hq := str_eq p
 have q1 : ((n : Int) != (n : Int)) = false := by simp
 have i1 : (n : Int) + 1 ≤ (c2 : Int) := by omega
 have hc3 : c2 ≤ 9223372036854775807 := hc2
 have H1 := Lib.hid (And.intro hx1 (And.intro hB1 hB2))
 clear hM h hmk hB1 hB2 hx1 hc2
 go_enter Tryz.func73, Tryz.ntmps73
 go_wp2
 clear e1 eg0 r0 r1 s0 s1 m0 hq q1 i1
 go_loopw [6] (fun iv wr => SameTo w1 n iv wr) (fun iv _ => n - (intOf iv).toNat)
 case atStart => exact ⟨0, Nat.zero_le _, rfl, Kp.refl w1⟩
 case round =>
  obtain ⟨i, hi, rfl, hex⟩ := hrel
  by_cases hlt : i < n
  ·obtain ⟨t, ht⟩ : ∃ t, ts[i]? = some t := ⟨_, List.getElem?_eq_getElem (by rw [<- HN.out]; exact hlt)⟩
   obtain ⟨g1, o1, e1, c0, c1, _⟩ := term_at (HA.out.ext (H1.out.1.trans hex.out)) ht
   obtain ⟨g2, o2, e2, d0, d1, _⟩ := term_at (HB.out.ext (H1.out.1.trans hex.out)) ht
   cases e1
   subst e2
   obtain ⟨k, s, ⟨⟩⟩ := t
   simp only at c0 c1 d0 d1
   have r1 : wr.cell? ⟨g0, 1, none⟩ = some (.slice (some ⟨gm, 0, none⟩) n c2) := by rw [(H1.out.2.1.ext hex.out).cell']; rfl
   have s1 : wr.cell? ⟨g0 + 1, 1, none⟩ = some (.slice (some ⟨g2, o2, none⟩) n cap) := by rw [(H1.out.2.2.ext hex.out).cell']; rfl
   have q2 : (k != k) = false := by simp
   have q3 : (k == k) = true := by simp
   have q4 := str_eq s
   rw [Nat.zero_add] at c0 c1
   clear ht
   go_wp2
   go_quiet (fail)
   go_wp2
   go_roundw
   case rel => exact ⟨i + 1, by omega, by first | rfl | (congr 1; done) | (congr 1; omega), hex.out.drewN _⟩
   case measure => simp [intOf]; omega
  ·go_wp2
   go_ret
   exact RetN.mk (H1.out.1.trans hex.out) rfl
def KeptTo (w0 : World) (n : Nat) (iv : Value) (w : World) : Prop := ∃ i : Nat, i ≤ n /\ iv = .int .i64 i /\ Hid (Ext w0 w)
set_option maxRecDepth 100000 in
set_option maxHeartbeats 8000000 in
theorem kept14_any (p : ByteArray) (hs : List TermZ) (ls : List LitZ) (w0 : World) (ha hb : Option Addr) (hn hac hbc : Nat) (ba bb : Option Addr) (n bac bbc : Nat) (w : World) (G : Nat -> Prop) (hhn : hn = hs.length) (hh : TermsAt w G hb hs) (hhl : hn ≤ 1048576) (hbn : n = ls.length) (h : LitsAt w G bb ls) (hf : Fit ls) (hM : RuleK w0 w hs ls ha hn hac ba n bac) :
 Calls Tryz.prog 23 #[ruleV p ha hn hac ba n bac, ruleV p hb hn hbc bb n bbc] w (RetN w fun w' v => v = .bool true) := by
 have HN := Lib.hid hbn; have HE := Lib.hid h; have HF := Lib.hid hf; have hl : n ≤ 1048576 := by have := hf.len; omega
 have HHd := Lib.hid (fun (W : World) (hW : Ext w W) => atomKept_any p hs w0 ha hb hn hac hbc W G (hM.head.ext hW) (terms_fit hh) (hh.ext hW) hhl)
 obtain ⟨gm, rfl, hmk, hc1, hc2, hmL⟩ := hM.mark
 have HL0 := Lib.hid hmL
 have HAll := Lib.hid (lits_all h)
 obtain ⟨g0, eg0⟩ : ∃ g, w.heap.size = g := ⟨_, rfl⟩
 obtain ⟨w1, e1⟩ : ∃ x, (w.alloc (.cells #[.string p, .slice ha hn hac, .slice (some ⟨gm, 0, none⟩) n bac] 27)).alloc (.cells #[.string p, .slice hb hn hbc, .slice bb n bbc] 27) = x := ⟨_, rfl⟩
 have hB1 : Blk w1 g0 [.string p, .slice ha hn hac, .slice (some ⟨gm, 0, none⟩) n bac] 27 := by rw [<- e1, <- eg0]; exact (Blk.new w _ _).alloc _
 have hB2 : Blk w1 (g0 + 1) [.string p, .slice hb hn hbc, .slice bb n bbc] 27 := by
  have h := Blk.new (w.alloc (.cells #[.string p, .slice ha hn hac, .slice (some ⟨gm, 0, none⟩) n bac] 27)) [.string p, .slice hb hn hbc, .slice bb n bbc] 27
  rw [alloc_size, eg0] at h
  rw [<- e1]; exact h
 have hx1 : Ext w w1 := by rw [<- e1]; exact ((Kp.refl w).alloc _).alloc _
 have r0 : w1.cell? ⟨g0, 0, none⟩ = some (.string p) := by rw [hB1.cell']; rfl
 have r1 : w1.cell? ⟨g0, 1, none⟩ = some (.slice ha hn hac) := by rw [hB1.cell']; rfl
 have s0 : w1.cell? ⟨g0 + 1, 0, none⟩ = some (.string p) := by rw [hB2.cell']; rfl
 have s1 : w1.cell? ⟨g0 + 1, 1, none⟩ = some (.slice hb hn hbc) := by rw [hB2.cell']; rfl
 have s2 : w1.cell? ⟨g0 + 1, 2, none⟩ = some (.slice bb n bbc) := by rw [hB2.cell']; rfl
 have q1 : ((n : Int) != (n : Int)) = false := by simp
 have i1 : (n : Int) + 1 ≤ (bac : Int) := by omega
 have hc3 : bac ≤ 9223372036854775807 := hc2
 have H1 := Lib.hid (And.intro hx1 (And.intro hB1 (And.intro hB2 hmk)))
 clear hM h hmk hB1 hB2 hx1 hhn hh hbn hf hmL hc2
 go_enter Tryz.func23, Tryz.ntmps23
 go_wp2_with fail
 clear e1 eg0
 refine (HHd.out _ H1.out.1).mono ?_
 rintro e w2 ⟨v, rfl, hk2, rfl⟩
 have H2 := Lib.hid (show Ext w w2 /\ Blk w2 g0 [.string p, .slice ha hn hac, .slice (some ⟨gm, 0, none⟩) n bac] 27 /\ Blk w2 (g0 + 1) [.string p, .slice hb hn hbc, .slice bb n bbc] 27 from ⟨H1.out.1.trans hk2, H1.out.2.1.ext hk2, H1.out.2.2.1.ext hk2⟩)
 have t2 : w2.cell? ⟨g0, 2, none⟩ = some (.slice (some ⟨gm, 0, none⟩) n bac) := by rw [H2.out.2.1.cell']; rfl
 have m0 := H2.out.1.cell H1.out.2.2.2 id
 clear hk2 r0 r1 s0 s1 s2
 go_wp2
 clear t2 m0 q1 i1
 go_loopw [6] (fun iv wr => KeptTo w2 n iv wr) (fun iv _ => n - (intOf iv).toNat)
 case atStart => exact ⟨0, Nat.zero_le _, rfl, Lib.hid (Kp.refl w2)⟩
 case round =>
  obtain ⟨i, hi, rfl, hex⟩ := hrel
  have XR := Lib.hid (H2.out.1.trans hex.out)
  have r2 : wr.cell? ⟨g0, 2, none⟩ = some (.slice (some ⟨gm, 0, none⟩) n bac) := by rw [(H2.out.2.1.ext hex.out).cell']; rfl
  have s2 : wr.cell? ⟨g0 + 1, 2, none⟩ = some (.slice bb n bbc) := by rw [(H2.out.2.2.ext hex.out).cell']; rfl
  by_cases hlt : i < n
  ·have hltl : i < ls.length := by rw [<- HN.out]; exact hlt
   obtain ⟨l, hli⟩ : ∃ l, ls[i]? = some l := ⟨_, List.getElem?_eq_getElem hltl⟩
   obtain ⟨b, off, a2, cap2, eao, hG, hb, hL, c0, c1, c2, c3, c4, c5, c6, c7⟩ := lit_at HE.out hli
   subst eao
   replace c0 := XR.out.cell c0 id
   replace c1 := XR.out.cell c1 id
   replace c2 := XR.out.cell c2 id
   replace c3 := XR.out.cell c3 id
   replace c4 := XR.out.cell c4 id
   replace c5 := XR.out.cell c5 id
   replace c6 := XR.out.cell c6 id
   replace c7 := XR.out.cell c7 id
   obtain ⟨mm, emm⟩ : ∃ mm, mm = (termsOf l).length := ⟨_, rfl⟩
   rw [<- emm] at c2
   have hmm : mm ≤ 1048576 := by rw [emm]; exact HF.out.terms l (List.mem_of_getElem? hli)
   obtain ⟨k, ek⟩ : ∃ k, k = l.1 := ⟨_, rfl⟩
   rw [<- ek] at c0
   clear hltl hG hb
   obtain ⟨a3, cq, hTK, hcl⟩ := HL0.out i l hli
   have HAK := Lib.hid (fun (W : World) (hW : Ext wr W) => atomKept_any (predOf l) (termsOf l) w0 a3 a2 mm cq cap2 W G (by have h := (hTK.ext XR.out).ext hW; rw [<- emm] at h; exact h) (HAll.out l (List.mem_of_getElem? hli)).terms ((hL.terms.ext XR.out).ext hW) hmm)
   have d0 := XR.out.cell (hcl 0 _ rfl) id
   have d1 := XR.out.cell (hcl 1 _ rfl) id
   have d2 := XR.out.cell (hcl 2 _ rfl) id
   have d3 := XR.out.cell (hcl 3 _ rfl) id
   have d4 := XR.out.cell (hcl 4 _ rfl) id
   have d5 := XR.out.cell (hcl 5 _ rfl) id
   have d6 := XR.out.cell (hcl 6 _ rfl) id
   have d7 := XR.out.cell (hcl 7 _ rfl) id
   simp only [Nat.add_zero, <- ek, <- emm] at d0 d1 d2 d3 d4 d5 d6 d7
   generalize predOf l = pl at *
   generalize opOf l = s3 at *
   generalize (leftOf l).1 = s4 at *
   generalize (leftOf l).2.1 = s5 at *
   generalize (rightOf l).1 = s6 at *
   generalize (rightOf l).2.1 = s7 at *
   obtain ⟨gx, egx⟩ : ∃ gx, wr.heap.size = gx := ⟨_, rfl⟩
   obtain ⟨wx, ewx⟩ : ∃ wx, wr.alloc (.cells #[.int .i64 k, .string pl, .slice a3 mm cq, .int .i64 s3, .int .i64 s4, .string s5, .int .i64 s6, .string s7] 40) = wx := ⟨_, rfl⟩
   obtain ⟨wy, ewy⟩ : ∃ wy, wx.alloc (.cells #[.int .i64 k, .string pl, .slice a2 mm cap2, .int .i64 s3, .int .i64 s4, .string s5, .int .i64 s6, .string s7] 40) = wy := ⟨_, rfl⟩
   have sx : wx.heap.size = gx + 1 := by rw [<- ewx, alloc_size, egx]
   have hxy : Ext wx wy := by rw [<- ewy]; exact (Kp.refl wx).alloc _
   have hgx : Blk wx gx [.int .i64 k, .string pl, .slice a3 mm cq, .int .i64 s3, .int .i64 s4, .string s5, .int .i64 s6, .string s7] 40 := by rw [<- ewx, <- egx]; exact Blk.new wr _ _
   have hgy : Blk wy (gx + 1) [.int .i64 k, .string pl, .slice a2 mm cap2, .int .i64 s3, .int .i64 s4, .string s5, .int .i64 s6, .string s7] 40 := by rw [<- ewy, <- sx]; exact Blk.new wx _ _
   have hxx : Ext wr wx := by rw [<- ewx]; exact (Kp.refl wr).alloc _
   have p2 : wx.cell? ⟨g0 + 1, 2, none⟩ = some (.slice (some ⟨b, off, none⟩) n bbc) := hxx.cell s2 id
   have b0 := hxx.cell c0 id
   have b1 := hxx.cell c1 id
   have b2 := hxx.cell c2 id
   have b3 := hxx.cell c3 id
   have b4 := hxx.cell c4 id
   have b5 := hxx.cell c5 id
   have b6 := hxx.cell c6 id
   have b7 := hxx.cell c7 id
   have hx := hgx.ext hxy
   have x0 : wy.cell? ⟨gx, 0, none⟩ = some (.int .i64 k) := by rw [hx.cell']; rfl
   have x1 : wy.cell? ⟨gx, 1, none⟩ = some (.string pl) := by rw [hx.cell']; rfl
   have x2 : wy.cell? ⟨gx, 2, none⟩ = some (.slice a3 mm cq) := by rw [hx.cell']; rfl
   have x3 : wy.cell? ⟨gx, 3, none⟩ = some (.int .i64 s3) := by rw [hx.cell']; rfl
   have x4 : wy.cell? ⟨gx, 4, none⟩ = some (.int .i64 s4) := by rw [hx.cell']; rfl
   have x5 : wy.cell? ⟨gx, 5, none⟩ = some (.string s5) := by rw [hx.cell']; rfl
   have x6 : wy.cell? ⟨gx, 6, none⟩ = some (.int .i64 s6) := by rw [hx.cell']; rfl
   have x7 : wy.cell? ⟨gx, 7, none⟩ = some (.string s7) := by rw [hx.cell']; rfl
   have y0 : wy.cell? ⟨gx + 1, 0, none⟩ = some (.int .i64 k) := by rw [hgy.cell']; rfl
   have y1 : wy.cell? ⟨gx + 1, 1, none⟩ = some (.string pl) := by rw [hgy.cell']; rfl
   have y2 : wy.cell? ⟨gx + 1, 2, none⟩ = some (.slice a2 mm cap2) := by rw [hgy.cell']; rfl
   have y3 : wy.cell? ⟨gx + 1, 3, none⟩ = some (.int .i64 s3) := by rw [hgy.cell']; rfl
   have y4 : wy.cell? ⟨gx + 1, 4, none⟩ = some (.int .i64 s4) := by rw [hgy.cell']; rfl
   have y5 : wy.cell? ⟨gx + 1, 5, none⟩ = some (.string s5) := by rw [hgy.cell']; rfl
   have y6 : wy.cell? ⟨gx + 1, 6, none⟩ = some (.int .i64 s6) := by rw [hgy.cell']; rfl
   have y7 : wy.cell? ⟨gx + 1, 7, none⟩ = some (.string s7) := by rw [hgy.cell']; rfl
   have e1 : (k != k) = false := by simp
   have e2 : (s3 != s3) = false := by simp
   have e3 : (s4 == s4) = true := by simp
   have e4 : (s6 == s6) = true := by simp
   have e5 := str_eq s5
   have e6 := str_eq s7
   have HY := Lib.hid (And.intro hxx hxy)
   have HCall := Lib.hid (HAK.out wy (hxx.trans hxy))
   clear hli emm ek hL hTK hcl hx hgx hgy hxx hxy HAK
   go_wp2_with fail
   refine HCall.out.mono ?_
   rintro e w5 ⟨v, rfl, hk5, rfl⟩
   have X5 := Lib.hid (HY.out.1.trans (HY.out.2.trans hk5))
   clear hk5 x0 x1 x2 x3 x4 x5 x6 x7 y0 y1 y2 y3 y4 y5 y6 y7 b0 b1 b2 b3 b4 b5 b6 b7 c0 c1 c2 c3 c4 c5 c6 c7 d0 d1 d2 d3 d4 d5 d6 d7 e1 e2 e3 e4 e5 e6 p2 r2 s2 ewx ewy egx sx
   go_wp2
   go_roundw
   case rel => exact ⟨i + 1, by omega, by first | rfl | (congr 1; done) | (congr 1; omega), Lib.hid (hex.out.trans X5.out)⟩
   case measure => simp [intOf]; omega
  ·go_wp2
   go_ret
   exact RetN.mk XR.out rfl
end Go.Proofs.YtinnmeiphbdogaaGreat

/- The law of joins: alike: the same rows, one by one. -/
namespace Go.Proofs.YtinnmeiphbdogaaGreat
open Go.RowKit Go.Shelf
set_option linter.unusedVariables false
attribute [local go_sem] Oper.semAt_some
end Go.Proofs.YtinnmeiphbdogaaGreat

/- The law of joins: JoinRules. -/
namespace Go.Proofs.YtinnmeiphbdogaaGreat
open Go.RowKit Go.Shelf
set_option linter.unusedVariables false
attribute [local go_sem] Oper.semAt_some
def turnedX (V : List ByteArray) (i : Nat) : List ByteArray := (V.take i).map (fun s => s ++ ⟨#[120]⟩) ++ V.drop i
theorem turnedX_len (V : List ByteArray) (i : Nat) : (turnedX V i).length = V.length := by unfold turnedX; rw [List.length_append, List.length_map, List.length_take, List.length_drop]; omega
theorem turnedX_at {V : List ByteArray} {i : Nat} {s : ByteArray} (h : V[i]? = some s) : (turnedX V i)[i]? = some s := by
 have hi := (List.getElem?_eq_some_iff.1 h).1
 unfold turnedX
 rw [List.getElem?_append_right (by rw [List.length_map, List.length_take]; omega), List.length_map, List.length_take, Nat.min_eq_left (by omega), Nat.sub_self, List.getElem?_drop, Nat.add_zero]
 exact h
theorem turnedX_step {V : List ByteArray} {i : Nat} {s : ByteArray} (h : V[i]? = some s) : (turnedX V i).set i (s ++ ⟨#[120]⟩) = turnedX V (i + 1) := by
 have hi := (List.getElem?_eq_some_iff.1 h).1
 unfold turnedX
 rw [List.set_append_right _ _ (by rw [List.length_map, List.length_take]; omega), List.length_map, List.length_take, Nat.min_eq_left (by omega), Nat.sub_self, List.take_add_one, h, List.map_append, List.append_assoc]
 congr 1
 rw [List.drop_eq_getElem_cons hi, List.set_cons_zero]
 rfl
def JRAt (w w1 : World) (hs : List TermZ) (ls : List LitZ) (p : ByteArray) (g0 g5 : Nat) (ha : Option Addr) (hn hcap : Nat) (ba : Option Addr) (n bcap : Nat) (hb : Option Addr) (hbc : Nat) (bb : Option Addr) (bbc : Nat) (W : World) : Prop :=
 Ext w W /\ Blk W g0 [.string p, .slice ha hn hcap, .slice ba n bcap] 27 /\ Blk W g5 [.string p, .slice hb hn hbc, .slice bb n bbc] 27 /\ RuleK w1 W hs ls hb hn hbc bb n bbc
section
variable {w w1 W W' : World} {hs : List TermZ} {ls : List LitZ} {p : ByteArray} {g0 g5 hn hcap n bcap hbc bbc : Nat} {ha ba hb bb : Option Addr}
theorem JRAt.ext (h : JRAt w w1 hs ls p g0 g5 ha hn hcap ba n bcap hb hbc bb bbc W) (hk : Ext W W') : JRAt w w1 hs ls p g0 g5 ha hn hcap ba n bcap hb hbc bb bbc W' := ⟨h.1.trans hk, h.2.1.ext hk, h.2.2.1.ext hk, h.2.2.2.ext hk⟩
theorem typ_str_rule : 9 ≠ 27 := by decide
theorem typ_str_term : 9 ≠ 38 := by decide
theorem typ_str_lit : 9 ≠ 40 := by decide
theorem JRAt.str {F : Nat -> Prop} (h : JRAt w w1 hs ls p g0 g5 ha hn hcap ba n bcap hb hbc bb bbc W) (hk : Kp F W W') (hF : ∀ k, F k -> (∃ cs, Blk W k cs 9) /\ w.heap.size ≤ k) : JRAt w w1 hs ls p g0 g5 ha hn hcap ba n bcap hb hbc bb bbc W' :=
 ⟨h.1.trans' hk fun i hi hf => by have := (hF i hf).2; omega, h.2.1.kp hk fun hf => by
  obtain ⟨⟨cs, hb⟩, _⟩ := hF _ hf
  exact typ_str_rule (blk_ne hb h.2.1), h.2.2.1.kp hk fun hf => by
  obtain ⟨⟨cs, hb⟩, _⟩ := hF _ hf
  exact typ_str_rule (blk_ne hb h.2.2.1), h.2.2.2.kp hk fun k cs hb hf => by
  obtain ⟨⟨cs', hb'⟩, _⟩ := hF _ hf
  rcases hb with hb | hb
  ·exact typ_str_term (blk_ne hb' hb)
  ·exact typ_str_lit (blk_ne hb' hb)⟩
end
def GivenTo (w0 : World) (gG : Nat) (V : List ByteArray) (rest : List Value) (nb : Nat) (iv : Value) (W : World) : Prop := ∃ i : Nat, i ≤ nb /\ iv = .int .i64 i /\ Hid (Kp (fun k => k = gG) w0 W) /\ Hid (Blk W gG (strs (turnedX V i) ++ rest) 9)
set_option maxRecDepth 100000 in
set_option maxHeartbeats 16000000 in
theorem rules14_any {w : World} {p : ByteArray} {hs : List TermZ} {ls : List LitZ} {ha ba va : Option Addr} {hn hcap n bcap nb vc : Nat} {G : Nat -> Prop} {V : List ByteArray} (hhn : hn = hs.length) (hh : TermsAt w G ha hs) (hhl : hn ≤ 1048576) (hbn : n = ls.length) (h : LitsAt w G ba ls) (hf : Fit ls) (hnv : (namesB ls).length ≤ 1048576) (hV : nb = V.length) (hVc : CellsAt w va (strs V)) (hvb : nb ≤ 1048576) (hVs : ∀ s ∈ V, s.size ≤ 1048576) (hG : ∀ k, G k -> k < w.heap.size) (hva : ∀ a, va = some a -> V ≠ [] -> a.block < w.heap.size) :
 Calls Tryz.prog 4 #[ruleV p ha hn hcap ba n bcap, .slice va nb vc] w (RetN w fun w' v => v = .bool true) := by
 obtain ⟨g0, eg0⟩ : ∃ g, w.heap.size = g := ⟨_, rfl⟩
 obtain ⟨w1, e1⟩ : ∃ x, w.alloc (.cells #[.string p, .slice ha hn hcap, .slice ba n bcap] 27) = x := ⟨_, rfl⟩
 have x1 : Ext w w1 := by rw [<- e1]; exact (Kp.refl w).alloc _
 have hB1 : Blk w1 g0 [.string p, .slice ha hn hcap, .slice ba n bcap] 27 := by rw [<- e1, <- eg0]; exact Blk.new w _ _
 have HLe := Lib.hid (lent14_any p hs ls ha hn hcap ba n bcap w1 G hhn (hh.ext x1) hhl hbn (h.ext x1) hf)
 have HCk := Lib.hid (fun (W : World) (hW : Ext w W) => refCheck_any p hs ls ha hn hcap ba n bcap W G hhn (hh.ext hW) hhl hbn (h.ext hW) hf)
 have HVr := Lib.hid (fun (W : World) (hW : Ext w W) => refVarsR_any p hs ls ha hn hcap ba n bcap W G hhn (hh.ext hW) hhl hbn (h.ext hW) hf)
 have HRH := Lib.hid (fun (W : World) (hW : Kp (fun k => w.heap.size ≤ k) w W) (U : List ByteArray) (ua : Option Addr) (uc : Nat) (hU : nb = U.length) (hUc : CellsAt W ua (strs U)) => (refHead_any (p := p) (hcap := hcap) (bcap := bcap) (vc := uc) hhn (hh.kp hW fun k hk hf => by have := hG k hk; omega) hhl hbn (h.kp hW fun k hk hf => by have := hG k hk; omega) hf hnv hU hUc hvb).mono fun e w' hr => by
  obtain ⟨v, e1, e2, e3⟩ := hr
  exact (show RetN W (fun w' v => HeadSame ((p, hs, ()), ls, ()) U W w' v) e w' from ⟨v, e1, e2, e3.same⟩))
 have HKe := Lib.hid (fun (W : World) (hW : Ext w W) (w0 : World) (hb : Option Addr) (hbc : Nat) (bb : Option Addr) (bbc : Nat) (hM : RuleK w0 W hs ls hb hn hbc bb n bbc) => kept14_any p hs ls w0 hb ha hn hbc hcap bb ba n bbc bcap W G hhn (hh.ext hW) hhl hbn (h.ext hW) hf hM)
 have HIn := Lib.hid (show ∀ (W w0 : World) (hb : Option Addr) (hbc : Nat) (bb : Option Addr) (bbc : Nat), RuleK w0 W hs ls hb hn hbc bb n bbc -> (Calls Tryz.prog 15 #[ruleV p hb hn hbc bb n bbc] W (RetN W fun w' v => v = .int .i64 (checkR ((p, hs, ()), ls, ())))) /\ (Calls Tryz.prog 13 #[ruleV p hb hn hbc bb n bbc] W (RetN W fun w' v => ∃ ao cap, v = .slice ao (varsOfR ((p, hs, ()), ls, ())).length cap /\ CellsAt w' ao (strs (varsOfR ((p, hs, ()), ls, ())))))
  /\ ∀ (U : List ByteArray) (ua : Option Addr) (uc : Nat), nb = U.length -> CellsAt W ua (strs U) -> Calls Tryz.prog 25 #[ruleV p hb hn hbc bb n bbc, .slice ua nb uc] W (RetN W fun w' v => HeadSame ((p, hs, ()), ls, ()) U W w' v) from fun W w0 hb hbc bb bbc hM => by
  have h1 := hM.terms (terms_fit hh)
  have h2 := hM.lits (lits_all h)
  exact ⟨check_any p hs ls hb hn hbc bb n bbc W _ hhn h1 hhl hbn h2 hf, varsR_any p hs ls hb hn hbc bb n bbc W _ hhn h1 hhl hbn h2 hf, fun U ua uc hU hUc => (headW_any (p := p) (hcap := hbc) (bcap := bbc) (vc := uc) hhn h1 hhl hbn h2 hf hnv hU hUc hvb).mono fun e w' hr => by
   obtain ⟨v, e1, e2, e3⟩ := hr
   exact (show RetN W (fun w' v => HeadSame ((p, hs, ()), ls, ()) U W w' v) e w' from ⟨v, e1, e2, e3.same⟩)⟩)
 have H1 := Lib.hid (And.intro x1 (And.intro hB1 eg0))
 have HV := Lib.hid (And.intro hV (And.intro hVc (And.intro hVs hva)))
 have hvf : (varsOfR ((p, hs, ()), ls, ())).length ≤ 1048576 := by unfold varsOfR; split; exact hnv; exact Nat.zero_le _
 have hhf : ∀ U, (headR ((p, hs, ()), ls, ()) U).1.length ≤ 1048576 := fun U => by
  have h1 : (headR ((p, hs, ()), ls, ()) U).1.length ≤ hs.length := headR_few _ U
  omega
 have HF := Lib.hid (And.intro hvf hhf)
 obtain ⟨cR, ecR⟩ : ∃ c, checkR ((p, hs, ()), ls, ()) = c := ⟨_, rfl⟩
 rw [ecR] at HCk HIn
 obtain ⟨R0, eR0⟩ : ∃ r : RuleZ, ((p, hs, ()), ls, ()) = r := ⟨_, rfl⟩
 rw [eR0] at HVr HRH HIn HF
 have r0 : w1.cell? ⟨g0, 0, none⟩ = some (.string p) := by rw [hB1.cell']; rfl
 have r1 : w1.cell? ⟨g0, 1, none⟩ = some (.slice ha hn hcap) := by rw [hB1.cell']; rfl
 have r2 : w1.cell? ⟨g0, 2, none⟩ = some (.slice ba n bcap) := by rw [hB1.cell']; rfl
 clear hhn hh hbn h hf hV hVc hVs hva hvf hhf x1 hB1 ecR eR0 hnv
 go_enter Tryz.func4, Tryz.ntmps4
 go_wp2_with fail
 clear e1 eg0
 refine HLe.out.mono ?_
 rintro e w2 ⟨v2, rfl, hk2, hb, hbc, bb, bbc, rfl, hM⟩
 obtain ⟨g5, eg5⟩ : ∃ g, w2.heap.size = g := ⟨_, rfl⟩
 obtain ⟨w3, e3⟩ : ∃ x, w2.alloc (.cells #[.string p, .slice hb hn hbc, .slice bb n bbc] 27) = x := ⟨_, rfl⟩
 have x23 : Ext w2 w3 := by rw [<- e3]; exact (Kp.refl w2).alloc _
 have hB3 : Blk w3 g5 [.string p, .slice hb hn hbc, .slice bb n bbc] 27 := by rw [<- e3, <- eg5]; exact Blk.new w2 _ _
 have H3 := Lib.hid (show Ext w w3 /\ Blk w3 g0 [.string p, .slice ha hn hcap, .slice ba n bcap] 27 /\ Blk w3 g5 [.string p, .slice hb hn hbc, .slice bb n bbc] 27 /\ RuleK w1 w3 hs ls hb hn hbc bb n bbc from ⟨H1.out.1.trans (hk2.trans x23), H1.out.2.1.ext (hk2.trans x23), hB3, hM.ext x23⟩)
 have s0 : w3.cell? ⟨g5, 0, none⟩ = some (.string p) := by rw [hB3.cell']; rfl
 have s1 : w3.cell? ⟨g5, 1, none⟩ = some (.slice hb hn hbc) := by rw [hB3.cell']; rfl
 have s2 : w3.cell? ⟨g5, 2, none⟩ = some (.slice bb n bbc) := by rw [hB3.cell']; rfl
 clear hk2 hM x23 hB3 r0 r1 r2
 go_wp2_with fail
 clear e3 eg5
 refine (HIn.out _ _ _ _ _ _ H3.out.2.2.2).1.mono ?_
 rintro e w4 ⟨v4, rfl, hk4, rfl⟩
 have H4 := Lib.hid (show Ext w w4 /\ Blk w4 g0 [.string p, .slice ha hn hcap, .slice ba n bcap] 27 /\ Blk w4 g5 [.string p, .slice hb hn hbc, .slice bb n bbc] 27 /\ RuleK w1 w4 hs ls hb hn hbc bb n bbc from ⟨H3.out.1.trans hk4, H3.out.2.1.ext hk4, H3.out.2.2.1.ext hk4, H3.out.2.2.2.ext hk4⟩)
 have HJ := Lib.hid (show ∀ w', Ext w4 w' -> (fun w' : World => w'.cell? ⟨g0, 0, none⟩ = some (.string p) /\ w'.cell? ⟨g0, 1, none⟩ = some (.slice ha hn hcap) /\ w'.cell? ⟨g0, 2, none⟩ = some (.slice ba n bcap) /\ w'.cell? ⟨g5, 0, none⟩ = some (.string p) /\ w'.cell? ⟨g5, 1, none⟩ = some (.slice hb hn hbc) /\ w'.cell? ⟨g5, 2, none⟩ = some (.slice bb n bbc)) w' from fun w' hw => by
  have b1 := H4.out.2.1.ext hw
  have b2 := H4.out.2.2.1.ext hw
  exact ⟨by rw [b1.cell']; rfl, by rw [b1.cell']; rfl, by rw [b1.cell']; rfl, by rw [b2.cell']; rfl, by rw [b2.cell']; rfl, by rw [b2.cell']; rfl⟩)
 clear hk4 s0 s1 s2
 go_wp2
 refine draw_begin (fun w' : World => w'.cell? ⟨g0, 0, none⟩ = some (.string p) /\ w'.cell? ⟨g0, 1, none⟩ = some (.slice ha hn hcap) /\ w'.cell? ⟨g0, 2, none⟩ = some (.slice ba n bcap) /\ w'.cell? ⟨g5, 0, none⟩ = some (.string p) /\ w'.cell? ⟨g5, 1, none⟩ = some (.slice hb hn hbc) /\ w'.cell? ⟨g5, 2, none⟩ = some (.slice bb n bbc)) [] (by kernel_rfl) (HJ.out _ (Kp.refl w4).drew) (fun hHeld => ?_)
 (refine draw_free (i := 0) (v := ?_) rfl ?_ ?_; rotate_left; (intro w; go_simp; try with_reducible rfl)); (try simp only [Act.put, List.setIfInBounds_toArray, List.set_cons_zero, List.set_cons_succ])
 (refine draw_in (i := 2) (v := ?_) rfl ?_ ?_; rotate_left; (intro w hSw; (try dsimp only at hSw); go_simp; try with_reducible rfl)); (try simp only [Act.put, List.setIfInBounds_toArray, List.set_cons_zero, List.set_cons_succ])
 refine draw_one (i := 1) ?_
 refine comes_turn (i := 1) rfl (fun K hK => ?_)
 go_simp
 (refine (num14_any cR w4.drew).mono ?_; rintro e u1 ⟨v, rfl, hk, rfl⟩; have Z1 := Lib.hid (show Ext w4 u1 from ((Kp.refl w4).drew).trans hk); clear hk)
 go_wp2_with fail
 refine hK.out _ _ ?_ (fun hHeld => ?_)
 ·(try dsimp only); (exact HJ.out _ Z1.out)
 clear hK K; (try simp only [Act.put, List.setIfInBounds_toArray, List.set_cons_zero, List.set_cons_succ])
 refine draw_one (i := 3) ?_
 refine comes_turn (i := 3) rfl (fun K hK => ?_)
 go_simp
 (refine (HCk.out u1 (H4.out.1.trans Z1.out)).mono ?_; rintro e u2 ⟨v, rfl, hk, rfl⟩; have Z2 := Lib.hid (show Ext w4 u2 from Z1.out.trans hk); clear hk)
 go_wp2_with fail
 refine hK.out _ _ ?_ (fun hHeld => ?_)
 ·(try dsimp only); (exact HJ.out _ Z2.out)
 clear hK K; (try simp only [Act.put, List.setIfInBounds_toArray, List.set_cons_zero, List.set_cons_succ])
 (refine draw_free (i := 4) (v := ?_) rfl ?_ ?_; rotate_left; (intro w; go_simp; try with_reducible rfl)); (try simp only [Act.put, List.setIfInBounds_toArray, List.set_cons_zero, List.set_cons_succ])
 (refine draw_free (i := 5) (v := ?_) rfl ?_ ?_; rotate_left; (intro w; go_simp; try with_reducible rfl)); (try simp only [Act.put, List.setIfInBounds_toArray, List.set_cons_zero, List.set_cons_succ])
 (first | (refine draw_in (i := 6) (v := ?_) rfl ?_ ?_; rotate_left; (intro w hSw; (try dsimp only at hSw); go_simp; try with_reducible rfl)) | (refine draw_out (i := 6) rfl ?_)); (try simp only [Act.put, List.setIfInBounds_toArray, List.set_cons_zero, List.set_cons_succ])
 (first | (refine draw_in (i := 8) (v := ?_) rfl ?_ ?_; rotate_left; (intro w hSw; (try dsimp only at hSw); go_simp; try with_reducible rfl)) | (refine draw_out (i := 8) rfl ?_)); (try simp only [Act.put, List.setIfInBounds_toArray, List.set_cons_zero, List.set_cons_succ])
 refine draw_one (i := 7) ?_
 refine comes_turn (i := 7) rfl (fun K hK => ?_)
 go_simp
 (refine (HIn.out u2 w1 hb hbc bb bbc (H4.out.2.2.2.ext Z2.out)).2.1.mono ?_; rintro e u3 ⟨v, rfl, hk, na, nc, rfl, hc⟩; have Z3 := Lib.hid (And.intro (show Ext w4 u3 from Z2.out.trans hk) hc); clear hk hc)
 go_wp2_with fail
 refine hK.out _ _ ?_ (fun hHeld => ?_)
 ·(try dsimp only); (exact HJ.out _ Z3.out.1)
 clear hK K; (try simp only [Act.put, List.setIfInBounds_toArray, List.set_cons_zero, List.set_cons_succ])
 refine draw_one (i := 9) ?_
 refine comes_turn (i := 9) rfl (fun K hK => ?_)
 go_simp
 (refine (HVr.out u3 (H4.out.1.trans Z3.out.1)).mono ?_; rintro e u4 ⟨v, rfl, hk, ma, mc, rfl, hc⟩; have Z4 := Lib.hid (And.intro (show Ext w4 u4 from Z3.out.1.trans hk) (And.intro hc (Z3.out.2.ext hk))); clear hk hc)
 go_wp2_with fail
 refine hK.out _ _ ?_ (fun hHeld => ?_)
 ·(try dsimp only); (exact HJ.out _ Z4.out.1)
 clear hK K; (try simp only [Act.put, List.setIfInBounds_toArray, List.set_cons_zero, List.set_cons_succ])
 refine draw_one (i := 10) ?_
 refine comes_turn (i := 10) rfl (fun K hK => ?_)
 go_simp
 (refine (same_known (varsOfR R0) na ma _ nc mc u4 rfl Z4.out.2.2 Z4.out.2.1 HF.out.1).mono ?_; rintro e u5 ⟨v, rfl, hk, rfl⟩; have Z5 := Lib.hid (show Ext w4 u5 from Z4.out.1.trans hk); clear hk)
 go_wp2_with fail
 refine hK.out _ _ ?_ (fun hHeld => ?_)
 ·(try dsimp only); (exact HJ.out _ Z5.out)
 clear hK K; (try simp only [Act.put, List.setIfInBounds_toArray, List.set_cons_zero, List.set_cons_succ])
 (first | (refine draw_free (i := 11) (v := ?_) rfl ?_ ?_; rotate_left; (intro w; go_simp; try with_reducible rfl)) | (refine draw_out (i := 11) rfl ?_)); (try simp only [Act.put, List.setIfInBounds_toArray, List.set_cons_zero, List.set_cons_succ])
 (refine draw_free (i := 12) (v := ?_) rfl ?_ ?_; rotate_left; (intro w; go_simp; try with_reducible rfl)); (try simp only [Act.put, List.setIfInBounds_toArray, List.set_cons_zero, List.set_cons_succ])
 (refine draw_free (i := 13) (v := ?_) rfl ?_ ?_; rotate_left; (intro w; go_simp; try with_reducible rfl)); (try simp only [Act.put, List.setIfInBounds_toArray, List.set_cons_zero, List.set_cons_succ])
 (first | (refine draw_in (i := 14) (v := ?_) rfl ?_ ?_; rotate_left; (intro w hSw; (try dsimp only at hSw); go_simp; try with_reducible rfl)) | (refine draw_out (i := 14) rfl ?_)); (try simp only [Act.put, List.setIfInBounds_toArray, List.set_cons_zero, List.set_cons_succ])
 (first | (refine draw_in (i := 15) (v := ?_) rfl ?_ ?_; rotate_left; (intro w hSw; (try dsimp only at hSw); go_simp; try with_reducible rfl)) | (refine draw_out (i := 15) rfl ?_)); (try simp only [Act.put, List.setIfInBounds_toArray, List.set_cons_zero, List.set_cons_succ])
 refine draw_one (i := 16) ?_
 refine comes_turn (i := 16) rfl (fun K hK => ?_)
 go_simp
 (refine (HKe.out u5 (H4.out.1.trans Z5.out) w1 hb hbc bb bbc (H4.out.2.2.2.ext Z5.out)).mono ?_; rintro e u6 ⟨v, rfl, hk, rfl⟩; have Z6 := Lib.hid (show Ext w4 u6 from Z5.out.trans hk); clear hk)
 go_wp2_with fail
 refine hK.out _ _ ?_ (fun hHeld => ?_)
 ·(try dsimp only); (exact HJ.out _ Z6.out)
 clear hK K; (try simp only [Act.put, List.setIfInBounds_toArray, List.set_cons_zero, List.set_cons_succ])
 (first | (refine draw_free (i := 17) (v := ?_) rfl ?_ ?_; rotate_left; (intro w; go_simp; try with_reducible rfl)) | (refine draw_out (i := 17) rfl ?_)); (try simp only [Act.put, List.setIfInBounds_toArray, List.set_cons_zero, List.set_cons_succ])
 (refine draw_free (i := 18) (v := ?_) rfl ?_ ?_; rotate_left; (intro w; go_simp; try with_reducible rfl)); (try simp only [Act.put, List.setIfInBounds_toArray, List.set_cons_zero, List.set_cons_succ])
 refine wpAnyD_done (by kernel_rfl) ?_ _
 clear hHeld
 have H6 := Lib.hid (show Ext w u6 /\ Blk u6 g0 [.string p, .slice ha hn hcap, .slice ba n bcap] 27 /\ Blk u6 g5 [.string p, .slice hb hn hbc, .slice bb n bbc] 27 /\ RuleK w1 u6 hs ls hb hn hbc bb n bbc from ⟨H4.out.1.trans Z6.out, H4.out.2.1.ext Z6.out, H4.out.2.2.1.ext Z6.out, H4.out.2.2.2.ext Z6.out⟩)
 clear Z1 Z2 Z3 Z4 Z5 Z6 HJ H4 H3 H1
 go_wp2_with (first | (at_builtin; refine Halted.out ?_))
 refine Halted.mk (wp_appN (m := nb) (n := 0) elemStr rfl _ _ rfl H6.out.1 rfl (Row.nil _ _ _ (New w)) rfl (HV.out.2.1.ext H6.out.1) (by rw [strs_len, HV.out.1, Nat.mul_one]) (fun u hu => by obtain ⟨x, _, rfl⟩ := List.mem_map.1 hu; rfl) (by omega) (by unfold maxLen; omega) ?_)
 intro v7 w7 hr7 hk7 hk7b _
 rw [Nat.zero_add, List.nil_append] at hr7
 obtain ⟨a7, c7, ev7, _, _⟩ := hr7.shape
 subst ev7
 have HR7 := Lib.hid hr7
 have J7 := Lib.hid (JRAt.ext (w := w) (w1 := w1) H6.out (hk7b.mono fun k _ h => by cases h))
 clear hr7 hk7 hk7b
 go_wp2_with (first | (at_builtin; refine Halted.out ?_))
 refine Halted.mk (wp_appN (m := 1) (n := nb) elemStr rfl _ _ rfl (J7.out.1.alloc _) rfl (HR7.out.alloc _) rfl (CellsAt.one w7 (.string ⟨#[109, 97, 114, 107]⟩) 9) (by rfl) (by simp [Value.oneCell']) (by omega) (by unfold maxLen; omega) ?_)
 intro v8 w8 hr8 hk8 hk8b _
 have J8 := Lib.hid (JRAt.str (w := w) (w1 := w1) (JRAt.ext (w := w) (w1 := w1) J7.out ((Kp.refl w7).alloc _)) hk8b fun k hk => ⟨rowBlk (HR7.out.alloc _) hk, HR7.out.block k hk⟩)
 obtain ⟨h1, ⟨rfl, h0⟩ | ⟨gG, c8, rest, rfl, hM, hB8, hlen8, hnc, hcm⟩⟩ := hr8
 ·omega
 have hB8' : Blk w8 gG (strs V ++ (.string ⟨#[109, 97, 114, 107]⟩ :: rest)) 9 := by rw [List.append_assoc] at hB8; exact hB8
 have HGv := Lib.hid (And.intro hB8' (And.intro hM (show gG < w8.heap.size from hB8.lt)))
 have hcm2 : c8 ≤ 9223372036854775807 := hcm
 have i1 : (nb : Int) ≤ (c8 : Int) := by omega
 have i2 : (nb : Int) < (nb : Int) + 1 := by omega
 have r0 : w8.cell? ⟨g0, 0, none⟩ = some (.string p) := by rw [J8.out.2.1.cell']; rfl
 have r1 : w8.cell? ⟨g0, 1, none⟩ = some (.slice ha hn hcap) := by rw [J8.out.2.1.cell']; rfl
 have r2 : w8.cell? ⟨g0, 2, none⟩ = some (.slice ba n bcap) := by rw [J8.out.2.1.cell']; rfl
 clear h1 hk8 hk8b hB8 hB8' hM hlen8 hcm HR7 J7 H6
 go_wp2_with fail
 refine (HRH.out w8 (Ext.kp J8.out.1) V va vc HV.out.1 (HV.out.2.1.ext J8.out.1)).mono ?_
 rintro e w9 ⟨v9, rfl, hk9, wa, wc, rfl, hwc, hwn⟩
 obtain ⟨M, eM⟩ : ∃ M, (headR R0 V).1 = M := ⟨_, rfl⟩
 obtain ⟨z, ez⟩ : ∃ z, (headR R0 V).2 = z := ⟨_, rfl⟩
 rw [eM] at hwc hwn ⊢
 rw [ez]
 have hMl : M.length ≤ 1048576 := by rw [<- eM]; exact HF.out.2 V
 obtain ⟨mM, emM⟩ : ∃ m, M.length = m := ⟨_, rfl⟩
 rw [emM] at hMl ⊢
 have HMe := Lib.hid (And.intro eM (And.intro ez emM))
 have J9 := Lib.hid (JRAt.ext (w := w) (w1 := w1) J8.out hk9)
 have HW9 := Lib.hid (And.intro hwc (show M ≠ [] -> ∀ a, wa = some a -> gG < a.block from fun hne a ea => Nat.lt_of_lt_of_le HGv.out.2.2 (hwn hne a ea)))
 have HG9 := Lib.hid (HGv.out.1.ext hk9)
 have HJ9 := Lib.hid (show ∀ w', Ext w9 w' -> (fun w' : World => w'.cell? ⟨g5, 0, none⟩ = some (.string p) /\ w'.cell? ⟨g5, 1, none⟩ = some (.slice hb hn hbc) /\ w'.cell? ⟨g5, 2, none⟩ = some (.slice bb n bbc)) w' from fun w' hw => by
  have b2 := J9.out.2.2.1.ext hw
  exact ⟨by rw [b2.cell']; rfl, by rw [b2.cell']; rfl, by rw [b2.cell']; rfl⟩)
 clear hk9 hwc hwn r0 r1 r2 eM ez emM
 go_wp2
 refine draw_begin (fun w' : World => w'.cell? ⟨g5, 0, none⟩ = some (.string p) /\ w'.cell? ⟨g5, 1, none⟩ = some (.slice hb hn hbc) /\ w'.cell? ⟨g5, 2, none⟩ = some (.slice bb n bbc)) [] (by kernel_rfl) (HJ9.out _ (Kp.refl w9).drew) (fun hHeld => ?_)
 (refine draw_in (i := 0) (v := ?_) rfl ?_ ?_; rotate_left; (intro w hSw; (try dsimp only at hSw); go_simp; try with_reducible rfl)); (try simp only [Act.put, List.setIfInBounds_toArray, List.set_cons_zero, List.set_cons_succ])
 (refine draw_free (i := 1) (v := ?_) rfl ?_ ?_; rotate_left; (intro w; go_simp; try with_reducible rfl)); (try simp only [Act.put, List.setIfInBounds_toArray, List.set_cons_zero, List.set_cons_succ])
 (refine draw_free (i := 2) (v := ?_) rfl ?_ ?_; rotate_left; (intro w; go_simp; try with_reducible rfl)); (try simp only [Act.put, List.setIfInBounds_toArray, List.set_cons_zero, List.set_cons_succ])
 (refine draw_in (i := 3) (v := ?_) rfl ?_ ?_; rotate_left; (intro w hSw; (try dsimp only at hSw); go_simp; try with_reducible rfl)); (try simp only [Act.put, List.setIfInBounds_toArray, List.set_cons_zero, List.set_cons_succ])
 (refine draw_in (i := 4) (v := ?_) rfl ?_ ?_; rotate_left; (intro w hSw; (try dsimp only at hSw); go_simp; try with_reducible rfl)); (try simp only [Act.put, List.setIfInBounds_toArray, List.set_cons_zero, List.set_cons_succ])
 refine draw_one (i := 5) ?_
 refine comes_turn (i := 5) rfl (fun K hK => ?_)
 go_simp
 (refine ((HIn.out w9.drew w1 hb hbc bb bbc (J9.out.2.2.2.ext (Kp.refl w9).drew)).2.2 V (some ⟨gG, 0, none⟩) c8 HV.out.1 (CellsAt.pre (HG9.out.ext (Kp.refl w9).drew))).mono ?_; rintro e u1 ⟨v, rfl, hk, oa, oc, rfl, hoc, hon⟩; rw [HMe.out.1] at hoc hon ⊢; rw [HMe.out.2.1, HMe.out.2.2]; have Z1 := Lib.hid (And.intro (show Ext w9 u1 from ((Kp.refl w9).drew).trans hk) (And.intro hoc (show M ≠ [] -> ∀ a, oa = some a -> gG < a.block from fun hne a ea => Nat.lt_of_lt_of_le (show gG < w9.heap.size from HG9.out.lt) (hon hne a ea)))); clear hk hoc hon)
 go_wp2_with fail
 refine hK.out _ _ ?_ (fun hHeld => ?_)
 ·(try dsimp only); (exact HJ9.out _ Z1.out.1)
 clear hK K; (try simp only [Act.put, List.setIfInBounds_toArray, List.set_cons_zero, List.set_cons_succ])
 (refine draw_free (i := 6) (v := ?_) rfl ?_ ?_; rotate_left; (intro w; go_simp; try with_reducible rfl)); (try simp only [Act.put, List.setIfInBounds_toArray, List.set_cons_zero, List.set_cons_succ])
 (refine draw_free (i := 7) (v := ?_) rfl ?_ ?_; rotate_left; (intro w; go_simp; try with_reducible rfl)); (try simp only [Act.put, List.setIfInBounds_toArray, List.set_cons_zero, List.set_cons_succ])
 (refine draw_free (i := 8) (v := ?_) rfl ?_ ?_; rotate_left; (intro w; go_simp; try with_reducible rfl)); (try simp only [Act.put, List.setIfInBounds_toArray, List.set_cons_zero, List.set_cons_succ])
 (refine draw_free (i := 9) (v := ?_) rfl ?_ ?_; rotate_left; (intro w; go_simp; try with_reducible rfl)); (try simp only [Act.put, List.setIfInBounds_toArray, List.set_cons_zero, List.set_cons_succ])
 (refine draw_free (i := 10) (v := ?_) rfl ?_ ?_; rotate_left; (intro w; go_simp; try with_reducible rfl)); (try simp only [Act.put, List.setIfInBounds_toArray, List.set_cons_zero, List.set_cons_succ])
 refine wpAnyD_done (by kernel_rfl) ?_ _
 clear hHeld
 have J10 := Lib.hid (JRAt.ext (w := w) (w1 := w1) J9.out Z1.out.1)
 have HG10 := Lib.hid (HG9.out.ext Z1.out.1)
 have HRow := Lib.hid Z1.out.2
 have HWnt := Lib.hid (And.intro (HW9.out.1.ext Z1.out.1) HW9.out.2)
 have qz1 : ((z : Int) != (z : Int)) = false := by simp
 clear Z1 HW9 HG9 J9 HJ9 J8
 go_wp2_with fail
 refine (num14_any z u1).mono ?_
 rintro e u2 ⟨v, rfl, hk2, rfl⟩
 have X2 := Lib.hid hk2
 clear hk2
 go_wp2_with fail
 refine (same_known M oa wa mM oc wc u2 HMe.out.2.2 (HRow.out.1.ext X2.out) (HWnt.out.1.ext X2.out) hMl).mono ?_
 rintro e u3 ⟨v, rfl, hk3, rfl⟩
 have X3 := Lib.hid (X2.out.trans hk3)
 have J12 := Lib.hid (JRAt.ext (w := w) (w1 := w1) J10.out X3.out)
 have r0 : u3.cell? ⟨g0, 0, none⟩ = some (.string p) := by rw [J12.out.2.1.cell']; rfl
 have r1 : u3.cell? ⟨g0, 1, none⟩ = some (.slice ha hn hcap) := by rw [J12.out.2.1.cell']; rfl
 have r2 : u3.cell? ⟨g0, 2, none⟩ = some (.slice ba n bcap) := by rw [J12.out.2.1.cell']; rfl
 have s0 : u3.cell? ⟨g5, 0, none⟩ = some (.string p) := by rw [J12.out.2.2.1.cell']; rfl
 have s1 : u3.cell? ⟨g5, 1, none⟩ = some (.slice hb hn hbc) := by rw [J12.out.2.2.1.cell']; rfl
 have s2 : u3.cell? ⟨g5, 2, none⟩ = some (.slice bb n bbc) := by rw [J12.out.2.2.1.cell']; rfl
 clear hk3 X2
 go_wp2_with fail
 refine (HKe.out u3 J12.out.1 w1 hb hbc bb bbc J12.out.2.2.2).mono ?_
 rintro e u4 ⟨v, rfl, hk4, rfl⟩
 have X4 := Lib.hid (X3.out.trans hk4)
 have J13 := Lib.hid (JRAt.ext (w := w) (w1 := w1) J12.out hk4)
 clear hk4 r0 r1 r2 s0 s1 s2 X3 J12
 go_wp2_with fail
 refine (same_known V (some ⟨gG, 0, none⟩) va nb c8 vc u4 HV.out.1.symm (CellsAt.pre (HG10.out.ext X4.out)) (HV.out.2.1.ext J13.out.1) hvb).mono ?_
 rintro e u5 ⟨v, rfl, hk5, rfl⟩
 have X5 := Lib.hid (X4.out.trans hk5)
 have J14 := Lib.hid (JRAt.ext (w := w) (w1 := w1) J13.out hk5)
 have HG14 := Lib.hid (HG10.out.ext X5.out)
 have m0 : u5.cell? ⟨gG, nb, none⟩ = some (.string ⟨#[109, 97, 114, 107]⟩) := by
  rw [HG14.out.cell', List.getElem?_append_right (by rw [strs_len]; exact Nat.le_of_eq HV.out.1.symm), strs_len, <- HV.out.1, Nat.sub_self]; rfl
 have HRw := Lib.hid (And.intro (HRow.out.1.ext X5.out) HRow.out.2)
 have HWw := Lib.hid (And.intro (HWnt.out.1.ext X5.out) HWnt.out.2)
 clear hk5 X4 J13 J10 HG10 HRow HWnt X5
 go_wp2
 clear m0 qz1 i2
 go_loopw [12] (fun iv wr => GivenTo u5 gG V (.string ⟨#[109, 97, 114, 107]⟩ :: rest) nb iv wr) (fun iv _ => nb - (intOf iv).toNat)
 case atStart => exact ⟨0, Nat.zero_le _, rfl, Lib.hid (Kp.refl _), Lib.hid HG14.out⟩
 case round =>
  obtain ⟨i, hi, rfl, hex, hgv⟩ := hrel
  by_cases hlt : i < nb
  ·obtain ⟨s, hs⟩ : ∃ s, V[i]? = some s := ⟨_, List.getElem?_eq_getElem (by rw [<- HV.out.1]; exact hlt)⟩
   have y0 : wr.cell? ⟨gG, i, none⟩ = some (.string s) := by
    rw [hgv.out.cell', List.getElem?_append_left (by rw [strs_len, turnedX_len, <- HV.out.1]; exact hlt)]
    show (List.map Value.string (turnedX V i))[i]? = _
    rw [List.getElem?_map, turnedX_at hs]; rfl
   have yf := hgv.out.free i
   have hsz := HV.out.2.2.1 s (List.mem_of_getElem? hs)
   have hadd : (Op.stringOp .add s ⟨#[120]⟩).run Tryz.prog wr = .ok (.string (s ++ ⟨#[120]⟩)) wr := run_string_add_sum _ _ _ (by have h3 : (⟨#[120]⟩ : ByteArray).size = 1 := rfl; omega)
   have j1 : (i : Int) < (nb : Int) := by omega
   have j2 : (i : Int) < (nb : Int) + 1 := by omega
   have j3 : i < nb + 1 := by omega
   have HNX := Lib.hid (show GivenTo u5 gG V (.string ⟨#[109, 97, 114, 107]⟩ :: rest) nb (.int .i64 ((i : Int) + 1)) (wr.setCell ⟨gG, i, none⟩ (.string (s ++ ⟨#[120]⟩))) from by
    refine ⟨i + 1, by omega, by first | rfl | (congr 1; done) | (congr 1; omega), Lib.hid (Kp.setCell (F := fun k => k = gG) (p := ⟨gG, i, none⟩) hex.out (fun _ => rfl) _), Lib.hid ?_⟩
    have h5 := hgv.out.set i (.string (s ++ ⟨#[120]⟩))
    rw [List.set_append_left _ _ (by rw [strs_len, turnedX_len, <- HV.out.1]; exact hlt)] at h5
    have e5 : (strs (turnedX V i)).set i (.string (s ++ ⟨#[120]⟩)) = strs (turnedX V (i + 1)) := by rw [<- turnedX_step hs]; unfold strs; rw [List.map_set]
    rw [e5] at h5
    exact h5)
   clear hs hsz hex hgv
   go_wp2
   go_roundw
   case rel => exact HNX.out
   case measure => simp [intOf]; omega
  ·obtain rfl : nb = i := by omega
   have hUl : nb = (turnedX V nb).length := by rw [turnedX_len]; exact HV.out.1
   have hgl : gG < u5.heap.size := HG14.out.lt
   have JL := Lib.hid (JRAt.str (w := w) (w1 := w1) J14.out hex.out fun k hk => by
    have e : k = gG := hk
    subst e
    exact ⟨⟨_, HG14.out⟩, HGv.out.2.1⟩)
   have hoffL : ∀ (a : Option Addr) (Mx : List ByteArray), CellsAt u5 a (strs Mx) /\ (Mx ≠ [] -> ∀ x, a = some x -> gG < x.block) -> CellsAt wr a (strs Mx) := fun a Mx hc => by
    by_cases hne : Mx = []
    ·rw [hne]; exact CellsAt.nil _ _
    ·exact hc.1.kp hex.out fun x ex hf => by have h1 := hc.2 hne x ex; have h2 : x.block = gG := hf; omega
   have HRL := Lib.hid (And.intro (hoffL _ _ HRw.out) (hoffL _ _ HWw.out))
   obtain ⟨U, eU⟩ : ∃ U, turnedX V nb = U := ⟨_, rfl⟩
   rw [eU] at hgv hUl
   have HGL := Lib.hid (And.intro hgv.out hUl)
   have HJL := Lib.hid (show ∀ w', Ext wr w' -> (fun w' : World => w'.cell? ⟨g5, 0, none⟩ = some (.string p) /\ w'.cell? ⟨g5, 1, none⟩ = some (.slice hb hn hbc) /\ w'.cell? ⟨g5, 2, none⟩ = some (.slice bb n bbc)) w' from fun w' hw => by
    have b2 := JL.out.2.2.1.ext hw
    exact ⟨by rw [b2.cell']; rfl, by rw [b2.cell']; rfl, by rw [b2.cell']; rfl⟩)
   obtain ⟨M2, eM2⟩ : ∃ M, (headR R0 U).1 = M := ⟨_, rfl⟩
   obtain ⟨z2, ez2⟩ : ∃ z, (headR R0 U).2 = z := ⟨_, rfl⟩
   have hM2l : M2.length ≤ 1048576 := by rw [<- eM2]; exact HF.out.2 U
   obtain ⟨m2, em2⟩ : ∃ m, M2.length = m := ⟨_, rfl⟩
   rw [em2] at hM2l
   have HM2 := Lib.hid (And.intro eM2 (And.intro ez2 em2))
   clear hex hgv hoffL hUl eU eM2 ez2 em2 hgl hlt hi
   go_wp2
   refine draw_begin (fun w' : World => w'.cell? ⟨g5, 0, none⟩ = some (.string p) /\ w'.cell? ⟨g5, 1, none⟩ = some (.slice hb hn hbc) /\ w'.cell? ⟨g5, 2, none⟩ = some (.slice bb n bbc)) [] (by kernel_rfl) (HJL.out _ (Kp.refl wr).drew) (fun hHeld => ?_)
   (refine draw_in (i := 0) (v := ?_) rfl ?_ ?_; rotate_left; (intro w hSw; (try dsimp only at hSw); go_simp; try with_reducible rfl)); (try simp only [Act.put, List.setIfInBounds_toArray, List.set_cons_zero, List.set_cons_succ])
   (refine draw_free (i := 1) (v := ?_) rfl ?_ ?_; rotate_left; (intro w; go_simp; try with_reducible rfl)); (try simp only [Act.put, List.setIfInBounds_toArray, List.set_cons_zero, List.set_cons_succ])
   (refine draw_free (i := 2) (v := ?_) rfl ?_ ?_; rotate_left; (intro w; go_simp; try with_reducible rfl)); (try simp only [Act.put, List.setIfInBounds_toArray, List.set_cons_zero, List.set_cons_succ])
   (refine draw_in (i := 3) (v := ?_) rfl ?_ ?_; rotate_left; (intro w hSw; (try dsimp only at hSw); go_simp; try with_reducible rfl)); (try simp only [Act.put, List.setIfInBounds_toArray, List.set_cons_zero, List.set_cons_succ])
   (refine draw_in (i := 4) (v := ?_) rfl ?_ ?_; rotate_left; (intro w hSw; (try dsimp only at hSw); go_simp; try with_reducible rfl)); (try simp only [Act.put, List.setIfInBounds_toArray, List.set_cons_zero, List.set_cons_succ])
   refine draw_one (i := 5) ?_
   refine comes_turn (i := 5) rfl (fun K hK => ?_)
   go_simp
   (refine ((HIn.out wr.drew w1 hb hbc bb bbc (JL.out.2.2.2.ext (Kp.refl wr).drew)).2.2 U (some ⟨gG, 0, none⟩) c8 HGL.out.2 (CellsAt.pre (HGL.out.1.ext (Kp.refl wr).drew))).mono ?_; rintro e z1 ⟨v, rfl, hk, oa2, oc2, rfl, hoc, -⟩; rw [HM2.out.1] at hoc ⊢; rw [HM2.out.2.1, HM2.out.2.2]; have Z1 := Lib.hid (And.intro (show Ext wr z1 from ((Kp.refl wr).drew).trans hk) hoc); clear hk hoc)
   go_wp2_with fail
   refine hK.out _ _ ?_ (fun hHeld => ?_)
   ·(try dsimp only); (exact HJL.out _ Z1.out.1)
   clear hK K; (try simp only [Act.put, List.setIfInBounds_toArray, List.set_cons_zero, List.set_cons_succ])
   (refine draw_free (i := 6) (v := ?_) rfl ?_ ?_; rotate_left; (intro w; go_simp; try with_reducible rfl)); (try simp only [Act.put, List.setIfInBounds_toArray, List.set_cons_zero, List.set_cons_succ])
   (refine draw_free (i := 7) (v := ?_) rfl ?_ ?_; rotate_left; (intro w; go_simp; try with_reducible rfl)); (try simp only [Act.put, List.setIfInBounds_toArray, List.set_cons_zero, List.set_cons_succ])
   (refine draw_free (i := 8) (v := ?_) rfl ?_ ?_; rotate_left; (intro w; go_simp; try with_reducible rfl)); (try simp only [Act.put, List.setIfInBounds_toArray, List.set_cons_zero, List.set_cons_succ])
   (refine draw_free (i := 9) (v := ?_) rfl ?_ ?_; rotate_left; (intro w; go_simp; try with_reducible rfl)); (try simp only [Act.put, List.setIfInBounds_toArray, List.set_cons_zero, List.set_cons_succ])
   (refine draw_free (i := 10) (v := ?_) rfl ?_ ?_; rotate_left; (intro w; go_simp; try with_reducible rfl)); (try simp only [Act.put, List.setIfInBounds_toArray, List.set_cons_zero, List.set_cons_succ])
   refine wpAnyD_done (by kernel_rfl) ?_ _
   clear hHeld
   have JM := Lib.hid (JRAt.ext (w := w) (w1 := w1) JL.out Z1.out.1)
   have HJM := Lib.hid (show ∀ w', Ext z1 w' -> (fun w' : World => w'.cell? ⟨g0, 0, none⟩ = some (.string p) /\ w'.cell? ⟨g0, 1, none⟩ = some (.slice ha hn hcap) /\ w'.cell? ⟨g0, 2, none⟩ = some (.slice ba n bcap)) w' from fun w' hw => by
    have b2 := JM.out.2.1.ext hw
    exact ⟨by rw [b2.cell']; rfl, by rw [b2.cell']; rfl, by rw [b2.cell']; rfl⟩)
   go_wp2
   refine draw_begin (fun w' : World => w'.cell? ⟨g0, 0, none⟩ = some (.string p) /\ w'.cell? ⟨g0, 1, none⟩ = some (.slice ha hn hcap) /\ w'.cell? ⟨g0, 2, none⟩ = some (.slice ba n bcap)) [] (by kernel_rfl) (HJM.out _ (Kp.refl z1).drew) (fun hHeld => ?_)
   (refine draw_in (i := 0) (v := ?_) rfl ?_ ?_; rotate_left; (intro w hSw; (try dsimp only at hSw); go_simp; try with_reducible rfl)); (try simp only [Act.put, List.setIfInBounds_toArray, List.set_cons_zero, List.set_cons_succ])
   (refine draw_free (i := 1) (v := ?_) rfl ?_ ?_; rotate_left; (intro w; go_simp; try with_reducible rfl)); (try simp only [Act.put, List.setIfInBounds_toArray, List.set_cons_zero, List.set_cons_succ])
   (refine draw_free (i := 2) (v := ?_) rfl ?_ ?_; rotate_left; (intro w; go_simp; try with_reducible rfl)); (try simp only [Act.put, List.setIfInBounds_toArray, List.set_cons_zero, List.set_cons_succ])
   (refine draw_in (i := 3) (v := ?_) rfl ?_ ?_; rotate_left; (intro w hSw; (try dsimp only at hSw); go_simp; try with_reducible rfl)); (try simp only [Act.put, List.setIfInBounds_toArray, List.set_cons_zero, List.set_cons_succ])
   (refine draw_in (i := 4) (v := ?_) rfl ?_ ?_; rotate_left; (intro w hSw; (try dsimp only at hSw); go_simp; try with_reducible rfl)); (try simp only [Act.put, List.setIfInBounds_toArray, List.set_cons_zero, List.set_cons_succ])
   refine draw_one (i := 5) ?_
   refine comes_turn (i := 5) rfl (fun K hK => ?_)
   go_simp
   (refine (HRH.out z1.drew ((Ext.kp JM.out.1).drew) U (some ⟨gG, 0, none⟩) c8 HGL.out.2 (CellsAt.pre ((HGL.out.1.ext Z1.out.1).ext (Kp.refl z1).drew))).mono ?_; rintro e z2w ⟨v, rfl, hk, wa2, wc2, rfl, hoc, -⟩; rw [HM2.out.1] at hoc ⊢; rw [HM2.out.2.1, HM2.out.2.2]; have Z2 := Lib.hid (And.intro (show Ext z1 z2w from ((Kp.refl z1).drew).trans hk) hoc); clear hk hoc)
   go_wp2_with fail
   refine hK.out _ _ ?_ (fun hHeld => ?_)
   ·(try dsimp only); (exact HJM.out _ Z2.out.1)
   clear hK K; (try simp only [Act.put, List.setIfInBounds_toArray, List.set_cons_zero, List.set_cons_succ])
   (refine draw_free (i := 6) (v := ?_) rfl ?_ ?_; rotate_left; (intro w; go_simp; try with_reducible rfl)); (try simp only [Act.put, List.setIfInBounds_toArray, List.set_cons_zero, List.set_cons_succ])
   (refine draw_free (i := 7) (v := ?_) rfl ?_ ?_; rotate_left; (intro w; go_simp; try with_reducible rfl)); (try simp only [Act.put, List.setIfInBounds_toArray, List.set_cons_zero, List.set_cons_succ])
   (refine draw_free (i := 8) (v := ?_) rfl ?_ ?_; rotate_left; (intro w; go_simp; try with_reducible rfl)); (try simp only [Act.put, List.setIfInBounds_toArray, List.set_cons_zero, List.set_cons_succ])
   (refine draw_free (i := 9) (v := ?_) rfl ?_ ?_; rotate_left; (intro w; go_simp; try with_reducible rfl)); (try simp only [Act.put, List.setIfInBounds_toArray, List.set_cons_zero, List.set_cons_succ])
   (refine draw_free (i := 10) (v := ?_) rfl ?_ ?_; rotate_left; (intro w; go_simp; try with_reducible rfl)); (try simp only [Act.put, List.setIfInBounds_toArray, List.set_cons_zero, List.set_cons_succ])
   refine wpAnyD_done (by kernel_rfl) ?_ _
   clear hHeld
   have qz : ((z2 : Int) == (z2 : Int)) = true := by simp
   have JN := Lib.hid (show Ext w z2w from JM.out.1.trans Z2.out.1)
   have HS1 := Lib.hid (And.intro (Z1.out.2.ext Z2.out.1) Z2.out.2)
   have HS2 := Lib.hid (And.intro ((HRL.out.1.ext Z1.out.1).ext Z2.out.1) ((HRL.out.2.ext Z1.out.1).ext Z2.out.1))
   clear Z1 Z2 JM JL HJM HJL HGL HRL
   go_wp2_with fail
   refine (num14_any z2 z2w).mono ?_
   rintro e y1 ⟨v, rfl, hk1, rfl⟩
   have Y1 := Lib.hid hk1
   clear hk1
   go_wp2_with fail
   refine (same_known M2 oa2 wa2 m2 oc2 wc2 y1 HM2.out.2.2 (HS1.out.1.ext Y1.out) (HS1.out.2.ext Y1.out) hM2l).mono ?_
   rintro e y2 ⟨v, rfl, hk2, rfl⟩
   have Y2 := Lib.hid (Y1.out.trans hk2)
   clear hk2 Y1
   go_wp2_with fail
   refine (same_known M oa wa mM oc wc y2 HMe.out.2.2 (HS2.out.1.ext Y2.out) (HS2.out.2.ext Y2.out) hMl).mono ?_
   rintro e y3 ⟨v, rfl, hk3, rfl⟩
   have Y3 := Lib.hid (Y2.out.trans hk3)
   clear hk3 Y2
   go_wp2_with fail
   refine (awake14_any y3).mono ?_
   rintro e y4 ⟨v, rfl, hk4, rfl⟩
   have Y4 := Lib.hid (JN.out.trans (Y3.out.trans hk4))
   clear hk4
   go_wp2
   go_ret
   exact RetN.mk Y4.out rfl
end Go.Proofs.YtinnmeiphbdogaaGreat

/- Proved here: the statement JoinRulesUptoSaid: the law returns true for every input of the bound that the row names and leaves its arguments as they were. No condition of its own. -/
namespace Go.Proofs.YtinnmeiphbdogaaGreat.lawJoinRules
open Go.ChangeShapes Go.WideShapes Go.ChangeAt Go.RowKit
open Go.ChangeMaps (open_string shut_string)
set_option linter.unusedVariables false
theorem own : ownKnob Tryz.prog.godebug = none := by kernel_rfl
theorem laidOut : laidOutB Tryz.prog = true := by kernel_rfl
theorem rules_walk {v u : Value} {W : World} (hv : ∃ cs x, v = .agg cs /\ shRule.At W (fun k => k < W.heap.size) cs.toList x /\ shRule.bulk x ≤ 1048576)
 (hu : ∃ ao cap xs, u = .slice ao xs.length cap /\ xs.length ≤ cap /\ ElemsAt shB W (fun k => k < W.heap.size) ao xs /\ bulkL shB.bulk xs + 1 ≤ 1048576) :
 Calls Tryz.prog 4 #[v, u] W (fun e w' => e = .returned (.bool true) /\ Below W.heap.size W w') := by
 obtain ⟨cs, x, rfl, h1, hb⟩ := hv
 obtain ⟨ka, kc, ks, rfl, k2, k3, kb⟩ := hu
 obtain ⟨ha, hcap, ba, bcap, hR, ec⟩ := rule_cells h1
 have ecs : cs = #[.string x.1.1, .slice ha x.1.2.1.length hcap, .slice ba x.2.1.length bcap] := by
  rw [<- Array.toList_inj, ec]
 obtain ⟨f1, f2⟩ := rule_fit (r := x) hb
 obtain ⟨g1, g2⟩ := texts_small kb
 have hc := texts_in k3
 rw [ecs]
 refine (rules14_any (p := x.1.1) (hcap := hcap) (bcap := bcap) (vc := kc) rfl hR.head f1 rfl hR.body f2 (names_fit hb) rfl hc g1 g2 (fun k hk => hk) (fun a e hne => by
  obtain ⟨b, off, e2, hl⟩ := hc.off (by unfold strs; simpa using hne)
  rw [e] at e2; cases e2; exact hl)).mono ?_
 rintro e w' ⟨v, rfl, hk, rfl⟩
 exact ⟨rfl, hk.below⟩
set_option maxRecDepth 100000 in
theorem lifted (os : Os) (started : os.Started) (H : Type) (enc : TypeId × Value -> H) (F : Stop.Interp) :
 ReturnsInHanded {} Tryz.checked os 4 .any ((Rows.OpenSpec.upto Rows.joinRulesSpec).pre6 enc Tryz.prog Tryz.f4 Rows.joinRulesUptoRow.domain false) (((Rows.OpenSpec.upto Rows.joinRulesSpec).at F).post enc Tryz.prog Tryz.f4 false true false false) := by
 refine returnsInHanded_of_cond (C := Tryz.checked) (s := Rows.OpenSpec.upto Rows.joinRulesSpec) (k := Rows.uptoSmall) rfl own started (by kernel_rfl) Tryz.func4
  (OpenSpec.witness (enc := enc) (C := Tryz.checked) (s := Rows.OpenSpec.upto Rows.joinRulesSpec) (k := Rows.uptoSmall) rfl false ⟨#[], #[.agg #[.string ⟨#[]⟩,  .slice none 0 0,  .slice none 0 0], .slice none 0 0], []⟩ 8 (by kernel_rfl) (by kernel_rfl) (by kernel_rfl)
   (x := ([.agg [.agg [.lit (.string []), .nil], .nil], .nil], [], [])) (by kernel_rfl) rfl (by kernel_rfl)) ?_
 intro W base args ds gs before hval0 hW hcnd hk0 _
 have hk : Rows.uptoSmall H (ds ++ gs) = true := hk0
 clear hk0
 have hval : ∀ (j : Nat) t v, Tryz.f4.params[j]? = some t -> args[j]? = some v -> Value.okWide Tryz.prog W .any base t v := hval0
 have hW' := hW
 obtain ⟨p, q, hA0, hV, rfl, hfz, hnd⟩ := hW
 have hA : DataW.TrodAll enc Tryz.prog W 0 (fun _ => true) true Tryz.f4.params.toList args.toList ds p := hA0
 rw [Tryz.params4] at hA hval
 obtain ⟨v0, vs0, d0, ds0, p0, q0, hargs, rfl, rfl, h0, r0⟩ := trodAll_cons hA
 obtain ⟨v1, vs1, d1, ds1, p1, q1, rfl, rfl, rfl, h1, r1⟩ := trodAll_cons r0
 obtain ⟨rfl, rfl, rfl⟩ := trodAll_nil r1
 obtain rfl : args = #[v0, v1] := by cases args; simp_all
 obtain ⟨rfl, rfl⟩ := trodVars_none hV
 have lt0 : ∀ x ∈ p0, x.block < W.heap.size := by obtain ⟨m, hm⟩ := h0; exact DataW.trod_lt m _ _ _ hm
 have lt1 : ∀ x ∈ p1, x.block < W.heap.size := by obtain ⟨m, hm⟩ := h1; exact DataW.trod_lt m _ _ _ hm
 clear hA0 hval0
 simp only [List.append_nil] at hk
 have hk1 : Rows.uptoBulkAll [d0, d1] ≤ 1048576 := of_decide_eq_true hk
 clear hk
 have x0 : ∃ cs x, v0 = .agg cs /\ shRule.At W (fun k => k < W.heap.size) cs.toList x /\ shRule.bulk x ≤ 1048576 := by
  obtain ⟨cs, rfl, hcs⟩ := okWide_struct Tryz.underlying27 (hval 0 27 v0 rfl rfl)
  obtain ⟨x, hx, hb⟩ := shRule.arg h0 (bulk_in hk1 (by simp))
  exact ⟨cs, x, rfl, hx, hb⟩
 have x1 := arg_slice (s := shB) Tryz.underlying34 (by kernel_rfl) (by decide) (hval 1 34 v1 rfl rfl) h1 (N := 1048576) (bulk_in hk1 (by simp))
 refine (rules_walk x0 x1).mono fun e W' ⟨he, bel⟩ => ?_
 subst he
 exact ⟨_, rfl, _, _, _, [], _, [], hW', trodAll_mk1 (shut_bool Tryz.underlying4 _), (trodAll_cons_mk (Below.trod laidOut (by kernel_rfl) (of_decide_eq_true (by kernel_rfl)) h0 bel lt0) (trodAll_cons_mk (Below.trod laidOut (by kernel_rfl) (of_decide_eq_true (by kernel_rfl)) h1 bel lt1) trodAll_mk0)), rfl, bel.frame _, fun h => by cases h⟩
theorem over : Rows.joinRulesUptoRow.holds Tryz.pinned (Rows.OpenSpec.upto Rows.joinRulesSpec) :=
 OpenClaim.holds_of_cond 4 Tryz.f4 rfl rfl rfl rfl rfl rfl rfl ⟨rfl, rfl, rfl, rfl, rfl⟩ rfl rfl rfl rfl rfl (by kernel_rfl) Tryz.func4 (by kernel_rfl)
  (of_decide_eq_true (by kernel_rfl)) (by unfold Func.isWrapper; first | (rw [if_pos (by decide +kernel)]; kernel_rfl) | (rw [if_neg (by decide +kernel)]; exact ⟨rfl, rfl⟩))
  (fun os started H enc _ F => lifted os started H enc F)
theorem proved : Rows.JoinRulesUptoSaid := over
#print axioms proved
end Go.Proofs.YtinnmeiphbdogaaGreat.lawJoinRules
