/- Proved here: the statement JoinKnownSaid: the law returns true for every input and leaves its arguments as they were. No condition of its own. -/
import Derived.Test.YtinnmeiphbdogaaGreatKn9
/- The law of joins: awake: the chapter's bindings. -/
namespace Go.Proofs.YtinnmeiphbdogaaGreat
open Go.RowKit Go.Shelf
set_option linter.unusedVariables false
attribute [local go_sem] Oper.semAt_some
theorem base_there (bb : Nat) (w : World) : (binOp .neq 29 (.pointer (some ⟨bb, 0, none⟩)) (.pointer none)).run Tryz.prog w = .ok (.bool true) w := by kernel_rfl
set_option maxRecDepth 100000 in
set_option maxHeartbeats 4000000 in
theorem awake14_any (w : World) : Calls Tryz.prog 12 #[] w (RetN w fun w' v => v = .bool true) := by
 go_enter Tryz.func12, Tryz.ntmps12
 go_wp2_with fail
 refine (given_any w).mono ?_
 rintro e w1 ⟨vw1, rfl, hkw1, bb, E, SS, rfl, hBv, hCv⟩
 have Xw1 := Lib.hid (show Ext w w1 from hkw1)
 clear hkw1
 have HBv := Lib.hid (And.intro hBv hCv)
 clear hBv hCv
 have hnb := base_there bb w1
 go_wp2_with fail
 refine (path_any (ls := []) (ma := none) (mn := 0) (mc := 0) (w := w1) rfl (lits_nil w1 none) (by decide)).mono ?_
 rintro e w2 ⟨vw2, rfl, hkw2, ha1, hc1, ba1, bc1, hv1, hT1, hL1⟩
 have Xw2 := Lib.hid (show Ext w1 w2 from hkw2)
 clear hkw2
 have hv12 : vw2 = ruleV ⟨#[116]⟩ ha1 2 hc1 ba1 2 bc1 := hv1
 subst hv12
 have T1 := Lib.hid hT1
 have L1 := Lib.hid hL1
 clear hT1 hL1 hv1
 go_wp2_with fail
 refine (each_known (p := ⟨#[116]⟩) (hs := pathHs) (ls := (pathLs ++ [])) (ha := ha1) (ba := ba1) (hn := 2) (hcap := hc1) (n := 2) (bcap := bc1) rfl (T1.out.ext (Kp.refl w2)) (by decide) rfl (L1.out.ext (Kp.refl w2)) (fit_of (by kernel_rfl)) (few_of (by kernel_rfl)) (by decide) (HBv.out.1.ext Xw2.out) HBv.out.2 [(⟨#[97, 59, 98, 59, 98, 59]⟩ : ByteArray), (⟨#[97, 59, 98, 59, 99, 59]⟩ : ByteArray), (⟨#[98, 59, 98, 59, 98, 59]⟩ : ByteArray), (⟨#[98, 59, 98, 59, 99, 59]⟩ : ByteArray), (⟨#[98, 59, 99, 59, 97, 59]⟩ : ByteArray), (⟨#[99, 59, 97, 59, 98, 59]⟩ : ByteArray)] 6 (by kernel_rfl) rfl (by decide)).mono ?_
 rintro e w3 ⟨vw3, rfl, hkw3, ea2, ec2, rfl, hE2⟩
 have Xw3 := Lib.hid (show Ext w2 w3 from hkw3)
 clear hkw3
 have E2 := Lib.hid hE2
 clear hE2
 obtain ⟨w4, ew4⟩ : ∃ x, w3.alloc (.cells #[.string ⟨#[97, 59, 98, 59, 98, 59]⟩, .string ⟨#[97, 59, 98, 59, 99, 59]⟩, .string ⟨#[98, 59, 98, 59, 98, 59]⟩, .string ⟨#[98, 59, 98, 59, 99, 59]⟩, .string ⟨#[98, 59, 99, 59, 97, 59]⟩, .string ⟨#[99, 59, 97, 59, 98, 59]⟩] 9) = x := ⟨_, rfl⟩
 have Xw4 := Lib.hid (show Ext w3 w4 from by rw [<- ew4]; exact (Kp.refl w3).alloc _)
 have Sw4 := Lib.hid (show CellsAt w4 (some ⟨w3.heap.size, 0, none⟩) (strs [(⟨#[97, 59, 98, 59, 98, 59]⟩ : ByteArray), (⟨#[97, 59, 98, 59, 99, 59]⟩ : ByteArray), (⟨#[98, 59, 98, 59, 98, 59]⟩ : ByteArray), (⟨#[98, 59, 98, 59, 99, 59]⟩ : ByteArray), (⟨#[98, 59, 99, 59, 97, 59]⟩ : ByteArray), (⟨#[99, 59, 97, 59, 98, 59]⟩ : ByteArray)]) from by rw [<- ew4]; exact CellsAt.new w3 (strs [(⟨#[97, 59, 98, 59, 98, 59]⟩ : ByteArray), (⟨#[97, 59, 98, 59, 99, 59]⟩ : ByteArray), (⟨#[98, 59, 98, 59, 98, 59]⟩ : ByteArray), (⟨#[98, 59, 98, 59, 99, 59]⟩ : ByteArray), (⟨#[98, 59, 99, 59, 97, 59]⟩ : ByteArray), (⟨#[99, 59, 97, 59, 98, 59]⟩ : ByteArray)]) _)
 go_wp2_with fail
 clear ew4
 refine (same_known [(⟨#[97, 59, 98, 59, 98, 59]⟩ : ByteArray), (⟨#[97, 59, 98, 59, 99, 59]⟩ : ByteArray), (⟨#[98, 59, 98, 59, 98, 59]⟩ : ByteArray), (⟨#[98, 59, 98, 59, 99, 59]⟩ : ByteArray), (⟨#[98, 59, 99, 59, 97, 59]⟩ : ByteArray), (⟨#[99, 59, 97, 59, 98, 59]⟩ : ByteArray)] (ea2) (some ⟨w3.heap.size, 0, none⟩) 6 ec2 6 w4 rfl (E2.out.ext Xw4.out) (Sw4.out.ext (Kp.refl w4)) (by decide)).mono ?_
 rintro e w5 ⟨vw5, rfl, hkw5, rfl⟩
 have Xw5 := Lib.hid (show Ext w4 w5 from hkw5)
 clear hkw5
 clear hnb
 go_wp2_with fail
 refine (v14_any ⟨#[88]⟩ w5).mono ?_
 rintro e w6 ⟨vw6, rfl, hkw6, rfl⟩
 have Xw6 := Lib.hid (show Ext w5 w6 from hkw6)
 clear hkw6
 obtain ⟨w7, ew7⟩ : ∃ x, w6.alloc (.cells #[.int .i64 1, .string ⟨#[88]⟩] 38) = x := ⟨_, rfl⟩
 have Xw7 := Lib.hid (show Ext w6 w7 from by rw [<- ew7]; exact (Kp.refl w6).alloc _)
 have T3 := Lib.hid (show TermsAt w7 TT (some ⟨w6.heap.size, 0, none⟩) [((1 : Int), (⟨#[88]⟩ : ByteArray), ())] from by rw [<- ew7]; exact terms_new w6 [((1 : Int), (⟨#[88]⟩ : ByteArray), ())] (by kernel_rfl))
 go_wp2_with fail
 clear ew7
 refine (neg14_any ⟨#[110]⟩ (some ⟨w6.heap.size, 0, none⟩) 1 1 w7).mono ?_
 rintro e w8 ⟨vw8, rfl, hkw8, rfl⟩
 have Xw8 := Lib.hid (show Ext w7 w8 from hkw8)
 clear hkw8
 obtain ⟨w9, ew9⟩ : ∃ x, w8.alloc (.cells #[.int .i64 2, .string ⟨#[110]⟩, .slice (some ⟨w6.heap.size, 0, none⟩) 1 1, .int .i64 0, .int .i64 0, .string ⟨#[]⟩, .int .i64 0, .string ⟨#[]⟩] 40) = x := ⟨_, rfl⟩
 have Xw9 := Lib.hid (show Ext w8 w9 from by rw [<- ew9]; exact (Kp.refl w8).alloc _)
 have L4 := Lib.hid (show LitsAt w9 TT (some ⟨w8.heap.size, 0, none⟩) [(((2) : Int), ((⟨#[110]⟩ : ByteArray), [((1 : Int), (⟨#[88]⟩ : ByteArray), ())], ()), (0 : Int), ((0 : Int), (⟨#[]⟩ : ByteArray), ()), ((0 : Int), (⟨#[]⟩ : ByteArray), ()), ())] from by
  rw [<- ew9]
  refine lits_new w8 [(((2) : Int), ((⟨#[110]⟩ : ByteArray), [((1 : Int), (⟨#[88]⟩ : ByteArray), ())], ()), (0 : Int), ((0 : Int), (⟨#[]⟩ : ByteArray), ()), ((0 : Int), (⟨#[]⟩ : ByteArray), ()), ())] [(some ⟨w6.heap.size, 0, none⟩, 1)] rfl (by kernel_rfl) fun x hx => ?_
  simp only [List.zip_cons_cons, List.zip_nil_right, List.mem_cons, List.not_mem_nil, or_false] at hx
  rcases hx with rfl
  ·exact ⟨(T3.out.ext Xw8.out), Nat.le_refl _, (by decide : 1 ≤ maxLen)⟩)
 go_wp2_with fail
 clear ew9
 refine (path_any (ls := [(((2) : Int), ((⟨#[110]⟩ : ByteArray), [((1 : Int), (⟨#[88]⟩ : ByteArray), ())], ()), (0 : Int), ((0 : Int), (⟨#[]⟩ : ByteArray), ()), ((0 : Int), (⟨#[]⟩ : ByteArray), ()), ())]) (ma := some ⟨w8.heap.size, 0, none⟩) (mn := 1) (mc := 1) (w := w9) rfl (L4.out.ext (Kp.refl w9)) (by decide)).mono ?_
 rintro e w10 ⟨vw10, rfl, hkw10, ha5, hc5, ba5, bc5, hv5, hT5, hL5⟩
 have Xw10 := Lib.hid (show Ext w9 w10 from hkw10)
 clear hkw10
 have hv52 : vw10 = ruleV ⟨#[116]⟩ ha5 2 hc5 ba5 3 bc5 := hv5
 subst hv52
 have T5 := Lib.hid hT5
 have L5 := Lib.hid hL5
 clear hT5 hL5 hv5
 go_wp2_with fail
 refine (each_known (p := ⟨#[116]⟩) (hs := pathHs) (ls := (pathLs ++ [(((2) : Int), ((⟨#[110]⟩ : ByteArray), [((1 : Int), (⟨#[88]⟩ : ByteArray), ())], ()), (0 : Int), ((0 : Int), (⟨#[]⟩ : ByteArray), ()), ((0 : Int), (⟨#[]⟩ : ByteArray), ()), ())])) (ha := ha5) (ba := ba5) (hn := 2) (hcap := hc5) (n := 3) (bcap := bc5) rfl (T5.out.ext (Kp.refl w10)) (by decide) rfl (L5.out.ext (Kp.refl w10)) (fit_of (by kernel_rfl)) (few_of (by kernel_rfl)) (by decide) (HBv.out.1.ext (Xw2.out.trans (Xw3.out.trans (Xw4.out.trans (Xw5.out.trans (Xw6.out.trans (Xw7.out.trans (Xw8.out.trans (Xw9.out.trans Xw10.out))))))))) HBv.out.2 [(⟨#[97, 59, 98, 59, 99, 59]⟩ : ByteArray), (⟨#[98, 59, 98, 59, 99, 59]⟩ : ByteArray), (⟨#[98, 59, 99, 59, 97, 59]⟩ : ByteArray)] 3 (by kernel_rfl) rfl (by decide)).mono ?_
 rintro e w11 ⟨vw11, rfl, hkw11, ea6, ec6, rfl, hE6⟩
 have Xw11 := Lib.hid (show Ext w10 w11 from hkw11)
 clear hkw11
 have E6 := Lib.hid hE6
 clear hE6
 obtain ⟨w12, ew12⟩ : ∃ x, w11.alloc (.cells #[.string ⟨#[97, 59, 98, 59, 99, 59]⟩, .string ⟨#[98, 59, 98, 59, 99, 59]⟩, .string ⟨#[98, 59, 99, 59, 97, 59]⟩] 9) = x := ⟨_, rfl⟩
 have Xw12 := Lib.hid (show Ext w11 w12 from by rw [<- ew12]; exact (Kp.refl w11).alloc _)
 have Sw12 := Lib.hid (show CellsAt w12 (some ⟨w11.heap.size, 0, none⟩) (strs [(⟨#[97, 59, 98, 59, 99, 59]⟩ : ByteArray), (⟨#[98, 59, 98, 59, 99, 59]⟩ : ByteArray), (⟨#[98, 59, 99, 59, 97, 59]⟩ : ByteArray)]) from by rw [<- ew12]; exact CellsAt.new w11 (strs [(⟨#[97, 59, 98, 59, 99, 59]⟩ : ByteArray), (⟨#[98, 59, 98, 59, 99, 59]⟩ : ByteArray), (⟨#[98, 59, 99, 59, 97, 59]⟩ : ByteArray)]) _)
 go_wp2_with fail
 clear ew12
 refine (same_known [(⟨#[97, 59, 98, 59, 99, 59]⟩ : ByteArray), (⟨#[98, 59, 98, 59, 99, 59]⟩ : ByteArray), (⟨#[98, 59, 99, 59, 97, 59]⟩ : ByteArray)] (ea6) (some ⟨w11.heap.size, 0, none⟩) 3 ec6 3 w12 rfl (E6.out.ext Xw12.out) (Sw12.out.ext (Kp.refl w12)) (by decide)).mono ?_
 rintro e w13 ⟨vw13, rfl, hkw13, rfl⟩
 have Xw13 := Lib.hid (show Ext w12 w13 from hkw13)
 clear hkw13
 go_wp2
 go_ret
 exact RetN.mk (Xw1.out.trans (Xw2.out.trans (Xw3.out.trans (Xw4.out.trans (Xw5.out.trans (Xw6.out.trans (Xw7.out.trans (Xw8.out.trans (Xw9.out.trans (Xw10.out.trans (Xw11.out.trans (Xw12.out.trans Xw13.out)))))))))))) rfl
end Go.Proofs.YtinnmeiphbdogaaGreat

/- The law of joins: alike: the same rows, one by one. -/
namespace Go.Proofs.YtinnmeiphbdogaaGreat
open Go.RowKit Go.Shelf
set_option linter.unusedVariables false
attribute [local go_sem] Oper.semAt_some
def AlikeTo14 (w0 : World) (A B : Rows2) (n : Nat) (iv : Value) (w : World) : Prop := ∃ i : Nat, i ≤ n /\ iv = .int .i64 i /\ Hid (Ext w0 w) /\ Hid (A.take i = B.take i)
set_option maxRecDepth 100000 in
set_option maxHeartbeats 4000000 in
theorem alike14_any {S S' : Nat -> Prop} {A B : Rows2} {ao bo : Option Addr} {n m acap bcap : Nat} {w : World} (hn : n = A.length) (hm : m = B.length) (ha : RowsIn S w ao A) (hb : RowsIn S' w bo B) (hl : n ≤ 4611686018427387904) :
 Calls Tryz.prog 40 #[.slice ao n acap, .slice bo m bcap] w (RetN w fun w' v => v = .bool (decide (A = B))) := by
 have HN := Lib.hid (And.intro hn hm); have HA := Lib.hid ha; have HB := Lib.hid hb
 clear hn hm ha hb
 by_cases hnm : n = m
 ·subst hnm
  have q1 : ((n : Int) != (n : Int)) = false := by simp
  go_enter Tryz.func40, Tryz.ntmps40
  go_wp2
  go_loopw [5] (fun iv wr => AlikeTo14 w A B n iv wr) (fun iv _ => n - (intOf iv).toNat)
  case atStart => exact ⟨0, Nat.zero_le _, rfl, Lib.hid (Kp.refl w), Lib.hid rfl⟩
  case round =>
   obtain ⟨i, hi, rfl, hex, heq⟩ := hrel
   by_cases hlt : i < n
   ·obtain ⟨s, hs⟩ : ∃ s, A[i]? = some s := ⟨_, List.getElem?_eq_getElem (by rw [<- HN.out.1]; exact hlt)⟩
    obtain ⟨t, ht⟩ : ∃ t, B[i]? = some t := ⟨_, List.getElem?_eq_getElem (by rw [<- HN.out.2]; exact hlt)⟩
    obtain ⟨g1, o1, x1, c1, e1, d1, hc1, hl1, -⟩ := (HA.out.ext hex.out).get hs
    obtain ⟨g2, o2, x2, c2, e2, d2, hc2, hl2, -⟩ := (HB.out.ext hex.out).get ht
    subst e1 e2
    have HST := Lib.hid (And.intro hs ht)
    have HSm := Lib.hid (fun W (hW : Ext wr W) => same14_any s t x1 x2 s.length t.length c1 c2 W rfl rfl (hc1.ext hW) (hc2.ext hW) (by omega))
    obtain ⟨ns, ens⟩ : ∃ k, s.length = k := ⟨_, rfl⟩
    obtain ⟨nt, ent⟩ : ∃ k, t.length = k := ⟨_, rfl⟩
    rw [ens] at d1 HSm
    rw [ent] at d2 HSm
    have i1 : (i : Int) < (n : Int) := by omega
    have HJ := Lib.hid (show ∀ w', Ext wr w' -> (fun w' : World => w'.cell? ⟨g1, o1 + i, none⟩ = some (.slice x1 ns c1) /\ w'.cell? ⟨g2, o2 + i, none⟩ = some (.slice x2 nt c2)) w' from fun w' hw => ⟨hw.cell d1 id, hw.cell d2 id⟩)
    clear hs ht hc1 hc2 hl1 hl2 ens ent d1 d2
    go_wp2
    refine draw_begin (fun w' : World => w'.cell? ⟨g1, o1 + i, none⟩ = some (.slice x1 ns c1) /\ w'.cell? ⟨g2, o2 + i, none⟩ = some (.slice x2 nt c2)) [] (by kernel_rfl) (HJ.out _ (Kp.refl wr).drew) (fun hHeld => ?_)
    (refine draw_free (i := 0) (v := ?_) rfl ?_ ?_; rotate_left; (intro w; go_simp; try with_reducible rfl)); (try simp only [Act.put, List.setIfInBounds_toArray, List.set_cons_zero, List.set_cons_succ])
    (refine draw_free (i := 1) (v := ?_) rfl ?_ ?_; rotate_left; (intro w; go_simp; try with_reducible rfl)); (try simp only [Act.put, List.setIfInBounds_toArray, List.set_cons_zero, List.set_cons_succ])
    (refine draw_in (i := 2) (v := ?_) rfl ?_ ?_; rotate_left; (intro w hSw; (try dsimp only at hSw); go_simp; try with_reducible rfl)); (try simp only [Act.put, List.setIfInBounds_toArray, List.set_cons_zero, List.set_cons_succ])
    (refine draw_in (i := 3) (v := ?_) rfl ?_ ?_; rotate_left; (intro w hSw; (try dsimp only at hSw); go_simp; try with_reducible rfl)); (try simp only [Act.put, List.setIfInBounds_toArray, List.set_cons_zero, List.set_cons_succ])
    (refine draw_free (i := 4) (v := ?_) rfl ?_ ?_; rotate_left; (intro w; go_simp; try with_reducible rfl)); (try simp only [Act.put, List.setIfInBounds_toArray, List.set_cons_zero, List.set_cons_succ])
    (refine draw_free (i := 5) (v := ?_) rfl ?_ ?_; rotate_left; (intro w; go_simp; try with_reducible rfl)); (try simp only [Act.put, List.setIfInBounds_toArray, List.set_cons_zero, List.set_cons_succ])
    (refine draw_in (i := 6) (v := ?_) rfl ?_ ?_; rotate_left; (intro w hSw; (try dsimp only at hSw); go_simp; try with_reducible rfl)); (try simp only [Act.put, List.setIfInBounds_toArray, List.set_cons_zero, List.set_cons_succ])
    (refine draw_in (i := 7) (v := ?_) rfl ?_ ?_; rotate_left; (intro w hSw; (try dsimp only at hSw); go_simp; try with_reducible rfl)); (try simp only [Act.put, List.setIfInBounds_toArray, List.set_cons_zero, List.set_cons_succ])
    refine draw_one (i := 8) ?_
    refine comes_turn (i := 8) rfl (fun K hK => ?_)
    go_simp
    (refine (HSm.out _ ((Kp.refl wr).drew)).mono ?_; rintro e w5 ⟨v, rfl, hk5, rfl⟩; have X5 := Lib.hid (show Ext wr w5 from ((Kp.refl wr).drew).trans hk5); clear hk5)
    go_wp2_with fail
    refine hK.out _ _ ?_ (fun hHeld => ?_)
    ·(try dsimp only); (exact HJ.out _ X5.out)
    clear hK K; (try simp only [Act.put, List.setIfInBounds_toArray, List.set_cons_zero, List.set_cons_succ])
    (refine draw_free (i := 9) (v := ?_) rfl ?_ ?_; rotate_left; (intro w; go_simp; try with_reducible rfl)); (try simp only [Act.put, List.setIfInBounds_toArray, List.set_cons_zero, List.set_cons_succ])
    refine wpAnyD_done (by kernel_rfl) ?_ _
    clear hHeld
    by_cases hst : s = t
    ·have hd : decide (s = t) = true := decide_eq_true hst
     rw [hd]
     have HE := Lib.hid hst
     clear hst hd
     go_wp2
     go_roundw
     case rel => exact ⟨i + 1, by omega, by first | rfl | (congr 1; done) | (congr 1; omega), Lib.hid (hex.out.trans X5.out), Lib.hid (by rw [List.take_add_one, List.take_add_one, HST.out.1, HST.out.2, heq.out, HE.out])⟩
     case measure => simp [intOf]; omega
    ·have hd : decide (s = t) = false := decide_eq_false hst
     rw [hd]
     have HD := Lib.hid (show decide (A = B) = false from decide_eq_false fun e => hst (by have h := HST.out.1; rw [e, HST.out.2] at h; cases h; rfl))
     clear hst hd
     go_wp2
     go_ret
     exact RetN.mk (hex.out.trans X5.out) (by rw [HD.out]; rfl)
   ·obtain rfl : n = i := by omega
    have HD := Lib.hid (show decide (A = B) = true from decide_eq_true (by
     have h := heq.out
     rw [List.take_of_length_le (by rw [<- HN.out.1]; exact Nat.le_refl _), List.take_of_length_le (by rw [<- HN.out.2]; exact Nat.le_refl _)] at h
     exact h))
    go_wp2
    go_ret
    exact RetN.mk hex.out (by rw [HD.out]; rfl)
 ·have q1 : ((n : Int) != (m : Int)) = true := by simp; omega
  have q2 : ((n : Int) == (m : Int)) = false := by simp; omega
  have HD := Lib.hid (show decide (A = B) = false from decide_eq_false fun e => hnm (by rw [HN.out.1, HN.out.2, e]))
  clear hnm
  go_enter Tryz.func40, Tryz.ntmps40
  go_wp2
  go_ret
  exact RetN.mk (Kp.refl w) (by rw [HD.out]; rfl)
end Go.Proofs.YtinnmeiphbdogaaGreat

/- The law of joins: Check, Vars, Head, Facts at closed rules. -/
namespace Go.Proofs.YtinnmeiphbdogaaGreat
open Go.RowKit Go.Shelf
set_option linter.unusedVariables false
attribute [local go_sem] Oper.semAt_some
section
variable {w : World} {p : ByteArray} {hs : List TermZ} {ls : List LitZ} {ha ba : Option Addr} {hn hcap n bcap : Nat}
theorem check_known (hhn : hn = hs.length) (hh : TermsAt w TT ha hs) (hhl : hn ≤ 1048576) (hbn : n = ls.length) (h : LitsAt w TT ba ls) (hf : Fit ls) (z : Int) (hz : ((checkR ((p, hs, ()), ls, ()) : Nat) : Int) = z) :
 Calls Tryz.prog 15 #[ruleV p ha hn hcap ba n bcap] w (RetN w fun w' v => v = .int .i64 z) := by
 refine (check_any p hs ls ha hn hcap ba n bcap w TT hhn hh hhl hbn h hf).mono ?_
 rintro e w' ⟨v, rfl, hk, rfl⟩
 exact RetN.mk hk (by rw [hz])
theorem vars_known (hhn : hn = hs.length) (hh : TermsAt w TT ha hs) (hhl : hn ≤ 1048576) (hbn : n = ls.length) (h : LitsAt w TT ba ls) (hf : Fit ls) (M : List ByteArray) (m : Nat) (hM : varsOfR ((p, hs, ()), ls, ()) = M) (hm : M.length = m) :
 Calls Tryz.prog 13 #[ruleV p ha hn hcap ba n bcap] w (RetN w fun w' v => ∃ ao cap, v = .slice ao m cap /\ CellsAt w' ao (strs M)) := by
 refine (varsR_any p hs ls ha hn hcap ba n bcap w TT hhn hh hhl hbn h hf).mono ?_
 rintro e w' ⟨v, rfl, hk, ao, cap, rfl, hc⟩
 rw [hM] at hc ⊢
 rw [hm]
 exact RetN.mk hk ⟨ao, cap, rfl, hc⟩
theorem head_known {va : Option Addr} {nb vc : Nat} {V : List ByteArray} (hhn : hn = hs.length) (hh : TermsAt w TT ha hs) (hhl : hn ≤ 1048576) (hbn : n = ls.length) (h : LitsAt w TT ba ls) (hf : Fit ls) (hnv : (namesB ls).length ≤ 1048576) (hV : nb = V.length) (hVc : CellsAt w va (strs V)) (hvb : nb ≤ 1048576)
 (M : List ByteArray) (m : Nat) (hc : checkR ((p, hs, ()), ls, ()) = 0) (hl : V.length = (namesB ls).length) (hM : headV (namesB ls) V hs = M) (hm : M.length = m) :
 Calls Tryz.prog 25 #[ruleV p ha hn hcap ba n bcap, .slice va nb vc] w (RetN w fun w' v => ∃ ao cap, v = .tuple #[.slice ao m cap, .int .i64 0] /\ CellsAt w' ao (strs M)) := by
 refine (headW_any (p := p) (hcap := hcap) (bcap := bcap) (vc := vc) hhn hh hhl hbn h hf hnv hV hVc hvb).mono ?_
 rintro e w' ⟨v, rfl, hk, ⟨-, -, ao, cap, ev, h2, -⟩ | ⟨hno, -⟩⟩
 ·have ev' : v = .tuple #[.slice ao (headV (namesB ls) V hs).length cap, .int .i64 0] := ev
  have h2' : CellsAt w' ao (strs (headV (namesB ls) V hs)) := h2
  rw [hM] at h2' ev'
  rw [hm] at ev'
  exact RetN.mk hk ⟨ao, cap, ev', h2'⟩
 ·exact absurd ⟨hc, hl⟩ hno
theorem head_bad {va : Option Addr} {nb vc : Nat} {V : List ByteArray} (hhn : hn = hs.length) (hh : TermsAt w TT ha hs) (hhl : hn ≤ 1048576) (hbn : n = ls.length) (h : LitsAt w TT ba ls) (hf : Fit ls) (hnv : (namesB ls).length ≤ 1048576) (hV : nb = V.length) (hVc : CellsAt w va (strs V)) (hvb : nb ≤ 1048576)
 (hl : V.length ≠ (namesB ls).length) :
 Calls Tryz.prog 25 #[ruleV p ha hn hcap ba n bcap, .slice va nb vc] w (RetN w fun w' v => v = .tuple #[.slice none 0 0, .int .i64 2]) := by
 refine (headW_any (p := p) (hcap := hcap) (bcap := bcap) (vc := vc) hhn hh hhl hbn h hf hnv hV hVc hvb).mono ?_
 rintro e w' ⟨v, rfl, hk, ⟨-, hl2, -⟩ | ⟨-, ev⟩⟩
 ·exact absurd hl2 hl
 ·exact RetN.mk hk ev
variable {S : Nat -> Prop} {o : Option Addr} {E : List Ent}
theorem facts_known (hhn : hn = hs.length) (hh : TermsAt w TT ha hs) (hhl : hn ≤ 1048576) (hbn : n = ls.length) (h : LitsAt w TT ba ls) (hf : Fit ls) (hnv : (namesB ls).length ≤ 1048576) (hn16 : n ≤ 1048576)
 (hB : BaseV S w (.pointer o) E) (ho : o.isNone = false) (hC : cntE E = awC) (A : Rows2) (hc : checkR ((p, hs, ()), ls, ()) = 0) (hag : (hs.any fun t => decide (4 ≤ t.1)) = false) (hA : rowsIn2 hs.length [] ((bindsOf ((p, hs, ()), ls, ()) awC).map fun V => headV (namesB ls) V hs) = (0, A)) :
 Calls Tryz.prog 49 #[ruleV p ha hn hcap ba n bcap, .pointer o] w (RetN w fun w' v => ∃ rb iv S', v = .tuple #[.pointer (some ⟨rb, 0, none⟩), .int .i64 0] /\ RowsAt S' w' rb iv hs.length A) := by
 refine (facts_any (p := p) (hcap := hcap) (bcap := bcap) (L := bindsOf ((p, hs, ()), ls, ()) (cntE E)) hhn hh hhl hbn h hf hnv hn16 hB (bindsOf_is ((p, hs, ()), ls, ()) E)).mono ?_
 rintro e w' ⟨v, rfl, hk, ⟨hb, -⟩ | ⟨-, hb, -⟩ | ⟨-, -, hb, -⟩ | ⟨-, -, -, er, A', he, hv⟩⟩
 ·exact absurd hc hb
 ·have hb' : (hs.any fun t => decide (4 ≤ t.1)) = true := hb
  rw [hag] at hb'; cases hb'
 ·rw [ho] at hb; cases hb
 ·have he' : rowsIn2 hs.length [] ((bindsOf ((p, hs, ()), ls, ()) (cntE E)).map fun V => headV (namesB ls) V hs) = (er, A') := he
  rw [hC, hA] at he'
  cases he'
  rcases hv with ⟨hb, -⟩ | ⟨-, rb, iv, S', ev, hr, -⟩
  ·exact absurd rfl hb
  ·exact RetN.mk hk ⟨rb, iv, S', ev, hr⟩
theorem facts_bad (hhn : hn = hs.length) (hh : TermsAt w TT ha hs) (hhl : hn ≤ 1048576) (hbn : n = ls.length) (h : LitsAt w TT ba ls) (hf : Fit ls) (hnv : (namesB ls).length ≤ 1048576) (hn16 : n ≤ 1048576)
 (hB : BaseV S w (.pointer o) E) (z : Int) (hz : (((checkR ((p, hs, ()), ls, ()) : Nat) : Int) = z /\ z ≠ 0) \/ (checkR ((p, hs, ()), ls, ()) = 0 /\ (hs.any fun t => decide (4 ≤ t.1)) = true /\ z = 2) \/ (checkR ((p, hs, ()), ls, ()) = 0 /\ (hs.any fun t => decide (4 ≤ t.1)) = false /\ o.isNone = true /\ z = 1)) :
 Calls Tryz.prog 49 #[ruleV p ha hn hcap ba n bcap, .pointer o] w (RetN w fun w' v => v = .tuple #[.pointer none, .int .i64 z]) := by
 refine (facts_any (p := p) (hcap := hcap) (bcap := bcap) (L := bindsOf ((p, hs, ()), ls, ()) (cntE E)) hhn hh hhl hbn h hf hnv hn16 hB (bindsOf_is ((p, hs, ()), ls, ()) E)).mono ?_
 rintro e w' ⟨v, rfl, hk, ⟨hb, hv⟩ | ⟨hb0, hb, hv⟩ | ⟨hb0, hb1, hb, hv⟩ | ⟨hb0, hb1, hb2, er, A', he, hv⟩⟩
 ·rcases hz with ⟨e1, e2⟩ | ⟨e1, -⟩ | ⟨e1, -⟩
  ·rw [e1] at hv; exact RetN.mk hk hv
  ·exact absurd e1 hb
  ·exact absurd e1 hb
 ·have hb' : (hs.any fun t => decide (4 ≤ t.1)) = true := hb
  rcases hz with ⟨e1, e2⟩ | ⟨e1, -, e3⟩ | ⟨e1, e2, -⟩
  ·rw [hb0] at e1; exact absurd e1.symm e2
  ·rw [e3]; exact RetN.mk hk hv
  ·rw [hb'] at e2; cases e2
 ·have hb' : (hs.any fun t => decide (4 ≤ t.1)) = false := hb1
  rcases hz with ⟨e1, e2⟩ | ⟨e1, e2, e3⟩ | ⟨e1, e2, e3, e4⟩
  ·rw [hb0] at e1; exact absurd e1.symm e2
  ·rw [hb'] at e2; cases e2
  ·rw [e4]; exact RetN.mk hk hv
 ·have hb' : (hs.any fun t => decide (4 ≤ t.1)) = false := hb1
  rcases hz with ⟨e1, e2⟩ | ⟨e1, e2, e3⟩ | ⟨e1, e2, e3, e4⟩
  ·rw [hb0] at e1; exact absurd e1.symm e2
  ·rw [hb'] at e2; cases e2
  ·rw [hb2] at e3; cases e3
end
theorem rows_own {lo : Nat} {w : World} {v : Value} {LL : Rows2} (h : OwnRows lo w v LL) : ∃ S ao cap, v = .slice ao LL.length cap /\ RowsIn S w ao LL := by
 obtain ⟨ao, cap, e, hr⟩ := h.shape
 exact ⟨_, ao, cap, e, hr⟩
theorem all_known {S : Nat -> Prop} {w : World} {b m : Nat} {iv : Value} {A : Rows2} (h : RowsAt S w b iv m A) (k : Nat) (hk : A.length = k) :
 Calls Tryz.prog 53 #[.pointer (some ⟨b, 0, none⟩)] w (RetN w fun w' v => ∃ S' ao cap, v = .slice ao k cap /\ RowsIn S' w' ao A) := by
 refine (rowsAll_q (z := False) h.q).mono ?_
 rintro e w' ⟨v, rfl, hk', -, hO⟩
 obtain ⟨S', ao, cap, ev, hr⟩ := rows_own hO
 rw [hk] at ev
 exact RetN.mk (hk'.mono fun k _ h => h.1.elim) ⟨S', ao, cap, ev, hr⟩
theorem alike_known {S S' : Nat -> Prop} (A : Rows2) (ao bo : Option Addr) (n acap bcap : Nat) (w : World) (hn : A.length = n) (ha : RowsIn S w ao A) (hb : RowsIn S' w bo A) (hl : n ≤ 1048576) :
 Calls Tryz.prog 40 #[.slice ao n acap, .slice bo n bcap] w (RetN w fun w' v => v = .bool true) := by
 refine (alike14_any hn.symm hn.symm ha hb (by omega)).mono ?_
 rintro e w' ⟨v, rfl, hk, rfl⟩
 exact RetN.mk hk (by rw [decide_eq_true rfl])
end Go.Proofs.YtinnmeiphbdogaaGreat

/- The law of joins: heads: the chapter's heads and facts. -/
namespace Go.Proofs.YtinnmeiphbdogaaGreat
open Go.RowKit Go.Shelf
set_option linter.unusedVariables false
attribute [local go_sem] Oper.semAt_some
set_option maxRecDepth 100000 in
set_option maxHeartbeats 8000000 in
theorem heads_any {S0 : Nat -> Prop} {w : World} {bb : Nat} {E : List Ent} (hB : BaseV S0 w (.pointer (some ⟨bb, 0, none⟩)) E) (hC : cntE E = awC) : Calls Tryz.prog 35 #[.pointer (some ⟨bb, 0, none⟩)] w (RetN w fun w' v => v = .bool true) := by
 have HBv := Lib.hid (And.intro hB hC)
 clear hB hC
 go_enter Tryz.func35, Tryz.ntmps35
 go_wp2_with fail
 refine (v14_any ⟨#[88]⟩ w).mono ?_
 rintro e w1 ⟨vw1, rfl, hkw1, rfl⟩
 have Xw1 := Lib.hid (show Ext w w1 from hkw1)
 clear hkw1
 go_wp2_with fail
 refine (c14_any ⟨#[99]⟩ w1).mono ?_
 rintro e w2 ⟨vw2, rfl, hkw2, rfl⟩
 have Xw2 := Lib.hid (show Ext w1 w2 from hkw2)
 clear hkw2
 obtain ⟨w3, ew3⟩ : ∃ x, w2.alloc (.cells #[.int .i64 1, .string ⟨#[88]⟩, .int .i64 3, .string ⟨#[99]⟩, .int .i64 4, .string ⟨#[]⟩] 38) = x := ⟨_, rfl⟩
 have Xw3 := Lib.hid (show Ext w2 w3 from by rw [<- ew3]; exact (Kp.refl w2).alloc _)
 have T1 := Lib.hid (show TermsAt w3 TT (some ⟨w2.heap.size, 0, none⟩) [((1 : Int), (⟨#[88]⟩ : ByteArray), ()), ((3 : Int), (⟨#[99]⟩ : ByteArray), ()), ((4 : Int), (⟨#[]⟩ : ByteArray), ())] from by rw [<- ew3]; exact terms_new w2 [((1 : Int), (⟨#[88]⟩ : ByteArray), ()), ((3 : Int), (⟨#[99]⟩ : ByteArray), ()), ((4 : Int), (⟨#[]⟩ : ByteArray), ())] (by kernel_rfl))
 go_wp2_with fail
 clear ew3
 refine (v14_any ⟨#[88]⟩ w3).mono ?_
 rintro e w4 ⟨vw4, rfl, hkw4, rfl⟩
 have Xw4 := Lib.hid (show Ext w3 w4 from hkw4)
 clear hkw4
 go_wp2_with fail
 refine (blank14_any w4).mono ?_
 rintro e w5 ⟨vw5, rfl, hkw5, rfl⟩
 have Xw5 := Lib.hid (show Ext w4 w5 from hkw5)
 clear hkw5
 obtain ⟨w6, ew6⟩ : ∃ x, w5.alloc (.cells #[.int .i64 1, .string ⟨#[88]⟩, .int .i64 2, .string ⟨#[]⟩] 38) = x := ⟨_, rfl⟩
 have Xw6 := Lib.hid (show Ext w5 w6 from by rw [<- ew6]; exact (Kp.refl w5).alloc _)
 have T2 := Lib.hid (show TermsAt w6 TT (some ⟨w5.heap.size, 0, none⟩) [((1 : Int), (⟨#[88]⟩ : ByteArray), ()), ((2 : Int), (⟨#[]⟩ : ByteArray), ())] from by rw [<- ew6]; exact terms_new w5 [((1 : Int), (⟨#[88]⟩ : ByteArray), ()), ((2 : Int), (⟨#[]⟩ : ByteArray), ())] (by kernel_rfl))
 go_wp2_with fail
 clear ew6
 refine (pos14_any ⟨#[101]⟩ (some ⟨w5.heap.size, 0, none⟩) 2 2 w6).mono ?_
 rintro e w7 ⟨vw7, rfl, hkw7, rfl⟩
 have Xw7 := Lib.hid (show Ext w6 w7 from hkw7)
 clear hkw7
 obtain ⟨w8, ew8⟩ : ∃ x, w7.alloc (.cells #[.int .i64 1, .string ⟨#[101]⟩, .slice (some ⟨w5.heap.size, 0, none⟩) 2 2, .int .i64 0, .int .i64 0, .string ⟨#[]⟩, .int .i64 0, .string ⟨#[]⟩] 40) = x := ⟨_, rfl⟩
 have Xw8 := Lib.hid (show Ext w7 w8 from by rw [<- ew8]; exact (Kp.refl w7).alloc _)
 have L3 := Lib.hid (show LitsAt w8 TT (some ⟨w7.heap.size, 0, none⟩) [(((1) : Int), ((⟨#[101]⟩ : ByteArray), [((1 : Int), (⟨#[88]⟩ : ByteArray), ()), ((2 : Int), (⟨#[]⟩ : ByteArray), ())], ()), (0 : Int), ((0 : Int), (⟨#[]⟩ : ByteArray), ()), ((0 : Int), (⟨#[]⟩ : ByteArray), ()), ())] from by
  rw [<- ew8]
  refine lits_new w7 [(((1) : Int), ((⟨#[101]⟩ : ByteArray), [((1 : Int), (⟨#[88]⟩ : ByteArray), ()), ((2 : Int), (⟨#[]⟩ : ByteArray), ())], ()), (0 : Int), ((0 : Int), (⟨#[]⟩ : ByteArray), ()), ((0 : Int), (⟨#[]⟩ : ByteArray), ()), ())] [(some ⟨w5.heap.size, 0, none⟩, 2)] rfl (by kernel_rfl) fun x hx => ?_
  simp only [List.zip_cons_cons, List.zip_nil_right, List.mem_cons, List.not_mem_nil, or_false] at hx
  rcases hx with rfl
  ·exact ⟨(T2.out.ext Xw7.out), Nat.le_refl _, (by decide : 2 ≤ maxLen)⟩)
 go_wp2_with fail
 clear ew8
 refine (rule14_any (some ⟨w2.heap.size, 0, none⟩) (some ⟨w7.heap.size, 0, none⟩) 3 3 1 1 w8).mono ?_
 rintro e w9 ⟨vw9, rfl, hkw9, rfl⟩
 have Xw9 := Lib.hid (show Ext w8 w9 from hkw9)
 clear hkw9
 obtain ⟨w10, ew10⟩ : ∃ x, w9.alloc (.cells #[.string ⟨#[116]⟩, .slice (some ⟨w2.heap.size, 0, none⟩) 3 3, .slice (some ⟨w7.heap.size, 0, none⟩) 1 1] 27) = x := ⟨_, rfl⟩
 have Xw10 := Lib.hid (show Ext w9 w10 from by rw [<- ew10]; exact (Kp.refl w9).alloc _)
 have B4 := Lib.hid (show Blk w10 w9.heap.size [.string ⟨#[116]⟩, .slice (some ⟨w2.heap.size, 0, none⟩) 3 3, .slice (some ⟨w7.heap.size, 0, none⟩) 1 1] 27 from by rw [<- ew10]; exact Blk.new w9 _ _)
 have q5_0 : w10.cell? ⟨w9.heap.size, 0, none⟩ = some (.string ⟨#[116]⟩) := by rw [(B4.out.ext (Kp.refl w10)).cell']; rfl
 have q5_1 : w10.cell? ⟨w9.heap.size, 1, none⟩ = some (.slice (some ⟨w2.heap.size, 0, none⟩) 3 3) := by rw [(B4.out.ext (Kp.refl w10)).cell']; rfl
 have q5_2 : w10.cell? ⟨w9.heap.size, 2, none⟩ = some (.slice (some ⟨w7.heap.size, 0, none⟩) 1 1) := by rw [(B4.out.ext (Kp.refl w10)).cell']; rfl
 obtain ⟨w11, ew11⟩ : ∃ x, w10.alloc (.cells #[.string ⟨#[97]⟩] 9) = x := ⟨_, rfl⟩
 have Xw11 := Lib.hid (show Ext w10 w11 from by rw [<- ew11]; exact (Kp.refl w10).alloc _)
 have Sw11 := Lib.hid (show CellsAt w11 (some ⟨w10.heap.size, 0, none⟩) (strs [(⟨#[97]⟩ : ByteArray)]) from by rw [<- ew11]; exact CellsAt.new w10 (strs [(⟨#[97]⟩ : ByteArray)]) _)
 go_wp2_with fail
 clear ew10 q5_0 q5_1 q5_2 ew11
 refine (head_known (p := ⟨#[116]⟩) (hs := [((1 : Int), (⟨#[88]⟩ : ByteArray), ()), ((3 : Int), (⟨#[99]⟩ : ByteArray), ()), ((4 : Int), (⟨#[]⟩ : ByteArray), ())]) (ls := [(((1) : Int), ((⟨#[101]⟩ : ByteArray), [((1 : Int), (⟨#[88]⟩ : ByteArray), ()), ((2 : Int), (⟨#[]⟩ : ByteArray), ())], ()), (0 : Int), ((0 : Int), (⟨#[]⟩ : ByteArray), ()), ((0 : Int), (⟨#[]⟩ : ByteArray), ()), ())]) (ha := some ⟨w2.heap.size, 0, none⟩) (ba := some ⟨w7.heap.size, 0, none⟩) (hn := 3) (hcap := 3) (n := 1) (bcap := 1) (va := some ⟨w10.heap.size, 0, none⟩) (nb := 1) (vc := 1) (V := [(⟨#[97]⟩ : ByteArray)]) rfl (T1.out.ext (Xw4.out.trans (Xw5.out.trans (Xw6.out.trans (Xw7.out.trans (Xw8.out.trans (Xw9.out.trans (Xw10.out.trans Xw11.out)))))))) (by decide) rfl (L3.out.ext (Xw9.out.trans (Xw10.out.trans Xw11.out))) (fit_of (by kernel_rfl)) (few_of (by kernel_rfl)) rfl (Sw11.out.ext (Kp.refl w11)) (by decide) [(⟨#[97]⟩ : ByteArray), (⟨#[99]⟩ : ByteArray)] 2 (by kernel_rfl) (by kernel_rfl) (by kernel_rfl) rfl).mono ?_
 rintro e w12 ⟨vw12, rfl, hkw12, ea6, ec6, rfl, hE6⟩
 have Xw12 := Lib.hid (show Ext w11 w12 from hkw12)
 clear hkw12
 have E6 := Lib.hid hE6
 clear hE6
 have q7_0 : w12.cell? ⟨w9.heap.size, 0, none⟩ = some (.string ⟨#[116]⟩) := by rw [(B4.out.ext (Xw11.out.trans Xw12.out)).cell']; rfl
 have q7_1 : w12.cell? ⟨w9.heap.size, 1, none⟩ = some (.slice (some ⟨w2.heap.size, 0, none⟩) 3 3) := by rw [(B4.out.ext (Xw11.out.trans Xw12.out)).cell']; rfl
 have q7_2 : w12.cell? ⟨w9.heap.size, 2, none⟩ = some (.slice (some ⟨w7.heap.size, 0, none⟩) 1 1) := by rw [(B4.out.ext (Xw11.out.trans Xw12.out)).cell']; rfl
 obtain ⟨w13, ew13⟩ : ∃ x, w12.alloc (.cells #[.string ⟨#[97]⟩, .string ⟨#[98]⟩] 9) = x := ⟨_, rfl⟩
 have Xw13 := Lib.hid (show Ext w12 w13 from by rw [<- ew13]; exact (Kp.refl w12).alloc _)
 have Sw13 := Lib.hid (show CellsAt w13 (some ⟨w12.heap.size, 0, none⟩) (strs [(⟨#[97]⟩ : ByteArray), (⟨#[98]⟩ : ByteArray)]) from by rw [<- ew13]; exact CellsAt.new w12 (strs [(⟨#[97]⟩ : ByteArray), (⟨#[98]⟩ : ByteArray)]) _)
 go_wp2_with fail
 clear q7_0 q7_1 q7_2 ew13
 refine (head_bad (p := ⟨#[116]⟩) (hs := [((1 : Int), (⟨#[88]⟩ : ByteArray), ()), ((3 : Int), (⟨#[99]⟩ : ByteArray), ()), ((4 : Int), (⟨#[]⟩ : ByteArray), ())]) (ls := [(((1) : Int), ((⟨#[101]⟩ : ByteArray), [((1 : Int), (⟨#[88]⟩ : ByteArray), ()), ((2 : Int), (⟨#[]⟩ : ByteArray), ())], ()), (0 : Int), ((0 : Int), (⟨#[]⟩ : ByteArray), ()), ((0 : Int), (⟨#[]⟩ : ByteArray), ()), ())]) (ha := some ⟨w2.heap.size, 0, none⟩) (ba := some ⟨w7.heap.size, 0, none⟩) (hn := 3) (hcap := 3) (n := 1) (bcap := 1) (va := some ⟨w12.heap.size, 0, none⟩) (nb := 2) (vc := 2) (V := [(⟨#[97]⟩ : ByteArray), (⟨#[98]⟩ : ByteArray)]) rfl (T1.out.ext (Xw4.out.trans (Xw5.out.trans (Xw6.out.trans (Xw7.out.trans (Xw8.out.trans (Xw9.out.trans (Xw10.out.trans (Xw11.out.trans (Xw12.out.trans Xw13.out)))))))))) (by decide) rfl (L3.out.ext (Xw9.out.trans (Xw10.out.trans (Xw11.out.trans (Xw12.out.trans Xw13.out))))) (fit_of (by kernel_rfl)) (few_of (by kernel_rfl)) rfl (Sw13.out.ext (Kp.refl w13)) (by decide) (by decide)).mono ?_
 rintro e w14 ⟨vw14, rfl, hkw14, rfl⟩
 have Xw14 := Lib.hid (show Ext w13 w14 from hkw14)
 clear hkw14
 go_wp2_with fail
 refine (v14_any ⟨#[88]⟩ w14).mono ?_
 rintro e w15 ⟨vw15, rfl, hkw15, rfl⟩
 have Xw15 := Lib.hid (show Ext w14 w15 from hkw15)
 clear hkw15
 obtain ⟨w16, ew16⟩ : ∃ x, w15.alloc (.cells #[.int .i64 1, .string ⟨#[88]⟩] 38) = x := ⟨_, rfl⟩
 have Xw16 := Lib.hid (show Ext w15 w16 from by rw [<- ew16]; exact (Kp.refl w15).alloc _)
 have T8 := Lib.hid (show TermsAt w16 TT (some ⟨w15.heap.size, 0, none⟩) [((1 : Int), (⟨#[88]⟩ : ByteArray), ())] from by rw [<- ew16]; exact terms_new w15 [((1 : Int), (⟨#[88]⟩ : ByteArray), ())] (by kernel_rfl))
 go_wp2_with fail
 clear ew16
 refine (v14_any ⟨#[88]⟩ w16).mono ?_
 rintro e w17 ⟨vw17, rfl, hkw17, rfl⟩
 have Xw17 := Lib.hid (show Ext w16 w17 from hkw17)
 clear hkw17
 go_wp2_with fail
 refine (blank14_any w17).mono ?_
 rintro e w18 ⟨vw18, rfl, hkw18, rfl⟩
 have Xw18 := Lib.hid (show Ext w17 w18 from hkw18)
 clear hkw18
 obtain ⟨w19, ew19⟩ : ∃ x, w18.alloc (.cells #[.int .i64 1, .string ⟨#[88]⟩, .int .i64 2, .string ⟨#[]⟩] 38) = x := ⟨_, rfl⟩
 have Xw19 := Lib.hid (show Ext w18 w19 from by rw [<- ew19]; exact (Kp.refl w18).alloc _)
 have T9 := Lib.hid (show TermsAt w19 TT (some ⟨w18.heap.size, 0, none⟩) [((1 : Int), (⟨#[88]⟩ : ByteArray), ()), ((2 : Int), (⟨#[]⟩ : ByteArray), ())] from by rw [<- ew19]; exact terms_new w18 [((1 : Int), (⟨#[88]⟩ : ByteArray), ()), ((2 : Int), (⟨#[]⟩ : ByteArray), ())] (by kernel_rfl))
 go_wp2_with fail
 clear ew19
 refine (pos14_any ⟨#[101]⟩ (some ⟨w18.heap.size, 0, none⟩) 2 2 w19).mono ?_
 rintro e w20 ⟨vw20, rfl, hkw20, rfl⟩
 have Xw20 := Lib.hid (show Ext w19 w20 from hkw20)
 clear hkw20
 obtain ⟨w21, ew21⟩ : ∃ x, w20.alloc (.cells #[.int .i64 1, .string ⟨#[101]⟩, .slice (some ⟨w18.heap.size, 0, none⟩) 2 2, .int .i64 0, .int .i64 0, .string ⟨#[]⟩, .int .i64 0, .string ⟨#[]⟩] 40) = x := ⟨_, rfl⟩
 have Xw21 := Lib.hid (show Ext w20 w21 from by rw [<- ew21]; exact (Kp.refl w20).alloc _)
 have L10 := Lib.hid (show LitsAt w21 TT (some ⟨w20.heap.size, 0, none⟩) [(((1) : Int), ((⟨#[101]⟩ : ByteArray), [((1 : Int), (⟨#[88]⟩ : ByteArray), ()), ((2 : Int), (⟨#[]⟩ : ByteArray), ())], ()), (0 : Int), ((0 : Int), (⟨#[]⟩ : ByteArray), ()), ((0 : Int), (⟨#[]⟩ : ByteArray), ()), ())] from by
  rw [<- ew21]
  refine lits_new w20 [(((1) : Int), ((⟨#[101]⟩ : ByteArray), [((1 : Int), (⟨#[88]⟩ : ByteArray), ()), ((2 : Int), (⟨#[]⟩ : ByteArray), ())], ()), (0 : Int), ((0 : Int), (⟨#[]⟩ : ByteArray), ()), ((0 : Int), (⟨#[]⟩ : ByteArray), ()), ())] [(some ⟨w18.heap.size, 0, none⟩, 2)] rfl (by kernel_rfl) fun x hx => ?_
  simp only [List.zip_cons_cons, List.zip_nil_right, List.mem_cons, List.not_mem_nil, or_false] at hx
  rcases hx with rfl
  ·exact ⟨(T9.out.ext Xw20.out), Nat.le_refl _, (by decide : 2 ≤ maxLen)⟩)
 go_wp2_with fail
 clear ew21
 refine (rule14_any (some ⟨w15.heap.size, 0, none⟩) (some ⟨w20.heap.size, 0, none⟩) 1 1 1 1 w21).mono ?_
 rintro e w22 ⟨vw22, rfl, hkw22, rfl⟩
 have Xw22 := Lib.hid (show Ext w21 w22 from hkw22)
 clear hkw22
 go_wp2_with fail
 refine (facts_known (p := ⟨#[116]⟩) (hs := [((1 : Int), (⟨#[88]⟩ : ByteArray), ())]) (ls := [(((1) : Int), ((⟨#[101]⟩ : ByteArray), [((1 : Int), (⟨#[88]⟩ : ByteArray), ()), ((2 : Int), (⟨#[]⟩ : ByteArray), ())], ()), (0 : Int), ((0 : Int), (⟨#[]⟩ : ByteArray), ()), ((0 : Int), (⟨#[]⟩ : ByteArray), ()), ())]) (ha := some ⟨w15.heap.size, 0, none⟩) (ba := some ⟨w20.heap.size, 0, none⟩) (hn := 1) (hcap := 1) (n := 1) (bcap := 1) rfl (T8.out.ext (Xw17.out.trans (Xw18.out.trans (Xw19.out.trans (Xw20.out.trans (Xw21.out.trans Xw22.out)))))) (by decide) rfl (L10.out.ext Xw22.out) (fit_of (by kernel_rfl)) (few_of (by kernel_rfl)) (by decide) (HBv.out.1.ext (Xw1.out.trans (Xw2.out.trans (Xw3.out.trans (Xw4.out.trans (Xw5.out.trans (Xw6.out.trans (Xw7.out.trans (Xw8.out.trans (Xw9.out.trans (Xw10.out.trans (Xw11.out.trans (Xw12.out.trans (Xw13.out.trans (Xw14.out.trans (Xw15.out.trans (Xw16.out.trans (Xw17.out.trans (Xw18.out.trans (Xw19.out.trans (Xw20.out.trans (Xw21.out.trans Xw22.out)))))))))))))))))))))) rfl HBv.out.2 [[(⟨#[97]⟩ : ByteArray)], [(⟨#[98]⟩ : ByteArray)], [(⟨#[99]⟩ : ByteArray)]] (by kernel_rfl) (by kernel_rfl) (by kernel_rfl)).mono ?_
 rintro e w23 ⟨vw23, rfl, hkw23, rb11, iv11, S11, rfl, hR11⟩
 have Xw23 := Lib.hid (show Ext w22 w23 from hkw23)
 clear hkw23
 have R11 := Lib.hid hR11
 clear hR11
 obtain ⟨w24, ew24⟩ : ∃ x, w23.alloc (.cells #[.int .i64 4, .string ⟨#[]⟩] 38) = x := ⟨_, rfl⟩
 have Xw24 := Lib.hid (show Ext w23 w24 from by rw [<- ew24]; exact (Kp.refl w23).alloc _)
 have T12 := Lib.hid (show TermsAt w24 TT (some ⟨w23.heap.size, 0, none⟩) [((4 : Int), (⟨#[]⟩ : ByteArray), ())] from by rw [<- ew24]; exact terms_new w23 [((4 : Int), (⟨#[]⟩ : ByteArray), ())] (by kernel_rfl))
 go_wp2_with fail
 clear ew24
 refine (blank14_any w24).mono ?_
 rintro e w25 ⟨vw25, rfl, hkw25, rfl⟩
 have Xw25 := Lib.hid (show Ext w24 w25 from hkw25)
 clear hkw25
 go_wp2_with fail
 refine (blank14_any w25).mono ?_
 rintro e w26 ⟨vw26, rfl, hkw26, rfl⟩
 have Xw26 := Lib.hid (show Ext w25 w26 from hkw26)
 clear hkw26
 obtain ⟨w27, ew27⟩ : ∃ x, w26.alloc (.cells #[.int .i64 2, .string ⟨#[]⟩, .int .i64 2, .string ⟨#[]⟩] 38) = x := ⟨_, rfl⟩
 have Xw27 := Lib.hid (show Ext w26 w27 from by rw [<- ew27]; exact (Kp.refl w26).alloc _)
 have T13 := Lib.hid (show TermsAt w27 TT (some ⟨w26.heap.size, 0, none⟩) [((2 : Int), (⟨#[]⟩ : ByteArray), ()), ((2 : Int), (⟨#[]⟩ : ByteArray), ())] from by rw [<- ew27]; exact terms_new w26 [((2 : Int), (⟨#[]⟩ : ByteArray), ()), ((2 : Int), (⟨#[]⟩ : ByteArray), ())] (by kernel_rfl))
 go_wp2_with fail
 clear ew27
 refine (pos14_any ⟨#[101]⟩ (some ⟨w26.heap.size, 0, none⟩) 2 2 w27).mono ?_
 rintro e w28 ⟨vw28, rfl, hkw28, rfl⟩
 have Xw28 := Lib.hid (show Ext w27 w28 from hkw28)
 clear hkw28
 obtain ⟨w29, ew29⟩ : ∃ x, w28.alloc (.cells #[.int .i64 1, .string ⟨#[101]⟩, .slice (some ⟨w26.heap.size, 0, none⟩) 2 2, .int .i64 0, .int .i64 0, .string ⟨#[]⟩, .int .i64 0, .string ⟨#[]⟩] 40) = x := ⟨_, rfl⟩
 have Xw29 := Lib.hid (show Ext w28 w29 from by rw [<- ew29]; exact (Kp.refl w28).alloc _)
 have L14 := Lib.hid (show LitsAt w29 TT (some ⟨w28.heap.size, 0, none⟩) [(((1) : Int), ((⟨#[101]⟩ : ByteArray), [((2 : Int), (⟨#[]⟩ : ByteArray), ()), ((2 : Int), (⟨#[]⟩ : ByteArray), ())], ()), (0 : Int), ((0 : Int), (⟨#[]⟩ : ByteArray), ()), ((0 : Int), (⟨#[]⟩ : ByteArray), ()), ())] from by
  rw [<- ew29]
  refine lits_new w28 [(((1) : Int), ((⟨#[101]⟩ : ByteArray), [((2 : Int), (⟨#[]⟩ : ByteArray), ()), ((2 : Int), (⟨#[]⟩ : ByteArray), ())], ()), (0 : Int), ((0 : Int), (⟨#[]⟩ : ByteArray), ()), ((0 : Int), (⟨#[]⟩ : ByteArray), ()), ())] [(some ⟨w26.heap.size, 0, none⟩, 2)] rfl (by kernel_rfl) fun x hx => ?_
  simp only [List.zip_cons_cons, List.zip_nil_right, List.mem_cons, List.not_mem_nil, or_false] at hx
  rcases hx with rfl
  ·exact ⟨(T13.out.ext Xw28.out), Nat.le_refl _, (by decide : 2 ≤ maxLen)⟩)
 go_wp2_with fail
 clear ew29
 refine (rule14_any (some ⟨w23.heap.size, 0, none⟩) (some ⟨w28.heap.size, 0, none⟩) 1 1 1 1 w29).mono ?_
 rintro e w30 ⟨vw30, rfl, hkw30, rfl⟩
 have Xw30 := Lib.hid (show Ext w29 w30 from hkw30)
 clear hkw30
 go_wp2_with fail
 refine (facts_bad (p := ⟨#[116]⟩) (hs := [((4 : Int), (⟨#[]⟩ : ByteArray), ())]) (ls := [(((1) : Int), ((⟨#[101]⟩ : ByteArray), [((2 : Int), (⟨#[]⟩ : ByteArray), ()), ((2 : Int), (⟨#[]⟩ : ByteArray), ())], ()), (0 : Int), ((0 : Int), (⟨#[]⟩ : ByteArray), ()), ((0 : Int), (⟨#[]⟩ : ByteArray), ()), ())]) (ha := some ⟨w23.heap.size, 0, none⟩) (ba := some ⟨w28.heap.size, 0, none⟩) (hn := 1) (hcap := 1) (n := 1) (bcap := 1) rfl (T12.out.ext (Xw25.out.trans (Xw26.out.trans (Xw27.out.trans (Xw28.out.trans (Xw29.out.trans Xw30.out)))))) (by decide) rfl (L14.out.ext Xw30.out) (fit_of (by kernel_rfl)) (few_of (by kernel_rfl)) (by decide) (HBv.out.1.ext (Xw1.out.trans (Xw2.out.trans (Xw3.out.trans (Xw4.out.trans (Xw5.out.trans (Xw6.out.trans (Xw7.out.trans (Xw8.out.trans (Xw9.out.trans (Xw10.out.trans (Xw11.out.trans (Xw12.out.trans (Xw13.out.trans (Xw14.out.trans (Xw15.out.trans (Xw16.out.trans (Xw17.out.trans (Xw18.out.trans (Xw19.out.trans (Xw20.out.trans (Xw21.out.trans (Xw22.out.trans (Xw23.out.trans (Xw24.out.trans (Xw25.out.trans (Xw26.out.trans (Xw27.out.trans (Xw28.out.trans (Xw29.out.trans Xw30.out)))))))))))))))))))))))))))))) 2 (.inr (.inl ⟨by kernel_rfl, by kernel_rfl, rfl⟩))).mono ?_
 rintro e w31 ⟨vw31, rfl, hkw31, rfl⟩
 have Xw31 := Lib.hid (show Ext w30 w31 from hkw31)
 clear hkw31
 go_wp2_with fail
 refine (v14_any ⟨#[88]⟩ w31).mono ?_
 rintro e w32 ⟨vw32, rfl, hkw32, rfl⟩
 have Xw32 := Lib.hid (show Ext w31 w32 from hkw32)
 clear hkw32
 obtain ⟨w33, ew33⟩ : ∃ x, w32.alloc (.cells #[.int .i64 1, .string ⟨#[88]⟩] 38) = x := ⟨_, rfl⟩
 have Xw33 := Lib.hid (show Ext w32 w33 from by rw [<- ew33]; exact (Kp.refl w32).alloc _)
 have T15 := Lib.hid (show TermsAt w33 TT (some ⟨w32.heap.size, 0, none⟩) [((1 : Int), (⟨#[88]⟩ : ByteArray), ())] from by rw [<- ew33]; exact terms_new w32 [((1 : Int), (⟨#[88]⟩ : ByteArray), ())] (by kernel_rfl))
 go_wp2_with fail
 clear ew33
 refine (rule14_any (some ⟨w32.heap.size, 0, none⟩) (none) 1 1 0 0 w33).mono ?_
 rintro e w34 ⟨vw34, rfl, hkw34, rfl⟩
 have Xw34 := Lib.hid (show Ext w33 w34 from hkw34)
 clear hkw34
 go_wp2_with fail
 refine (facts_bad (p := ⟨#[116]⟩) (hs := [((1 : Int), (⟨#[88]⟩ : ByteArray), ())]) (ls := []) (ha := some ⟨w32.heap.size, 0, none⟩) (ba := none) (hn := 1) (hcap := 1) (n := 0) (bcap := 0) rfl (T15.out.ext Xw34.out) (by decide) rfl (lits_nil w34 none) (fit_of (by kernel_rfl)) (few_of (by kernel_rfl)) (by decide) (HBv.out.1.ext (Xw1.out.trans (Xw2.out.trans (Xw3.out.trans (Xw4.out.trans (Xw5.out.trans (Xw6.out.trans (Xw7.out.trans (Xw8.out.trans (Xw9.out.trans (Xw10.out.trans (Xw11.out.trans (Xw12.out.trans (Xw13.out.trans (Xw14.out.trans (Xw15.out.trans (Xw16.out.trans (Xw17.out.trans (Xw18.out.trans (Xw19.out.trans (Xw20.out.trans (Xw21.out.trans (Xw22.out.trans (Xw23.out.trans (Xw24.out.trans (Xw25.out.trans (Xw26.out.trans (Xw27.out.trans (Xw28.out.trans (Xw29.out.trans (Xw30.out.trans (Xw31.out.trans (Xw32.out.trans (Xw33.out.trans Xw34.out)))))))))))))))))))))))))))))))))) 111 (.inl ⟨by kernel_rfl, by decide⟩)).mono ?_
 rintro e w35 ⟨vw35, rfl, hkw35, rfl⟩
 have Xw35 := Lib.hid (show Ext w34 w35 from hkw35)
 clear hkw35
 go_wp2_with fail
 refine (rule14_any (none) (none) 0 0 0 0 w35).mono ?_
 rintro e w36 ⟨vw36, rfl, hkw36, rfl⟩
 have Xw36 := Lib.hid (show Ext w35 w36 from hkw36)
 clear hkw36
 go_wp2_with fail
 refine (facts_bad (p := ⟨#[116]⟩) (hs := []) (ls := []) (ha := none) (ba := none) (hn := 0) (hcap := 0) (n := 0) (bcap := 0) rfl (terms_nil w36 none) (by decide) rfl (lits_nil w36 none) (fit_of (by kernel_rfl)) (few_of (by kernel_rfl)) (by decide) (S := TT) BaseV.nil 1 (.inr (.inr ⟨by kernel_rfl, by kernel_rfl, rfl, rfl⟩))).mono ?_
 rintro e w37 ⟨vw37, rfl, hkw37, rfl⟩
 have Xw37 := Lib.hid (show Ext w36 w37 from hkw37)
 clear hkw37
 obtain ⟨w38, ew38⟩ : ∃ x, w37.alloc (.cells #[.int .i64 4, .string ⟨#[]⟩, .int .i64 4, .string ⟨#[]⟩] 38) = x := ⟨_, rfl⟩
 have Xw38 := Lib.hid (show Ext w37 w38 from by rw [<- ew38]; exact (Kp.refl w37).alloc _)
 have T16 := Lib.hid (show TermsAt w38 TT (some ⟨w37.heap.size, 0, none⟩) [((4 : Int), (⟨#[]⟩ : ByteArray), ()), ((4 : Int), (⟨#[]⟩ : ByteArray), ())] from by rw [<- ew38]; exact terms_new w37 [((4 : Int), (⟨#[]⟩ : ByteArray), ()), ((4 : Int), (⟨#[]⟩ : ByteArray), ())] (by kernel_rfl))
 go_wp2_with fail
 clear ew38
 refine (rule14_any (some ⟨w37.heap.size, 0, none⟩) (none) 2 2 0 0 w38).mono ?_
 rintro e w39 ⟨vw39, rfl, hkw39, rfl⟩
 have Xw39 := Lib.hid (show Ext w38 w39 from hkw39)
 clear hkw39
 go_wp2_with fail
 refine (check_known (p := ⟨#[116]⟩) (hs := [((4 : Int), (⟨#[]⟩ : ByteArray), ()), ((4 : Int), (⟨#[]⟩ : ByteArray), ())]) (ls := []) (ha := some ⟨w37.heap.size, 0, none⟩) (ba := none) (hn := 2) (hcap := 2) (n := 0) (bcap := 0) rfl (T16.out.ext Xw39.out) (by decide) rfl (lits_nil w39 none) (fit_of (by kernel_rfl)) 2 (by kernel_rfl)).mono ?_
 rintro e w40 ⟨vw40, rfl, hkw40, rfl⟩
 have Xw40 := Lib.hid (show Ext w39 w40 from hkw40)
 clear hkw40
 obtain ⟨w41, ew41⟩ : ∃ x, w40.alloc (.cells #[.int .i64 4, .string ⟨#[]⟩, .slice none 0 0, .int .i64 0, .int .i64 0, .string ⟨#[]⟩, .int .i64 0, .string ⟨#[]⟩] 40) = x := ⟨_, rfl⟩
 have Xw41 := Lib.hid (show Ext w40 w41 from by rw [<- ew41]; exact (Kp.refl w40).alloc _)
 have L17 := Lib.hid (show LitsAt w41 TT (some ⟨w40.heap.size, 0, none⟩) [((4 : Int), ((⟨#[]⟩ : ByteArray), [], ()), (0 : Int), ((0 : Int), (⟨#[]⟩ : ByteArray), ()), ((0 : Int), (⟨#[]⟩ : ByteArray), ()), ())] from by
  rw [<- ew41]
  refine lits_new w40 [((4 : Int), ((⟨#[]⟩ : ByteArray), [], ()), (0 : Int), ((0 : Int), (⟨#[]⟩ : ByteArray), ()), ((0 : Int), (⟨#[]⟩ : ByteArray), ()), ())] [(none, 0)] rfl (by kernel_rfl) fun x hx => ?_
  simp only [List.zip_cons_cons, List.zip_nil_right, List.mem_cons, List.not_mem_nil, or_false] at hx
  rcases hx with rfl
  ·exact ⟨(terms_nil w40 none), Nat.le_refl _, (by decide : 0 ≤ maxLen)⟩)
 go_wp2_with fail
 clear ew41
 refine (rule14_any (none) (some ⟨w40.heap.size, 0, none⟩) 0 0 1 1 w41).mono ?_
 rintro e w42 ⟨vw42, rfl, hkw42, rfl⟩
 have Xw42 := Lib.hid (show Ext w41 w42 from hkw42)
 clear hkw42
 go_wp2_with fail
 refine (check_known (p := ⟨#[116]⟩) (hs := []) (ls := [((4 : Int), ((⟨#[]⟩ : ByteArray), [], ()), (0 : Int), ((0 : Int), (⟨#[]⟩ : ByteArray), ()), ((0 : Int), (⟨#[]⟩ : ByteArray), ()), ())]) (ha := none) (ba := some ⟨w40.heap.size, 0, none⟩) (hn := 0) (hcap := 0) (n := 1) (bcap := 1) rfl (terms_nil w42 none) (by decide) rfl (L17.out.ext Xw42.out) (fit_of (by kernel_rfl)) 2 (by kernel_rfl)).mono ?_
 rintro e w43 ⟨vw43, rfl, hkw43, rfl⟩
 have Xw43 := Lib.hid (show Ext w42 w43 from hkw43)
 clear hkw43
 go_wp2_with fail
 refine (num14_any 0 w43).mono ?_
 rintro e w44 ⟨vw44, rfl, hkw44, rfl⟩
 have Xw44 := Lib.hid (show Ext w43 w44 from hkw44)
 clear hkw44
 obtain ⟨w45, ew45⟩ : ∃ x, w44.alloc (.cells #[.string ⟨#[97]⟩, .string ⟨#[99]⟩] 9) = x := ⟨_, rfl⟩
 have Xw45 := Lib.hid (show Ext w44 w45 from by rw [<- ew45]; exact (Kp.refl w44).alloc _)
 have Sw45 := Lib.hid (show CellsAt w45 (some ⟨w44.heap.size, 0, none⟩) (strs [(⟨#[97]⟩ : ByteArray), (⟨#[99]⟩ : ByteArray)]) from by rw [<- ew45]; exact CellsAt.new w44 (strs [(⟨#[97]⟩ : ByteArray), (⟨#[99]⟩ : ByteArray)]) _)
 go_wp2_with fail
 clear ew45
 refine (same_known [(⟨#[97]⟩ : ByteArray), (⟨#[99]⟩ : ByteArray)] (ea6) (some ⟨w44.heap.size, 0, none⟩) 2 ec6 2 w45 rfl (E6.out.ext (Xw13.out.trans (Xw14.out.trans (Xw15.out.trans (Xw16.out.trans (Xw17.out.trans (Xw18.out.trans (Xw19.out.trans (Xw20.out.trans (Xw21.out.trans (Xw22.out.trans (Xw23.out.trans (Xw24.out.trans (Xw25.out.trans (Xw26.out.trans (Xw27.out.trans (Xw28.out.trans (Xw29.out.trans (Xw30.out.trans (Xw31.out.trans (Xw32.out.trans (Xw33.out.trans (Xw34.out.trans (Xw35.out.trans (Xw36.out.trans (Xw37.out.trans (Xw38.out.trans (Xw39.out.trans (Xw40.out.trans (Xw41.out.trans (Xw42.out.trans (Xw43.out.trans (Xw44.out.trans Xw45.out))))))))))))))))))))))))))))))))) (Sw45.out.ext (Kp.refl w45)) (by decide)).mono ?_
 rintro e w46 ⟨vw46, rfl, hkw46, rfl⟩
 have Xw46 := Lib.hid (show Ext w45 w46 from hkw46)
 clear hkw46
 go_wp2_with fail
 refine (num14_any 2 w46).mono ?_
 rintro e w47 ⟨vw47, rfl, hkw47, rfl⟩
 have Xw47 := Lib.hid (show Ext w46 w47 from hkw47)
 clear hkw47
 go_wp2_with fail
 refine (num14_any 0 w47).mono ?_
 rintro e w48 ⟨vw48, rfl, hkw48, rfl⟩
 have Xw48 := Lib.hid (show Ext w47 w48 from hkw48)
 clear hkw48
 go_wp2_with fail
 refine (all_known (R11.out.ext (Xw24.out.trans (Xw25.out.trans (Xw26.out.trans (Xw27.out.trans (Xw28.out.trans (Xw29.out.trans (Xw30.out.trans (Xw31.out.trans (Xw32.out.trans (Xw33.out.trans (Xw34.out.trans (Xw35.out.trans (Xw36.out.trans (Xw37.out.trans (Xw38.out.trans (Xw39.out.trans (Xw40.out.trans (Xw41.out.trans (Xw42.out.trans (Xw43.out.trans (Xw44.out.trans (Xw45.out.trans (Xw46.out.trans (Xw47.out.trans Xw48.out))))))))))))))))))))))))) 3 rfl).mono ?_
 rintro e w49 ⟨vw49, rfl, hkw49, SA18, aa18, ac18, rfl, hA18⟩
 have Xw49 := Lib.hid (show Ext w48 w49 from hkw49)
 clear hkw49
 have A18 := Lib.hid hA18
 clear hA18
 obtain ⟨w50, ew50⟩ : ∃ x, w49.alloc (.cells #[.string ⟨#[97]⟩] 9) = x := ⟨_, rfl⟩
 have Xw50 := Lib.hid (show Ext w49 w50 from by rw [<- ew50]; exact (Kp.refl w49).alloc _)
 have Sw50 := Lib.hid (show CellsAt w50 (some ⟨w49.heap.size, 0, none⟩) (strs [(⟨#[97]⟩ : ByteArray)]) from by rw [<- ew50]; exact CellsAt.new w49 (strs [(⟨#[97]⟩ : ByteArray)]) _)
 obtain ⟨w51, ew51⟩ : ∃ x, w50.alloc (.cells #[.string ⟨#[98]⟩] 9) = x := ⟨_, rfl⟩
 have Xw51 := Lib.hid (show Ext w50 w51 from by rw [<- ew51]; exact (Kp.refl w50).alloc _)
 have Sw51 := Lib.hid (show CellsAt w51 (some ⟨w50.heap.size, 0, none⟩) (strs [(⟨#[98]⟩ : ByteArray)]) from by rw [<- ew51]; exact CellsAt.new w50 (strs [(⟨#[98]⟩ : ByteArray)]) _)
 obtain ⟨w52, ew52⟩ : ∃ x, w51.alloc (.cells #[.string ⟨#[99]⟩] 9) = x := ⟨_, rfl⟩
 have Xw52 := Lib.hid (show Ext w51 w52 from by rw [<- ew52]; exact (Kp.refl w51).alloc _)
 have Sw52 := Lib.hid (show CellsAt w52 (some ⟨w51.heap.size, 0, none⟩) (strs [(⟨#[99]⟩ : ByteArray)]) from by rw [<- ew52]; exact CellsAt.new w51 (strs [(⟨#[99]⟩ : ByteArray)]) _)
 obtain ⟨w53, ew53⟩ : ∃ x, w52.alloc (.cells #[.slice (some ⟨w49.heap.size, 0, none⟩) 1 1, .slice (some ⟨w50.heap.size, 0, none⟩) 1 1, .slice (some ⟨w51.heap.size, 0, none⟩) 1 1] 34) = x := ⟨_, rfl⟩
 have Xw53 := Lib.hid (show Ext w52 w53 from by rw [<- ew53]; exact (Kp.refl w52).alloc _)
 have RL19 := Lib.hid (show RowsIn TT w53 (some ⟨w52.heap.size, 0, none⟩) [[(⟨#[97]⟩ : ByteArray)], [(⟨#[98]⟩ : ByteArray)], [(⟨#[99]⟩ : ByteArray)]] from by
  refine ⟨[(((some ⟨w49.heap.size, 0, none⟩), 1, 1), [(⟨#[97]⟩ : ByteArray)]), (((some ⟨w50.heap.size, 0, none⟩), 1, 1), [(⟨#[98]⟩ : ByteArray)]), (((some ⟨w51.heap.size, 0, none⟩), 1, 1), [(⟨#[99]⟩ : ByteArray)])], rfl, CellsAt.pre (rest := []) (e := 34) (by rw [List.append_nil, <- ew53]; exact Blk.new w52 (rowVs [(((some ⟨w49.heap.size, 0, none⟩), 1, 1), [(⟨#[97]⟩ : ByteArray)]), (((some ⟨w50.heap.size, 0, none⟩), 1, 1), [(⟨#[98]⟩ : ByteArray)]), (((some ⟨w51.heap.size, 0, none⟩), 1, 1), [(⟨#[99]⟩ : ByteArray)])]) _), fun _ _ => trivial, fun p hp => ?_⟩
  simp only [List.mem_cons, List.not_mem_nil, or_false] at hp
  rcases hp with rfl | rfl | rfl
  ·exact ⟨⟨rfl, Sw50.out.ext (Xw51.out.trans (Xw52.out.trans Xw53.out))⟩, by simp, fun _ _ => trivial⟩
  ·exact ⟨⟨rfl, Sw51.out.ext (Xw52.out.trans Xw53.out)⟩, by simp, fun _ _ => trivial⟩
  ·exact ⟨⟨rfl, Sw52.out.ext Xw53.out⟩, by simp, fun _ _ => trivial⟩)
 go_wp2_with fail
 clear ew50 ew51 ew52 ew53
 refine (alike_known [[(⟨#[97]⟩ : ByteArray)], [(⟨#[98]⟩ : ByteArray)], [(⟨#[99]⟩ : ByteArray)]] (aa18) (some ⟨w52.heap.size, 0, none⟩) 3 ac18 3 w53 rfl (A18.out.ext (Xw50.out.trans (Xw51.out.trans (Xw52.out.trans Xw53.out)))) (RL19.out.ext (Kp.refl w53)) (by decide)).mono ?_
 rintro e w54 ⟨vw54, rfl, hkw54, rfl⟩
 have Xw54 := Lib.hid (show Ext w53 w54 from hkw54)
 clear hkw54
 go_wp2_with fail
 refine (num14_any 2 w54).mono ?_
 rintro e w55 ⟨vw55, rfl, hkw55, rfl⟩
 have Xw55 := Lib.hid (show Ext w54 w55 from hkw55)
 clear hkw55
 go_wp2_with fail
 refine (num14_any 111 w55).mono ?_
 rintro e w56 ⟨vw56, rfl, hkw56, rfl⟩
 have Xw56 := Lib.hid (show Ext w55 w56 from hkw56)
 clear hkw56
 go_wp2_with fail
 refine (num14_any 1 w56).mono ?_
 rintro e w57 ⟨vw57, rfl, hkw57, rfl⟩
 have Xw57 := Lib.hid (show Ext w56 w57 from hkw57)
 clear hkw57
 go_wp2_with fail
 refine (num14_any 2 w57).mono ?_
 rintro e w58 ⟨vw58, rfl, hkw58, rfl⟩
 have Xw58 := Lib.hid (show Ext w57 w58 from hkw58)
 clear hkw58
 go_wp2_with fail
 refine (num14_any 2 w58).mono ?_
 rintro e w59 ⟨vw59, rfl, hkw59, rfl⟩
 have Xw59 := Lib.hid (show Ext w58 w59 from hkw59)
 clear hkw59
 go_wp2
 go_ret
 exact RetN.mk (Xw1.out.trans (Xw2.out.trans (Xw3.out.trans (Xw4.out.trans (Xw5.out.trans (Xw6.out.trans (Xw7.out.trans (Xw8.out.trans (Xw9.out.trans (Xw10.out.trans (Xw11.out.trans (Xw12.out.trans (Xw13.out.trans (Xw14.out.trans (Xw15.out.trans (Xw16.out.trans (Xw17.out.trans (Xw18.out.trans (Xw19.out.trans (Xw20.out.trans (Xw21.out.trans (Xw22.out.trans (Xw23.out.trans (Xw24.out.trans (Xw25.out.trans (Xw26.out.trans (Xw27.out.trans (Xw28.out.trans (Xw29.out.trans (Xw30.out.trans (Xw31.out.trans (Xw32.out.trans (Xw33.out.trans (Xw34.out.trans (Xw35.out.trans (Xw36.out.trans (Xw37.out.trans (Xw38.out.trans (Xw39.out.trans (Xw40.out.trans (Xw41.out.trans (Xw42.out.trans (Xw43.out.trans (Xw44.out.trans (Xw45.out.trans (Xw46.out.trans (Xw47.out.trans (Xw48.out.trans (Xw49.out.trans (Xw50.out.trans (Xw51.out.trans (Xw52.out.trans (Xw53.out.trans (Xw54.out.trans (Xw55.out.trans (Xw56.out.trans (Xw57.out.trans (Xw58.out.trans Xw59.out)))))))))))))))))))))))))))))))))))))))))))))))))))))))))) rfl
end Go.Proofs.YtinnmeiphbdogaaGreat

/- The law of joins: JoinKnown: the examples of the chapter. -/
namespace Go.Proofs.YtinnmeiphbdogaaGreat
open Go.RowKit Go.Shelf
set_option linter.unusedVariables false
attribute [local go_sem] Oper.semAt_some
set_option maxRecDepth 100000 in
set_option maxHeartbeats 16000000 in
theorem known14_any (w : World) : Calls Tryz.prog 5 #[] w (RetN w fun w' v => v = .bool true) := by
 go_enter Tryz.func5, Tryz.ntmps5
 go_wp2_with fail
 refine (given_any w).mono ?_
 rintro e w1 ⟨vw1, rfl, hkw1, bb, E, SS, rfl, hBv, hCv⟩
 have Xw1 := Lib.hid (show Ext w w1 from hkw1)
 clear hkw1
 have HBv := Lib.hid (And.intro hBv hCv)
 clear hBv hCv
 go_wp2_with fail
 refine (awake14_any w1).mono ?_
 rintro e w2 ⟨vw2, rfl, hkw2, rfl⟩
 have Xw2 := Lib.hid (show Ext w1 w2 from hkw2)
 clear hkw2
 go_wp2_with fail
 refine (v14_any ⟨#[89]⟩ w2).mono ?_
 rintro e w3 ⟨vw3, rfl, hkw3, rfl⟩
 have Xw3 := Lib.hid (show Ext w2 w3 from hkw3)
 clear hkw3
 go_wp2_with fail
 refine (v14_any ⟨#[88]⟩ w3).mono ?_
 rintro e w4 ⟨vw4, rfl, hkw4, rfl⟩
 have Xw4 := Lib.hid (show Ext w3 w4 from hkw4)
 clear hkw4
 go_wp2_with fail
 refine (cmp14_any 3 1 ⟨#[89]⟩ 1 ⟨#[88]⟩ w4).mono ?_
 rintro e w5 ⟨vw5, rfl, hkw5, rfl⟩
 have Xw5 := Lib.hid (show Ext w4 w5 from hkw5)
 clear hkw5
 obtain ⟨w6, ew6⟩ : ∃ x, w5.alloc (.cells #[.int .i64 3, .string ⟨#[]⟩, .slice none 0 0, .int .i64 3, .int .i64 1, .string ⟨#[89]⟩, .int .i64 1, .string ⟨#[88]⟩] 40) = x := ⟨_, rfl⟩
 have Xw6 := Lib.hid (show Ext w5 w6 from by rw [<- ew6]; exact (Kp.refl w5).alloc _)
 have L1 := Lib.hid (show LitsAt w6 TT (some ⟨w5.heap.size, 0, none⟩) [((3 : Int), ((⟨#[]⟩ : ByteArray), [], ()), (3 : Int), ((1 : Int), (⟨#[89]⟩ : ByteArray), ()), ((1 : Int), (⟨#[88]⟩ : ByteArray), ()), ())] from by
  rw [<- ew6]
  refine lits_new w5 [((3 : Int), ((⟨#[]⟩ : ByteArray), [], ()), (3 : Int), ((1 : Int), (⟨#[89]⟩ : ByteArray), ()), ((1 : Int), (⟨#[88]⟩ : ByteArray), ()), ())] [(none, 0)] rfl (by kernel_rfl) fun x hx => ?_
  simp only [List.zip_cons_cons, List.zip_nil_right, List.mem_cons, List.not_mem_nil, or_false] at hx
  rcases hx with rfl
  ·exact ⟨(terms_nil w5 none), Nat.le_refl _, (by decide : 0 ≤ maxLen)⟩)
 go_wp2_with fail
 clear ew6
 refine (path_any (ls := [((3 : Int), ((⟨#[]⟩ : ByteArray), [], ()), (3 : Int), ((1 : Int), (⟨#[89]⟩ : ByteArray), ()), ((1 : Int), (⟨#[88]⟩ : ByteArray), ()), ())]) (ma := some ⟨w5.heap.size, 0, none⟩) (mn := 1) (mc := 1) (w := w6) rfl (L1.out.ext (Kp.refl w6)) (by decide)).mono ?_
 rintro e w7 ⟨vw7, rfl, hkw7, ha2, hc2, ba2, bc2, hv2, hT2, hL2⟩
 have Xw7 := Lib.hid (show Ext w6 w7 from hkw7)
 clear hkw7
 have hv22 : vw7 = ruleV ⟨#[116]⟩ ha2 2 hc2 ba2 3 bc2 := hv2
 subst hv22
 have T2 := Lib.hid hT2
 have L2 := Lib.hid hL2
 clear hT2 hL2 hv2
 go_wp2_with fail
 refine (each_known (p := ⟨#[116]⟩) (hs := pathHs) (ls := (pathLs ++ [((3 : Int), ((⟨#[]⟩ : ByteArray), [], ()), (3 : Int), ((1 : Int), (⟨#[89]⟩ : ByteArray), ()), ((1 : Int), (⟨#[88]⟩ : ByteArray), ()), ())])) (ha := ha2) (ba := ba2) (hn := 2) (hcap := hc2) (n := 3) (bcap := bc2) rfl (T2.out.ext (Kp.refl w7)) (by decide) rfl (L2.out.ext (Kp.refl w7)) (fit_of (by kernel_rfl)) (few_of (by kernel_rfl)) (by decide) (HBv.out.1.ext (Xw2.out.trans (Xw3.out.trans (Xw4.out.trans (Xw5.out.trans (Xw6.out.trans Xw7.out)))))) HBv.out.2 [(⟨#[97, 59, 98, 59, 98, 59]⟩ : ByteArray), (⟨#[97, 59, 98, 59, 99, 59]⟩ : ByteArray), (⟨#[98, 59, 98, 59, 99, 59]⟩ : ByteArray)] 3 (by kernel_rfl) rfl (by decide)).mono ?_
 rintro e w8 ⟨vw8, rfl, hkw8, ea3, ec3, rfl, hE3⟩
 have Xw8 := Lib.hid (show Ext w7 w8 from hkw8)
 clear hkw8
 have E3 := Lib.hid hE3
 clear hE3
 obtain ⟨w9, ew9⟩ : ∃ x, w8.alloc (.cells #[.string ⟨#[97, 59, 98, 59, 98, 59]⟩, .string ⟨#[97, 59, 98, 59, 99, 59]⟩, .string ⟨#[98, 59, 98, 59, 99, 59]⟩] 9) = x := ⟨_, rfl⟩
 have Xw9 := Lib.hid (show Ext w8 w9 from by rw [<- ew9]; exact (Kp.refl w8).alloc _)
 have Sw9 := Lib.hid (show CellsAt w9 (some ⟨w8.heap.size, 0, none⟩) (strs [(⟨#[97, 59, 98, 59, 98, 59]⟩ : ByteArray), (⟨#[97, 59, 98, 59, 99, 59]⟩ : ByteArray), (⟨#[98, 59, 98, 59, 99, 59]⟩ : ByteArray)]) from by rw [<- ew9]; exact CellsAt.new w8 (strs [(⟨#[97, 59, 98, 59, 98, 59]⟩ : ByteArray), (⟨#[97, 59, 98, 59, 99, 59]⟩ : ByteArray), (⟨#[98, 59, 98, 59, 99, 59]⟩ : ByteArray)]) _)
 go_wp2_with fail
 clear ew9
 refine (same_known [(⟨#[97, 59, 98, 59, 98, 59]⟩ : ByteArray), (⟨#[97, 59, 98, 59, 99, 59]⟩ : ByteArray), (⟨#[98, 59, 98, 59, 99, 59]⟩ : ByteArray)] (ea3) (some ⟨w8.heap.size, 0, none⟩) 3 ec3 3 w9 rfl (E3.out.ext Xw9.out) (Sw9.out.ext (Kp.refl w9)) (by decide)).mono ?_
 rintro e w10 ⟨vw10, rfl, hkw10, rfl⟩
 have Xw10 := Lib.hid (show Ext w9 w10 from hkw10)
 clear hkw10
 have Zw10 := Lib.hid (Xw2.out.trans (Xw3.out.trans (Xw4.out.trans (Xw5.out.trans (Xw6.out.trans (Xw7.out.trans (Xw8.out.trans (Xw9.out.trans Xw10.out))))))))
 clear Xw2 Xw3 Xw4 Xw5 Xw6 Xw7 Xw8 Xw9 Xw10
 go_wp2_with fail
 refine (v14_any ⟨#[88]⟩ w10).mono ?_
 rintro e w11 ⟨vw11, rfl, hkw11, rfl⟩
 have Xw11 := Lib.hid (show Ext w10 w11 from hkw11)
 clear hkw11
 go_wp2_with fail
 refine (v14_any ⟨#[89]⟩ w11).mono ?_
 rintro e w12 ⟨vw12, rfl, hkw12, rfl⟩
 have Xw12 := Lib.hid (show Ext w11 w12 from hkw12)
 clear hkw12
 obtain ⟨w13, ew13⟩ : ∃ x, w12.alloc (.cells #[.int .i64 1, .string ⟨#[88]⟩, .int .i64 1, .string ⟨#[89]⟩] 38) = x := ⟨_, rfl⟩
 have Xw13 := Lib.hid (show Ext w12 w13 from by rw [<- ew13]; exact (Kp.refl w12).alloc _)
 have T4 := Lib.hid (show TermsAt w13 TT (some ⟨w12.heap.size, 0, none⟩) [((1 : Int), (⟨#[88]⟩ : ByteArray), ()), ((1 : Int), (⟨#[89]⟩ : ByteArray), ())] from by rw [<- ew13]; exact terms_new w12 [((1 : Int), (⟨#[88]⟩ : ByteArray), ()), ((1 : Int), (⟨#[89]⟩ : ByteArray), ())] (by kernel_rfl))
 go_wp2_with fail
 clear ew13
 refine (v14_any ⟨#[89]⟩ w13).mono ?_
 rintro e w14 ⟨vw14, rfl, hkw14, rfl⟩
 have Xw14 := Lib.hid (show Ext w13 w14 from hkw14)
 clear hkw14
 go_wp2_with fail
 refine (v14_any ⟨#[90]⟩ w14).mono ?_
 rintro e w15 ⟨vw15, rfl, hkw15, rfl⟩
 have Xw15 := Lib.hid (show Ext w14 w15 from hkw15)
 clear hkw15
 obtain ⟨w16, ew16⟩ : ∃ x, w15.alloc (.cells #[.int .i64 1, .string ⟨#[89]⟩, .int .i64 1, .string ⟨#[90]⟩] 38) = x := ⟨_, rfl⟩
 have Xw16 := Lib.hid (show Ext w15 w16 from by rw [<- ew16]; exact (Kp.refl w15).alloc _)
 have T5 := Lib.hid (show TermsAt w16 TT (some ⟨w15.heap.size, 0, none⟩) [((1 : Int), (⟨#[89]⟩ : ByteArray), ()), ((1 : Int), (⟨#[90]⟩ : ByteArray), ())] from by rw [<- ew16]; exact terms_new w15 [((1 : Int), (⟨#[89]⟩ : ByteArray), ()), ((1 : Int), (⟨#[90]⟩ : ByteArray), ())] (by kernel_rfl))
 go_wp2_with fail
 clear ew16
 refine (pos14_any ⟨#[101]⟩ (some ⟨w15.heap.size, 0, none⟩) 2 2 w16).mono ?_
 rintro e w17 ⟨vw17, rfl, hkw17, rfl⟩
 have Xw17 := Lib.hid (show Ext w16 w17 from hkw17)
 clear hkw17
 go_wp2_with fail
 refine (v14_any ⟨#[90]⟩ w17).mono ?_
 rintro e w18 ⟨vw18, rfl, hkw18, rfl⟩
 have Xw18 := Lib.hid (show Ext w17 w18 from hkw18)
 clear hkw18
 go_wp2_with fail
 refine (v14_any ⟨#[88]⟩ w18).mono ?_
 rintro e w19 ⟨vw19, rfl, hkw19, rfl⟩
 have Xw19 := Lib.hid (show Ext w18 w19 from hkw19)
 clear hkw19
 obtain ⟨w20, ew20⟩ : ∃ x, w19.alloc (.cells #[.int .i64 1, .string ⟨#[90]⟩, .int .i64 1, .string ⟨#[88]⟩] 38) = x := ⟨_, rfl⟩
 have Xw20 := Lib.hid (show Ext w19 w20 from by rw [<- ew20]; exact (Kp.refl w19).alloc _)
 have T6 := Lib.hid (show TermsAt w20 TT (some ⟨w19.heap.size, 0, none⟩) [((1 : Int), (⟨#[90]⟩ : ByteArray), ()), ((1 : Int), (⟨#[88]⟩ : ByteArray), ())] from by rw [<- ew20]; exact terms_new w19 [((1 : Int), (⟨#[90]⟩ : ByteArray), ()), ((1 : Int), (⟨#[88]⟩ : ByteArray), ())] (by kernel_rfl))
 go_wp2_with fail
 clear ew20
 refine (pos14_any ⟨#[101]⟩ (some ⟨w19.heap.size, 0, none⟩) 2 2 w20).mono ?_
 rintro e w21 ⟨vw21, rfl, hkw21, rfl⟩
 have Xw21 := Lib.hid (show Ext w20 w21 from hkw21)
 clear hkw21
 go_wp2_with fail
 refine (v14_any ⟨#[88]⟩ w21).mono ?_
 rintro e w22 ⟨vw22, rfl, hkw22, rfl⟩
 have Xw22 := Lib.hid (show Ext w21 w22 from hkw22)
 clear hkw22
 obtain ⟨w23, ew23⟩ : ∃ x, w22.alloc (.cells #[.int .i64 1, .string ⟨#[88]⟩] 38) = x := ⟨_, rfl⟩
 have Xw23 := Lib.hid (show Ext w22 w23 from by rw [<- ew23]; exact (Kp.refl w22).alloc _)
 have T7 := Lib.hid (show TermsAt w23 TT (some ⟨w22.heap.size, 0, none⟩) [((1 : Int), (⟨#[88]⟩ : ByteArray), ())] from by rw [<- ew23]; exact terms_new w22 [((1 : Int), (⟨#[88]⟩ : ByteArray), ())] (by kernel_rfl))
 go_wp2_with fail
 clear ew23
 refine (neg14_any ⟨#[110]⟩ (some ⟨w22.heap.size, 0, none⟩) 1 1 w23).mono ?_
 rintro e w24 ⟨vw24, rfl, hkw24, rfl⟩
 have Xw24 := Lib.hid (show Ext w23 w24 from hkw24)
 clear hkw24
 go_wp2_with fail
 refine (v14_any ⟨#[89]⟩ w24).mono ?_
 rintro e w25 ⟨vw25, rfl, hkw25, rfl⟩
 have Xw25 := Lib.hid (show Ext w24 w25 from hkw25)
 clear hkw25
 go_wp2_with fail
 refine (blank14_any w25).mono ?_
 rintro e w26 ⟨vw26, rfl, hkw26, rfl⟩
 have Xw26 := Lib.hid (show Ext w25 w26 from hkw26)
 clear hkw26
 go_wp2_with fail
 refine (cmp14_any 2 1 ⟨#[89]⟩ 2 ⟨#[]⟩ w26).mono ?_
 rintro e w27 ⟨vw27, rfl, hkw27, rfl⟩
 have Xw27 := Lib.hid (show Ext w26 w27 from hkw27)
 clear hkw27
 obtain ⟨w28, ew28⟩ : ∃ x, w27.alloc (.cells #[.int .i64 1, .string ⟨#[101]⟩, .slice (some ⟨w15.heap.size, 0, none⟩) 2 2, .int .i64 0, .int .i64 0, .string ⟨#[]⟩, .int .i64 0, .string ⟨#[]⟩, .int .i64 1, .string ⟨#[101]⟩, .slice (some ⟨w19.heap.size, 0, none⟩) 2 2, .int .i64 0, .int .i64 0, .string ⟨#[]⟩, .int .i64 0, .string ⟨#[]⟩, .int .i64 2, .string ⟨#[110]⟩, .slice (some ⟨w22.heap.size, 0, none⟩) 1 1, .int .i64 0, .int .i64 0, .string ⟨#[]⟩, .int .i64 0, .string ⟨#[]⟩, .int .i64 3, .string ⟨#[]⟩, .slice none 0 0, .int .i64 2, .int .i64 1, .string ⟨#[89]⟩, .int .i64 2, .string ⟨#[]⟩] 40) = x := ⟨_, rfl⟩
 have Xw28 := Lib.hid (show Ext w27 w28 from by rw [<- ew28]; exact (Kp.refl w27).alloc _)
 have L8 := Lib.hid (show LitsAt w28 TT (some ⟨w27.heap.size, 0, none⟩) [(((1) : Int), ((⟨#[101]⟩ : ByteArray), [((1 : Int), (⟨#[89]⟩ : ByteArray), ()), ((1 : Int), (⟨#[90]⟩ : ByteArray), ())], ()), (0 : Int), ((0 : Int), (⟨#[]⟩ : ByteArray), ()), ((0 : Int), (⟨#[]⟩ : ByteArray), ()), ()), (((1) : Int), ((⟨#[101]⟩ : ByteArray), [((1 : Int), (⟨#[90]⟩ : ByteArray), ()), ((1 : Int), (⟨#[88]⟩ : ByteArray), ())], ()), (0 : Int), ((0 : Int), (⟨#[]⟩ : ByteArray), ()), ((0 : Int), (⟨#[]⟩ : ByteArray), ()), ()), (((2) : Int), ((⟨#[110]⟩ : ByteArray), [((1 : Int), (⟨#[88]⟩ : ByteArray), ())], ()), (0 : Int), ((0 : Int), (⟨#[]⟩ : ByteArray), ()), ((0 : Int), (⟨#[]⟩ : ByteArray), ()), ()), ((3 : Int), ((⟨#[]⟩ : ByteArray), [], ()), (2 : Int), ((1 : Int), (⟨#[89]⟩ : ByteArray), ()), ((2 : Int), (⟨#[]⟩ : ByteArray), ()), ())] from by
  rw [<- ew28]
  refine lits_new w27 [(((1) : Int), ((⟨#[101]⟩ : ByteArray), [((1 : Int), (⟨#[89]⟩ : ByteArray), ()), ((1 : Int), (⟨#[90]⟩ : ByteArray), ())], ()), (0 : Int), ((0 : Int), (⟨#[]⟩ : ByteArray), ()), ((0 : Int), (⟨#[]⟩ : ByteArray), ()), ()), (((1) : Int), ((⟨#[101]⟩ : ByteArray), [((1 : Int), (⟨#[90]⟩ : ByteArray), ()), ((1 : Int), (⟨#[88]⟩ : ByteArray), ())], ()), (0 : Int), ((0 : Int), (⟨#[]⟩ : ByteArray), ()), ((0 : Int), (⟨#[]⟩ : ByteArray), ()), ()), (((2) : Int), ((⟨#[110]⟩ : ByteArray), [((1 : Int), (⟨#[88]⟩ : ByteArray), ())], ()), (0 : Int), ((0 : Int), (⟨#[]⟩ : ByteArray), ()), ((0 : Int), (⟨#[]⟩ : ByteArray), ()), ()), ((3 : Int), ((⟨#[]⟩ : ByteArray), [], ()), (2 : Int), ((1 : Int), (⟨#[89]⟩ : ByteArray), ()), ((2 : Int), (⟨#[]⟩ : ByteArray), ()), ())] [(some ⟨w15.heap.size, 0, none⟩, 2), (some ⟨w19.heap.size, 0, none⟩, 2), (some ⟨w22.heap.size, 0, none⟩, 1), (none, 0)] rfl (by kernel_rfl) fun x hx => ?_
  simp only [List.zip_cons_cons, List.zip_nil_right, List.mem_cons, List.not_mem_nil, or_false] at hx
  rcases hx with rfl | rfl | rfl | rfl
  ·exact ⟨(T5.out.ext (Xw17.out.trans (Xw18.out.trans (Xw19.out.trans (Xw20.out.trans (Xw21.out.trans (Xw22.out.trans (Xw23.out.trans (Xw24.out.trans (Xw25.out.trans (Xw26.out.trans Xw27.out))))))))))), Nat.le_refl _, (by decide : 2 ≤ maxLen)⟩
  ·exact ⟨(T6.out.ext (Xw21.out.trans (Xw22.out.trans (Xw23.out.trans (Xw24.out.trans (Xw25.out.trans (Xw26.out.trans Xw27.out))))))), Nat.le_refl _, (by decide : 2 ≤ maxLen)⟩
  ·exact ⟨(T7.out.ext (Xw24.out.trans (Xw25.out.trans (Xw26.out.trans Xw27.out)))), Nat.le_refl _, (by decide : 1 ≤ maxLen)⟩
  ·exact ⟨(terms_nil w27 none), Nat.le_refl _, (by decide : 0 ≤ maxLen)⟩)
 go_wp2_with fail
 clear ew28
 refine (rule14_any (some ⟨w12.heap.size, 0, none⟩) (some ⟨w27.heap.size, 0, none⟩) 2 2 4 4 w28).mono ?_
 rintro e w29 ⟨vw29, rfl, hkw29, rfl⟩
 have Xw29 := Lib.hid (show Ext w28 w29 from hkw29)
 clear hkw29
 obtain ⟨w30, ew30⟩ : ∃ x, w29.alloc (.cells #[.string ⟨#[116]⟩, .slice (some ⟨w12.heap.size, 0, none⟩) 2 2, .slice (some ⟨w27.heap.size, 0, none⟩) 4 4] 27) = x := ⟨_, rfl⟩
 have Xw30 := Lib.hid (show Ext w29 w30 from by rw [<- ew30]; exact (Kp.refl w29).alloc _)
 have B9 := Lib.hid (show Blk w30 w29.heap.size [.string ⟨#[116]⟩, .slice (some ⟨w12.heap.size, 0, none⟩) 2 2, .slice (some ⟨w27.heap.size, 0, none⟩) 4 4] 27 from by rw [<- ew30]; exact Blk.new w29 _ _)
 go_wp2_with fail
 clear ew30
 refine (v14_any ⟨#[88]⟩ w30).mono ?_
 rintro e w31 ⟨vw31, rfl, hkw31, rfl⟩
 have Xw31 := Lib.hid (show Ext w30 w31 from hkw31)
 clear hkw31
 go_wp2_with fail
 refine (v14_any ⟨#[89]⟩ w31).mono ?_
 rintro e w32 ⟨vw32, rfl, hkw32, rfl⟩
 have Xw32 := Lib.hid (show Ext w31 w32 from hkw32)
 clear hkw32
 obtain ⟨w33, ew33⟩ : ∃ x, w32.alloc (.cells #[.int .i64 1, .string ⟨#[88]⟩, .int .i64 1, .string ⟨#[89]⟩] 38) = x := ⟨_, rfl⟩
 have Xw33 := Lib.hid (show Ext w32 w33 from by rw [<- ew33]; exact (Kp.refl w32).alloc _)
 have T10 := Lib.hid (show TermsAt w33 TT (some ⟨w32.heap.size, 0, none⟩) [((1 : Int), (⟨#[88]⟩ : ByteArray), ()), ((1 : Int), (⟨#[89]⟩ : ByteArray), ())] from by rw [<- ew33]; exact terms_new w32 [((1 : Int), (⟨#[88]⟩ : ByteArray), ()), ((1 : Int), (⟨#[89]⟩ : ByteArray), ())] (by kernel_rfl))
 go_wp2_with fail
 clear ew33
 refine (v14_any ⟨#[88]⟩ w33).mono ?_
 rintro e w34 ⟨vw34, rfl, hkw34, rfl⟩
 have Xw34 := Lib.hid (show Ext w33 w34 from hkw34)
 clear hkw34
 go_wp2_with fail
 refine (v14_any ⟨#[89]⟩ w34).mono ?_
 rintro e w35 ⟨vw35, rfl, hkw35, rfl⟩
 have Xw35 := Lib.hid (show Ext w34 w35 from hkw35)
 clear hkw35
 go_wp2_with fail
 refine (cmp14_any 3 1 ⟨#[88]⟩ 1 ⟨#[89]⟩ w35).mono ?_
 rintro e w36 ⟨vw36, rfl, hkw36, rfl⟩
 have Xw36 := Lib.hid (show Ext w35 w36 from hkw36)
 clear hkw36
 go_wp2_with fail
 refine (v14_any ⟨#[89]⟩ w36).mono ?_
 rintro e w37 ⟨vw37, rfl, hkw37, rfl⟩
 have Xw37 := Lib.hid (show Ext w36 w37 from hkw37)
 clear hkw37
 go_wp2_with fail
 refine (v14_any ⟨#[90]⟩ w37).mono ?_
 rintro e w38 ⟨vw38, rfl, hkw38, rfl⟩
 have Xw38 := Lib.hid (show Ext w37 w38 from hkw38)
 clear hkw38
 obtain ⟨w39, ew39⟩ : ∃ x, w38.alloc (.cells #[.int .i64 1, .string ⟨#[89]⟩, .int .i64 1, .string ⟨#[90]⟩] 38) = x := ⟨_, rfl⟩
 have Xw39 := Lib.hid (show Ext w38 w39 from by rw [<- ew39]; exact (Kp.refl w38).alloc _)
 have T11 := Lib.hid (show TermsAt w39 TT (some ⟨w38.heap.size, 0, none⟩) [((1 : Int), (⟨#[89]⟩ : ByteArray), ()), ((1 : Int), (⟨#[90]⟩ : ByteArray), ())] from by rw [<- ew39]; exact terms_new w38 [((1 : Int), (⟨#[89]⟩ : ByteArray), ()), ((1 : Int), (⟨#[90]⟩ : ByteArray), ())] (by kernel_rfl))
 go_wp2_with fail
 clear ew39
 refine (pos14_any ⟨#[101]⟩ (some ⟨w38.heap.size, 0, none⟩) 2 2 w39).mono ?_
 rintro e w40 ⟨vw40, rfl, hkw40, rfl⟩
 have Xw40 := Lib.hid (show Ext w39 w40 from hkw40)
 clear hkw40
 go_wp2_with fail
 refine (v14_any ⟨#[90]⟩ w40).mono ?_
 rintro e w41 ⟨vw41, rfl, hkw41, rfl⟩
 have Xw41 := Lib.hid (show Ext w40 w41 from hkw41)
 clear hkw41
 go_wp2_with fail
 refine (v14_any ⟨#[88]⟩ w41).mono ?_
 rintro e w42 ⟨vw42, rfl, hkw42, rfl⟩
 have Xw42 := Lib.hid (show Ext w41 w42 from hkw42)
 clear hkw42
 obtain ⟨w43, ew43⟩ : ∃ x, w42.alloc (.cells #[.int .i64 1, .string ⟨#[90]⟩, .int .i64 1, .string ⟨#[88]⟩] 38) = x := ⟨_, rfl⟩
 have Xw43 := Lib.hid (show Ext w42 w43 from by rw [<- ew43]; exact (Kp.refl w42).alloc _)
 have T12 := Lib.hid (show TermsAt w43 TT (some ⟨w42.heap.size, 0, none⟩) [((1 : Int), (⟨#[90]⟩ : ByteArray), ()), ((1 : Int), (⟨#[88]⟩ : ByteArray), ())] from by rw [<- ew43]; exact terms_new w42 [((1 : Int), (⟨#[90]⟩ : ByteArray), ()), ((1 : Int), (⟨#[88]⟩ : ByteArray), ())] (by kernel_rfl))
 go_wp2_with fail
 clear ew43
 refine (pos14_any ⟨#[101]⟩ (some ⟨w42.heap.size, 0, none⟩) 2 2 w43).mono ?_
 rintro e w44 ⟨vw44, rfl, hkw44, rfl⟩
 have Xw44 := Lib.hid (show Ext w43 w44 from hkw44)
 clear hkw44
 obtain ⟨w45, ew45⟩ : ∃ x, w44.alloc (.cells #[.int .i64 3, .string ⟨#[]⟩, .slice none 0 0, .int .i64 3, .int .i64 1, .string ⟨#[88]⟩, .int .i64 1, .string ⟨#[89]⟩, .int .i64 1, .string ⟨#[101]⟩, .slice (some ⟨w38.heap.size, 0, none⟩) 2 2, .int .i64 0, .int .i64 0, .string ⟨#[]⟩, .int .i64 0, .string ⟨#[]⟩, .int .i64 1, .string ⟨#[101]⟩, .slice (some ⟨w42.heap.size, 0, none⟩) 2 2, .int .i64 0, .int .i64 0, .string ⟨#[]⟩, .int .i64 0, .string ⟨#[]⟩] 40) = x := ⟨_, rfl⟩
 have Xw45 := Lib.hid (show Ext w44 w45 from by rw [<- ew45]; exact (Kp.refl w44).alloc _)
 have L13 := Lib.hid (show LitsAt w45 TT (some ⟨w44.heap.size, 0, none⟩) [((3 : Int), ((⟨#[]⟩ : ByteArray), [], ()), (3 : Int), ((1 : Int), (⟨#[88]⟩ : ByteArray), ()), ((1 : Int), (⟨#[89]⟩ : ByteArray), ()), ()), (((1) : Int), ((⟨#[101]⟩ : ByteArray), [((1 : Int), (⟨#[89]⟩ : ByteArray), ()), ((1 : Int), (⟨#[90]⟩ : ByteArray), ())], ()), (0 : Int), ((0 : Int), (⟨#[]⟩ : ByteArray), ()), ((0 : Int), (⟨#[]⟩ : ByteArray), ()), ()), (((1) : Int), ((⟨#[101]⟩ : ByteArray), [((1 : Int), (⟨#[90]⟩ : ByteArray), ()), ((1 : Int), (⟨#[88]⟩ : ByteArray), ())], ()), (0 : Int), ((0 : Int), (⟨#[]⟩ : ByteArray), ()), ((0 : Int), (⟨#[]⟩ : ByteArray), ()), ())] from by
  rw [<- ew45]
  refine lits_new w44 [((3 : Int), ((⟨#[]⟩ : ByteArray), [], ()), (3 : Int), ((1 : Int), (⟨#[88]⟩ : ByteArray), ()), ((1 : Int), (⟨#[89]⟩ : ByteArray), ()), ()), (((1) : Int), ((⟨#[101]⟩ : ByteArray), [((1 : Int), (⟨#[89]⟩ : ByteArray), ()), ((1 : Int), (⟨#[90]⟩ : ByteArray), ())], ()), (0 : Int), ((0 : Int), (⟨#[]⟩ : ByteArray), ()), ((0 : Int), (⟨#[]⟩ : ByteArray), ()), ()), (((1) : Int), ((⟨#[101]⟩ : ByteArray), [((1 : Int), (⟨#[90]⟩ : ByteArray), ()), ((1 : Int), (⟨#[88]⟩ : ByteArray), ())], ()), (0 : Int), ((0 : Int), (⟨#[]⟩ : ByteArray), ()), ((0 : Int), (⟨#[]⟩ : ByteArray), ()), ())] [(none, 0), (some ⟨w38.heap.size, 0, none⟩, 2), (some ⟨w42.heap.size, 0, none⟩, 2)] rfl (by kernel_rfl) fun x hx => ?_
  simp only [List.zip_cons_cons, List.zip_nil_right, List.mem_cons, List.not_mem_nil, or_false] at hx
  rcases hx with rfl | rfl | rfl
  ·exact ⟨(terms_nil w44 none), Nat.le_refl _, (by decide : 0 ≤ maxLen)⟩
  ·exact ⟨(T11.out.ext (Xw40.out.trans (Xw41.out.trans (Xw42.out.trans (Xw43.out.trans Xw44.out))))), Nat.le_refl _, (by decide : 2 ≤ maxLen)⟩
  ·exact ⟨(T12.out.ext Xw44.out), Nat.le_refl _, (by decide : 2 ≤ maxLen)⟩)
 go_wp2_with fail
 clear ew45
 refine (rule14_any (some ⟨w32.heap.size, 0, none⟩) (some ⟨w44.heap.size, 0, none⟩) 2 2 3 3 w45).mono ?_
 rintro e w46 ⟨vw46, rfl, hkw46, rfl⟩
 have Xw46 := Lib.hid (show Ext w45 w46 from hkw46)
 clear hkw46
 obtain ⟨w47, ew47⟩ : ∃ x, w46.alloc (.cells #[.string ⟨#[116]⟩, .slice (some ⟨w32.heap.size, 0, none⟩) 2 2, .slice (some ⟨w44.heap.size, 0, none⟩) 3 3] 27) = x := ⟨_, rfl⟩
 have Xw47 := Lib.hid (show Ext w46 w47 from by rw [<- ew47]; exact (Kp.refl w46).alloc _)
 have B14 := Lib.hid (show Blk w47 w46.heap.size [.string ⟨#[116]⟩, .slice (some ⟨w32.heap.size, 0, none⟩) 2 2, .slice (some ⟨w44.heap.size, 0, none⟩) 3 3] 27 from by rw [<- ew47]; exact Blk.new w46 _ _)
 have q15_0 : w47.cell? ⟨w29.heap.size, 0, none⟩ = some (.string ⟨#[116]⟩) := by rw [(B9.out.ext (Xw31.out.trans (Xw32.out.trans (Xw33.out.trans (Xw34.out.trans (Xw35.out.trans (Xw36.out.trans (Xw37.out.trans (Xw38.out.trans (Xw39.out.trans (Xw40.out.trans (Xw41.out.trans (Xw42.out.trans (Xw43.out.trans (Xw44.out.trans (Xw45.out.trans (Xw46.out.trans Xw47.out))))))))))))))))).cell']; rfl
 have q15_1 : w47.cell? ⟨w29.heap.size, 1, none⟩ = some (.slice (some ⟨w12.heap.size, 0, none⟩) 2 2) := by rw [(B9.out.ext (Xw31.out.trans (Xw32.out.trans (Xw33.out.trans (Xw34.out.trans (Xw35.out.trans (Xw36.out.trans (Xw37.out.trans (Xw38.out.trans (Xw39.out.trans (Xw40.out.trans (Xw41.out.trans (Xw42.out.trans (Xw43.out.trans (Xw44.out.trans (Xw45.out.trans (Xw46.out.trans Xw47.out))))))))))))))))).cell']; rfl
 have q15_2 : w47.cell? ⟨w29.heap.size, 2, none⟩ = some (.slice (some ⟨w27.heap.size, 0, none⟩) 4 4) := by rw [(B9.out.ext (Xw31.out.trans (Xw32.out.trans (Xw33.out.trans (Xw34.out.trans (Xw35.out.trans (Xw36.out.trans (Xw37.out.trans (Xw38.out.trans (Xw39.out.trans (Xw40.out.trans (Xw41.out.trans (Xw42.out.trans (Xw43.out.trans (Xw44.out.trans (Xw45.out.trans (Xw46.out.trans Xw47.out))))))))))))))))).cell']; rfl
 go_wp2_with fail
 clear ew47 q15_0 q15_1 q15_2
 refine (check_known (p := ⟨#[116]⟩) (hs := [((1 : Int), (⟨#[88]⟩ : ByteArray), ()), ((1 : Int), (⟨#[89]⟩ : ByteArray), ())]) (ls := [(((1) : Int), ((⟨#[101]⟩ : ByteArray), [((1 : Int), (⟨#[89]⟩ : ByteArray), ()), ((1 : Int), (⟨#[90]⟩ : ByteArray), ())], ()), (0 : Int), ((0 : Int), (⟨#[]⟩ : ByteArray), ()), ((0 : Int), (⟨#[]⟩ : ByteArray), ()), ()), (((1) : Int), ((⟨#[101]⟩ : ByteArray), [((1 : Int), (⟨#[90]⟩ : ByteArray), ()), ((1 : Int), (⟨#[88]⟩ : ByteArray), ())], ()), (0 : Int), ((0 : Int), (⟨#[]⟩ : ByteArray), ()), ((0 : Int), (⟨#[]⟩ : ByteArray), ()), ()), (((2) : Int), ((⟨#[110]⟩ : ByteArray), [((1 : Int), (⟨#[88]⟩ : ByteArray), ())], ()), (0 : Int), ((0 : Int), (⟨#[]⟩ : ByteArray), ()), ((0 : Int), (⟨#[]⟩ : ByteArray), ()), ()), ((3 : Int), ((⟨#[]⟩ : ByteArray), [], ()), (2 : Int), ((1 : Int), (⟨#[89]⟩ : ByteArray), ()), ((2 : Int), (⟨#[]⟩ : ByteArray), ()), ())]) (ha := some ⟨w12.heap.size, 0, none⟩) (ba := some ⟨w27.heap.size, 0, none⟩) (hn := 2) (hcap := 2) (n := 4) (bcap := 4) rfl (T4.out.ext (Xw14.out.trans (Xw15.out.trans (Xw16.out.trans (Xw17.out.trans (Xw18.out.trans (Xw19.out.trans (Xw20.out.trans (Xw21.out.trans (Xw22.out.trans (Xw23.out.trans (Xw24.out.trans (Xw25.out.trans (Xw26.out.trans (Xw27.out.trans (Xw28.out.trans (Xw29.out.trans (Xw30.out.trans (Xw31.out.trans (Xw32.out.trans (Xw33.out.trans (Xw34.out.trans (Xw35.out.trans (Xw36.out.trans (Xw37.out.trans (Xw38.out.trans (Xw39.out.trans (Xw40.out.trans (Xw41.out.trans (Xw42.out.trans (Xw43.out.trans (Xw44.out.trans (Xw45.out.trans (Xw46.out.trans Xw47.out)))))))))))))))))))))))))))))))))) (by decide) rfl (L8.out.ext (Xw29.out.trans (Xw30.out.trans (Xw31.out.trans (Xw32.out.trans (Xw33.out.trans (Xw34.out.trans (Xw35.out.trans (Xw36.out.trans (Xw37.out.trans (Xw38.out.trans (Xw39.out.trans (Xw40.out.trans (Xw41.out.trans (Xw42.out.trans (Xw43.out.trans (Xw44.out.trans (Xw45.out.trans (Xw46.out.trans Xw47.out))))))))))))))))))) (fit_of (by kernel_rfl)) 111 (by kernel_rfl)).mono ?_
 rintro e w48 ⟨vw48, rfl, hkw48, rfl⟩
 have Xw48 := Lib.hid (show Ext w47 w48 from hkw48)
 clear hkw48
 have q16_0 : w48.cell? ⟨w46.heap.size, 0, none⟩ = some (.string ⟨#[116]⟩) := by rw [(B14.out.ext Xw48.out).cell']; rfl
 have q16_1 : w48.cell? ⟨w46.heap.size, 1, none⟩ = some (.slice (some ⟨w32.heap.size, 0, none⟩) 2 2) := by rw [(B14.out.ext Xw48.out).cell']; rfl
 have q16_2 : w48.cell? ⟨w46.heap.size, 2, none⟩ = some (.slice (some ⟨w44.heap.size, 0, none⟩) 3 3) := by rw [(B14.out.ext Xw48.out).cell']; rfl
 go_wp2_with fail
 clear q16_0 q16_1 q16_2
 refine (check_known (p := ⟨#[116]⟩) (hs := [((1 : Int), (⟨#[88]⟩ : ByteArray), ()), ((1 : Int), (⟨#[89]⟩ : ByteArray), ())]) (ls := [((3 : Int), ((⟨#[]⟩ : ByteArray), [], ()), (3 : Int), ((1 : Int), (⟨#[88]⟩ : ByteArray), ()), ((1 : Int), (⟨#[89]⟩ : ByteArray), ()), ()), (((1) : Int), ((⟨#[101]⟩ : ByteArray), [((1 : Int), (⟨#[89]⟩ : ByteArray), ()), ((1 : Int), (⟨#[90]⟩ : ByteArray), ())], ()), (0 : Int), ((0 : Int), (⟨#[]⟩ : ByteArray), ()), ((0 : Int), (⟨#[]⟩ : ByteArray), ()), ()), (((1) : Int), ((⟨#[101]⟩ : ByteArray), [((1 : Int), (⟨#[90]⟩ : ByteArray), ()), ((1 : Int), (⟨#[88]⟩ : ByteArray), ())], ()), (0 : Int), ((0 : Int), (⟨#[]⟩ : ByteArray), ()), ((0 : Int), (⟨#[]⟩ : ByteArray), ()), ())]) (ha := some ⟨w32.heap.size, 0, none⟩) (ba := some ⟨w44.heap.size, 0, none⟩) (hn := 2) (hcap := 2) (n := 3) (bcap := 3) rfl (T10.out.ext (Xw34.out.trans (Xw35.out.trans (Xw36.out.trans (Xw37.out.trans (Xw38.out.trans (Xw39.out.trans (Xw40.out.trans (Xw41.out.trans (Xw42.out.trans (Xw43.out.trans (Xw44.out.trans (Xw45.out.trans (Xw46.out.trans (Xw47.out.trans Xw48.out))))))))))))))) (by decide) rfl (L13.out.ext (Xw46.out.trans (Xw47.out.trans Xw48.out))) (fit_of (by kernel_rfl)) 0 (by kernel_rfl)).mono ?_
 rintro e w49 ⟨vw49, rfl, hkw49, rfl⟩
 have Xw49 := Lib.hid (show Ext w48 w49 from hkw49)
 clear hkw49
 go_wp2_with fail
 refine (num14_any 111 w49).mono ?_
 rintro e w50 ⟨vw50, rfl, hkw50, rfl⟩
 have Xw50 := Lib.hid (show Ext w49 w50 from hkw50)
 clear hkw50
 have q17_0 : w50.cell? ⟨w29.heap.size, 0, none⟩ = some (.string ⟨#[116]⟩) := by rw [(B9.out.ext (Xw31.out.trans (Xw32.out.trans (Xw33.out.trans (Xw34.out.trans (Xw35.out.trans (Xw36.out.trans (Xw37.out.trans (Xw38.out.trans (Xw39.out.trans (Xw40.out.trans (Xw41.out.trans (Xw42.out.trans (Xw43.out.trans (Xw44.out.trans (Xw45.out.trans (Xw46.out.trans (Xw47.out.trans (Xw48.out.trans (Xw49.out.trans Xw50.out)))))))))))))))))))).cell']; rfl
 have q17_1 : w50.cell? ⟨w29.heap.size, 1, none⟩ = some (.slice (some ⟨w12.heap.size, 0, none⟩) 2 2) := by rw [(B9.out.ext (Xw31.out.trans (Xw32.out.trans (Xw33.out.trans (Xw34.out.trans (Xw35.out.trans (Xw36.out.trans (Xw37.out.trans (Xw38.out.trans (Xw39.out.trans (Xw40.out.trans (Xw41.out.trans (Xw42.out.trans (Xw43.out.trans (Xw44.out.trans (Xw45.out.trans (Xw46.out.trans (Xw47.out.trans (Xw48.out.trans (Xw49.out.trans Xw50.out)))))))))))))))))))).cell']; rfl
 have q17_2 : w50.cell? ⟨w29.heap.size, 2, none⟩ = some (.slice (some ⟨w27.heap.size, 0, none⟩) 4 4) := by rw [(B9.out.ext (Xw31.out.trans (Xw32.out.trans (Xw33.out.trans (Xw34.out.trans (Xw35.out.trans (Xw36.out.trans (Xw37.out.trans (Xw38.out.trans (Xw39.out.trans (Xw40.out.trans (Xw41.out.trans (Xw42.out.trans (Xw43.out.trans (Xw44.out.trans (Xw45.out.trans (Xw46.out.trans (Xw47.out.trans (Xw48.out.trans (Xw49.out.trans Xw50.out)))))))))))))))))))).cell']; rfl
 go_wp2_with fail
 clear q17_0 q17_1 q17_2
 refine (vars_known (p := ⟨#[116]⟩) (hs := [((1 : Int), (⟨#[88]⟩ : ByteArray), ()), ((1 : Int), (⟨#[89]⟩ : ByteArray), ())]) (ls := [(((1) : Int), ((⟨#[101]⟩ : ByteArray), [((1 : Int), (⟨#[89]⟩ : ByteArray), ()), ((1 : Int), (⟨#[90]⟩ : ByteArray), ())], ()), (0 : Int), ((0 : Int), (⟨#[]⟩ : ByteArray), ()), ((0 : Int), (⟨#[]⟩ : ByteArray), ()), ()), (((1) : Int), ((⟨#[101]⟩ : ByteArray), [((1 : Int), (⟨#[90]⟩ : ByteArray), ()), ((1 : Int), (⟨#[88]⟩ : ByteArray), ())], ()), (0 : Int), ((0 : Int), (⟨#[]⟩ : ByteArray), ()), ((0 : Int), (⟨#[]⟩ : ByteArray), ()), ()), (((2) : Int), ((⟨#[110]⟩ : ByteArray), [((1 : Int), (⟨#[88]⟩ : ByteArray), ())], ()), (0 : Int), ((0 : Int), (⟨#[]⟩ : ByteArray), ()), ((0 : Int), (⟨#[]⟩ : ByteArray), ()), ()), ((3 : Int), ((⟨#[]⟩ : ByteArray), [], ()), (2 : Int), ((1 : Int), (⟨#[89]⟩ : ByteArray), ()), ((2 : Int), (⟨#[]⟩ : ByteArray), ()), ())]) (ha := some ⟨w12.heap.size, 0, none⟩) (ba := some ⟨w27.heap.size, 0, none⟩) (hn := 2) (hcap := 2) (n := 4) (bcap := 4) rfl (T4.out.ext (Xw14.out.trans (Xw15.out.trans (Xw16.out.trans (Xw17.out.trans (Xw18.out.trans (Xw19.out.trans (Xw20.out.trans (Xw21.out.trans (Xw22.out.trans (Xw23.out.trans (Xw24.out.trans (Xw25.out.trans (Xw26.out.trans (Xw27.out.trans (Xw28.out.trans (Xw29.out.trans (Xw30.out.trans (Xw31.out.trans (Xw32.out.trans (Xw33.out.trans (Xw34.out.trans (Xw35.out.trans (Xw36.out.trans (Xw37.out.trans (Xw38.out.trans (Xw39.out.trans (Xw40.out.trans (Xw41.out.trans (Xw42.out.trans (Xw43.out.trans (Xw44.out.trans (Xw45.out.trans (Xw46.out.trans (Xw47.out.trans (Xw48.out.trans (Xw49.out.trans Xw50.out))))))))))))))))))))))))))))))))))))) (by decide) rfl (L8.out.ext (Xw29.out.trans (Xw30.out.trans (Xw31.out.trans (Xw32.out.trans (Xw33.out.trans (Xw34.out.trans (Xw35.out.trans (Xw36.out.trans (Xw37.out.trans (Xw38.out.trans (Xw39.out.trans (Xw40.out.trans (Xw41.out.trans (Xw42.out.trans (Xw43.out.trans (Xw44.out.trans (Xw45.out.trans (Xw46.out.trans (Xw47.out.trans (Xw48.out.trans (Xw49.out.trans Xw50.out)))))))))))))))))))))) (fit_of (by kernel_rfl)) [] 0 (by kernel_rfl) rfl).mono ?_
 rintro e w51 ⟨vw51, rfl, hkw51, ea18, ec18, rfl, hE18⟩
 have Xw51 := Lib.hid (show Ext w50 w51 from hkw51)
 clear hkw51
 have E18 := Lib.hid hE18
 clear hE18
 go_wp2_with fail
 refine (num14_any 0 w51).mono ?_
 rintro e w52 ⟨vw52, rfl, hkw52, rfl⟩
 have Xw52 := Lib.hid (show Ext w51 w52 from hkw52)
 clear hkw52
 have q19_0 : w52.cell? ⟨w46.heap.size, 0, none⟩ = some (.string ⟨#[116]⟩) := by rw [(B14.out.ext (Xw48.out.trans (Xw49.out.trans (Xw50.out.trans (Xw51.out.trans Xw52.out))))).cell']; rfl
 have q19_1 : w52.cell? ⟨w46.heap.size, 1, none⟩ = some (.slice (some ⟨w32.heap.size, 0, none⟩) 2 2) := by rw [(B14.out.ext (Xw48.out.trans (Xw49.out.trans (Xw50.out.trans (Xw51.out.trans Xw52.out))))).cell']; rfl
 have q19_2 : w52.cell? ⟨w46.heap.size, 2, none⟩ = some (.slice (some ⟨w44.heap.size, 0, none⟩) 3 3) := by rw [(B14.out.ext (Xw48.out.trans (Xw49.out.trans (Xw50.out.trans (Xw51.out.trans Xw52.out))))).cell']; rfl
 go_wp2_with fail
 clear q19_0 q19_1 q19_2
 refine (vars_known (p := ⟨#[116]⟩) (hs := [((1 : Int), (⟨#[88]⟩ : ByteArray), ()), ((1 : Int), (⟨#[89]⟩ : ByteArray), ())]) (ls := [((3 : Int), ((⟨#[]⟩ : ByteArray), [], ()), (3 : Int), ((1 : Int), (⟨#[88]⟩ : ByteArray), ()), ((1 : Int), (⟨#[89]⟩ : ByteArray), ()), ()), (((1) : Int), ((⟨#[101]⟩ : ByteArray), [((1 : Int), (⟨#[89]⟩ : ByteArray), ()), ((1 : Int), (⟨#[90]⟩ : ByteArray), ())], ()), (0 : Int), ((0 : Int), (⟨#[]⟩ : ByteArray), ()), ((0 : Int), (⟨#[]⟩ : ByteArray), ()), ()), (((1) : Int), ((⟨#[101]⟩ : ByteArray), [((1 : Int), (⟨#[90]⟩ : ByteArray), ()), ((1 : Int), (⟨#[88]⟩ : ByteArray), ())], ()), (0 : Int), ((0 : Int), (⟨#[]⟩ : ByteArray), ()), ((0 : Int), (⟨#[]⟩ : ByteArray), ()), ())]) (ha := some ⟨w32.heap.size, 0, none⟩) (ba := some ⟨w44.heap.size, 0, none⟩) (hn := 2) (hcap := 2) (n := 3) (bcap := 3) rfl (T10.out.ext (Xw34.out.trans (Xw35.out.trans (Xw36.out.trans (Xw37.out.trans (Xw38.out.trans (Xw39.out.trans (Xw40.out.trans (Xw41.out.trans (Xw42.out.trans (Xw43.out.trans (Xw44.out.trans (Xw45.out.trans (Xw46.out.trans (Xw47.out.trans (Xw48.out.trans (Xw49.out.trans (Xw50.out.trans (Xw51.out.trans Xw52.out))))))))))))))))))) (by decide) rfl (L13.out.ext (Xw46.out.trans (Xw47.out.trans (Xw48.out.trans (Xw49.out.trans (Xw50.out.trans (Xw51.out.trans Xw52.out))))))) (fit_of (by kernel_rfl)) [(⟨#[89]⟩ : ByteArray), (⟨#[90]⟩ : ByteArray), (⟨#[88]⟩ : ByteArray)] 3 (by kernel_rfl) rfl).mono ?_
 rintro e w53 ⟨vw53, rfl, hkw53, ea20, ec20, rfl, hE20⟩
 have Xw53 := Lib.hid (show Ext w52 w53 from hkw53)
 clear hkw53
 have E20 := Lib.hid hE20
 clear hE20
 obtain ⟨w54, ew54⟩ : ∃ x, w53.alloc (.cells #[.string ⟨#[89]⟩, .string ⟨#[90]⟩, .string ⟨#[88]⟩] 9) = x := ⟨_, rfl⟩
 have Xw54 := Lib.hid (show Ext w53 w54 from by rw [<- ew54]; exact (Kp.refl w53).alloc _)
 have Sw54 := Lib.hid (show CellsAt w54 (some ⟨w53.heap.size, 0, none⟩) (strs [(⟨#[89]⟩ : ByteArray), (⟨#[90]⟩ : ByteArray), (⟨#[88]⟩ : ByteArray)]) from by rw [<- ew54]; exact CellsAt.new w53 (strs [(⟨#[89]⟩ : ByteArray), (⟨#[90]⟩ : ByteArray), (⟨#[88]⟩ : ByteArray)]) _)
 go_wp2_with fail
 clear ew54
 refine (same_known [(⟨#[89]⟩ : ByteArray), (⟨#[90]⟩ : ByteArray), (⟨#[88]⟩ : ByteArray)] (ea20) (some ⟨w53.heap.size, 0, none⟩) 3 ec20 3 w54 rfl (E20.out.ext Xw54.out) (Sw54.out.ext (Kp.refl w54)) (by decide)).mono ?_
 rintro e w55 ⟨vw55, rfl, hkw55, rfl⟩
 have Xw55 := Lib.hid (show Ext w54 w55 from hkw55)
 clear hkw55
 have q21_0 : w55.cell? ⟨w29.heap.size, 0, none⟩ = some (.string ⟨#[116]⟩) := by rw [(B9.out.ext (Xw31.out.trans (Xw32.out.trans (Xw33.out.trans (Xw34.out.trans (Xw35.out.trans (Xw36.out.trans (Xw37.out.trans (Xw38.out.trans (Xw39.out.trans (Xw40.out.trans (Xw41.out.trans (Xw42.out.trans (Xw43.out.trans (Xw44.out.trans (Xw45.out.trans (Xw46.out.trans (Xw47.out.trans (Xw48.out.trans (Xw49.out.trans (Xw50.out.trans (Xw51.out.trans (Xw52.out.trans (Xw53.out.trans (Xw54.out.trans Xw55.out))))))))))))))))))))))))).cell']; rfl
 have q21_1 : w55.cell? ⟨w29.heap.size, 1, none⟩ = some (.slice (some ⟨w12.heap.size, 0, none⟩) 2 2) := by rw [(B9.out.ext (Xw31.out.trans (Xw32.out.trans (Xw33.out.trans (Xw34.out.trans (Xw35.out.trans (Xw36.out.trans (Xw37.out.trans (Xw38.out.trans (Xw39.out.trans (Xw40.out.trans (Xw41.out.trans (Xw42.out.trans (Xw43.out.trans (Xw44.out.trans (Xw45.out.trans (Xw46.out.trans (Xw47.out.trans (Xw48.out.trans (Xw49.out.trans (Xw50.out.trans (Xw51.out.trans (Xw52.out.trans (Xw53.out.trans (Xw54.out.trans Xw55.out))))))))))))))))))))))))).cell']; rfl
 have q21_2 : w55.cell? ⟨w29.heap.size, 2, none⟩ = some (.slice (some ⟨w27.heap.size, 0, none⟩) 4 4) := by rw [(B9.out.ext (Xw31.out.trans (Xw32.out.trans (Xw33.out.trans (Xw34.out.trans (Xw35.out.trans (Xw36.out.trans (Xw37.out.trans (Xw38.out.trans (Xw39.out.trans (Xw40.out.trans (Xw41.out.trans (Xw42.out.trans (Xw43.out.trans (Xw44.out.trans (Xw45.out.trans (Xw46.out.trans (Xw47.out.trans (Xw48.out.trans (Xw49.out.trans (Xw50.out.trans (Xw51.out.trans (Xw52.out.trans (Xw53.out.trans (Xw54.out.trans Xw55.out))))))))))))))))))))))))).cell']; rfl
 go_wp2_with fail
 clear q21_0 q21_1 q21_2
 refine (each_known (p := ⟨#[116]⟩) (hs := [((1 : Int), (⟨#[88]⟩ : ByteArray), ()), ((1 : Int), (⟨#[89]⟩ : ByteArray), ())]) (ls := [(((1) : Int), ((⟨#[101]⟩ : ByteArray), [((1 : Int), (⟨#[89]⟩ : ByteArray), ()), ((1 : Int), (⟨#[90]⟩ : ByteArray), ())], ()), (0 : Int), ((0 : Int), (⟨#[]⟩ : ByteArray), ()), ((0 : Int), (⟨#[]⟩ : ByteArray), ()), ()), (((1) : Int), ((⟨#[101]⟩ : ByteArray), [((1 : Int), (⟨#[90]⟩ : ByteArray), ()), ((1 : Int), (⟨#[88]⟩ : ByteArray), ())], ()), (0 : Int), ((0 : Int), (⟨#[]⟩ : ByteArray), ()), ((0 : Int), (⟨#[]⟩ : ByteArray), ()), ()), (((2) : Int), ((⟨#[110]⟩ : ByteArray), [((1 : Int), (⟨#[88]⟩ : ByteArray), ())], ()), (0 : Int), ((0 : Int), (⟨#[]⟩ : ByteArray), ()), ((0 : Int), (⟨#[]⟩ : ByteArray), ()), ()), ((3 : Int), ((⟨#[]⟩ : ByteArray), [], ()), (2 : Int), ((1 : Int), (⟨#[89]⟩ : ByteArray), ()), ((2 : Int), (⟨#[]⟩ : ByteArray), ()), ())]) (ha := some ⟨w12.heap.size, 0, none⟩) (ba := some ⟨w27.heap.size, 0, none⟩) (hn := 2) (hcap := 2) (n := 4) (bcap := 4) rfl (T4.out.ext (Xw14.out.trans (Xw15.out.trans (Xw16.out.trans (Xw17.out.trans (Xw18.out.trans (Xw19.out.trans (Xw20.out.trans (Xw21.out.trans (Xw22.out.trans (Xw23.out.trans (Xw24.out.trans (Xw25.out.trans (Xw26.out.trans (Xw27.out.trans (Xw28.out.trans (Xw29.out.trans (Xw30.out.trans (Xw31.out.trans (Xw32.out.trans (Xw33.out.trans (Xw34.out.trans (Xw35.out.trans (Xw36.out.trans (Xw37.out.trans (Xw38.out.trans (Xw39.out.trans (Xw40.out.trans (Xw41.out.trans (Xw42.out.trans (Xw43.out.trans (Xw44.out.trans (Xw45.out.trans (Xw46.out.trans (Xw47.out.trans (Xw48.out.trans (Xw49.out.trans (Xw50.out.trans (Xw51.out.trans (Xw52.out.trans (Xw53.out.trans (Xw54.out.trans Xw55.out)))))))))))))))))))))))))))))))))))))))))) (by decide) rfl (L8.out.ext (Xw29.out.trans (Xw30.out.trans (Xw31.out.trans (Xw32.out.trans (Xw33.out.trans (Xw34.out.trans (Xw35.out.trans (Xw36.out.trans (Xw37.out.trans (Xw38.out.trans (Xw39.out.trans (Xw40.out.trans (Xw41.out.trans (Xw42.out.trans (Xw43.out.trans (Xw44.out.trans (Xw45.out.trans (Xw46.out.trans (Xw47.out.trans (Xw48.out.trans (Xw49.out.trans (Xw50.out.trans (Xw51.out.trans (Xw52.out.trans (Xw53.out.trans (Xw54.out.trans Xw55.out))))))))))))))))))))))))))) (fit_of (by kernel_rfl)) (few_of (by kernel_rfl)) (by decide) (HBv.out.1.ext (Zw10.out.trans (Xw11.out.trans (Xw12.out.trans (Xw13.out.trans (Xw14.out.trans (Xw15.out.trans (Xw16.out.trans (Xw17.out.trans (Xw18.out.trans (Xw19.out.trans (Xw20.out.trans (Xw21.out.trans (Xw22.out.trans (Xw23.out.trans (Xw24.out.trans (Xw25.out.trans (Xw26.out.trans (Xw27.out.trans (Xw28.out.trans (Xw29.out.trans (Xw30.out.trans (Xw31.out.trans (Xw32.out.trans (Xw33.out.trans (Xw34.out.trans (Xw35.out.trans (Xw36.out.trans (Xw37.out.trans (Xw38.out.trans (Xw39.out.trans (Xw40.out.trans (Xw41.out.trans (Xw42.out.trans (Xw43.out.trans (Xw44.out.trans (Xw45.out.trans (Xw46.out.trans (Xw47.out.trans (Xw48.out.trans (Xw49.out.trans (Xw50.out.trans (Xw51.out.trans (Xw52.out.trans (Xw53.out.trans (Xw54.out.trans Xw55.out)))))))))))))))))))))))))))))))))))))))))))))) HBv.out.2 [] 0 (by kernel_rfl) rfl (by decide)).mono ?_
 rintro e w56 ⟨vw56, rfl, hkw56, ea22, ec22, rfl, hE22⟩
 have Xw56 := Lib.hid (show Ext w55 w56 from hkw56)
 clear hkw56
 have E22 := Lib.hid hE22
 clear hE22
 go_wp2_with fail
 refine (v14_any ⟨#[88]⟩ w56).mono ?_
 rintro e w57 ⟨vw57, rfl, hkw57, rfl⟩
 have Xw57 := Lib.hid (show Ext w56 w57 from hkw57)
 clear hkw57
 go_wp2_with fail
 refine (v14_any ⟨#[88]⟩ w57).mono ?_
 rintro e w58 ⟨vw58, rfl, hkw58, rfl⟩
 have Xw58 := Lib.hid (show Ext w57 w58 from hkw58)
 clear hkw58
 obtain ⟨w59, ew59⟩ : ∃ x, w58.alloc (.cells #[.int .i64 1, .string ⟨#[88]⟩, .int .i64 1, .string ⟨#[88]⟩] 38) = x := ⟨_, rfl⟩
 have Xw59 := Lib.hid (show Ext w58 w59 from by rw [<- ew59]; exact (Kp.refl w58).alloc _)
 have T23 := Lib.hid (show TermsAt w59 TT (some ⟨w58.heap.size, 0, none⟩) [((1 : Int), (⟨#[88]⟩ : ByteArray), ()), ((1 : Int), (⟨#[88]⟩ : ByteArray), ())] from by rw [<- ew59]; exact terms_new w58 [((1 : Int), (⟨#[88]⟩ : ByteArray), ()), ((1 : Int), (⟨#[88]⟩ : ByteArray), ())] (by kernel_rfl))
 go_wp2_with fail
 clear ew59
 refine (pos14_any ⟨#[101]⟩ (some ⟨w58.heap.size, 0, none⟩) 2 2 w59).mono ?_
 rintro e w60 ⟨vw60, rfl, hkw60, rfl⟩
 have Xw60 := Lib.hid (show Ext w59 w60 from hkw60)
 clear hkw60
 obtain ⟨w61, ew61⟩ : ∃ x, w60.alloc (.cells #[.int .i64 1, .string ⟨#[101]⟩, .slice (some ⟨w58.heap.size, 0, none⟩) 2 2, .int .i64 0, .int .i64 0, .string ⟨#[]⟩, .int .i64 0, .string ⟨#[]⟩] 40) = x := ⟨_, rfl⟩
 have Xw61 := Lib.hid (show Ext w60 w61 from by rw [<- ew61]; exact (Kp.refl w60).alloc _)
 have L24 := Lib.hid (show LitsAt w61 TT (some ⟨w60.heap.size, 0, none⟩) [(((1) : Int), ((⟨#[101]⟩ : ByteArray), [((1 : Int), (⟨#[88]⟩ : ByteArray), ()), ((1 : Int), (⟨#[88]⟩ : ByteArray), ())], ()), (0 : Int), ((0 : Int), (⟨#[]⟩ : ByteArray), ()), ((0 : Int), (⟨#[]⟩ : ByteArray), ()), ())] from by
  rw [<- ew61]
  refine lits_new w60 [(((1) : Int), ((⟨#[101]⟩ : ByteArray), [((1 : Int), (⟨#[88]⟩ : ByteArray), ()), ((1 : Int), (⟨#[88]⟩ : ByteArray), ())], ()), (0 : Int), ((0 : Int), (⟨#[]⟩ : ByteArray), ()), ((0 : Int), (⟨#[]⟩ : ByteArray), ()), ())] [(some ⟨w58.heap.size, 0, none⟩, 2)] rfl (by kernel_rfl) fun x hx => ?_
  simp only [List.zip_cons_cons, List.zip_nil_right, List.mem_cons, List.not_mem_nil, or_false] at hx
  rcases hx with rfl
  ·exact ⟨(T23.out.ext Xw60.out), Nat.le_refl _, (by decide : 2 ≤ maxLen)⟩)
 go_wp2_with fail
 clear ew61
 refine (rule14_any (none) (some ⟨w60.heap.size, 0, none⟩) 0 0 1 1 w61).mono ?_
 rintro e w62 ⟨vw62, rfl, hkw62, rfl⟩
 have Xw62 := Lib.hid (show Ext w61 w62 from hkw62)
 clear hkw62
 go_wp2_with fail
 refine (each_known (p := ⟨#[116]⟩) (hs := []) (ls := [(((1) : Int), ((⟨#[101]⟩ : ByteArray), [((1 : Int), (⟨#[88]⟩ : ByteArray), ()), ((1 : Int), (⟨#[88]⟩ : ByteArray), ())], ()), (0 : Int), ((0 : Int), (⟨#[]⟩ : ByteArray), ()), ((0 : Int), (⟨#[]⟩ : ByteArray), ()), ())]) (ha := none) (ba := some ⟨w60.heap.size, 0, none⟩) (hn := 0) (hcap := 0) (n := 1) (bcap := 1) rfl (terms_nil w62 none) (by decide) rfl (L24.out.ext Xw62.out) (fit_of (by kernel_rfl)) (few_of (by kernel_rfl)) (by decide) (HBv.out.1.ext (Zw10.out.trans (Xw11.out.trans (Xw12.out.trans (Xw13.out.trans (Xw14.out.trans (Xw15.out.trans (Xw16.out.trans (Xw17.out.trans (Xw18.out.trans (Xw19.out.trans (Xw20.out.trans (Xw21.out.trans (Xw22.out.trans (Xw23.out.trans (Xw24.out.trans (Xw25.out.trans (Xw26.out.trans (Xw27.out.trans (Xw28.out.trans (Xw29.out.trans (Xw30.out.trans (Xw31.out.trans (Xw32.out.trans (Xw33.out.trans (Xw34.out.trans (Xw35.out.trans (Xw36.out.trans (Xw37.out.trans (Xw38.out.trans (Xw39.out.trans (Xw40.out.trans (Xw41.out.trans (Xw42.out.trans (Xw43.out.trans (Xw44.out.trans (Xw45.out.trans (Xw46.out.trans (Xw47.out.trans (Xw48.out.trans (Xw49.out.trans (Xw50.out.trans (Xw51.out.trans (Xw52.out.trans (Xw53.out.trans (Xw54.out.trans (Xw55.out.trans (Xw56.out.trans (Xw57.out.trans (Xw58.out.trans (Xw59.out.trans (Xw60.out.trans (Xw61.out.trans Xw62.out))))))))))))))))))))))))))))))))))))))))))))))))))))) HBv.out.2 [(⟨#[98, 59]⟩ : ByteArray)] 1 (by kernel_rfl) rfl (by decide)).mono ?_
 rintro e w63 ⟨vw63, rfl, hkw63, ea25, ec25, rfl, hE25⟩
 have Xw63 := Lib.hid (show Ext w62 w63 from hkw63)
 clear hkw63
 have E25 := Lib.hid hE25
 clear hE25
 obtain ⟨w64, ew64⟩ : ∃ x, w63.alloc (.cells #[.string ⟨#[98, 59]⟩] 9) = x := ⟨_, rfl⟩
 have Xw64 := Lib.hid (show Ext w63 w64 from by rw [<- ew64]; exact (Kp.refl w63).alloc _)
 have Sw64 := Lib.hid (show CellsAt w64 (some ⟨w63.heap.size, 0, none⟩) (strs [(⟨#[98, 59]⟩ : ByteArray)]) from by rw [<- ew64]; exact CellsAt.new w63 (strs [(⟨#[98, 59]⟩ : ByteArray)]) _)
 go_wp2_with fail
 clear ew64
 refine (same_known [(⟨#[98, 59]⟩ : ByteArray)] (ea25) (some ⟨w63.heap.size, 0, none⟩) 1 ec25 1 w64 rfl (E25.out.ext Xw64.out) (Sw64.out.ext (Kp.refl w64)) (by decide)).mono ?_
 rintro e w65 ⟨vw65, rfl, hkw65, rfl⟩
 have Xw65 := Lib.hid (show Ext w64 w65 from hkw65)
 clear hkw65
 go_wp2_with fail
 refine (c14_any ⟨#[98]⟩ w65).mono ?_
 rintro e w66 ⟨vw66, rfl, hkw66, rfl⟩
 have Xw66 := Lib.hid (show Ext w65 w66 from hkw66)
 clear hkw66
 go_wp2_with fail
 refine (v14_any ⟨#[88]⟩ w66).mono ?_
 rintro e w67 ⟨vw67, rfl, hkw67, rfl⟩
 have Xw67 := Lib.hid (show Ext w66 w67 from hkw67)
 clear hkw67
 obtain ⟨w68, ew68⟩ : ∃ x, w67.alloc (.cells #[.int .i64 3, .string ⟨#[98]⟩, .int .i64 1, .string ⟨#[88]⟩] 38) = x := ⟨_, rfl⟩
 have Xw68 := Lib.hid (show Ext w67 w68 from by rw [<- ew68]; exact (Kp.refl w67).alloc _)
 have T26 := Lib.hid (show TermsAt w68 TT (some ⟨w67.heap.size, 0, none⟩) [((3 : Int), (⟨#[98]⟩ : ByteArray), ()), ((1 : Int), (⟨#[88]⟩ : ByteArray), ())] from by rw [<- ew68]; exact terms_new w67 [((3 : Int), (⟨#[98]⟩ : ByteArray), ()), ((1 : Int), (⟨#[88]⟩ : ByteArray), ())] (by kernel_rfl))
 go_wp2_with fail
 clear ew68
 refine (pos14_any ⟨#[101]⟩ (some ⟨w67.heap.size, 0, none⟩) 2 2 w68).mono ?_
 rintro e w69 ⟨vw69, rfl, hkw69, rfl⟩
 have Xw69 := Lib.hid (show Ext w68 w69 from hkw69)
 clear hkw69
 go_wp2_with fail
 refine (blank14_any w69).mono ?_
 rintro e w70 ⟨vw70, rfl, hkw70, rfl⟩
 have Xw70 := Lib.hid (show Ext w69 w70 from hkw70)
 clear hkw70
 go_wp2_with fail
 refine (v14_any ⟨#[88]⟩ w70).mono ?_
 rintro e w71 ⟨vw71, rfl, hkw71, rfl⟩
 have Xw71 := Lib.hid (show Ext w70 w71 from hkw71)
 clear hkw71
 obtain ⟨w72, ew72⟩ : ∃ x, w71.alloc (.cells #[.int .i64 2, .string ⟨#[]⟩, .int .i64 1, .string ⟨#[88]⟩] 38) = x := ⟨_, rfl⟩
 have Xw72 := Lib.hid (show Ext w71 w72 from by rw [<- ew72]; exact (Kp.refl w71).alloc _)
 have T27 := Lib.hid (show TermsAt w72 TT (some ⟨w71.heap.size, 0, none⟩) [((2 : Int), (⟨#[]⟩ : ByteArray), ()), ((1 : Int), (⟨#[88]⟩ : ByteArray), ())] from by rw [<- ew72]; exact terms_new w71 [((2 : Int), (⟨#[]⟩ : ByteArray), ()), ((1 : Int), (⟨#[88]⟩ : ByteArray), ())] (by kernel_rfl))
 go_wp2_with fail
 clear ew72
 refine (pos14_any ⟨#[101]⟩ (some ⟨w71.heap.size, 0, none⟩) 2 2 w72).mono ?_
 rintro e w73 ⟨vw73, rfl, hkw73, rfl⟩
 have Xw73 := Lib.hid (show Ext w72 w73 from hkw73)
 clear hkw73
 obtain ⟨w74, ew74⟩ : ∃ x, w73.alloc (.cells #[.int .i64 1, .string ⟨#[101]⟩, .slice (some ⟨w67.heap.size, 0, none⟩) 2 2, .int .i64 0, .int .i64 0, .string ⟨#[]⟩, .int .i64 0, .string ⟨#[]⟩, .int .i64 1, .string ⟨#[101]⟩, .slice (some ⟨w71.heap.size, 0, none⟩) 2 2, .int .i64 0, .int .i64 0, .string ⟨#[]⟩, .int .i64 0, .string ⟨#[]⟩] 40) = x := ⟨_, rfl⟩
 have Xw74 := Lib.hid (show Ext w73 w74 from by rw [<- ew74]; exact (Kp.refl w73).alloc _)
 have L28 := Lib.hid (show LitsAt w74 TT (some ⟨w73.heap.size, 0, none⟩) [(((1) : Int), ((⟨#[101]⟩ : ByteArray), [((3 : Int), (⟨#[98]⟩ : ByteArray), ()), ((1 : Int), (⟨#[88]⟩ : ByteArray), ())], ()), (0 : Int), ((0 : Int), (⟨#[]⟩ : ByteArray), ()), ((0 : Int), (⟨#[]⟩ : ByteArray), ()), ()), (((1) : Int), ((⟨#[101]⟩ : ByteArray), [((2 : Int), (⟨#[]⟩ : ByteArray), ()), ((1 : Int), (⟨#[88]⟩ : ByteArray), ())], ()), (0 : Int), ((0 : Int), (⟨#[]⟩ : ByteArray), ()), ((0 : Int), (⟨#[]⟩ : ByteArray), ()), ())] from by
  rw [<- ew74]
  refine lits_new w73 [(((1) : Int), ((⟨#[101]⟩ : ByteArray), [((3 : Int), (⟨#[98]⟩ : ByteArray), ()), ((1 : Int), (⟨#[88]⟩ : ByteArray), ())], ()), (0 : Int), ((0 : Int), (⟨#[]⟩ : ByteArray), ()), ((0 : Int), (⟨#[]⟩ : ByteArray), ()), ()), (((1) : Int), ((⟨#[101]⟩ : ByteArray), [((2 : Int), (⟨#[]⟩ : ByteArray), ()), ((1 : Int), (⟨#[88]⟩ : ByteArray), ())], ()), (0 : Int), ((0 : Int), (⟨#[]⟩ : ByteArray), ()), ((0 : Int), (⟨#[]⟩ : ByteArray), ()), ())] [(some ⟨w67.heap.size, 0, none⟩, 2), (some ⟨w71.heap.size, 0, none⟩, 2)] rfl (by kernel_rfl) fun x hx => ?_
  simp only [List.zip_cons_cons, List.zip_nil_right, List.mem_cons, List.not_mem_nil, or_false] at hx
  rcases hx with rfl | rfl
  ·exact ⟨(T26.out.ext (Xw69.out.trans (Xw70.out.trans (Xw71.out.trans (Xw72.out.trans Xw73.out))))), Nat.le_refl _, (by decide : 2 ≤ maxLen)⟩
  ·exact ⟨(T27.out.ext Xw73.out), Nat.le_refl _, (by decide : 2 ≤ maxLen)⟩)
 go_wp2_with fail
 clear ew74
 refine (rule14_any (none) (some ⟨w73.heap.size, 0, none⟩) 0 0 2 2 w74).mono ?_
 rintro e w75 ⟨vw75, rfl, hkw75, rfl⟩
 have Xw75 := Lib.hid (show Ext w74 w75 from hkw75)
 clear hkw75
 go_wp2_with fail
 refine (each_known (p := ⟨#[116]⟩) (hs := []) (ls := [(((1) : Int), ((⟨#[101]⟩ : ByteArray), [((3 : Int), (⟨#[98]⟩ : ByteArray), ()), ((1 : Int), (⟨#[88]⟩ : ByteArray), ())], ()), (0 : Int), ((0 : Int), (⟨#[]⟩ : ByteArray), ()), ((0 : Int), (⟨#[]⟩ : ByteArray), ()), ()), (((1) : Int), ((⟨#[101]⟩ : ByteArray), [((2 : Int), (⟨#[]⟩ : ByteArray), ()), ((1 : Int), (⟨#[88]⟩ : ByteArray), ())], ()), (0 : Int), ((0 : Int), (⟨#[]⟩ : ByteArray), ()), ((0 : Int), (⟨#[]⟩ : ByteArray), ()), ())]) (ha := none) (ba := some ⟨w73.heap.size, 0, none⟩) (hn := 0) (hcap := 0) (n := 2) (bcap := 2) rfl (terms_nil w75 none) (by decide) rfl (L28.out.ext Xw75.out) (fit_of (by kernel_rfl)) (few_of (by kernel_rfl)) (by decide) (HBv.out.1.ext (Zw10.out.trans (Xw11.out.trans (Xw12.out.trans (Xw13.out.trans (Xw14.out.trans (Xw15.out.trans (Xw16.out.trans (Xw17.out.trans (Xw18.out.trans (Xw19.out.trans (Xw20.out.trans (Xw21.out.trans (Xw22.out.trans (Xw23.out.trans (Xw24.out.trans (Xw25.out.trans (Xw26.out.trans (Xw27.out.trans (Xw28.out.trans (Xw29.out.trans (Xw30.out.trans (Xw31.out.trans (Xw32.out.trans (Xw33.out.trans (Xw34.out.trans (Xw35.out.trans (Xw36.out.trans (Xw37.out.trans (Xw38.out.trans (Xw39.out.trans (Xw40.out.trans (Xw41.out.trans (Xw42.out.trans (Xw43.out.trans (Xw44.out.trans (Xw45.out.trans (Xw46.out.trans (Xw47.out.trans (Xw48.out.trans (Xw49.out.trans (Xw50.out.trans (Xw51.out.trans (Xw52.out.trans (Xw53.out.trans (Xw54.out.trans (Xw55.out.trans (Xw56.out.trans (Xw57.out.trans (Xw58.out.trans (Xw59.out.trans (Xw60.out.trans (Xw61.out.trans (Xw62.out.trans (Xw63.out.trans (Xw64.out.trans (Xw65.out.trans (Xw66.out.trans (Xw67.out.trans (Xw68.out.trans (Xw69.out.trans (Xw70.out.trans (Xw71.out.trans (Xw72.out.trans (Xw73.out.trans (Xw74.out.trans Xw75.out)))))))))))))))))))))))))))))))))))))))))))))))))))))))))))))))))) HBv.out.2 [(⟨#[98, 59]⟩ : ByteArray), (⟨#[99, 59]⟩ : ByteArray)] 2 (by kernel_rfl) rfl (by decide)).mono ?_
 rintro e w76 ⟨vw76, rfl, hkw76, ea29, ec29, rfl, hE29⟩
 have Xw76 := Lib.hid (show Ext w75 w76 from hkw76)
 clear hkw76
 have E29 := Lib.hid hE29
 clear hE29
 obtain ⟨w77, ew77⟩ : ∃ x, w76.alloc (.cells #[.string ⟨#[98, 59]⟩, .string ⟨#[99, 59]⟩] 9) = x := ⟨_, rfl⟩
 have Xw77 := Lib.hid (show Ext w76 w77 from by rw [<- ew77]; exact (Kp.refl w76).alloc _)
 have Sw77 := Lib.hid (show CellsAt w77 (some ⟨w76.heap.size, 0, none⟩) (strs [(⟨#[98, 59]⟩ : ByteArray), (⟨#[99, 59]⟩ : ByteArray)]) from by rw [<- ew77]; exact CellsAt.new w76 (strs [(⟨#[98, 59]⟩ : ByteArray), (⟨#[99, 59]⟩ : ByteArray)]) _)
 go_wp2_with fail
 clear ew77
 refine (same_known [(⟨#[98, 59]⟩ : ByteArray), (⟨#[99, 59]⟩ : ByteArray)] (ea29) (some ⟨w76.heap.size, 0, none⟩) 2 ec29 2 w77 rfl (E29.out.ext Xw77.out) (Sw77.out.ext (Kp.refl w77)) (by decide)).mono ?_
 rintro e w78 ⟨vw78, rfl, hkw78, rfl⟩
 have Xw78 := Lib.hid (show Ext w77 w78 from hkw78)
 clear hkw78
 go_wp2_with fail
 refine (blank14_any w78).mono ?_
 rintro e w79 ⟨vw79, rfl, hkw79, rfl⟩
 have Xw79 := Lib.hid (show Ext w78 w79 from hkw79)
 clear hkw79
 go_wp2_with fail
 refine (c14_any ⟨#[97]⟩ w79).mono ?_
 rintro e w80 ⟨vw80, rfl, hkw80, rfl⟩
 have Xw80 := Lib.hid (show Ext w79 w80 from hkw80)
 clear hkw80
 obtain ⟨w81, ew81⟩ : ∃ x, w80.alloc (.cells #[.int .i64 2, .string ⟨#[]⟩, .int .i64 3, .string ⟨#[97]⟩] 38) = x := ⟨_, rfl⟩
 have Xw81 := Lib.hid (show Ext w80 w81 from by rw [<- ew81]; exact (Kp.refl w80).alloc _)
 have T30 := Lib.hid (show TermsAt w81 TT (some ⟨w80.heap.size, 0, none⟩) [((2 : Int), (⟨#[]⟩ : ByteArray), ()), ((3 : Int), (⟨#[97]⟩ : ByteArray), ())] from by rw [<- ew81]; exact terms_new w80 [((2 : Int), (⟨#[]⟩ : ByteArray), ()), ((3 : Int), (⟨#[97]⟩ : ByteArray), ())] (by kernel_rfl))
 go_wp2_with fail
 clear ew81
 refine (neg14_any ⟨#[101]⟩ (some ⟨w80.heap.size, 0, none⟩) 2 2 w81).mono ?_
 rintro e w82 ⟨vw82, rfl, hkw82, rfl⟩
 have Xw82 := Lib.hid (show Ext w81 w82 from hkw82)
 clear hkw82
 obtain ⟨w83, ew83⟩ : ∃ x, w82.alloc (.cells #[.int .i64 2, .string ⟨#[101]⟩, .slice (some ⟨w80.heap.size, 0, none⟩) 2 2, .int .i64 0, .int .i64 0, .string ⟨#[]⟩, .int .i64 0, .string ⟨#[]⟩] 40) = x := ⟨_, rfl⟩
 have Xw83 := Lib.hid (show Ext w82 w83 from by rw [<- ew83]; exact (Kp.refl w82).alloc _)
 have L31 := Lib.hid (show LitsAt w83 TT (some ⟨w82.heap.size, 0, none⟩) [(((2) : Int), ((⟨#[101]⟩ : ByteArray), [((2 : Int), (⟨#[]⟩ : ByteArray), ()), ((3 : Int), (⟨#[97]⟩ : ByteArray), ())], ()), (0 : Int), ((0 : Int), (⟨#[]⟩ : ByteArray), ()), ((0 : Int), (⟨#[]⟩ : ByteArray), ()), ())] from by
  rw [<- ew83]
  refine lits_new w82 [(((2) : Int), ((⟨#[101]⟩ : ByteArray), [((2 : Int), (⟨#[]⟩ : ByteArray), ()), ((3 : Int), (⟨#[97]⟩ : ByteArray), ())], ()), (0 : Int), ((0 : Int), (⟨#[]⟩ : ByteArray), ()), ((0 : Int), (⟨#[]⟩ : ByteArray), ()), ())] [(some ⟨w80.heap.size, 0, none⟩, 2)] rfl (by kernel_rfl) fun x hx => ?_
  simp only [List.zip_cons_cons, List.zip_nil_right, List.mem_cons, List.not_mem_nil, or_false] at hx
  rcases hx with rfl
  ·exact ⟨(T30.out.ext Xw82.out), Nat.le_refl _, (by decide : 2 ≤ maxLen)⟩)
 go_wp2_with fail
 clear ew83
 refine (rule14_any (none) (some ⟨w82.heap.size, 0, none⟩) 0 0 1 1 w83).mono ?_
 rintro e w84 ⟨vw84, rfl, hkw84, rfl⟩
 have Xw84 := Lib.hid (show Ext w83 w84 from hkw84)
 clear hkw84
 go_wp2_with fail
 refine (each_known (p := ⟨#[116]⟩) (hs := []) (ls := [(((2) : Int), ((⟨#[101]⟩ : ByteArray), [((2 : Int), (⟨#[]⟩ : ByteArray), ()), ((3 : Int), (⟨#[97]⟩ : ByteArray), ())], ()), (0 : Int), ((0 : Int), (⟨#[]⟩ : ByteArray), ()), ((0 : Int), (⟨#[]⟩ : ByteArray), ()), ())]) (ha := none) (ba := some ⟨w82.heap.size, 0, none⟩) (hn := 0) (hcap := 0) (n := 1) (bcap := 1) rfl (terms_nil w84 none) (by decide) rfl (L31.out.ext Xw84.out) (fit_of (by kernel_rfl)) (few_of (by kernel_rfl)) (by decide) (HBv.out.1.ext (Zw10.out.trans (Xw11.out.trans (Xw12.out.trans (Xw13.out.trans (Xw14.out.trans (Xw15.out.trans (Xw16.out.trans (Xw17.out.trans (Xw18.out.trans (Xw19.out.trans (Xw20.out.trans (Xw21.out.trans (Xw22.out.trans (Xw23.out.trans (Xw24.out.trans (Xw25.out.trans (Xw26.out.trans (Xw27.out.trans (Xw28.out.trans (Xw29.out.trans (Xw30.out.trans (Xw31.out.trans (Xw32.out.trans (Xw33.out.trans (Xw34.out.trans (Xw35.out.trans (Xw36.out.trans (Xw37.out.trans (Xw38.out.trans (Xw39.out.trans (Xw40.out.trans (Xw41.out.trans (Xw42.out.trans (Xw43.out.trans (Xw44.out.trans (Xw45.out.trans (Xw46.out.trans (Xw47.out.trans (Xw48.out.trans (Xw49.out.trans (Xw50.out.trans (Xw51.out.trans (Xw52.out.trans (Xw53.out.trans (Xw54.out.trans (Xw55.out.trans (Xw56.out.trans (Xw57.out.trans (Xw58.out.trans (Xw59.out.trans (Xw60.out.trans (Xw61.out.trans (Xw62.out.trans (Xw63.out.trans (Xw64.out.trans (Xw65.out.trans (Xw66.out.trans (Xw67.out.trans (Xw68.out.trans (Xw69.out.trans (Xw70.out.trans (Xw71.out.trans (Xw72.out.trans (Xw73.out.trans (Xw74.out.trans (Xw75.out.trans (Xw76.out.trans (Xw77.out.trans (Xw78.out.trans (Xw79.out.trans (Xw80.out.trans (Xw81.out.trans (Xw82.out.trans (Xw83.out.trans Xw84.out))))))))))))))))))))))))))))))))))))))))))))))))))))))))))))))))))))))))))) HBv.out.2 [] 0 (by kernel_rfl) rfl (by decide)).mono ?_
 rintro e w85 ⟨vw85, rfl, hkw85, ea32, ec32, rfl, hE32⟩
 have Xw85 := Lib.hid (show Ext w84 w85 from hkw85)
 clear hkw85
 have E32 := Lib.hid hE32
 clear hE32
 go_wp2_with fail
 refine (rule14_any (none) (none) 0 0 0 0 w85).mono ?_
 rintro e w86 ⟨vw86, rfl, hkw86, rfl⟩
 have Xw86 := Lib.hid (show Ext w85 w86 from hkw86)
 clear hkw86
 go_wp2_with fail
 refine (each_known (p := ⟨#[116]⟩) (hs := []) (ls := []) (ha := none) (ba := none) (hn := 0) (hcap := 0) (n := 0) (bcap := 0) rfl (terms_nil w86 none) (by decide) rfl (lits_nil w86 none) (fit_of (by kernel_rfl)) (few_of (by kernel_rfl)) (by decide) (HBv.out.1.ext (Zw10.out.trans (Xw11.out.trans (Xw12.out.trans (Xw13.out.trans (Xw14.out.trans (Xw15.out.trans (Xw16.out.trans (Xw17.out.trans (Xw18.out.trans (Xw19.out.trans (Xw20.out.trans (Xw21.out.trans (Xw22.out.trans (Xw23.out.trans (Xw24.out.trans (Xw25.out.trans (Xw26.out.trans (Xw27.out.trans (Xw28.out.trans (Xw29.out.trans (Xw30.out.trans (Xw31.out.trans (Xw32.out.trans (Xw33.out.trans (Xw34.out.trans (Xw35.out.trans (Xw36.out.trans (Xw37.out.trans (Xw38.out.trans (Xw39.out.trans (Xw40.out.trans (Xw41.out.trans (Xw42.out.trans (Xw43.out.trans (Xw44.out.trans (Xw45.out.trans (Xw46.out.trans (Xw47.out.trans (Xw48.out.trans (Xw49.out.trans (Xw50.out.trans (Xw51.out.trans (Xw52.out.trans (Xw53.out.trans (Xw54.out.trans (Xw55.out.trans (Xw56.out.trans (Xw57.out.trans (Xw58.out.trans (Xw59.out.trans (Xw60.out.trans (Xw61.out.trans (Xw62.out.trans (Xw63.out.trans (Xw64.out.trans (Xw65.out.trans (Xw66.out.trans (Xw67.out.trans (Xw68.out.trans (Xw69.out.trans (Xw70.out.trans (Xw71.out.trans (Xw72.out.trans (Xw73.out.trans (Xw74.out.trans (Xw75.out.trans (Xw76.out.trans (Xw77.out.trans (Xw78.out.trans (Xw79.out.trans (Xw80.out.trans (Xw81.out.trans (Xw82.out.trans (Xw83.out.trans (Xw84.out.trans (Xw85.out.trans Xw86.out))))))))))))))))))))))))))))))))))))))))))))))))))))))))))))))))))))))))))))) HBv.out.2 [(⟨#[]⟩ : ByteArray)] 1 (by kernel_rfl) rfl (by decide)).mono ?_
 rintro e w87 ⟨vw87, rfl, hkw87, ea33, ec33, rfl, hE33⟩
 have Xw87 := Lib.hid (show Ext w86 w87 from hkw87)
 clear hkw87
 have E33 := Lib.hid hE33
 clear hE33
 obtain ⟨w88, ew88⟩ : ∃ x, w87.alloc (.cells #[.string ⟨#[]⟩] 9) = x := ⟨_, rfl⟩
 have Xw88 := Lib.hid (show Ext w87 w88 from by rw [<- ew88]; exact (Kp.refl w87).alloc _)
 have Sw88 := Lib.hid (show CellsAt w88 (some ⟨w87.heap.size, 0, none⟩) (strs [(⟨#[]⟩ : ByteArray)]) from by rw [<- ew88]; exact CellsAt.new w87 (strs [(⟨#[]⟩ : ByteArray)]) _)
 go_wp2_with fail
 clear ew88
 refine (same_known [(⟨#[]⟩ : ByteArray)] (ea33) (some ⟨w87.heap.size, 0, none⟩) 1 ec33 1 w88 rfl (E33.out.ext Xw88.out) (Sw88.out.ext (Kp.refl w88)) (by decide)).mono ?_
 rintro e w89 ⟨vw89, rfl, hkw89, rfl⟩
 have Xw89 := Lib.hid (show Ext w88 w89 from hkw89)
 clear hkw89
 go_wp2_with fail
 refine (pos14_any ⟨#[122]⟩ (none) 0 0 w89).mono ?_
 rintro e w90 ⟨vw90, rfl, hkw90, rfl⟩
 have Xw90 := Lib.hid (show Ext w89 w90 from hkw90)
 clear hkw90
 go_wp2_with fail
 refine (c14_any ⟨#[97]⟩ w90).mono ?_
 rintro e w91 ⟨vw91, rfl, hkw91, rfl⟩
 have Xw91 := Lib.hid (show Ext w90 w91 from hkw91)
 clear hkw91
 go_wp2_with fail
 refine (c14_any ⟨#[98]⟩ w91).mono ?_
 rintro e w92 ⟨vw92, rfl, hkw92, rfl⟩
 have Xw92 := Lib.hid (show Ext w91 w92 from hkw92)
 clear hkw92
 go_wp2_with fail
 refine (cmp14_any 2 3 ⟨#[97]⟩ 3 ⟨#[98]⟩ w92).mono ?_
 rintro e w93 ⟨vw93, rfl, hkw93, rfl⟩
 have Xw93 := Lib.hid (show Ext w92 w93 from hkw93)
 clear hkw93
 obtain ⟨w94, ew94⟩ : ∃ x, w93.alloc (.cells #[.int .i64 1, .string ⟨#[122]⟩, .slice (none) 0 0, .int .i64 0, .int .i64 0, .string ⟨#[]⟩, .int .i64 0, .string ⟨#[]⟩, .int .i64 3, .string ⟨#[]⟩, .slice none 0 0, .int .i64 2, .int .i64 3, .string ⟨#[97]⟩, .int .i64 3, .string ⟨#[98]⟩] 40) = x := ⟨_, rfl⟩
 have Xw94 := Lib.hid (show Ext w93 w94 from by rw [<- ew94]; exact (Kp.refl w93).alloc _)
 have L34 := Lib.hid (show LitsAt w94 TT (some ⟨w93.heap.size, 0, none⟩) [(((1) : Int), ((⟨#[122]⟩ : ByteArray), [], ()), (0 : Int), ((0 : Int), (⟨#[]⟩ : ByteArray), ()), ((0 : Int), (⟨#[]⟩ : ByteArray), ()), ()), ((3 : Int), ((⟨#[]⟩ : ByteArray), [], ()), (2 : Int), ((3 : Int), (⟨#[97]⟩ : ByteArray), ()), ((3 : Int), (⟨#[98]⟩ : ByteArray), ()), ())] from by
  rw [<- ew94]
  refine lits_new w93 [(((1) : Int), ((⟨#[122]⟩ : ByteArray), [], ()), (0 : Int), ((0 : Int), (⟨#[]⟩ : ByteArray), ()), ((0 : Int), (⟨#[]⟩ : ByteArray), ()), ()), ((3 : Int), ((⟨#[]⟩ : ByteArray), [], ()), (2 : Int), ((3 : Int), (⟨#[97]⟩ : ByteArray), ()), ((3 : Int), (⟨#[98]⟩ : ByteArray), ()), ())] [(none, 0), (none, 0)] rfl (by kernel_rfl) fun x hx => ?_
  simp only [List.zip_cons_cons, List.zip_nil_right, List.mem_cons, List.not_mem_nil, or_false] at hx
  rcases hx with rfl | rfl
  ·exact ⟨(terms_nil w93 none), Nat.le_refl _, (by decide : 0 ≤ maxLen)⟩
  ·exact ⟨(terms_nil w93 none), Nat.le_refl _, (by decide : 0 ≤ maxLen)⟩)
 go_wp2_with fail
 clear ew94
 refine (rule14_any (none) (some ⟨w93.heap.size, 0, none⟩) 0 0 2 2 w94).mono ?_
 rintro e w95 ⟨vw95, rfl, hkw95, rfl⟩
 have Xw95 := Lib.hid (show Ext w94 w95 from hkw95)
 clear hkw95
 go_wp2_with fail
 refine (each_known (p := ⟨#[116]⟩) (hs := []) (ls := [(((1) : Int), ((⟨#[122]⟩ : ByteArray), [], ()), (0 : Int), ((0 : Int), (⟨#[]⟩ : ByteArray), ()), ((0 : Int), (⟨#[]⟩ : ByteArray), ()), ()), ((3 : Int), ((⟨#[]⟩ : ByteArray), [], ()), (2 : Int), ((3 : Int), (⟨#[97]⟩ : ByteArray), ()), ((3 : Int), (⟨#[98]⟩ : ByteArray), ()), ())]) (ha := none) (ba := some ⟨w93.heap.size, 0, none⟩) (hn := 0) (hcap := 0) (n := 2) (bcap := 2) rfl (terms_nil w95 none) (by decide) rfl (L34.out.ext Xw95.out) (fit_of (by kernel_rfl)) (few_of (by kernel_rfl)) (by decide) (HBv.out.1.ext (Zw10.out.trans (Xw11.out.trans (Xw12.out.trans (Xw13.out.trans (Xw14.out.trans (Xw15.out.trans (Xw16.out.trans (Xw17.out.trans (Xw18.out.trans (Xw19.out.trans (Xw20.out.trans (Xw21.out.trans (Xw22.out.trans (Xw23.out.trans (Xw24.out.trans (Xw25.out.trans (Xw26.out.trans (Xw27.out.trans (Xw28.out.trans (Xw29.out.trans (Xw30.out.trans (Xw31.out.trans (Xw32.out.trans (Xw33.out.trans (Xw34.out.trans (Xw35.out.trans (Xw36.out.trans (Xw37.out.trans (Xw38.out.trans (Xw39.out.trans (Xw40.out.trans (Xw41.out.trans (Xw42.out.trans (Xw43.out.trans (Xw44.out.trans (Xw45.out.trans (Xw46.out.trans (Xw47.out.trans (Xw48.out.trans (Xw49.out.trans (Xw50.out.trans (Xw51.out.trans (Xw52.out.trans (Xw53.out.trans (Xw54.out.trans (Xw55.out.trans (Xw56.out.trans (Xw57.out.trans (Xw58.out.trans (Xw59.out.trans (Xw60.out.trans (Xw61.out.trans (Xw62.out.trans (Xw63.out.trans (Xw64.out.trans (Xw65.out.trans (Xw66.out.trans (Xw67.out.trans (Xw68.out.trans (Xw69.out.trans (Xw70.out.trans (Xw71.out.trans (Xw72.out.trans (Xw73.out.trans (Xw74.out.trans (Xw75.out.trans (Xw76.out.trans (Xw77.out.trans (Xw78.out.trans (Xw79.out.trans (Xw80.out.trans (Xw81.out.trans (Xw82.out.trans (Xw83.out.trans (Xw84.out.trans (Xw85.out.trans (Xw86.out.trans (Xw87.out.trans (Xw88.out.trans (Xw89.out.trans (Xw90.out.trans (Xw91.out.trans (Xw92.out.trans (Xw93.out.trans (Xw94.out.trans Xw95.out)))))))))))))))))))))))))))))))))))))))))))))))))))))))))))))))))))))))))))))))))))))) HBv.out.2 [(⟨#[]⟩ : ByteArray)] 1 (by kernel_rfl) rfl (by decide)).mono ?_
 rintro e w96 ⟨vw96, rfl, hkw96, ea35, ec35, rfl, hE35⟩
 have Xw96 := Lib.hid (show Ext w95 w96 from hkw96)
 clear hkw96
 have E35 := Lib.hid hE35
 clear hE35
 obtain ⟨w97, ew97⟩ : ∃ x, w96.alloc (.cells #[.string ⟨#[]⟩] 9) = x := ⟨_, rfl⟩
 have Xw97 := Lib.hid (show Ext w96 w97 from by rw [<- ew97]; exact (Kp.refl w96).alloc _)
 have Sw97 := Lib.hid (show CellsAt w97 (some ⟨w96.heap.size, 0, none⟩) (strs [(⟨#[]⟩ : ByteArray)]) from by rw [<- ew97]; exact CellsAt.new w96 (strs [(⟨#[]⟩ : ByteArray)]) _)
 go_wp2_with fail
 clear ew97
 refine (same_known [(⟨#[]⟩ : ByteArray)] (ea35) (some ⟨w96.heap.size, 0, none⟩) 1 ec35 1 w97 rfl (E35.out.ext Xw97.out) (Sw97.out.ext (Kp.refl w97)) (by decide)).mono ?_
 rintro e w98 ⟨vw98, rfl, hkw98, rfl⟩
 have Xw98 := Lib.hid (show Ext w97 w98 from hkw98)
 clear hkw98
 go_wp2_with fail
 refine (c14_any ⟨#[97]⟩ w98).mono ?_
 rintro e w99 ⟨vw99, rfl, hkw99, rfl⟩
 have Xw99 := Lib.hid (show Ext w98 w99 from hkw99)
 clear hkw99
 obtain ⟨w100, ew100⟩ : ∃ x, w99.alloc (.cells #[.int .i64 3, .string ⟨#[97]⟩] 38) = x := ⟨_, rfl⟩
 have Xw100 := Lib.hid (show Ext w99 w100 from by rw [<- ew100]; exact (Kp.refl w99).alloc _)
 have T36 := Lib.hid (show TermsAt w100 TT (some ⟨w99.heap.size, 0, none⟩) [((3 : Int), (⟨#[97]⟩ : ByteArray), ())] from by rw [<- ew100]; exact terms_new w99 [((3 : Int), (⟨#[97]⟩ : ByteArray), ())] (by kernel_rfl))
 go_wp2_with fail
 clear ew100
 refine (pos14_any ⟨#[101]⟩ (some ⟨w99.heap.size, 0, none⟩) 1 1 w100).mono ?_
 rintro e w101 ⟨vw101, rfl, hkw101, rfl⟩
 have Xw101 := Lib.hid (show Ext w100 w101 from hkw101)
 clear hkw101
 obtain ⟨w102, ew102⟩ : ∃ x, w101.alloc (.cells #[.int .i64 1, .string ⟨#[101]⟩, .slice (some ⟨w99.heap.size, 0, none⟩) 1 1, .int .i64 0, .int .i64 0, .string ⟨#[]⟩, .int .i64 0, .string ⟨#[]⟩] 40) = x := ⟨_, rfl⟩
 have Xw102 := Lib.hid (show Ext w101 w102 from by rw [<- ew102]; exact (Kp.refl w101).alloc _)
 have L37 := Lib.hid (show LitsAt w102 TT (some ⟨w101.heap.size, 0, none⟩) [(((1) : Int), ((⟨#[101]⟩ : ByteArray), [((3 : Int), (⟨#[97]⟩ : ByteArray), ())], ()), (0 : Int), ((0 : Int), (⟨#[]⟩ : ByteArray), ()), ((0 : Int), (⟨#[]⟩ : ByteArray), ()), ())] from by
  rw [<- ew102]
  refine lits_new w101 [(((1) : Int), ((⟨#[101]⟩ : ByteArray), [((3 : Int), (⟨#[97]⟩ : ByteArray), ())], ()), (0 : Int), ((0 : Int), (⟨#[]⟩ : ByteArray), ()), ((0 : Int), (⟨#[]⟩ : ByteArray), ()), ())] [(some ⟨w99.heap.size, 0, none⟩, 1)] rfl (by kernel_rfl) fun x hx => ?_
  simp only [List.zip_cons_cons, List.zip_nil_right, List.mem_cons, List.not_mem_nil, or_false] at hx
  rcases hx with rfl
  ·exact ⟨(T36.out.ext Xw101.out), Nat.le_refl _, (by decide : 1 ≤ maxLen)⟩)
 go_wp2_with fail
 clear ew102
 refine (rule14_any (none) (some ⟨w101.heap.size, 0, none⟩) 0 0 1 1 w102).mono ?_
 rintro e w103 ⟨vw103, rfl, hkw103, rfl⟩
 have Xw103 := Lib.hid (show Ext w102 w103 from hkw103)
 clear hkw103
 go_wp2_with fail
 refine (each_known (p := ⟨#[116]⟩) (hs := []) (ls := [(((1) : Int), ((⟨#[101]⟩ : ByteArray), [((3 : Int), (⟨#[97]⟩ : ByteArray), ())], ()), (0 : Int), ((0 : Int), (⟨#[]⟩ : ByteArray), ()), ((0 : Int), (⟨#[]⟩ : ByteArray), ()), ())]) (ha := none) (ba := some ⟨w101.heap.size, 0, none⟩) (hn := 0) (hcap := 0) (n := 1) (bcap := 1) rfl (terms_nil w103 none) (by decide) rfl (L37.out.ext Xw103.out) (fit_of (by kernel_rfl)) (few_of (by kernel_rfl)) (by decide) (HBv.out.1.ext (Zw10.out.trans (Xw11.out.trans (Xw12.out.trans (Xw13.out.trans (Xw14.out.trans (Xw15.out.trans (Xw16.out.trans (Xw17.out.trans (Xw18.out.trans (Xw19.out.trans (Xw20.out.trans (Xw21.out.trans (Xw22.out.trans (Xw23.out.trans (Xw24.out.trans (Xw25.out.trans (Xw26.out.trans (Xw27.out.trans (Xw28.out.trans (Xw29.out.trans (Xw30.out.trans (Xw31.out.trans (Xw32.out.trans (Xw33.out.trans (Xw34.out.trans (Xw35.out.trans (Xw36.out.trans (Xw37.out.trans (Xw38.out.trans (Xw39.out.trans (Xw40.out.trans (Xw41.out.trans (Xw42.out.trans (Xw43.out.trans (Xw44.out.trans (Xw45.out.trans (Xw46.out.trans (Xw47.out.trans (Xw48.out.trans (Xw49.out.trans (Xw50.out.trans (Xw51.out.trans (Xw52.out.trans (Xw53.out.trans (Xw54.out.trans (Xw55.out.trans (Xw56.out.trans (Xw57.out.trans (Xw58.out.trans (Xw59.out.trans (Xw60.out.trans (Xw61.out.trans (Xw62.out.trans (Xw63.out.trans (Xw64.out.trans (Xw65.out.trans (Xw66.out.trans (Xw67.out.trans (Xw68.out.trans (Xw69.out.trans (Xw70.out.trans (Xw71.out.trans (Xw72.out.trans (Xw73.out.trans (Xw74.out.trans (Xw75.out.trans (Xw76.out.trans (Xw77.out.trans (Xw78.out.trans (Xw79.out.trans (Xw80.out.trans (Xw81.out.trans (Xw82.out.trans (Xw83.out.trans (Xw84.out.trans (Xw85.out.trans (Xw86.out.trans (Xw87.out.trans (Xw88.out.trans (Xw89.out.trans (Xw90.out.trans (Xw91.out.trans (Xw92.out.trans (Xw93.out.trans (Xw94.out.trans (Xw95.out.trans (Xw96.out.trans (Xw97.out.trans (Xw98.out.trans (Xw99.out.trans (Xw100.out.trans (Xw101.out.trans (Xw102.out.trans Xw103.out)))))))))))))))))))))))))))))))))))))))))))))))))))))))))))))))))))))))))))))))))))))))))))))) HBv.out.2 [] 0 (by kernel_rfl) rfl (by decide)).mono ?_
 rintro e w104 ⟨vw104, rfl, hkw104, ea38, ec38, rfl, hE38⟩
 have Xw104 := Lib.hid (show Ext w103 w104 from hkw104)
 clear hkw104
 have E38 := Lib.hid hE38
 clear hE38
 go_wp2_with fail
 refine (c14_any ⟨#[97]⟩ w104).mono ?_
 rintro e w105 ⟨vw105, rfl, hkw105, rfl⟩
 have Xw105 := Lib.hid (show Ext w104 w105 from hkw105)
 clear hkw105
 obtain ⟨w106, ew106⟩ : ∃ x, w105.alloc (.cells #[.int .i64 3, .string ⟨#[97]⟩] 38) = x := ⟨_, rfl⟩
 have Xw106 := Lib.hid (show Ext w105 w106 from by rw [<- ew106]; exact (Kp.refl w105).alloc _)
 have T39 := Lib.hid (show TermsAt w106 TT (some ⟨w105.heap.size, 0, none⟩) [((3 : Int), (⟨#[97]⟩ : ByteArray), ())] from by rw [<- ew106]; exact terms_new w105 [((3 : Int), (⟨#[97]⟩ : ByteArray), ())] (by kernel_rfl))
 go_wp2_with fail
 clear ew106
 refine (neg14_any ⟨#[101]⟩ (some ⟨w105.heap.size, 0, none⟩) 1 1 w106).mono ?_
 rintro e w107 ⟨vw107, rfl, hkw107, rfl⟩
 have Xw107 := Lib.hid (show Ext w106 w107 from hkw107)
 clear hkw107
 obtain ⟨w108, ew108⟩ : ∃ x, w107.alloc (.cells #[.int .i64 2, .string ⟨#[101]⟩, .slice (some ⟨w105.heap.size, 0, none⟩) 1 1, .int .i64 0, .int .i64 0, .string ⟨#[]⟩, .int .i64 0, .string ⟨#[]⟩] 40) = x := ⟨_, rfl⟩
 have Xw108 := Lib.hid (show Ext w107 w108 from by rw [<- ew108]; exact (Kp.refl w107).alloc _)
 have L40 := Lib.hid (show LitsAt w108 TT (some ⟨w107.heap.size, 0, none⟩) [(((2) : Int), ((⟨#[101]⟩ : ByteArray), [((3 : Int), (⟨#[97]⟩ : ByteArray), ())], ()), (0 : Int), ((0 : Int), (⟨#[]⟩ : ByteArray), ()), ((0 : Int), (⟨#[]⟩ : ByteArray), ()), ())] from by
  rw [<- ew108]
  refine lits_new w107 [(((2) : Int), ((⟨#[101]⟩ : ByteArray), [((3 : Int), (⟨#[97]⟩ : ByteArray), ())], ()), (0 : Int), ((0 : Int), (⟨#[]⟩ : ByteArray), ()), ((0 : Int), (⟨#[]⟩ : ByteArray), ()), ())] [(some ⟨w105.heap.size, 0, none⟩, 1)] rfl (by kernel_rfl) fun x hx => ?_
  simp only [List.zip_cons_cons, List.zip_nil_right, List.mem_cons, List.not_mem_nil, or_false] at hx
  rcases hx with rfl
  ·exact ⟨(T39.out.ext Xw107.out), Nat.le_refl _, (by decide : 1 ≤ maxLen)⟩)
 go_wp2_with fail
 clear ew108
 refine (rule14_any (none) (some ⟨w107.heap.size, 0, none⟩) 0 0 1 1 w108).mono ?_
 rintro e w109 ⟨vw109, rfl, hkw109, rfl⟩
 have Xw109 := Lib.hid (show Ext w108 w109 from hkw109)
 clear hkw109
 go_wp2_with fail
 refine (each_known (p := ⟨#[116]⟩) (hs := []) (ls := [(((2) : Int), ((⟨#[101]⟩ : ByteArray), [((3 : Int), (⟨#[97]⟩ : ByteArray), ())], ()), (0 : Int), ((0 : Int), (⟨#[]⟩ : ByteArray), ()), ((0 : Int), (⟨#[]⟩ : ByteArray), ()), ())]) (ha := none) (ba := some ⟨w107.heap.size, 0, none⟩) (hn := 0) (hcap := 0) (n := 1) (bcap := 1) rfl (terms_nil w109 none) (by decide) rfl (L40.out.ext Xw109.out) (fit_of (by kernel_rfl)) (few_of (by kernel_rfl)) (by decide) (HBv.out.1.ext (Zw10.out.trans (Xw11.out.trans (Xw12.out.trans (Xw13.out.trans (Xw14.out.trans (Xw15.out.trans (Xw16.out.trans (Xw17.out.trans (Xw18.out.trans (Xw19.out.trans (Xw20.out.trans (Xw21.out.trans (Xw22.out.trans (Xw23.out.trans (Xw24.out.trans (Xw25.out.trans (Xw26.out.trans (Xw27.out.trans (Xw28.out.trans (Xw29.out.trans (Xw30.out.trans (Xw31.out.trans (Xw32.out.trans (Xw33.out.trans (Xw34.out.trans (Xw35.out.trans (Xw36.out.trans (Xw37.out.trans (Xw38.out.trans (Xw39.out.trans (Xw40.out.trans (Xw41.out.trans (Xw42.out.trans (Xw43.out.trans (Xw44.out.trans (Xw45.out.trans (Xw46.out.trans (Xw47.out.trans (Xw48.out.trans (Xw49.out.trans (Xw50.out.trans (Xw51.out.trans (Xw52.out.trans (Xw53.out.trans (Xw54.out.trans (Xw55.out.trans (Xw56.out.trans (Xw57.out.trans (Xw58.out.trans (Xw59.out.trans (Xw60.out.trans (Xw61.out.trans (Xw62.out.trans (Xw63.out.trans (Xw64.out.trans (Xw65.out.trans (Xw66.out.trans (Xw67.out.trans (Xw68.out.trans (Xw69.out.trans (Xw70.out.trans (Xw71.out.trans (Xw72.out.trans (Xw73.out.trans (Xw74.out.trans (Xw75.out.trans (Xw76.out.trans (Xw77.out.trans (Xw78.out.trans (Xw79.out.trans (Xw80.out.trans (Xw81.out.trans (Xw82.out.trans (Xw83.out.trans (Xw84.out.trans (Xw85.out.trans (Xw86.out.trans (Xw87.out.trans (Xw88.out.trans (Xw89.out.trans (Xw90.out.trans (Xw91.out.trans (Xw92.out.trans (Xw93.out.trans (Xw94.out.trans (Xw95.out.trans (Xw96.out.trans (Xw97.out.trans (Xw98.out.trans (Xw99.out.trans (Xw100.out.trans (Xw101.out.trans (Xw102.out.trans (Xw103.out.trans (Xw104.out.trans (Xw105.out.trans (Xw106.out.trans (Xw107.out.trans (Xw108.out.trans Xw109.out)))))))))))))))))))))))))))))))))))))))))))))))))))))))))))))))))))))))))))))))))))))))))))))))))))) HBv.out.2 [(⟨#[]⟩ : ByteArray)] 1 (by kernel_rfl) rfl (by decide)).mono ?_
 rintro e w110 ⟨vw110, rfl, hkw110, ea41, ec41, rfl, hE41⟩
 have Xw110 := Lib.hid (show Ext w109 w110 from hkw110)
 clear hkw110
 have E41 := Lib.hid hE41
 clear hE41
 obtain ⟨w111, ew111⟩ : ∃ x, w110.alloc (.cells #[.string ⟨#[]⟩] 9) = x := ⟨_, rfl⟩
 have Xw111 := Lib.hid (show Ext w110 w111 from by rw [<- ew111]; exact (Kp.refl w110).alloc _)
 have Sw111 := Lib.hid (show CellsAt w111 (some ⟨w110.heap.size, 0, none⟩) (strs [(⟨#[]⟩ : ByteArray)]) from by rw [<- ew111]; exact CellsAt.new w110 (strs [(⟨#[]⟩ : ByteArray)]) _)
 go_wp2_with fail
 clear ew111
 refine (same_known [(⟨#[]⟩ : ByteArray)] (ea41) (some ⟨w110.heap.size, 0, none⟩) 1 ec41 1 w111 rfl (E41.out.ext Xw111.out) (Sw111.out.ext (Kp.refl w111)) (by decide)).mono ?_
 rintro e w112 ⟨vw112, rfl, hkw112, rfl⟩
 have Xw112 := Lib.hid (show Ext w111 w112 from hkw112)
 clear hkw112
 go_wp2_with fail
 refine (heads_any (HBv.out.1.ext (Zw10.out.trans (Xw11.out.trans (Xw12.out.trans (Xw13.out.trans (Xw14.out.trans (Xw15.out.trans (Xw16.out.trans (Xw17.out.trans (Xw18.out.trans (Xw19.out.trans (Xw20.out.trans (Xw21.out.trans (Xw22.out.trans (Xw23.out.trans (Xw24.out.trans (Xw25.out.trans (Xw26.out.trans (Xw27.out.trans (Xw28.out.trans (Xw29.out.trans (Xw30.out.trans (Xw31.out.trans (Xw32.out.trans (Xw33.out.trans (Xw34.out.trans (Xw35.out.trans (Xw36.out.trans (Xw37.out.trans (Xw38.out.trans (Xw39.out.trans (Xw40.out.trans (Xw41.out.trans (Xw42.out.trans (Xw43.out.trans (Xw44.out.trans (Xw45.out.trans (Xw46.out.trans (Xw47.out.trans (Xw48.out.trans (Xw49.out.trans (Xw50.out.trans (Xw51.out.trans (Xw52.out.trans (Xw53.out.trans (Xw54.out.trans (Xw55.out.trans (Xw56.out.trans (Xw57.out.trans (Xw58.out.trans (Xw59.out.trans (Xw60.out.trans (Xw61.out.trans (Xw62.out.trans (Xw63.out.trans (Xw64.out.trans (Xw65.out.trans (Xw66.out.trans (Xw67.out.trans (Xw68.out.trans (Xw69.out.trans (Xw70.out.trans (Xw71.out.trans (Xw72.out.trans (Xw73.out.trans (Xw74.out.trans (Xw75.out.trans (Xw76.out.trans (Xw77.out.trans (Xw78.out.trans (Xw79.out.trans (Xw80.out.trans (Xw81.out.trans (Xw82.out.trans (Xw83.out.trans (Xw84.out.trans (Xw85.out.trans (Xw86.out.trans (Xw87.out.trans (Xw88.out.trans (Xw89.out.trans (Xw90.out.trans (Xw91.out.trans (Xw92.out.trans (Xw93.out.trans (Xw94.out.trans (Xw95.out.trans (Xw96.out.trans (Xw97.out.trans (Xw98.out.trans (Xw99.out.trans (Xw100.out.trans (Xw101.out.trans (Xw102.out.trans (Xw103.out.trans (Xw104.out.trans (Xw105.out.trans (Xw106.out.trans (Xw107.out.trans (Xw108.out.trans (Xw109.out.trans (Xw110.out.trans (Xw111.out.trans Xw112.out))))))))))))))))))))))))))))))))))))))))))))))))))))))))))))))))))))))))))))))))))))))))))))))))))))))) HBv.out.2).mono ?_
 rintro e w113 ⟨vw113, rfl, hkw113, rfl⟩
 have Xw113 := Lib.hid (show Ext w112 w113 from hkw113)
 clear hkw113
 go_wp2
 go_ret
 exact RetN.mk (Xw1.out.trans (Zw10.out.trans (Xw11.out.trans (Xw12.out.trans (Xw13.out.trans (Xw14.out.trans (Xw15.out.trans (Xw16.out.trans (Xw17.out.trans (Xw18.out.trans (Xw19.out.trans (Xw20.out.trans (Xw21.out.trans (Xw22.out.trans (Xw23.out.trans (Xw24.out.trans (Xw25.out.trans (Xw26.out.trans (Xw27.out.trans (Xw28.out.trans (Xw29.out.trans (Xw30.out.trans (Xw31.out.trans (Xw32.out.trans (Xw33.out.trans (Xw34.out.trans (Xw35.out.trans (Xw36.out.trans (Xw37.out.trans (Xw38.out.trans (Xw39.out.trans (Xw40.out.trans (Xw41.out.trans (Xw42.out.trans (Xw43.out.trans (Xw44.out.trans (Xw45.out.trans (Xw46.out.trans (Xw47.out.trans (Xw48.out.trans (Xw49.out.trans (Xw50.out.trans (Xw51.out.trans (Xw52.out.trans (Xw53.out.trans (Xw54.out.trans (Xw55.out.trans (Xw56.out.trans (Xw57.out.trans (Xw58.out.trans (Xw59.out.trans (Xw60.out.trans (Xw61.out.trans (Xw62.out.trans (Xw63.out.trans (Xw64.out.trans (Xw65.out.trans (Xw66.out.trans (Xw67.out.trans (Xw68.out.trans (Xw69.out.trans (Xw70.out.trans (Xw71.out.trans (Xw72.out.trans (Xw73.out.trans (Xw74.out.trans (Xw75.out.trans (Xw76.out.trans (Xw77.out.trans (Xw78.out.trans (Xw79.out.trans (Xw80.out.trans (Xw81.out.trans (Xw82.out.trans (Xw83.out.trans (Xw84.out.trans (Xw85.out.trans (Xw86.out.trans (Xw87.out.trans (Xw88.out.trans (Xw89.out.trans (Xw90.out.trans (Xw91.out.trans (Xw92.out.trans (Xw93.out.trans (Xw94.out.trans (Xw95.out.trans (Xw96.out.trans (Xw97.out.trans (Xw98.out.trans (Xw99.out.trans (Xw100.out.trans (Xw101.out.trans (Xw102.out.trans (Xw103.out.trans (Xw104.out.trans (Xw105.out.trans (Xw106.out.trans (Xw107.out.trans (Xw108.out.trans (Xw109.out.trans (Xw110.out.trans (Xw111.out.trans (Xw112.out.trans Xw113.out)))))))))))))))))))))))))))))))))))))))))))))))))))))))))))))))))))))))))))))))))))))))))))))))))))))))) rfl
end Go.Proofs.YtinnmeiphbdogaaGreat

/- Proved here: the statement JoinKnownSaid: the law returns true for every input and leaves its arguments as they were. No condition of its own. -/
namespace Go.Proofs.YtinnmeiphbdogaaGreat.lawJoinKnown
open Go.ChangeShapes Go.WideShapes Go.ChangeAt Go.RowKit
open Go.ChangeMaps (open_string shut_string)
set_option linter.unusedVariables false
theorem own : ownKnob Tryz.prog.godebug = none := by kernel_rfl
theorem laidOut : laidOutB Tryz.prog = true := by kernel_rfl
theorem known_walk (W : World) : Calls Tryz.prog 5 #[] W (fun e w' => e = .returned (.bool true) /\ Below W.heap.size W w') := by
 refine (known14_any W).mono ?_
 rintro e w' ⟨v, rfl, hk, rfl⟩
 exact ⟨rfl, hk.below⟩
set_option maxRecDepth 100000 in
theorem lifted (os : Os) (started : os.Started) (H : Type) (enc : TypeId × Value -> H) :
 ReturnsInHanded {} Tryz.checked os 5 .any (Rows.joinKnownSpec.pre6 enc Tryz.prog Tryz.f5 Rows.joinKnownRow.domain false) (Rows.joinKnownSpec.post enc Tryz.prog Tryz.f5 false true false false) := by
 refine returnsInHanded_of_change_sized (C := Tryz.checked) own started (by kernel_rfl) Tryz.func5
  (ChangeSpec.witness6 (enc := enc) (C := Tryz.checked) false ⟨#[], #[], []⟩ 8 (by kernel_rfl) (by kernel_rfl) (by kernel_rfl) (by kernel_rfl)) ?_
 intro W base args ds gs before hval0 hW hcnd hsz0 _
 have hsz : (DataW.weightsEach Tryz.prog (Tryz.f5.params.toList ++ Rows.joinKnownSpec.plain.varTypes Tryz.prog) (ds ++ gs)).all (· ≤ reachBytes) = true := hsz0
 clear hsz0
 have hval : ∀ (j : Nat) t v, Tryz.f5.params[j]? = some t -> args[j]? = some v -> Value.okWide Tryz.prog W .any base t v := hval0
 have hW' := hW
 obtain ⟨p, q, hA0, hV, rfl, hfz, hnd⟩ := hW
 have hA : DataW.TrodAll enc Tryz.prog W 0 (fun _ => true) true Tryz.f5.params.toList args.toList ds p := hA0
 rw [Tryz.params5] at hA hval hsz
 obtain ⟨hargs, rfl, rfl⟩ := trodAll_nil hA
 obtain rfl : args = #[] := by cases args; simp_all
 obtain ⟨rfl, rfl⟩ := trodVars_none hV
 clear hA0 hval0
 refine (known_walk  W ).mono fun e W' ⟨he, bel⟩ => ?_
 subst he
 exact ⟨_, rfl, _, _, _, [], _, [], hW', trodAll_mk1 (shut_bool Tryz.underlying4 _), trodAll_mk0, rfl, bel.frame _, fun h => by cases h⟩
theorem over : Rows.joinKnownRow.holds Tryz.pinned (OpenSpec.ofChange Rows.joinKnownSpec) :=
 OpenClaim.holds_of_wide 5 Tryz.f5 rfl rfl rfl rfl rfl rfl rfl ⟨rfl, rfl, rfl, rfl, rfl⟩ rfl rfl rfl rfl rfl (by kernel_rfl) Tryz.func5 (by kernel_rfl)
  (of_decide_eq_true (by kernel_rfl)) (by unfold Func.isWrapper; first | (rw [if_pos (by decide +kernel)]; kernel_rfl) | (rw [if_neg (by decide +kernel)]; exact ⟨rfl, rfl⟩))
  (fun os started H enc _ => lifted os started H enc)
theorem proved : Rows.JoinKnownSaid := over
#print axioms proved
end Go.Proofs.YtinnmeiphbdogaaGreat.lawJoinKnown
