/- Texts joined for a claim (AggGiv, RowDrop, AggOwnE, JLent, AggLent, AggPrg, AggKept, AggMove, AggFew, AggSmall, AggOwn, RelRead). -/
import Derived.Test.YtikgpedgmnbcaaaGreatDoorAw9
set_option linter.unusedVariables false
set_option linter.unusedSimpArgs false
set_option maxRecDepth 100000
namespace Go.Proofs.YtikgpedgmnbcaaaGreatDoor
section
open Go.RowKit Go.Shelf
attribute [local go_sem] Oper.semAt_some
def vC : List lL := [(⟨#[101]⟩, 2, [[(⟨#[97]⟩ : ByteArray), (⟨#[49]⟩ : ByteArray)], [(⟨#[97]⟩ : ByteArray), (⟨#[49, 48]⟩ : ByteArray)], [(⟨#[97]⟩ : ByteArray), (⟨#[57]⟩ : ByteArray)], [(⟨#[98]⟩ : ByteArray), (⟨#[57]⟩ : ByteArray)], [(⟨#[98]⟩ : ByteArray), (⟨#[]⟩ : ByteArray)]], ())]
def aC4 : List bG := [(⟨#[101]⟩, 2, [[(⟨#[97]⟩ : ByteArray), (⟨#[49]⟩ : ByteArray)], [(⟨#[97]⟩ : ByteArray), (⟨#[49, 48]⟩ : ByteArray)], [(⟨#[97]⟩ : ByteArray), (⟨#[57]⟩ : ByteArray)], [(⟨#[98]⟩ : ByteArray), (⟨#[]⟩ : ByteArray)], [(⟨#[98]⟩ : ByteArray), (⟨#[57]⟩ : ByteArray)]])]
theorem vB : gP [] vC = (aC4, 0) := by kernel_rfl
set_option maxHeartbeats 4000000 in
theorem aB5 (w : World) : Calls Tryz.prog 23 #[] w (RetN w fun w' v => ∃ bb E S, v = .pointer (some ⟨bb, 0, none⟩) /\ BaseV S w' v E /\ aR E = aC4) := by
 obtain ⟨w1, e1⟩ : ∃ x, w.alloc (.cells #[.string ⟨#[97]⟩, .string ⟨#[49]⟩] 9) = x := ⟨_, rfl⟩
 have B1 := qH (show Blk w1 w.heap.size [.string ⟨#[97]⟩, .string ⟨#[49]⟩] 9 from by rw [<- e1]; exact Blk.new w _ _)
 have Y1 := qH (show Ext w w1 from by rw [<- e1]; exact (Kp.refl w).alloc _)
 obtain ⟨w2, e2⟩ : ∃ x, w1.alloc (.cells #[.string ⟨#[97]⟩, .string ⟨#[49, 48]⟩] 9) = x := ⟨_, rfl⟩
 have B2 := qH (show Blk w2 w1.heap.size [.string ⟨#[97]⟩, .string ⟨#[49, 48]⟩] 9 from by rw [<- e2]; exact Blk.new w1 _ _)
 have Y2 := qH (show Ext w1 w2 from by rw [<- e2]; exact (Kp.refl w1).alloc _)
 obtain ⟨w3, e3⟩ : ∃ x, w2.alloc (.cells #[.string ⟨#[97]⟩, .string ⟨#[57]⟩] 9) = x := ⟨_, rfl⟩
 have B3 := qH (show Blk w3 w2.heap.size [.string ⟨#[97]⟩, .string ⟨#[57]⟩] 9 from by rw [<- e3]; exact Blk.new w2 _ _)
 have Y3 := qH (show Ext w2 w3 from by rw [<- e3]; exact (Kp.refl w2).alloc _)
 obtain ⟨w4, e4⟩ : ∃ x, w3.alloc (.cells #[.string ⟨#[98]⟩, .string ⟨#[57]⟩] 9) = x := ⟨_, rfl⟩
 have B4 := qH (show Blk w4 w3.heap.size [.string ⟨#[98]⟩, .string ⟨#[57]⟩] 9 from by rw [<- e4]; exact Blk.new w3 _ _)
 have Y4 := qH (show Ext w3 w4 from by rw [<- e4]; exact (Kp.refl w3).alloc _)
 obtain ⟨w5, e5⟩ : ∃ x, w4.alloc (.cells #[.string ⟨#[98]⟩, .string ⟨#[]⟩] 9) = x := ⟨_, rfl⟩
 have B5 := qH (show Blk w5 w4.heap.size [.string ⟨#[98]⟩, .string ⟨#[]⟩] 9 from by rw [<- e5]; exact Blk.new w4 _ _)
 have Y5 := qH (show Ext w4 w5 from by rw [<- e5]; exact (Kp.refl w4).alloc _)
 obtain ⟨w6, e6⟩ : ∃ x, w5.alloc (.cells #[.slice (some ⟨w.heap.size, 0, none⟩) 2 2, .slice (some ⟨w1.heap.size, 0, none⟩) 2 2, .slice (some ⟨w2.heap.size, 0, none⟩) 2 2, .slice (some ⟨w3.heap.size, 0, none⟩) 2 2, .slice (some ⟨w4.heap.size, 0, none⟩) 2 2] 66) = x := ⟨_, rfl⟩
 have B6 := qH (show Blk w6 w5.heap.size [.slice (some ⟨w.heap.size, 0, none⟩) 2 2, .slice (some ⟨w1.heap.size, 0, none⟩) 2 2, .slice (some ⟨w2.heap.size, 0, none⟩) 2 2, .slice (some ⟨w3.heap.size, 0, none⟩) 2 2, .slice (some ⟨w4.heap.size, 0, none⟩) 2 2] 66 from by rw [<- e6]; exact Blk.new w5 _ _)
 have Y6 := qH (show Ext w5 w6 from by rw [<- e6]; exact (Kp.refl w5).alloc _)
 obtain ⟨w7, e7⟩ : ∃ x, w6.alloc (.cells #[.string ⟨#[101]⟩, .int .i64 2, .slice (some ⟨w5.heap.size, 0, none⟩) 5 5] 111) = x := ⟨_, rfl⟩
 have B7 := qH (show Blk w7 w6.heap.size [.string ⟨#[101]⟩, .int .i64 2, .slice (some ⟨w5.heap.size, 0, none⟩) 5 5] 111 from by rw [<- e7]; exact Blk.new w6 _ _)
 have Y7 := qH (show Ext w6 w7 from by rw [<- e7]; exact (Kp.refl w6).alloc _)
 have HE := qH (wX (w := w6) (g := w5.heap.size) (l := [(w.heap.size, [(⟨#[97]⟩ : ByteArray), (⟨#[49]⟩ : ByteArray)]), (w1.heap.size, [(⟨#[97]⟩ : ByteArray), (⟨#[49, 48]⟩ : ByteArray)]), (w2.heap.size, [(⟨#[97]⟩ : ByteArray), (⟨#[57]⟩ : ByteArray)]), (w3.heap.size, [(⟨#[98]⟩ : ByteArray), (⟨#[57]⟩ : ByteArray)]), (w4.heap.size, [(⟨#[98]⟩ : ByteArray), (⟨#[]⟩ : ByteArray)])]) (LL := [[(⟨#[97]⟩ : ByteArray), (⟨#[49]⟩ : ByteArray)], [(⟨#[97]⟩ : ByteArray), (⟨#[49, 48]⟩ : ByteArray)], [(⟨#[97]⟩ : ByteArray), (⟨#[57]⟩ : ByteArray)], [(⟨#[98]⟩ : ByteArray), (⟨#[57]⟩ : ByteArray)], [(⟨#[98]⟩ : ByteArray), (⟨#[]⟩ : ByteArray)]]) rfl B6.out (fun x hx => by
  simp only [List.mem_cons, List.not_mem_nil, or_false] at hx
  rcases hx with rfl | rfl | rfl | rfl | rfl
  ·exact ⟨B1.out.ext (Y2.out.trans (Y3.out.trans (Y4.out.trans (Y5.out.trans (Y6.out))))), by simp⟩
  ·exact ⟨B2.out.ext (Y3.out.trans (Y4.out.trans (Y5.out.trans (Y6.out)))), by simp⟩
  ·exact ⟨B3.out.ext (Y4.out.trans (Y5.out.trans (Y6.out))), by simp⟩
  ·exact ⟨B4.out.ext (Y5.out.trans (Y6.out)), by simp⟩
  ·exact ⟨B5.out.ext (Y6.out), by simp⟩))
 have X := qH (show Ext w w7 from Y1.out.trans (Y2.out.trans (Y3.out.trans (Y4.out.trans (Y5.out.trans (Y6.out.trans (Y7.out)))))))
 have XE := qH Y7.out
 have BR := qH B7.out
 clear B1 Y1 B2 Y2 B3 Y3 B4 Y4 B5 Y5 B6 Y6 B7 Y7
 have hL : RelsIn TT w7 (some ⟨w6.heap.size, 0, none⟩) vC := fun i q hq => by
  match i, hq with
  | 0, hq => cases hq; exact ⟨w6.heap.size, 0, some ⟨w5.heap.size, 0, none⟩, 5, rfl, trivial, by rw [BR.out.cell']; rfl, by rw [BR.out.cell']; rfl, by rw [BR.out.cell']; rfl, by decide, by decide, HE.out.ext XE.out⟩
  | n + 1, hq => cases hq
 have HFr := qH (aB6 vC (some ⟨w6.heap.size, 0, none⟩) 1 1 w7 TT rfl hL (by decide) (by decide))
 clear hL
 go_enter Tryz.func23, Tryz.ntmps23
 go_wp2_with fail
 refine HFr.out.mono ?_
 rintro e w11 ⟨v, rfl, hk11, hv⟩
 obtain ⟨bb, r, S, E, rfl, hb, hC, -, -⟩ := hv.1 (by rw [vB])
 have H11 := qH (show Ext w w11 /\ BaseAt S w11 bb r E /\ aR E = aC4 from ⟨X.out.trans hk11, hb, by rw [hC, vB]⟩)
 clear hv hb hC hk11
 go_wp2
 go_ret
 exact RetN.mk H11.out.1 ⟨bb, E, S, rfl, .full bb r E H11.out.2.1, H11.out.2.2⟩
def rF : List aE := [((1 : Int), (⟨#[88]⟩ : ByteArray), ()), ((4 : Int), (⟨#[]⟩ : ByteArray), ())]
def aJ8 : List aE := [((1 : Int), (⟨#[88]⟩ : ByteArray), ()), ((1 : Int), (⟨#[89]⟩ : ByteArray), ())]
def oX : List aM := [((1 : Int), ((⟨#[101]⟩ : ByteArray), aJ8, ()), (0 : Int), ((0 : Int), (⟨#[]⟩ : ByteArray), ()), ((0 : Int), (⟨#[]⟩ : ByteArray), ()), ())]
def aC3 : aC := [[(⟨#[97]⟩ : ByteArray), (⟨#[51]⟩ : ByteArray)], [(⟨#[98]⟩ : ByteArray), (⟨#[50]⟩ : ByteArray)]]
theorem aLb : okR ((⟨#[116]⟩, rF, ()), oX, ()) aC4 = true := by kernel_rfl
theorem aLc : dD ((⟨#[116]⟩, rF, ()), oX, ()) false (cF ((⟨#[116]⟩, rF, ()), oX, ()) aC4) = (0, aC3) := by kernel_rfl
theorem aFf (bb : Nat) (w : World) : (binOp .neq 45 (.pointer (some ⟨bb, 0, none⟩)) (.pointer none)).run Tryz.prog w = .ok (.bool true) w := by kernel_rfl
set_option maxHeartbeats 4000000 in
theorem sG (w : World) (hN : NumW w) : Calls Tryz.prog 15 #[] w (RetN w fun w' v => v = .bool true) := by
 have HN := qH hN
 clear hN
 go_enter Tryz.func15, Tryz.ntmps15
 go_wp2_with fail
 refine (aB5 w).mono ?_
 rintro e w1 ⟨v1, rfl, hk1, bb, E, SS, rfl, hBv, hCv⟩
 have X1 := qH (And.intro hk1 (And.intro hBv hCv))
 clear hk1 hBv hCv
 have hnb := aFf bb w1
 go_wp2_with fail
 refine (yQ ⟨#[88]⟩ w1).mono ?_
 rintro e w2 ⟨v2, rfl, hk2, rfl⟩
 have X2 := qH hk2
 clear hk2 hnb
 obtain ⟨w3, ew3⟩ : ∃ x, w2.alloc (.cells #[.int .i64 1, .string ⟨#[88]⟩, .int .i64 4, .string ⟨#[]⟩] 58) = x := ⟨_, rfl⟩
 have X3 := qH (show Ext w2 w3 from by rw [<- ew3]; exact (Kp.refl w2).alloc _)
 have T3 := qH (show aU w3 TT (some ⟨w2.heap.size, 0, none⟩) rF from by rw [<- ew3]; exact wO w2 rF (by kernel_rfl))
 go_wp2_with fail
 clear ew3
 refine (yQ ⟨#[88]⟩ w3).mono ?_
 rintro e w4 ⟨v4, rfl, hk4, rfl⟩
 have X4 := qH hk4
 clear hk4
 go_wp2_with fail
 refine (yQ ⟨#[89]⟩ w4).mono ?_
 rintro e w5 ⟨v5, rfl, hk5, rfl⟩
 have X5 := qH hk5
 clear hk5
 obtain ⟨w6, ew6⟩ : ∃ x, w5.alloc (.cells #[.int .i64 1, .string ⟨#[88]⟩, .int .i64 1, .string ⟨#[89]⟩] 58) = x := ⟨_, rfl⟩
 have X6 := qH (show Ext w5 w6 from by rw [<- ew6]; exact (Kp.refl w5).alloc _)
 have T6 := qH (show aU w6 TT (some ⟨w5.heap.size, 0, none⟩) aJ8 from by rw [<- ew6]; exact wO w5 aJ8 (by kernel_rfl))
 go_wp2_with fail
 clear ew6
 refine (aGu ⟨#[101]⟩ (some ⟨w5.heap.size, 0, none⟩) 2 2 w6).mono ?_
 rintro e w7 ⟨v7, rfl, hk7, rfl⟩
 have X7 := qH hk7
 clear hk7
 obtain ⟨w8, ew8⟩ : ∃ x, w7.alloc (.cells #[.int .i64 1, .string ⟨#[101]⟩, .slice (some ⟨w5.heap.size, 0, none⟩) 2 2, .int .i64 0, .int .i64 0, .string ⟨#[]⟩, .int .i64 0, .string ⟨#[]⟩] 60) = x := ⟨_, rfl⟩
 have X8 := qH (show Ext w7 w8 from by rw [<- ew8]; exact (Kp.refl w7).alloc _)
 have L8 := qH (show cD w8 TT (some ⟨w7.heap.size, 0, none⟩) oX from by
  rw [<- ew8]
  refine aJb w7 oX [(some ⟨w5.heap.size, 0, none⟩, 2)] rfl (by kernel_rfl) fun x hx => ?_
  unfold oX at hx
  simp only [List.zip_cons_cons, List.zip_nil_right, List.mem_cons, List.not_mem_nil, or_false] at hx
  rcases hx with rfl
  exact ⟨T6.out.ext X7.out, Nat.le_refl _, (by decide : 2 ≤ maxLen)⟩)
 go_wp2_with fail
 clear ew8
 refine (aDy (some ⟨w2.heap.size, 0, none⟩) (some ⟨w7.heap.size, 0, none⟩) 2 2 1 1 w8).mono ?_
 rintro e w9 ⟨v9, rfl, hk9, rfl⟩
 have X9 := qH hk9
 clear hk9
 obtain ⟨w10, e10⟩ : ∃ x, w9.alloc (.cells #[.string ⟨#[97]⟩, .string ⟨#[51]⟩] 9) = x := ⟨_, rfl⟩
 obtain ⟨w11, e11⟩ : ∃ x, w10.alloc (.cells #[.string ⟨#[98]⟩, .string ⟨#[50]⟩] 9) = x := ⟨_, rfl⟩
 obtain ⟨w12, e12⟩ : ∃ x, w11.alloc (.cells #[.slice (some ⟨w9.heap.size, 0, none⟩) 2 2, .slice (some ⟨w10.heap.size, 0, none⟩) 2 2] 66) = x := ⟨_, rfl⟩
 have x10 : Ext w9 w10 := by rw [<- e10]; exact (Kp.refl w9).alloc _
 have x11 : Ext w10 w11 := by rw [<- e11]; exact (Kp.refl w10).alloc _
 have x12 : Ext w11 w12 := by rw [<- e12]; exact (Kp.refl w11).alloc _
 have b10 : Blk w10 w9.heap.size [.string ⟨#[97]⟩, .string ⟨#[51]⟩] 9 := by rw [<- e10]; exact Blk.new w9 _ _
 have b11 : Blk w11 w10.heap.size [.string ⟨#[98]⟩, .string ⟨#[50]⟩] 9 := by rw [<- e11]; exact Blk.new w10 _ _
 have b12 : Blk w12 w11.heap.size [.slice (some ⟨w9.heap.size, 0, none⟩) 2 2, .slice (some ⟨w10.heap.size, 0, none⟩) 2 2] 66 := by rw [<- e12]; exact Blk.new w11 _ _
 have HW := qH (show RowsIn TT w12 (some ⟨w11.heap.size, 0, none⟩) aC3 from wX (l := [(w9.heap.size, [(⟨#[97]⟩ : ByteArray), (⟨#[51]⟩ : ByteArray)]), (w10.heap.size, [(⟨#[98]⟩ : ByteArray), (⟨#[50]⟩ : ByteArray)])]) rfl b12 (fun x hx => by
  simp only [List.mem_cons, List.not_mem_nil, or_false] at hx
  rcases hx with rfl | rfl
  ·exact ⟨b10.ext (x11.trans x12), by simp⟩
  ·exact ⟨b11.ext x12, by simp⟩))
 have X12 := qH (x10.trans (x11.trans x12))
 clear x10 x11 x12 b10 b11 b12
 go_wp2_with fail
 clear e10 e11 e12
 have H9 := qH (show Ext w w12 /\ Ext w1 w12 /\ Ext w3 w12 /\ Ext w8 w12 from
  have a := X9.out.trans X12.out
  have b := X4.out.trans (X5.out.trans (X6.out.trans (X7.out.trans (X8.out.trans a))))
  have c := X2.out.trans (X3.out.trans b)
  ⟨X1.out.1.trans c, c, b, a⟩)
 refine (is15R (p := ⟨#[116]⟩) (hs := rF) (ls := oX) (hn := 2) (hcap := 2) (n := 1) (bcap := 1) (G := TT) (wc := 2) (B := aC3) rfl (T3.out.ext H9.out.2.2.1) (by decide) rfl (L8.out.ext H9.out.2.2.2) (aL5 (by kernel_rfl)) (aL6 (by kernel_rfl)) (by decide) (X1.out.2.1.ext H9.out.2.1) X1.out.2.2 (fun _ => aLb) (HN.out.ext H9.out.1) aLc (by decide) rfl HW.out).mono ?_
 rintro e w13 ⟨v13, rfl, hk13, rfl⟩
 have X13 := qH (H9.out.1.trans hk13)
 clear hk13
 rw [show decide (0 = 0 /\ aC3 = aC3) = true from decide_eq_true ⟨rfl, rfl⟩]
 go_wp2
 go_ret
 exact RetN.mk X13.out rfl
end
section
open Go.RowKit Go.Shelf
section
variable {z : Prop} {S S' : Nat -> Prop} {w w' : World} {b : Nat} {iv : Value} {arity : Nat} {LL : List (List ByteArray)}
theorem RowsAt.openS (h : RowsAt S w b iv arity LL) (hst : Strict aD LL) {x : eZ} {ss : List ByteArray} (hx : RowIn w x ss) (ho : gC x (bN b iv)) :
 ∃ con zs, (∀ x ss, ReadsAs w x ss -> con x = ss) /\ SetAtRow Tryz.prog (gY S x) w b (.func (Fn.func 120) #[] #[]) iv [.int .i64 arity] 138 (oY (gY S x) w) (fun x y => aD (con x) (con y)) zs /\ zs.map con = LL /\
  oY (gY S x) w x /\ con x = ss /\ Strict (fun x y => aD (con x) (con y)) zs /\ bA (fun x y => aD (con x) (con y)) zs x = bA aD LL ss /\ ∀ z ∈ zs, oY S w z := by
 obtain ⟨con, zs, hc, hs, hl⟩ := h
 have ex := hc x ss hx.1
 refine ⟨con, zs, hc, ⟨hs.blk, hs.row, hs.apart, fun k hk => ?_, fun k hk hs' => ?_, gG hc, fun z hz => ?_, hs.len⟩, hl, ⟨ss, hx.1, hx.2.1, fun a e hne => .inr ⟨a, e, hne, rfl⟩⟩, ex, ?_, ?_, hs.all⟩
 ·rcases hk with hk | ⟨a, e, hne, rfl⟩
  ·exact hs.inS k hk
  ·exact hx.2.2 a e hne
 ·rcases hs' with hs' | ⟨a, e, hne, rfl⟩
  ·exact hs.notS k hk hs'
  ·exact ho a e hne hk
 ·obtain ⟨sz, h1, h2, h3⟩ := hs.all z hz
  exact ⟨sz, h1, h2, fun a e hne => .inl (h3 a e hne)⟩
 ·rw [<- hl] at hst
  exact List.pairwise_map.1 hst
 ·rw [<- hl, <- ex]; simp [bA, List.any_map, Function.comp_def]
theorem RowsAt.of_set' {S' : Nat -> Prop} {w1 w2 : World} {con : eZ -> List ByteArray} {zs : List eZ} {D : eZ -> Prop} (hc : ∀ x ss, ReadsAs w1 x ss -> con x = ss) (hsame : Same S w1 w2) (hSS : ∀ k, S k -> S' k)
 (h : SetAtRow Tryz.prog S' w2 b (.func (Fn.func 120) #[] #[]) iv [.int .i64 arity] 138 D (fun x y => aD (con x) (con y)) zs) (hall : ∀ z ∈ zs, oY S w1 z) : RowsAt S w2 b iv arity (zs.map con) := by
 obtain ⟨con', hc'⟩ := rB w2
 have all : ∀ z ∈ zs, oY S w2 z /\ con' z = con z := fun z hz => by
  obtain ⟨ss, h1, h2, h3⟩ := hall z hz
  have h1' := h1.same hsame h3
  exact ⟨⟨ss, h1', h2, h3⟩, by rw [hc' z ss h1', hc z ss h1]⟩
 exact ⟨con', zs, hc', ⟨h.blk, h.row, h.apart, fun k hk => h.inS k (hSS k hk), fun k ho hk => h.notS k ho (hSS k hk), gG hc', fun z hz => (all z hz).1, h.len⟩, List.map_congr_left fun z hz => (all z hz).2⟩
theorem aD0 (h : RowsQ z S w b iv arity LL) (hst : Strict aD LL) {ao : Option Addr} {n cap : Nat} {ss : List ByteArray} (hx : RowIn w (ao, n, cap) ss) (ho : gC (ao, n, cap) (bN b iv)) :
 Calls Tryz.prog 37 #[.pointer (some ⟨b, 0, none⟩), .slice ao n cap] w (RetF (bN b iv) w fun w' v => v = .tuple #[.bool (nQ arity LL ss).1, .int .i64 ((nQ arity LL ss).2 : Nat)] /\
  ∃ iv', RowsQ z S w' b iv' arity (fY arity LL ss) /\ iv'.ownBlock = iv.ownBlock) := by
 have hn : n = ss.length := hx.1.1
 have c2 := h.ar
 by_cases h1 : n = arity
 ·have q1 : ((n : Int) != (arity : Int)) = false := by simp [h1]
  have HS := qH (fX h); clear h
  have HX := qH (And.intro hst (And.intro hx ho)); clear hst hx ho
  have HN := qH (show ss.length = arity by omega)
  clear hn h1
  go_enter Tryz.func37, Tryz.ntmps37
  go_wp2_with fail
  refine HS.out.mono ?_
  rintro e w1 ⟨v, rfl, hk, rfl, h1⟩
  have hx1 := HX.out.2.1.kp hk (fun a e hne hf => HX.out.2.2 a e hne (.inl hf.2))
  obtain ⟨con, zs, hc, hs, hl, hd, ex, hz, e1, hall⟩ := h1.openS HX.out.1 hx1 HX.out.2.2
  have HF := qH (tS (jB con) (ao, n, cap) hd hz hs)
  rw [e1] at HF
  have HC := qH (And.intro hc (And.intro hl (And.intro ex (And.intro hs hall))))
  have HK := qH (And.intro hk h1)
  clear hc hs hl hd ex hz e1 hall hk h1 hx1 q1 c2
  go_wp2_with fail
  refine HF.out.mono ?_
  rintro e w2 ⟨v, rfl, hk2, rfl, iv', hs2, hiv⟩
  have HK2 := qH (And.intro hk2 (And.intro hs2 hiv)); clear hk2 hs2 hiv
  go_wp2
  go_ret2
  obtain ⟨hc, hl, ex, hs, hall⟩ := HC.out
  have hsame : Same S w1 w2 := HK2.out.1.same HK.out.2.inS fun k h1 h2 => HK.out.2.notS k h2 h1
  have hrows := RowsAt.of_set' hc hsame (fun k h => Or.inl h) HK2.out.2.1 fun z hz => hall z (aG4 hz)
  rw [<- aHp con zs (ao, n, cap), hl, ex] at hrows
  refine RetF.mk ((HK.out.1.mono fun k _ h => FQ.owns k h).trans HK2.out.1) ⟨?_, iv', .inl ?_, HK2.out.2.2⟩
  ·unfold nQ; rw [if_neg (by rw [HN.out]; simp)]; rfl
  ·unfold fY; rw [if_neg (by rw [HN.out]; simp)]; exact hrows
 ·have q1 : ((n : Int) != (arity : Int)) = true := by rw [bne_iff_ne]; omega
  have H := qH h; clear h
  have HN := qH (show ss.length ≠ arity by omega)
  clear hst hx ho hn h1
  go_enter Tryz.func37, Tryz.ntmps37
  go_wp2
  go_ret2
  refine RetF.mk (Kp.refl _) ⟨?_, iv, ?_, rfl⟩
  ·unfold nQ; rw [if_pos HN.out]; rfl
  ·unfold fY; rw [if_pos HN.out]; exact H.out
end
end
section
open Go.RowKit Go.Shelf
attribute [local go_sem] Oper.semAt_some
theorem aL3 (t : Array Value) (h : t.size = 110) : ∃ u : Nat -> Value, (∀ i, t.getD i undef = u i) /\ t = #[u 0, u 1, u 2, u 3, u 4, u 5, u 6, u 7, u 8, u 9, u 10, u 11, u 12, u 13, u 14, u 15, u 16, u 17, u 18, u 19, u 20, u 21, u 22, u 23, u 24, u 25, u 26, u 27, u 28, u 29, u 30, u 31, u 32, u 33, u 34, u 35, u 36, u 37, u 38, u 39, u 40, u 41, u 42, u 43, u 44, u 45, u 46, u 47, u 48, u 49, u 50, u 51, u 52, u 53, u 54, u 55, u 56, u 57, u 58, u 59, u 60, u 61, u 62, u 63, u 64, u 65, u 66, u 67, u 68, u 69, u 70, u 71, u 72, u 73, u 74, u 75, u 76, u 77, u 78, u 79, u 80, u 81, u 82, u 83, u 84, u 85, u 86, u 87, u 88, u 89, u 90, u 91, u 92, u 93, u 94, u 95, u 96, u 97, u 98, u 99, u 100, u 101, u 102, u 103, u 104, u 105, u 106, u 107, u 108, u 109] := by
 refine ⟨fun i => t.toList.getD i undef, fun i => by simp [Array.getD_eq_getD_getElem?, List.getD_eq_getElem?_getD], ?_⟩
 apply Array.ext'
 have := kG t.toList 110 (by simpa using h)
 exact this
noncomputable def aEa : Code := zO 12 (Tryz.f7.body.getD .skip)
def newT : ByteArray := ⟨#[110, 101, 119]⟩
def NewTo (w0 : World) (n : Nat) (rv iv : Value) (w : World) : Prop := ∃ i : Nat, i ≤ n /\ iv = .int .i64 i /\ Hid (Ext w0 w) /\ Hid (Row w 9 1 rv i (strs (List.replicate i newT)) (New w0))
set_option maxHeartbeats 16000000 in
theorem aF4 {w W : World} {p : ByteArray} {ha ba : Option Addr} {hn hcap n bcap g0 m : Nat} {t : Array Value} {Sx Sy : Nat -> Prop} {rx ry rw : Nat} {vx vy vw : Value} {A LL : aC} (hx : Ext w W) (hb : Blk W g0 [.string p, .slice ha hn hcap, .slice ba n bcap] 43) (hhl : hn ≤ 1048576)
 (hX : RowsQ False Sx W rx vx m LL) (hst : Strict aD LL) (hLL : LL.length ≤ 65536) (hY : RowsAt Sy W ry vy m A) (hW : RowsAt Sy W rw vw m A) (hlo : ∀ k, bN rx vx k -> w.heap.size ≤ k)
 (hxy : ∀ k, bN rx vx k -> ¬ bN ry vy k /\ ¬ bN rw vw k /\ ¬ Sy k) (hyw : ∀ k, bN ry vy k -> ¬ bN rw vw k)
 (hz : t.size = 110) (t2 : t.getD 2 undef = .pointer (some ⟨g0, 0, none⟩)) (t9 : t.getD 9 undef = .pointer (some ⟨rx, 0, none⟩)) (t11 : t.getD 11 undef = .pointer (some ⟨ry, 0, none⟩)) (t13 : t.getD 13 undef = .pointer (some ⟨rw, 0, none⟩)) :
 aEa.wp Tryz.prog (bodyPost Tryz.prog Tryz.f7 (RetN w fun w' v => v = .bool true)) { tmps := t, defers := [] } W := by
 obtain ⟨u, hu, rfl⟩ := aL3 t hz
 have e2 := (hu 2).symm.trans t2
 have e9 := (hu 9).symm.trans t9
 have e11 := (hu 11).symm.trans t11
 have e13 := (hu 13).symm.trans t13
 rw [e2, e9, e11, e13]
 clear hz t2 t9 t11 t13 e2 e9 e11 e13 hu
 have HB := qH hb
 have HX := qH (And.intro hX (And.intro hst (And.intro hLL (And.intro hlo hx))))
 have HY := qH (And.intro hY (And.intro hW (And.intro hxy hyw)))
 clear hb hX hst hLL hY hW hlo hxy hyw hx
 conv => arg 2; whnf
 go_wp2
 go_loopw [14, 15] (fun rv iv wr => NewTo W hn rv iv wr) (fun _ iv _ => hn - (intOf iv).toNat)
 case atStart => exact ⟨0, Nat.zero_le _, rfl, qH (Kp.refl _), qH (Row.nil _ _ _ _)⟩
 case round =>
  obtain ⟨i, hi, rfl, hex, hR⟩ := hrel
  have r1 := (HB.out.ext hex.out).c1
  obtain ⟨ra, rc, erv, hcl, hrc⟩ := hR.out.shape
  subst erv
  by_cases hlt : i < hn
  ·have i1 : (i : Int) < (hn : Int) := by omega
   clear hcl hrc
   go_wp2_with (first | (at_builtin; refine Halted.out ?_))
   refine Halted.mk (dK (m := 1) (n := i) dM rfl _ _ rfl (hex.out.alloc _) rfl (hR.out.alloc _) rfl (CellsAt.one wr (.string newT) 9) (by rfl) (by simp; rfl) (by omega) (by unfold maxLen; omega) ?_)
   intro v2 w2 hr2 hk2 hk2b _
   obtain ⟨a2, c2, ev2, _, _⟩ := hr2.shape
   subst ev2
   have H2 := qH (show Ext W w2 /\ Row w2 9 1 (.slice a2 (i + 1) c2) (i + 1) (strs (List.replicate (i + 1) newT)) (New W) from ⟨hk2, by
    rw [List.replicate_succ']
    unfold strs
    rw [List.map_append]; exact hr2⟩)
   clear hr2 hk2 hk2b r1
   go_wp2
   go_roundw
   case rel => exact ⟨i + 1, by omega, by first | rfl | (congr 1; done) | (congr 1; omega), qH H2.out.1, qH H2.out.2⟩
   case measure => simp [intOf]; omega
  ·obtain rfl : i = hn := by omega
   have HRow := qH hR.out
   have HEx := qH hex.out
   have hXr := HX.out.1.ext hex.out
   have hAd := nR (ao := ra) (n := i) (cap := rc) (ss := List.replicate i newT) hXr HX.out.2.1 ⟨⟨by simp, hcl⟩, by simp; omega, fun a e _ => by
    subst e
    exact HRow.out.lt a.block rfl⟩ (fun a e _ ho => by
    subst e
    have h1 := HRow.out.block a.block rfl
    have h2 := HX.out.1.ownLt _ ho
    have h3 : W.heap.size ≤ a.block := h1
    omega) (by have := HX.out.2.2.1; omega)
   have HAd := qH hAd
   clear hAd hXr hcl hrc hex hR hi hlt
   go_wp2_with fail
   refine HAd.out.mono ?_
   rintro e w3 ⟨v3, rfl, hk3, hv3, -⟩
   have hy3 : RowsAt Sy w3 ry vy m A /\ RowsAt Sy w3 rw vw m A := by
    have hy := HY.out.1.ext HEx.out
    have hw := HY.out.2.1.ext HEx.out
    exact ⟨hy.move hk3 (fun k hk ho => (HY.out.2.2.1 k hk).1 ho) (fun k hk hs => (HY.out.2.2.1 k hk).2.2 hs) (fun _ h => h) (fun k hs => Nat.lt_of_lt_of_le (hy.inS k hs) hk3.size) hy.notS, hw.move hk3 (fun k hk ho => (HY.out.2.2.1 k hk).2.1 ho) (fun k hk hs => (HY.out.2.2.1 k hk).2.2 hs) (fun _ h => h) (fun k hs => Nat.lt_of_lt_of_le (hw.inS k hs) hk3.size) hw.notS⟩
   have H3 := qH (show Ext w w3 from (HX.out.2.2.2.2.trans HEx.out).trans' hk3 fun i hi ho => by have := HX.out.2.2.2.1 _ ho; omega)
   have HSm := qH (aDz (z1 := False) (z2 := False) hy3.1.q hy3.2.q HY.out.2.2.2)
   subst hv3
   clear hk3 hy3 r1
   go_wp2_with fail
   refine HSm.out.mono ?_
   rintro e w4 ⟨v4, rfl, hk4, rfl, -, -⟩
   have H4 := qH (show Ext w w4 from H3.out.trans (hk4.mono fun k _ h => by rcases h with h | h <;> exact h.1.elim))
   clear hk4
   rw [decide_true]
   go_wp2
   go_ret
   exact RetN.mk H4.out rfl
end
section
open Go.RowKit
abbrev markK : aE := (-71, ⟨#[]⟩, ())
def TermsK (w0 w : World) (a : Option Addr) (n cap : Nat) (ts : List aE) : Prop := ∃ g rest, a = some ⟨g, 0, none⟩ /\ n = ts.length /\ n + 1 ≤ cap /\ cap ≤ maxLen /\ w0.heap.size ≤ g /\ Blk w g (kS (ts ++ [markK]) ++ rest) 58
theorem TermsK.at {w0 w : World} {a : Option Addr} {n cap : Nat} {ts : List aE} (h : TermsK w0 w a n cap ts) (hf : ∀ t ∈ ts, dZ t) : aU w (New w0) a ts := by
 obtain ⟨g, rest, rfl, _, _, _, hg, hB⟩ := h
 rw [lV, List.append_assoc] at hB
 exact aCl (s := bS) (f := lU) (fun x => rfl) (fun i x hi => sY (hf x (List.mem_of_getElem? hi))) hg hB
theorem TermsK.mark {w0 w : World} {a : Option Addr} {n cap : Nat} {ts : List aE} (h : TermsK w0 w a n cap ts) : ∃ g, a = some ⟨g, 0, none⟩ /\ w.cell? ⟨g, n * 2, none⟩ = some (.int .i64 (-71)) /\ n + 1 ≤ cap /\ cap ≤ maxLen := by
 obtain ⟨g, rest, rfl, hn, h1, h2, hg, hB⟩ := h
 refine ⟨g, rfl, ?_, h1, h2⟩
 rw [lV, List.append_assoc] at hB
 rw [hB.cell', hn, <- tM ts, List.getElem?_append_right (Nat.le_refl _), Nat.sub_self]; rfl
theorem TermsK.kp {w0 w w' : World} {F : Nat -> Prop} {a : Option Addr} {n cap : Nat} {ts : List aE} (h : TermsK w0 w a n cap ts) (hk : Kp F w w') (hF : ∀ k cs, Blk w k cs 58 -> ¬ F k) : TermsK w0 w' a n cap ts := by
 obtain ⟨g, rest, e, hn, h1, h2, hg, hB⟩ := h
 exact ⟨g, rest, e, hn, h1, h2, hg, hB.kp hk (hF g _ hB)⟩
theorem TermsK.ext {w0 w w' : World} {a : Option Addr} {n cap : Nat} {ts : List aE} (h : TermsK w0 w a n cap ts) (hk : Ext w w') : TermsK w0 w' a n cap ts := h.kp hk fun _ _ _ => id
theorem TermsK.old {w0 w1 w : World} {a : Option Addr} {n cap : Nat} {ts : List aE} (h : TermsK w1 w a n cap ts) (hs : w0.heap.size ≤ w1.heap.size) : TermsK w0 w a n cap ts := by
 obtain ⟨g, rest, e, hn, h1, h2, hg, hB⟩ := h
 exact ⟨g, rest, e, hn, h1, h2, Nat.le_trans hs hg, hB⟩
theorem aDp : 58 ≠ 40 := by decide
def aLm : List Value := [.int .i64 (-72), .string ⟨#[]⟩, .slice none 0 0, .int .i64 0, .int .i64 0, .string ⟨#[]⟩, .int .i64 0, .string ⟨#[]⟩]
structure RuleK (w0 w : World) (hs : List aE) (ls : List aM) (ha : Option Addr) (hn hcap : Nat) (ba : Option Addr) (n bcap : Nat) : Prop where
 head : TermsK w0 w ha hn hcap hs
 body : ∃ g rest vs, ba = some ⟨g, 0, none⟩ /\ n = ls.length /\ n + 1 ≤ bcap /\ bcap ≤ maxLen /\ w0.heap.size ≤ g /\ vs.length = ls.length /\ Blk w g ((ls.zip vs).flatMap kF ++ (aLm ++ rest)) 60 /\ ∀ x ∈ ls.zip vs, TermsK w0 w x.2.1 (aB x.1).length x.2.2 (aB x.1)
section
variable {w0 w w' : World} {F : Nat -> Prop} {hs : List aE} {ls : List aM} {ha : Option Addr} {hn hcap : Nat} {ba : Option Addr} {n bcap : Nat}
theorem RuleK.kp (h : RuleK w0 w hs ls ha hn hcap ba n bcap) (hk : Kp F w w') (hF : ∀ k cs, Blk w k cs 58 \/ Blk w k cs 60 -> ¬ F k) : RuleK w0 w' hs ls ha hn hcap ba n bcap := by
 obtain ⟨h1, g, rest, vs, e, a1, a2, a3, a4, a5, hB, hx⟩ := h
 exact ⟨h1.kp hk fun k cs hb => hF k cs (.inl hb), g, rest, vs, e, a1, a2, a3, a4, a5, hB.kp hk (hF g _ (.inr hB)), fun x hxx => (hx x hxx).kp hk fun k cs hb => hF k cs (.inl hb)⟩
theorem RuleK.ext (h : RuleK w0 w hs ls ha hn hcap ba n bcap) (hk : Ext w w') : RuleK w0 w' hs ls ha hn hcap ba n bcap := h.kp hk fun _ _ _ => id
theorem RuleK.lits (h : RuleK w0 w hs ls ha hn hcap ba n bcap) (hall : ∀ l ∈ ls, LitAll l) : cD w (New w0) ba ls := by
 obtain ⟨_, g, rest, vs, rfl, a1, a2, a3, a4, a5, hB, hx⟩ := h
 refine uK a5 hall (fun x hxx => ?_) a4 hB
 have hm := hx x hxx
 have hl : x.1 ∈ ls := (List.of_mem_zip (show (x.1, x.2) ∈ ls.zip vs from hxx)).1
 refine ⟨hm.at (hall _ hl).terms, ?_⟩
 obtain ⟨_, _, _, _, q1, q2, _, _⟩ := hm
 exact ⟨by omega, q2⟩
theorem RuleK.terms (h : RuleK w0 w hs ls ha hn hcap ba n bcap) (hf : ∀ t ∈ hs, dZ t) : aU w (New w0) ha hs := h.head.at hf
theorem RuleK.mark (h : RuleK w0 w hs ls ha hn hcap ba n bcap) : ∃ g, ba = some ⟨g, 0, none⟩ /\ w.cell? ⟨g, n * 8, none⟩ = some (.int .i64 (-72)) /\ n + 1 ≤ bcap /\ bcap ≤ maxLen /\ ∀ i l, ls[i]? = some l -> ∃ a2 c2, TermsK w0 w a2 (aB l).length c2 (aB l) /\ ∀ c u, (kF (l, (a2, c2)))[c]? = some u -> w.cell? ⟨g, i * 8 + c, none⟩ = some u := by
 obtain ⟨_, g, rest, vs, rfl, hn, hc, hm, _, hv, hB, hx⟩ := h
 have hz : (ls.zip vs).length = n := by rw [List.length_zip, hv, Nat.min_self, hn]
 have hfl : ((ls.zip vs).flatMap kF).length = n * 8 := by rw [vE kF 8 uL, hz]
 refine ⟨g, rfl, ?_, hc, hm, fun i l hi => ?_⟩
 ·rw [hB.cell', <- hfl, List.getElem?_append_right (Nat.le_refl _), Nat.sub_self]; rfl
 ·have hil := (List.getElem?_eq_some_iff.1 hi).1
  have hv2 : i < vs.length := by omega
  have hzi : (ls.zip vs)[i]? = some (l, vs[i]) := by rw [List.getElem?_zip_eq_some]; exact ⟨hi, qG hv2⟩
  refine ⟨vs[i].1, vs[i].2, hx _ (List.mem_of_getElem? hzi), fun c u hu => ?_⟩
  have hc8 : c < 8 := (List.getElem?_eq_some_iff.1 hu).1
  have hg := flat_get kF 8 uL (ls.zip vs) i _ c hzi hc8
  rw [hB.cell', List.getElem?_append_left (by rw [hfl]; omega), hg]
  exact hu
end
end
section
open Go.RowKit Go.Shelf
attribute [local go_sem] Oper.semAt_some
set_option maxHeartbeats 2000000 in
theorem mS (p : ByteArray) (ts : List aE) (ao : Option Addr) (n cap : Nat) (w : World) (G : Nat -> Prop) (hn : n = ts.length) (h : aU w G ao ts) (hl : n ≤ 1048576) :
 Calls Tryz.prog 61 #[.agg #[.string p, .slice ao n cap]] w (RetN w fun w' v => ∃ a c, v = .agg #[.string p, .slice a n c] /\ TermsK w w' a n c ts) := by
 have HN := qH hn
 have HC := qH (aAl h)
 have HL := qH (tM ts)
 obtain ⟨g0, eg0⟩ : ∃ g, w.heap.size = g := ⟨_, rfl⟩
 obtain ⟨w1, e1⟩ : ∃ x, (w.alloc (.cells #[.string p, .slice ao n cap] 40)).alloc (.cells #[.string ⟨#[]⟩, .slice none 0 0] 40) = x := ⟨_, rfl⟩
 have hB1 : Blk w1 g0 [.string p, .slice ao n cap] 40 := by rw [<- e1, <- eg0]; exact (Blk.new w _ _).alloc _
 have hB2 : Blk w1 (g0 + 1) [.string ⟨#[]⟩, .slice none 0 0] 40 := by
  have h := Blk.new (w.alloc (.cells #[.string p, .slice ao n cap] 40)) [.string ⟨#[]⟩, .slice none 0 0] 40
  rw [aI, eg0] at h
  rw [<- e1]; exact h
 have hx1 : Ext w w1 := by rw [<- e1]; exact ((Kp.refl w).alloc _).alloc _
 have r1 := hB1.c1
 have H1 := qH (And.intro hx1 (And.intro hB1 (And.intro hB2 eg0)))
 clear hn h hB1 hB2 hx1
 go_enter Tryz.func61, Tryz.ntmps61
 go_wp2_with (first | (at_builtin; refine Halted.out ?_))
 clear e1 eg0
 refine Halted.mk (dK (m := n) (n := 0) xU rfl _ _ rfl H1.out.1 rfl (Row.nil _ _ _ (New w)) rfl (HC.out.ext H1.out.1) (by rw [HL.out, HN.out]) (aDt ts) (by omega) (by unfold maxLen; omega) ?_)
 intro v1 w2 hr1 hk1 hk1b _
 rw [Nat.zero_add, List.nil_append] at hr1
 obtain ⟨a1, c1, ev1, _, _⟩ := hr1.shape
 subst ev1
 have HR1 := qH hr1
 have X1 := qH (And.intro hk1 (show Ext w1 w2 from hk1b.mono fun k _ h => by cases h))
 clear hr1 hk1 hk1b r1
 go_wp2_with (first | (at_builtin; refine Halted.out ?_))
 refine Halted.mk (dK (m := 1) (n := n) xU rfl _ _ rfl (X1.out.1.alloc _) rfl (HR1.out.alloc _) rfl (CellsAt.two w2 (.int .i64 (-71)) (.string ⟨#[]⟩) 58) (by rfl) (by simp [Value.oneCell']) (by omega) (by unfold maxLen; omega) ?_)
 intro v2 w3 hr2 hk2 hk2b _
 have hno : ∀ g cs, Blk w2 g cs 40 -> Blk w3 g cs 40 := fun g cs hb => (hb.alloc _).kp hk2b fun hg => by
  obtain ⟨cs', hb'⟩ := HR1.out.blkOf hg
  exact aDp (dH hb' hb)
 have hB13 := hno _ _ (H1.out.2.1.ext X1.out.2)
 have hB23 := hno _ _ (H1.out.2.2.1.ext X1.out.2)
 obtain ⟨h1, ⟨rfl, h0⟩ | ⟨g, cap2, rest, rfl, hM, hB, hlen, hnc, hcm⟩⟩ := hr2
 ·omega
 ·have hcm2 : cap2 ≤ 9223372036854775807 := hcm
  have i1 : (n : Int) ≤ (cap2 : Int) := by omega
  have q0 := hB13.c0
  have q1 := hB13.c1
  have q2 := hB23.c0
  have q3 := hB23.c1
  have f1 := hB13.free 1
  have f2 := hB23.free 0
  have f3 := hB23.free 1
  have H3 := qH (And.intro hk2 (And.intro hB13 (And.intro hB23 (And.intro hM hB))))
  clear h1 hk2 hk2b hno hB13 hB23 hM hB hlen
  go_wp2
  obtain ⟨W, eW⟩ : ∃ x, (((w3.setCell ⟨g0, 1, none⟩ (.slice (some ⟨g, 0, none⟩) n cap2)).setCell ⟨g0 + 1, 0, none⟩ (.string p)).setCell ⟨g0 + 1, 1, none⟩ (.slice (some ⟨g, 0, none⟩) n cap2)) = x := ⟨_, rfl⟩
  have n1 : g0 ≠ g0 + 1 := by omega
  have hBW : Blk W (g0 + 1) [.string p, .slice (some ⟨g, 0, none⟩) n cap2] 40 := by
   rw [<- eW]; exact ((H3.out.2.2.1.other (p := ⟨g0, 1, none⟩) (fun e => n1 e.symm) _).set 0 _).set 1 _
  have kW : Kp (fun k => k = g0 \/ k = g0 + 1) w3 W := by
   rw [<- eW]
   exact Kp.setCell (F := fun k => k = g0 \/ k = g0 + 1) (p := ⟨g0 + 1, 1, none⟩) (Kp.setCell (F := fun k => k = g0 \/ k = g0 + 1) (p := ⟨g0 + 1, 0, none⟩) (Kp.setCell (F := fun k => k = g0 \/ k = g0 + 1) (p := ⟨g0, 1, none⟩) (Kp.refl w3) (fun _ => .inl rfl) _) (fun _ => .inr rfl) _) (fun _ => .inr rfl) _
  have d0 := hBW.c0
  have d1 := hBW.c1
  rw [eW]
  refine bodyPost_ret (v := .agg #[.string p, .slice (some ⟨g, 0, none⟩) n cap2]) (by simp [results, Tryz.results61, go_sem, d0, d1]) rfl ?_
  refine RetN.mk (H3.out.1.trans' kW fun i hi h => by have := H1.out.2.2.2; omega) ⟨_, _, rfl, g, rest, rfl, HN.out, hnc, hcm, H3.out.2.2.2.1, ?_⟩
  rw [lV]
  refine H3.out.2.2.2.2.kp kW fun h => ?_
  rcases h with h | h
  ·rw [h] at H3; exact aDp (dH H3.out.2.2.2.2 H3.out.2.1)
  ·rw [h] at H3; exact aDp (dH H3.out.2.2.2.2 H3.out.2.2.1)
set_option maxHeartbeats 2000000 in
theorem nF (p : ByteArray) (ts : List aE) (w0 : World) (a2 ao : Option Addr) (n c2 cap : Nat) (w : World) (G : Nat -> Prop) (hM : TermsK w0 w a2 n c2 ts) (hf : ∀ t ∈ ts, dZ t) (h : aU w G ao ts) (hl : n ≤ 1048576) :
 Calls Tryz.prog 69 #[.agg #[.string p, .slice a2 n c2], .agg #[.string p, .slice ao n cap]] w (RetN w fun w' v => v = .bool true) := by
 obtain ⟨gm, rfl, hmk, hc1, hc2⟩ := hM.mark
 have HA := qH (hM.at hf)
 have HB := qH h
 have HN := qH (show n = ts.length from by obtain ⟨_, _, _, e, _⟩ := hM; exact e)
 obtain ⟨g0, eg0⟩ : ∃ g, w.heap.size = g := ⟨_, rfl⟩
 obtain ⟨w1, e1⟩ : ∃ x, (w.alloc (.cells #[.string p, .slice (some ⟨gm, 0, none⟩) n c2] 40)).alloc (.cells #[.string p, .slice ao n cap] 40) = x := ⟨_, rfl⟩
 have hB1 : Blk w1 g0 [.string p, .slice (some ⟨gm, 0, none⟩) n c2] 40 := by rw [<- e1, <- eg0]; exact (Blk.new w _ _).alloc _
 have hB2 : Blk w1 (g0 + 1) [.string p, .slice ao n cap] 40 := by
  have h := Blk.new (w.alloc (.cells #[.string p, .slice (some ⟨gm, 0, none⟩) n c2] 40)) [.string p, .slice ao n cap] 40
  rw [aI, eg0] at h
  rw [<- e1]; exact h
 have hx1 : Ext w w1 := by rw [<- e1]; exact ((Kp.refl w).alloc _).alloc _
 have r0 := hB1.c0
 have r1 := hB1.c1
 have s0 := hB2.c0
 have s1 := hB2.c1
 have m0 := hx1.cell hmk id
 have hq := str_eq p
 have q1 : ((n : Int) != (n : Int)) = false := by simp
 have i1 : (n : Int) + 1 ≤ (c2 : Int) := by omega
 have hc3 : c2 ≤ 9223372036854775807 := hc2
 have H1 := qH (And.intro hx1 (And.intro hB1 hB2))
 clear hM h hmk hB1 hB2 hx1 hc2
 go_enter Tryz.func69, Tryz.ntmps69
 go_wp2
 clear e1 eg0 r0 r1 s0 s1 m0 hq q1 i1
 go_loopw [6] (fun iv wr => aMb w1 n iv wr) (fun iv _ => n - (intOf iv).toNat)
 case atStart => exact ⟨0, Nat.zero_le _, rfl, Kp.refl w1⟩
 case round =>
  obtain ⟨i, hi, rfl, hex⟩ := hrel
  by_cases hlt : i < n
  ·obtain ⟨t, ht⟩ : ∃ t, ts[i]? = some t := ⟨_, qG (by rw [<- HN.out]; exact hlt)⟩
   obtain ⟨g1, o1, e1, c0, c1, _⟩ := dU (HA.out.ext (H1.out.1.trans hex.out)) ht
   obtain ⟨g2, o2, e2, d0, d1, _⟩ := dU (HB.out.ext (H1.out.1.trans hex.out)) ht
   cases e1
   subst e2
   obtain ⟨k, s, ⟨⟩⟩ := t
   simp only at c0 c1 d0 d1
   have r1 := (H1.out.2.1.ext hex.out).c1
   have s1 := (H1.out.2.2.ext hex.out).c1
   have q2 : (k != k) = false := by simp
   have q3 : (k == k) = true := by simp
   have q4 := str_eq s
   rw [Nat.zero_add] at c0 c1
   clear ht
   go_wp2
   go_quiet (fail)
   go_wp2
   go_roundw
   case rel => exact ⟨i + 1, by omega, by first | rfl | (congr 1; done) | (congr 1; omega), hex.out.drewN _⟩
   case measure => simp [intOf]; omega
  ·go_wp2
   go_ret
   exact RetN.mk (H1.out.1.trans hex.out) rfl
theorem xW : cM Tryz.prog 67 43 3 64 (.agg #[.string ⟨#[]⟩, .slice none 0 0, .slice none 0 0]) := ⟨by kernel_rfl, by kernel_rfl, rfl, by decide⟩
def LentP (ls : List aM) (hs : List aE) (p : ByteArray) (w0 wb : World) (g0 gp pr : Nat) (ha : Option Addr) (hn hcap : Nat) (ba : Option Addr) (bcap n : Nat) (bv iv : Value) (w : World) : Prop := ∃ i : Nat, i ≤ n /\ iv = .int .i64 i /\ Hid (Ext w0 w) /\ Hid (Blk w g0 [.string p, .slice ha hn hcap, .slice ba n bcap] 43 /\ (Blk w gp [.slice (some ⟨pr, 0, none⟩) 1 1] 69 /\ Blk w (gp + 1) [.slice none 0 0] 69) /\ TermsK w0 w ha hn hcap hs) /\ Hid (∃ vs, vs.length = i /\ Row w 60 8 bv i (((ls.take i).zip vs).flatMap kF) (New w0) /\ ∀ x ∈ (ls.take i).zip vs, TermsK w0 w x.2.1 (aB x.1).length x.2.2 (aB x.1))
def aBi : List Value := [.string ⟨#[109, 97, 114, 107]⟩, .slice none 0 0, .slice none 0 0]
def aMc (ls : List aM) (hs : List aE) (p : ByteArray) (w0 : World) (gp pr hn n : Nat) (rv iv : Value) (w : World) : Prop :=
 Hid (Ext w0 w /\ Blk w gp [.slice (some ⟨pr, 0, none⟩) 1 1] 69 /\ Blk w (gp + 1) [.slice none 0 0] 69) /\
 ((iv = .int .i64 0 /\ rv = .slice none 0 0) \/ (iv = .int .i64 1 /\ ∃ a c ha hcap ba bcap, rv = .slice a 1 c /\ Hid (Row w 43 3 (.slice a 1 c) 1 [.string p, .slice ha hn hcap, .slice ba n bcap] (New w0) /\ RuleK w0 w hs ls ha hn hcap ba n bcap)))
def aGi (w0 w : World) (p : ByteArray) (hs : List aE) (ls : List aM) (gr : Nat) (ha : Option Addr) (hn hcap : Nat) (ba : Option Addr) (n bcap : Nat) : Prop := (∃ rest, Blk w gr ([.string p, .slice ha hn hcap, .slice ba n bcap] ++ (aBi ++ rest)) 43) /\ w0.heap.size ≤ gr /\ RuleK w0 w hs ls ha hn hcap ba n bcap
set_option maxHeartbeats 16000000 in
theorem zI (p : ByteArray) (hs : List aE) (ls : List aM) (ha : Option Addr) (hn hcap : Nat) (ba : Option Addr) (n bcap : Nat) (pr : Nat) (w : World) (G : Nat -> Prop) (hhn : hn = hs.length) (hh : aU w G ha hs) (hhl : hn ≤ 1048576) (hbn : n = ls.length) (h : cD w G ba ls) (hf : Fit ls) (hP : Blk w pr [.string p, .slice ha hn hcap, .slice ba n bcap] 43) :
 Calls Tryz.prog 31 #[.agg #[.slice (some ⟨pr, 0, none⟩) 1 1]] w (RetN w fun w' v => ∃ gr rc ha' hcap' ba' bcap', v = .agg #[.slice (some ⟨gr, 0, none⟩) 1 rc] /\ 2 ≤ rc /\ rc ≤ maxLen /\ aGi w w' p hs ls gr ha' hn hcap' ba' n bcap') := by
 have HN := qH hbn; have HE := qH h; have HF := qH hf; have hl : n ≤ 1048576 := by have := hf.len; omega
 have HP := qH hP
 have HHd := qH (fun (W : World) (hW : Ext w W) => mS p hs ha hn hcap W G hhn (hh.ext hW) hhl)
 obtain ⟨gp, egp⟩ : ∃ g, w.heap.size = g := ⟨_, rfl⟩
 obtain ⟨w1, e1⟩ : ∃ x, (w.alloc (.cells #[.slice (some ⟨pr, 0, none⟩) 1 1] 69)).alloc (.cells #[.slice none 0 0] 69) = x := ⟨_, rfl⟩
 have hB1 : Blk w1 gp [.slice (some ⟨pr, 0, none⟩) 1 1] 69 := by rw [<- e1, <- egp]; exact (Blk.new w _ _).alloc _
 have hB2 : Blk w1 (gp + 1) [.slice none 0 0] 69 := by
  have h := Blk.new (w.alloc (.cells #[.slice (some ⟨pr, 0, none⟩) 1 1] 69)) [.slice none 0 0] 69
  rw [aI, egp] at h
  rw [<- e1]; exact h
 have hx1 : Ext w w1 := by rw [<- e1]; exact ((Kp.refl w).alloc _).alloc _
 have H1 := qH (And.intro hx1 (And.intro hB1 hB2))
 have hgp : gp = w.heap.size := egp.symm
 have HG := qH hgp
 clear hbn h hf hhn hh hB1 hB2 hx1 hP hgp
 go_enter Tryz.func31, Tryz.ntmps31
 go_wp2
 clear e1 egp
 go_loopw [3, 4] (fun rv iv wr => aMc ls hs p w gp pr hn n rv iv wr) (fun _ iv _ => 1 - (intOf iv).toNat)
 case atStart => exact ⟨qH ⟨H1.out.1, H1.out.2.1, H1.out.2.2⟩, .inl ⟨rfl, rfl⟩⟩
 case round =>
  obtain ⟨hbx, ⟨rfl, rfl⟩ | ⟨rfl, a, c, ha', hcap', ba', bcap', rfl, hR⟩⟩ := hrel
  ·have HW0 := qH hbx.out
   obtain ⟨g0, eg0⟩ : ∃ g, wr.heap.size = g := ⟨_, rfl⟩
   obtain ⟨w2a, e2a⟩ : ∃ x, wr.alloc (.cells #[.string p, .slice ha hn hcap, .slice ba n bcap] 43) = x := ⟨_, rfl⟩
   have hBr : Blk w2a g0 [.string p, .slice ha hn hcap, .slice ba n bcap] 43 := by rw [<- e2a, <- eg0]; exact Blk.new wr _ _
   have hxr : Ext wr w2a := by rw [<- e2a]; exact (Kp.refl wr).alloc _
   have b0 := HW0.out.2.1.c0
   have c0 := (HP.out.ext HW0.out.1).c0
   have c1 := (HP.out.ext HW0.out.1).c1
   have c2 := (HP.out.ext HW0.out.1).c2
   have r0 := hBr.c0
   have r1 := hBr.c1
   have r2 := hBr.c2
   have HA := qH (show Ext w w2a /\ Blk w2a g0 [.string p, .slice ha hn hcap, .slice ba n bcap] 43 /\ (Blk w2a gp [.slice (some ⟨pr, 0, none⟩) 1 1] 69 /\ Blk w2a (gp + 1) [.slice none 0 0] 69) /\ w.heap.size ≤ g0 from ⟨HW0.out.1.trans hxr, hBr, ⟨HW0.out.2.1.ext hxr, HW0.out.2.2.ext hxr⟩, by rw [<- eg0]; exact HW0.out.1.size⟩)
   clear hBr hxr hbx
   go_wp2_with fail
   clear e2a eg0 b0 c0 c1 c2
   refine (HHd.out _ HA.out.1).mono ?_
   rintro e w2 ⟨v, rfl, hk2, ha', hcap', rfl, htm⟩
   have hB2a := HA.out.2.1.ext hk2
   have s0 := hB2a.c0
   have s1 := hB2a.c1
   have sf0 := hB2a.free 0
   have sf1 := hB2a.free 1
   obtain ⟨w3, e3⟩ : ∃ x, (w2.setCell ⟨g0, 0, none⟩ (.string p)).setCell ⟨g0, 1, none⟩ (.slice ha' hn hcap') = x := ⟨_, rfl⟩
   have k23 : Kp (fun k => k = g0) w2 w3 := by rw [<- e3]; exact kSb
   have hB3 : Blk w3 g0 [.string p, .slice ha' hn hcap', .slice ba n bcap] 43 := by rw [<- e3]; exact (hB2a.set 0 _).set 1 _
   have noP : 69 ≠ 43 := by decide
   have hB3b : Blk w3 gp [.slice (some ⟨pr, 0, none⟩) 1 1] 69 /\ Blk w3 (gp + 1) [.slice none 0 0] 69 :=
    ⟨(HA.out.2.2.1.1.ext hk2).kp k23 fun e => noP (dH (e ▸ HA.out.2.2.1.1.ext hk2) hB2a), (HA.out.2.2.1.2.ext hk2).kp k23 fun e => noP (dH (e ▸ HA.out.2.2.1.2.ext hk2) hB2a)⟩
   have hx3 : Ext w w3 := (HA.out.1.trans hk2).trans' k23 fun i hi e => by have := HA.out.2.2.2; omega
   have htm3 : TermsK w w3 ha' hn hcap' hs := (htm.old HA.out.1.size).kp k23 fun k cs hb e => by rw [e] at hb; exact aDn (dH hb hB2a)
   have H3 := qH (And.intro hx3 (And.intro hB3 (And.intro hB3b htm3)))
   clear hB2a k23 hB3 hB3b hx3 htm3 htm hk2 r0 r1 r2 noP
   go_wp2
   try rw [e3]
   clear e3 s0 s1 sf0 sf1
   go_loopw [7, 8] (fun bv iv wr => LentP ls hs p w w3 g0 gp pr ha' hn hcap' ba bcap n bv iv wr) (fun _ iv _ => n - (intOf iv).toNat)
   case atStart => exact ⟨0, Nat.zero_le _, rfl, qH H3.out.1, qH H3.out.2, qH ⟨[], rfl, Row.nil _ _ _ _, fun x hx => by simp at hx⟩⟩
   case round =>
    obtain ⟨i, hi, rfl, hex, hbk, hin⟩ := hrel
    obtain ⟨vs, hvs, hrow, hterms⟩ := hin.out
    obtain ⟨bo, bc, ebv, _, _⟩ := hrow.shape
    subst ebv
    by_cases hlt : i < n
    ·have hltl : i < ls.length := by rw [<- HN.out]; exact hlt
     obtain ⟨l, hli⟩ : ∃ l, ls[i]? = some l := ⟨_, qG hltl⟩
     obtain ⟨b, off, a2, cap2, eao, hG, hb, hL, c0, c1, c2, c3, c4, c5, c6, c7⟩ := oR HE.out hli
     subst eao
     replace c0 := hex.out.cell c0 id
     replace c1 := hex.out.cell c1 id
     replace c2 := hex.out.cell c2 id
     replace c3 := hex.out.cell c3 id
     replace c4 := hex.out.cell c4 id
     replace c5 := hex.out.cell c5 id
     replace c6 := hex.out.cell c6 id
     replace c7 := hex.out.cell c7 id
     obtain ⟨mm, emm⟩ : ∃ mm, mm = (aB l).length := ⟨_, rfl⟩
     rw [<- emm] at c2
     have hmm : mm ≤ 1048576 := by rw [emm]; exact HF.out.terms l (List.mem_of_getElem? hli)
     obtain ⟨k, ek⟩ : ∃ k, k = l.1 := ⟨_, rfl⟩
     rw [<- ek] at c0
     clear hltl hG hb
     have HOL := qH (fun (W : World) (hW : Ext w W) => mS (bF l) (aB l) a2 mm cap2 W G emm (hL.terms.ext hW) hmm)
     have b2 := hbk.out.1.c2
     obtain ⟨pl, epl⟩ : ∃ pl, bF l = pl := ⟨_, rfl⟩
     rw [epl] at c1 HOL
     obtain ⟨s3, e3⟩ : ∃ s3, iC l = s3 := ⟨_, rfl⟩
     rw [e3] at c3
     obtain ⟨s4, e4⟩ : ∃ s4, (leftOf l).1 = s4 := ⟨_, rfl⟩
     rw [e4] at c4
     obtain ⟨s5, e5⟩ : ∃ s5, (leftOf l).2.1 = s5 := ⟨_, rfl⟩
     rw [e5] at c5
     obtain ⟨s6, e6⟩ : ∃ s6, (aS l).1 = s6 := ⟨_, rfl⟩
     rw [e6] at c6
     obtain ⟨s7, e7⟩ : ∃ s7, (aS l).2.1 = s7 := ⟨_, rfl⟩
     rw [e7] at c7
     have HL := qH (And.intro hli (show ∀ a c, kF (l, (a, c)) = [.int .i64 k, .string pl, .slice a mm c, .int .i64 s3, .int .i64 s4, .string s5, .int .i64 s6, .string s7] from fun a c => by rw [ek, <- epl, emm, <- e3, <- e4, <- e5, <- e6, <- e7]; rfl))
     have EMM := qH emm
     obtain ⟨gt, egt⟩ : ∃ gt, wr.heap.size = gt := ⟨_, rfl⟩
     obtain ⟨wx, ewx⟩ : ∃ wx, wr.alloc (.cells #[.int .i64 k, .string pl, .slice a2 mm cap2, .int .i64 s3, .int .i64 s4, .string s5, .int .i64 s6, .string s7] 60) = wx := ⟨_, rfl⟩
     have hgt : Blk wx gt [.int .i64 k, .string pl, .slice a2 mm cap2, .int .i64 s3, .int .i64 s4, .string s5, .int .i64 s6, .string s7] 60 := by rw [<- ewx, <- egt]; exact Blk.new wr _ _
     have hxx : Ext wr wx := by rw [<- ewx]; exact (Kp.refl wr).alloc _
     have g1 := hgt.c1
     have g2 := hgt.c2
     have HX := qH (And.intro hxx (And.intro hgt egt))
     have HIn := qH (And.intro hvs (And.intro hrow hterms))
     clear hli emm ek epl e3 e4 e5 e6 e7 hL hgt hxx hvs hrow hterms hin
     go_wp2_with fail
     clear ewx egt c0 c1 c2 c3 c4 c5 c6 c7 b2
     refine (HOL.out _ (hex.out.trans HX.out.1)).mono ?_
     rintro e w4 ⟨v, rfl, hk4, a3, c3, rfl, htm⟩
     have hg4 := HX.out.2.1.ext hk4
     have h1 := hg4.c1
     have h2 := hg4.c2
     have h1f := hg4.free 1
     have h2f := hg4.free 2
     obtain ⟨w5, ew5⟩ : ∃ w5, (w4.setCell ⟨gt, 1, none⟩ (.string pl)).setCell ⟨gt, 2, none⟩ (.slice a3 mm c3) = w5 := ⟨_, rfl⟩
     have hg5 : Blk w5 gt [.int .i64 k, .string pl, .slice a3 mm c3, .int .i64 s3, .int .i64 s4, .string s5, .int .i64 s6, .string s7] 60 := by rw [<- ew5]; exact (hg4.set 1 _).set 2 _
     have hk45 : Kp (fun k => k = gt) w4 w5 := by rw [<- ew5]; exact kSb
     have hx5 : Ext wr w5 := (HX.out.1.trans hk4).trans' hk45 fun j hj e => by have := HX.out.2.2; omega
     have hT5 : TermsK w w5 a3 mm c3 (aB l) := (htm.old (Nat.le_trans hex.out.size HX.out.1.size)).kp hk45 fun k cs hb e => by rw [e] at hb; exact aDo (dH hb hg4)
     have q0 := hg5.c0
     have q1 := hg5.c1
     have q2 := hg5.c2
     have q3 := hg5.c3
     have q4 := hg5.c4
     have q5 := hg5.c5
     have q6 := hg5.c6
     have q7 := hg5.c7
     have X5 := qH (And.intro hx5 hT5)
     have HR5 := qH (HIn.out.2.1.ext hx5)
     clear hk4 htm hg4 hg5 hx5 hk45 hT5 g1 g2
     go_wp2_with (first | (at_builtin; refine Halted.out ?_))
     clear ew5 h1 h2 h1f h2f
     refine Halted.mk (dK (m := 1) (n := i) aCn rfl _ _ rfl ((hex.out.trans X5.out.1).alloc _) rfl (HR5.out.alloc _) rfl (CellsAt.new w5 [.int .i64 k, .string pl, .slice a3 mm c3, .int .i64 s3, .int .i64 s4, .string s5, .int .i64 s6, .string s7] 60) (by rfl) (by rw [<- HL.out.2]; exact aJc _) (by omega) (by unfold maxLen; omega) ?_)
     intro v1 w6 hr1 hk1 hk2 _
     have hbl : ∀ g cs e, e ≠ 60 -> Blk w5 g cs e -> Blk w6 g cs e := fun g cs e hne hb => (hb.alloc _).kp hk2 fun e => by
      obtain ⟨cs', hb'⟩ := HR5.out.blkOf e
      exact hne (dH hb hb')
     have hT6 : ∀ {a : Option Addr} {m c : Nat} {ts : List aE}, TermsK w w5 a m c ts -> TermsK w w6 a m c ts := fun ht => (ht.ext ((Kp.refl w5).alloc _)).kp hk2 fun k cs hb e => by
      obtain ⟨cs', hb'⟩ := (HR5.out.alloc _).blkOf e
      exact aDo (dH hb hb')
     have hlen : (ls.take i).length = vs.length := by rw [List.length_take, HIn.out.1]; have := HN.out; omega
     have et : ls.take (i + 1) = ls.take i ++ [l] := by rw [List.take_add_one, HL.out.1]; rfl
     have HFin := qH (show Ext w w6 /\ (Blk w6 g0 [.string p, .slice ha' hn hcap', .slice (some ⟨b, off, none⟩) n bcap] 43 /\ (Blk w6 gp [.slice (some ⟨pr, 0, none⟩) 1 1] 69 /\ Blk w6 (gp + 1) [.slice none 0 0] 69) /\ TermsK w w6 ha' hn hcap' hs) /\ ∃ vs, vs.length = i + 1 /\ Row w6 60 8 v1 (i + 1) (((ls.take (i + 1)).zip vs).flatMap kF) (New w) /\ ∀ x ∈ (ls.take (i + 1)).zip vs, TermsK w w6 x.2.1 (aB x.1).length x.2.2 (aB x.1) from by
      refine ⟨hk1, ⟨hbl _ _ _ (by decide) (hbk.out.1.ext X5.out.1), ⟨hbl _ _ _ (by decide) (hbk.out.2.1.1.ext X5.out.1), hbl _ _ _ (by decide) (hbk.out.2.1.2.ext X5.out.1)⟩, hT6 (hbk.out.2.2.ext X5.out.1)⟩, vs ++ [(a3, c3)], by rw [List.length_append, HIn.out.1]; rfl, ?_, ?_⟩
      ·rw [et, List.zip_append hlen, List.flatMap_append]
       have e2 : (([l].zip [(a3, c3)]).flatMap kF) = [.int .i64 k, .string pl, .slice a3 mm c3, .int .i64 s3, .int .i64 s4, .string s5, .int .i64 s6, .string s7] := by
        show kF (l, (a3, c3)) ++ [] = _
        rw [HL.out.2, List.append_nil]
       rw [e2]; exact hr1
      ·intro x hx
       rw [et, List.zip_append hlen, List.mem_append] at hx
       rcases hx with hx | hx
       ·exact hT6 ((HIn.out.2.2 x hx).ext X5.out.1)
       ·simp at hx; subst hx
        have h := hT6 X5.out.2
        rw [EMM.out] at h; exact h)
     obtain ⟨b6, c6, ev6, _, _⟩ := hr1.shape
     subst ev6
     clear hr1 hk1 hk2 hbl hT6 hlen et q0 q1 q2 q3 q4 q5 q6 q7
     go_wp2
     go_roundw
     case rel => exact ⟨i + 1, by omega, by first | rfl | (congr 1; done) | (congr 1; omega), qH HFin.out.1, qH HFin.out.2.1, qH HFin.out.2.2⟩
     case measure => simp [intOf]; omega
    ·obtain rfl : n = i := by omega
     have hall : ls.take n = ls := List.take_of_length_le (by have := HN.out; omega)
     rw [hall] at hrow hterms
     have HR5 := qH hrow
     have HTs := qH (And.intro hvs hterms)
     have HBk := hbk
     have HEx := hex
     clear hrow hterms hvs hall hin hbk
     go_wp2_with (first | (at_builtin; refine Halted.out ?_))
     refine Halted.mk (dK (m := 1) (n := n) aCn rfl _ _ rfl (HEx.out.alloc _) rfl (HR5.out.alloc _) rfl (CellsAt.new wr [.int .i64 (-72), .string ⟨#[]⟩, .slice none 0 0, .int .i64 0, .int .i64 0, .string ⟨#[]⟩, .int .i64 0, .string ⟨#[]⟩] 60) (by rfl) (by intro u hu; simp at hu; rcases hu with rfl | rfl | rfl | rfl | rfl | rfl | rfl | rfl <;> rfl) (by omega) (by unfold maxLen; omega) ?_)
     intro v1 w6 hr1 hk1 hk2 _
     have hbl : ∀ g cs e, e ≠ 60 -> Blk wr g cs e -> Blk w6 g cs e := fun g cs e hne hb => (hb.alloc _).kp hk2 fun e => by
      obtain ⟨cs', hb'⟩ := HR5.out.blkOf e
      exact hne (dH hb hb')
     have hT6 : ∀ {a : Option Addr} {m c : Nat} {ts : List aE}, TermsK w wr a m c ts -> TermsK w w6 a m c ts := fun ht => (ht.ext ((Kp.refl wr).alloc _)).kp hk2 fun k cs hb e => by
      obtain ⟨cs', hb'⟩ := (HR5.out.alloc _).blkOf e
      exact aDo (dH hb hb')
     obtain ⟨h1, ⟨rfl, h0⟩ | ⟨gb, cap2, rest, rfl, hM, hBB, hlen, hnc, hcm⟩⟩ := hr1
     ·omega
     ·have hB6 := hbl _ _ _ (by decide) HBk.out.1
      have hB6b := And.intro (hbl _ _ _ (by decide) HBk.out.2.1.1) (hbl _ _ _ (by decide) HBk.out.2.1.2)
      have hcm2 : cap2 ≤ 9223372036854775807 := hcm
      have i1 : (n : Int) ≤ (cap2 : Int) := by omega
      have q0 := hB6.c0
      have q1 := hB6.c1
      have q2 := hB6.c2
      have f2 := hB6.free 2
      have H6 := qH (show Ext w w6 /\ Blk w6 g0 [.string p, .slice ha' hn hcap', .slice ba n bcap] 43 /\ (Blk w6 gp [.slice (some ⟨pr, 0, none⟩) 1 1] 69 /\ Blk w6 (gp + 1) [.slice none 0 0] 69) /\ TermsK w w6 ha' hn hcap' hs /\ Blk w6 gb ((ls.zip vs).flatMap kF ++ (aLm ++ rest)) 60 /\ (∀ x ∈ ls.zip vs, TermsK w w6 x.2.1 (aB x.1).length x.2.2 (aB x.1)) /\ New w gb from
       ⟨hk1, hB6, hB6b, hT6 HBk.out.2.2, by rw [<- List.append_assoc]; exact hBB, fun x hx => hT6 (HTs.out.2 x hx), hM⟩)
      clear h1 hk1 hk2 hbl hT6 hB6 hB6b hM hBB hlen
      have H6b := H6.out.2.2.1
      obtain ⟨W, eW⟩ : ∃ x, w6.setCell ⟨g0, 2, none⟩ (.slice (some ⟨gb, 0, none⟩) n cap2) = x := ⟨_, rfl⟩
      have hBW : Blk W g0 [.string p, .slice ha' hn hcap', .slice (some ⟨gb, 0, none⟩) n cap2] 43 := by rw [<- eW]; exact H6.out.2.1.set 2 _
      have kW : Kp (fun k => k = g0) w6 W := by rw [<- eW]; exact kSa
      have d0 := hBW.c0
      have d1 := hBW.c1
      have d2 := hBW.c2
      have noT : ∀ k cs, Blk w6 k cs 58 -> ¬ (k = g0) := fun k cs hb h => by
       rw [h] at hb; exact aDn (dH hb H6.out.2.1)
      have noL : ¬ (gb = g0) := fun h => by
       have hb := H6.out.2.2.2.2.1; rw [h] at hb; exact aFu (dH hb H6.out.2.1)
      have noP : ∀ k cs, Blk w6 k cs 69 -> ¬ (k = g0) := fun k cs hb h => by
       rw [h] at hb; exact (by decide : 69 ≠ 43) (dH hb H6.out.2.1)
      have HW := qH (show Ext w W /\ (Blk W gp [.slice (some ⟨pr, 0, none⟩) 1 1] 69 /\ Blk W (gp + 1) [.slice none 0 0] 69) /\ RuleK w W hs ls ha' hn hcap' (some ⟨gb, 0, none⟩) n cap2 from
       ⟨H6.out.1.trans' kW fun i hi h => by have := HA.out.2.2.2; omega, ⟨H6b.1.kp kW (noP _ _ H6b.1), H6b.2.kp kW (noP _ _ H6b.2)⟩, H6.out.2.2.2.1.kp kW noT, gb, rest, vs, rfl, HN.out, hnc, hcm, H6.out.2.2.2.2.2.2, by rw [HTs.out.1, HN.out], H6.out.2.2.2.2.1.kp kW noL, fun x hx => (H6.out.2.2.2.2.2.1 x hx).kp kW noT⟩)
      clear hBW kW noT noL noP H6b
      go_wp2_with (first | (at_builtin; refine Halted.out ?_))
      clear eW q0 q1 q2 f2
      refine Halted.mk (dK (m := 1) (n := 0) xW rfl _ _ rfl (HW.out.1.alloc _) rfl (Row.nil _ _ _ (New w)) rfl (CellsAt.new W [.string p, .slice ha' hn hcap', .slice (some ⟨gb, 0, none⟩) n cap2] 43) (by rfl) (by intro u hu; simp at hu; rcases hu with rfl | rfl | rfl <;> rfl) (by omega) (by unfold maxLen; omega) ?_)
      intro v7 w7 hr7 hk7 hk7b _
      rw [Nat.zero_add, List.nil_append] at hr7
      obtain ⟨a7, c7, ev7, _, _⟩ := hr7.shape
      subst ev7
      have hx7 : Ext W w7 := ((Kp.refl W).alloc _).trans (hk7b.mono fun k _ h => by cases h)
      have H7 := qH (show (Ext w w7 /\ Blk w7 gp [.slice (some ⟨pr, 0, none⟩) 1 1] 69 /\ Blk w7 (gp + 1) [.slice none 0 0] 69) /\ Row w7 43 3 (.slice a7 1 c7) 1 [.string p, .slice ha' hn hcap', .slice (some ⟨gb, 0, none⟩) n cap2] (New w) /\ RuleK w w7 hs ls ha' hn hcap' (some ⟨gb, 0, none⟩) n cap2 from ⟨⟨hk7, HW.out.2.1.1.ext hx7, HW.out.2.1.2.ext hx7⟩, hr7, HW.out.2.2.ext hx7⟩)
      clear hr7 hk7 hk7b hx7 d0 d1 d2
      go_wp2
      go_roundw
      case rel => exact ⟨qH H7.out.1, .inr ⟨rfl, a7, c7, ha', hcap', some ⟨gb, 0, none⟩, cap2, rfl, qH H7.out.2⟩⟩
      case measure => simp [intOf]
  ·have HB0 := qH hbx.out
   have HR := qH hR.out
   have b0 := HB0.out.2.1.c0
   clear hbx hR
   go_wp2_with (first | (at_builtin; refine Halted.out ?_))
   clear b0
   refine Halted.mk (dK (m := 1) (n := 1) xW rfl _ _ rfl (HB0.out.1.alloc _) rfl (HR.out.1.alloc _) rfl (CellsAt.new wr aBi 43) (by rfl) (by intro u hu; unfold aBi at hu; simp at hu; rcases hu with rfl | rfl <;> rfl) (by omega) (by unfold maxLen; omega) ?_)
   intro v7 w7 hr7 hk7 hk7b _
   have hbl : ∀ g cs e, e ≠ 43 -> Blk wr g cs e -> Blk w7 g cs e := fun g cs e hne hb => (hb.alloc _).kp hk7b fun e => by
    obtain ⟨cs', hb'⟩ := HR.out.1.blkOf e
    exact hne (dH hb hb')
   have hK7 : RuleK w w7 hs ls ha' hn hcap' ba' n bcap' := (HR.out.2.ext ((Kp.refl wr).alloc _)).kp hk7b fun k cs hb e => by
    obtain ⟨cs', hb'⟩ := (HR.out.1.alloc _).blkOf e
    rcases hb with hb | hb
    ·exact aDn (dH hb hb')
    ·exact aFu (dH hb hb')
   obtain ⟨h1, ⟨rfl, h0⟩ | ⟨gr, rc, rest, rfl, hM, hBB, hlen, hnc, hcm⟩⟩ := hr7
   ·omega
   ·have hBp := hbl _ _ _ (by decide) HB0.out.2.1
    have hBq := hbl _ _ _ (by decide) HB0.out.2.2
    have hcm2 : rc ≤ 9223372036854775807 := hcm
    have i1 : (1 : Int) ≤ (rc : Int) := by omega
    have p0 := hBp.c0
    have p1 := hBq.c0
    have f1 := hBq.free 0
    have H7 := qH (show Ext w w7 /\ Blk w7 (gp + 1) [.slice none 0 0] 69 /\ Blk w7 gr ([.string p, .slice ha' hn hcap', .slice ba' n bcap'] ++ (aBi ++ rest)) 43 /\ RuleK w w7 hs ls ha' hn hcap' ba' n bcap' /\ New w gr from ⟨hk7, hBq, by rw [<- List.append_assoc]; exact hBB, hK7, hM⟩)
    clear h1 hk7 hk7b hbl hK7 hBp hBq hM hBB hlen
    go_wp2
    obtain ⟨X, eX⟩ : ∃ x, w7.setCell ⟨gp + 1, 0, none⟩ (.slice (some ⟨gr, 0, none⟩) 1 rc) = x := ⟨_, rfl⟩
    rw [eX]
    have hBX : Blk X (gp + 1) [.slice (some ⟨gr, 0, none⟩) 1 rc] 69 := by rw [<- eX]; exact H7.out.2.1.set 0 _
    have kX : Kp (fun k => k = gp + 1) w7 X := by rw [<- eX]; exact kSa
    have d0 := hBX.c0
    have no : ∀ k cs e, e ≠ 69 -> Blk w7 k cs e -> ¬ (k = gp + 1) := fun k cs e hne hb h => by
     rw [h] at hb; exact hne (dH hb H7.out.2.1)
    refine bodyPost_ret (v := .agg #[.slice (some ⟨gr, 0, none⟩) 1 rc]) (by simp [results, Tryz.results31, go_sem, d0]) rfl ?_
    exact RetN.mk (H7.out.1.trans' kX fun i hi h => by have := HG.out; omega) ⟨gr, rc, ha', hcap', ba', bcap', rfl, hnc, hcm, ⟨rest, H7.out.2.2.1.kp kX (no _ _ _ (by decide) H7.out.2.2.1)⟩, H7.out.2.2.2.2, H7.out.2.2.2.1.kp kX fun k cs hb => by
     rcases hb with hb | hb
     ·exact no _ _ _ (by decide) hb
     ·exact no _ _ _ (by decide) hb⟩
def aMe (w0 : World) (n : Nat) (iv : Value) (w : World) : Prop := ∃ i : Nat, i ≤ n /\ iv = .int .i64 i /\ Hid (Ext w0 w)
def KeptP (w0 : World) (iv : Value) (w : World) : Prop := Hid (Ext w0 w) /\ (iv = .int .i64 0 \/ iv = .int .i64 1)
set_option maxHeartbeats 16000000 in
theorem zJ (p : ByteArray) (hs : List aE) (ls : List aM) (w0 : World) (gr rc pr : Nat) (ha hb : Option Addr) (hn hac hbc : Nat) (ba bb : Option Addr) (n bac bbc : Nat) (w : World) (G : Nat -> Prop) (hhn : hn = hs.length) (hh : aU w G hb hs) (hhl : hn ≤ 1048576) (hbn : n = ls.length) (h : cD w G bb ls) (hf : Fit ls) (hK : aGi w0 w p hs ls gr ha hn hac ba n bac) (hrc : 2 ≤ rc) (hrm : rc ≤ maxLen) (hP : Blk w pr [.string p, .slice hb hn hbc, .slice bb n bbc] 43) :
 Calls Tryz.prog 34 #[.agg #[.slice (some ⟨gr, 0, none⟩) 1 rc], .agg #[.slice (some ⟨pr, 0, none⟩) 1 1]] w (RetN w fun w' v => v = .bool true) := by
 have HN := qH hbn; have HE := qH h; have HF := qH hf; have hl : n ≤ 1048576 := by have := hf.len; omega
 obtain ⟨⟨rest, hgr⟩, -, hM⟩ := hK
 have HHd := qH (fun (W : World) (hW : Ext w W) => nF p hs w0 ha hb hn hac hbc W G (hM.head.ext hW) (qK hh) (hh.ext hW) hhl)
 obtain ⟨gm, rfl, hmk, hc1, hc2, hmL⟩ := hM.mark
 have HL0 := qH hmL
 have HAll := qH (aBj h)
 have HGr := qH hgr
 have HPr := qH hP
 obtain ⟨gp, egp⟩ : ∃ g, w.heap.size = g := ⟨_, rfl⟩
 obtain ⟨v1, ev1⟩ : ∃ x, (w.alloc (.cells #[.slice (some ⟨gr, 0, none⟩) 1 rc] 69)).alloc (.cells #[.slice (some ⟨pr, 0, none⟩) 1 1] 69) = x := ⟨_, rfl⟩
 have hP1 : Blk v1 gp [.slice (some ⟨gr, 0, none⟩) 1 rc] 69 := by rw [<- ev1, <- egp]; exact (Blk.new w _ _).alloc _
 have hP2 : Blk v1 (gp + 1) [.slice (some ⟨pr, 0, none⟩) 1 1] 69 := by
  have h := Blk.new (w.alloc (.cells #[.slice (some ⟨gr, 0, none⟩) 1 rc] 69)) [.slice (some ⟨pr, 0, none⟩) 1 1] 69
  rw [aI, egp] at h
  rw [<- ev1]; exact h
 have hxv : Ext w v1 := by rw [<- ev1]; exact ((Kp.refl w).alloc _).alloc _
 have HP1 := qH (And.intro hxv (And.intro hP1 hP2))
 have u0 := hP1.c0
 have u1 := hP2.c0
 have u3 := (hgr.ext hxv).c3
 have HMk := qH hmk
 have hrm2 : rc ≤ 9223372036854775807 := hrm
 have j1 : (2 : Int) ≤ (rc : Int) := by omega
 have hmk2 := HMk.out
 clear hM h hmk hgr hP hP1 hP2 hxv hhn hh hbn hf hmL hrm
 go_enter Tryz.func34, Tryz.ntmps34
 go_wp2
 clear ev1 egp u0 u1 u3 j1
 go_loopw [6] (fun iv wr => KeptP v1 iv wr) (fun iv _ => 1 - (intOf iv).toNat)
 case atStart => exact ⟨qH (Kp.refl v1), .inl rfl⟩
 case round =>
  obtain ⟨hex0', rfl | rfl⟩ := hrel
  ·have HW0 := qH (HP1.out.1.trans hex0'.out)
   have hex0 : Ext v1 wr := hex0'.out
   have hmk := HMk.out
   obtain ⟨g0, eg0⟩ : ∃ g, wr.heap.size = g := ⟨_, rfl⟩
   obtain ⟨w1, e1⟩ : ∃ x, (wr.alloc (.cells #[.string p, .slice ha hn hac, .slice (some ⟨gm, 0, none⟩) n bac] 43)).alloc (.cells #[.string p, .slice hb hn hbc, .slice bb n bbc] 43) = x := ⟨_, rfl⟩
   have hB1 : Blk w1 g0 [.string p, .slice ha hn hac, .slice (some ⟨gm, 0, none⟩) n bac] 43 := by rw [<- e1, <- eg0]; exact (Blk.new wr _ _).alloc _
   have hB2 : Blk w1 (g0 + 1) [.string p, .slice hb hn hbc, .slice bb n bbc] 43 := by
    have h := Blk.new (wr.alloc (.cells #[.string p, .slice ha hn hac, .slice (some ⟨gm, 0, none⟩) n bac] 43)) [.string p, .slice hb hn hbc, .slice bb n bbc] 43
    rw [aI, eg0] at h
    rw [<- e1]; exact h
   have hx1 : Ext w w1 := HW0.out.trans (by rw [<- e1]; exact ((Kp.refl wr).alloc _).alloc _)
   have r0 := hB1.c0
   have r1 := hB1.c1
   have s0 := hB2.c0
   have s1 := hB2.c1
   have s2 := hB2.c2
   have HV1 := qH (show Ext v1 w1 from hex0.trans (by rw [<- e1]; exact ((Kp.refl wr).alloc _).alloc _))
   have q1 : ((n : Int) != (n : Int)) = false := by simp
   have m0 : w1.cell? ⟨gm, n * 8, none⟩ = some (.int .i64 (-72)) := hx1.cell hmk id
   have i1 : (n : Int) + 1 ≤ (bac : Int) := by omega
   have hc3 : bac ≤ 9223372036854775807 := hc2
   have H1 := qH (And.intro hx1 (And.intro hB1 (And.intro hB2 m0)))
   have b0 := (HP1.out.2.1.ext hex0).c0
   have b1 := (HP1.out.2.2.ext hex0).c0
   have x0 := (HGr.out.ext HW0.out).c0
   have x1 := (HGr.out.ext HW0.out).c1
   have x2 := (HGr.out.ext HW0.out).c2
   have y0 := (HPr.out.ext HW0.out).c0
   have y1 := (HPr.out.ext HW0.out).c1
   have y2 := (HPr.out.ext HW0.out).c2
   have y3 : (wr.alloc (.cells #[.string p, .slice ha hn hac, .slice (some ⟨gm, 0, none⟩) n bac] 43)).cell? ⟨gp + 1, 0, none⟩ = some (.slice (some ⟨pr, 0, none⟩) 1 1) := ((Kp.refl (F := fun _ => False) wr).alloc _).cell b1 id
   have y4 : (wr.alloc (.cells #[.string p, .slice ha hn hac, .slice (some ⟨gm, 0, none⟩) n bac] 43)).cell? ⟨pr, 0, none⟩ = some (.string p) := ((Kp.refl (F := fun _ => False) wr).alloc _).cell y0 id
   have y5 : (wr.alloc (.cells #[.string p, .slice ha hn hac, .slice (some ⟨gm, 0, none⟩) n bac] 43)).cell? ⟨pr, 1, none⟩ = some (.slice hb hn hbc) := ((Kp.refl (F := fun _ => False) wr).alloc _).cell y1 id
   have y6 : (wr.alloc (.cells #[.string p, .slice ha hn hac, .slice (some ⟨gm, 0, none⟩) n bac] 43)).cell? ⟨pr, 2, none⟩ = some (.slice bb n bbc) := ((Kp.refl (F := fun _ => False) wr).alloc _).cell y2 id
   clear hB1 hB2 hx1 m0 hex0
   go_wp2_with fail
   clear e1 eg0 b0 b1 x0 x1 x2 y0 y1 y2 y3 y4 y5 y6
   refine (HHd.out _ H1.out.1).mono ?_
   rintro e w2 ⟨v, rfl, hk2, rfl⟩
   have H2 := qH (show Ext w w2 /\ Blk w2 g0 [.string p, .slice ha hn hac, .slice (some ⟨gm, 0, none⟩) n bac] 43 /\ Blk w2 (g0 + 1) [.string p, .slice hb hn hbc, .slice bb n bbc] 43 from ⟨H1.out.1.trans hk2, H1.out.2.1.ext hk2, H1.out.2.2.1.ext hk2⟩)
   have t2 := H2.out.2.1.c2
   have m0 := hk2.cell H1.out.2.2.2 id
   have HX1 := qH (HV1.out.trans hk2)
   clear hk2 r0 r1 s0 s1 s2
   go_wp2
   clear t2 m0 q1 i1
   go_loopw [10] (fun iv wr => aMe w2 n iv wr) (fun iv _ => n - (intOf iv).toNat)
   case atStart => exact ⟨0, Nat.zero_le _, rfl, qH (Kp.refl w2)⟩
   case round =>
    obtain ⟨i, hi, rfl, hex⟩ := hrel
    have XR := qH (H2.out.1.trans hex.out)
    have r2 := (H2.out.2.1.ext hex.out).c2
    have s2 := (H2.out.2.2.ext hex.out).c2
    by_cases hlt : i < n
    ·have hltl : i < ls.length := by rw [<- HN.out]; exact hlt
     obtain ⟨l, hli⟩ : ∃ l, ls[i]? = some l := ⟨_, qG hltl⟩
     obtain ⟨b, off, a2, cap2, eao, hG, hb, hL, c0, c1, c2, c3, c4, c5, c6, c7⟩ := oR HE.out hli
     subst eao
     replace c0 := XR.out.cell c0 id
     replace c1 := XR.out.cell c1 id
     replace c2 := XR.out.cell c2 id
     replace c3 := XR.out.cell c3 id
     replace c4 := XR.out.cell c4 id
     replace c5 := XR.out.cell c5 id
     replace c6 := XR.out.cell c6 id
     replace c7 := XR.out.cell c7 id
     obtain ⟨mm, emm⟩ : ∃ mm, mm = (aB l).length := ⟨_, rfl⟩
     rw [<- emm] at c2
     have hmm : mm ≤ 1048576 := by rw [emm]; exact HF.out.terms l (List.mem_of_getElem? hli)
     obtain ⟨k, ek⟩ : ∃ k, k = l.1 := ⟨_, rfl⟩
     rw [<- ek] at c0
     clear hltl hG hb
     obtain ⟨a3, cq, hTK, hcl⟩ := HL0.out i l hli
     have HAK := qH (fun (W : World) (hW : Ext wr W) => nF (bF l) (aB l) w0 a3 a2 mm cq cap2 W G (by have h := (hTK.ext XR.out).ext hW; rw [<- emm] at h; exact h) (HAll.out l (List.mem_of_getElem? hli)).terms ((hL.terms.ext XR.out).ext hW) hmm)
     have d0 := XR.out.cell (hcl 0 _ rfl) id
     have d1 := XR.out.cell (hcl 1 _ rfl) id
     have d2 := XR.out.cell (hcl 2 _ rfl) id
     have d3 := XR.out.cell (hcl 3 _ rfl) id
     have d4 := XR.out.cell (hcl 4 _ rfl) id
     have d5 := XR.out.cell (hcl 5 _ rfl) id
     have d6 := XR.out.cell (hcl 6 _ rfl) id
     have d7 := XR.out.cell (hcl 7 _ rfl) id
     simp only [Nat.add_zero, <- ek, <- emm] at d0 d1 d2 d3 d4 d5 d6 d7
     generalize bF l = pl at *
     generalize iC l = s3 at *
     generalize (leftOf l).1 = s4 at *
     generalize (leftOf l).2.1 = s5 at *
     generalize (aS l).1 = s6 at *
     generalize (aS l).2.1 = s7 at *
     obtain ⟨gx, egx⟩ : ∃ gx, wr.heap.size = gx := ⟨_, rfl⟩
     obtain ⟨wx, ewx⟩ : ∃ wx, wr.alloc (.cells #[.int .i64 k, .string pl, .slice a3 mm cq, .int .i64 s3, .int .i64 s4, .string s5, .int .i64 s6, .string s7] 60) = wx := ⟨_, rfl⟩
     obtain ⟨wy, ewy⟩ : ∃ wy, wx.alloc (.cells #[.int .i64 k, .string pl, .slice a2 mm cap2, .int .i64 s3, .int .i64 s4, .string s5, .int .i64 s6, .string s7] 60) = wy := ⟨_, rfl⟩
     have sx : wx.heap.size = gx + 1 := by rw [<- ewx, aI, egx]
     have hxy : Ext wx wy := by rw [<- ewy]; exact (Kp.refl wx).alloc _
     have hgx : Blk wx gx [.int .i64 k, .string pl, .slice a3 mm cq, .int .i64 s3, .int .i64 s4, .string s5, .int .i64 s6, .string s7] 60 := by rw [<- ewx, <- egx]; exact Blk.new wr _ _
     have hgy : Blk wy (gx + 1) [.int .i64 k, .string pl, .slice a2 mm cap2, .int .i64 s3, .int .i64 s4, .string s5, .int .i64 s6, .string s7] 60 := by rw [<- ewy, <- sx]; exact Blk.new wx _ _
     have hxx : Ext wr wx := by rw [<- ewx]; exact (Kp.refl wr).alloc _
     have p2 : wx.cell? ⟨g0 + 1, 2, none⟩ = some (.slice (some ⟨b, off, none⟩) n bbc) := hxx.cell s2 id
     have b0 := hxx.cell c0 id
     have b1 := hxx.cell c1 id
     have b2 := hxx.cell c2 id
     have b3 := hxx.cell c3 id
     have b4 := hxx.cell c4 id
     have b5 := hxx.cell c5 id
     have b6 := hxx.cell c6 id
     have b7 := hxx.cell c7 id
     have hx := hgx.ext hxy
     have x0 := hx.c0
     have x1 := hx.c1
     have x2 := hx.c2
     have x3 := hx.c3
     have x4 := hx.c4
     have x5 := hx.c5
     have x6 := hx.c6
     have x7 := hx.c7
     have y0 := hgy.c0
     have y1 := hgy.c1
     have y2 := hgy.c2
     have y3 := hgy.c3
     have y4 := hgy.c4
     have y5 := hgy.c5
     have y6 := hgy.c6
     have y7 := hgy.c7
     have e1 : (k != k) = false := by simp
     have e2 : (s3 != s3) = false := by simp
     have e3 : (s4 == s4) = true := by simp
     have e4 : (s6 == s6) = true := by simp
     have e5 := str_eq s5
     have e6 := str_eq s7
     have HY := qH (And.intro hxx hxy)
     have HCall := qH (HAK.out wy (hxx.trans hxy))
     clear hli emm ek hL hTK hcl hx hgx hgy hxx hxy HAK
     go_wp2_with fail
     refine HCall.out.mono ?_
     rintro e w5 ⟨v, rfl, hk5, rfl⟩
     have X5 := qH (HY.out.1.trans (HY.out.2.trans hk5))
     clear hk5 x0 x1 x2 x3 x4 x5 x6 x7 y0 y1 y2 y3 y4 y5 y6 y7 b0 b1 b2 b3 b4 b5 b6 b7 c0 c1 c2 c3 c4 c5 c6 c7 d0 d1 d2 d3 d4 d5 d6 d7 e1 e2 e3 e4 e5 e6 p2 r2 s2 ewx ewy egx sx
     go_wp2
     go_roundw
     case rel => exact ⟨i + 1, by omega, by first | rfl | (congr 1; done) | (congr 1; omega), qH (hex.out.trans X5.out)⟩
     case measure => simp [intOf]; omega
    ·have HFin := qH (HX1.out.trans hex.out)
     clear r2 s2
     go_wp2
     go_roundw
     case rel => exact ⟨HFin, .inr rfl⟩
     case measure => simp [intOf]
  ·go_wp2
   go_ret
   exact RetN.mk (HP1.out.1.trans hex0'.out) rfl
end
section
def Val (N V : List ByteArray) (s x : ByteArray) : Prop := ∃ v : Nat, N[v]? = some s /\ V[v]? = some x
structure SameV (N V N' V' : List ByteArray) : Prop where
 val : ∀ s x, Val N V s x ↔ Val N' V' s x
 mem : ∀ s, s ∈ N ↔ s ∈ N'
theorem aCz {ls : List aM} {C : List bG} {V : List ByteArray} : cG ls (pJ C ls) V ↔ V.length = (aA ls).length /\ ∀ l ∈ ls, jV (aA ls) V (bL C (bF l)) l := by
 unfold cG
 refine and_congr_right fun _ => ⟨fun h l hl => ?_, fun h i l hi => ?_⟩
 ·obtain ⟨i, hi⟩ := List.mem_iff_getElem?.1 hl
  have h1 := h i l hi
  unfold pJ at h1
  rw [hi] at h1; exact h1
 ·unfold pJ
  rw [hi]
  exact h l (List.mem_of_getElem? hi)
section
variable {r r' : bM} {C : List bG}
theorem aCy (hc : aP r = 0) {V : List ByteArray} : V ∈ cF r C ↔ cG r.2.1 (pJ C r.2.1) V := by
 unfold cF
 rw [if_pos hc]
 exact (aC0 hc _).iff V
end
def iZ (C : List bG) : List aM -> Nat -> Option Nat
 | [], n => some n
 | l :: ls, n => if l.1 = 1 then (if 20000 < n * (1 + (bL C (bF l)).length) then none else iZ C ls (n * (1 + (bL C (bF l)).length))) else iZ C ls n
def aCg (C : List bG) (ls : List aM) : Bool := (iZ C ls 1).isSome
theorem iJ (C : List bG) : ∀ (a b : List aM) (n : Nat), iZ C (a ++ b) n = (iZ C a n).bind (iZ C b)
 | [], b, n => rfl
 | l :: a, b, n => by
  show iZ C (l :: (a ++ b)) n = (iZ C (l :: a) n).bind _
  unfold iZ
  split
  ·split
   ·rfl
   ·exact iJ C a b _
  ·exact iJ C a b n
def tZ (R : Nat -> aC) : List aM -> Nat -> Nat
 | [], _ => 1
 | l :: rest, i => if l.1 = 1 then (1 + (R i).length) * tZ R rest (i + 1) else tZ R rest (i + 1)
theorem sA {α β : Type} {f : α -> List β} {m : Nat} : ∀ {L : List α}, (∀ x, (f x).length ≤ m) -> (L.flatMap f).length ≤ L.length * m
 | [], h => Nat.zero_le _
 | x :: L, h => by
  rw [List.flatMap_cons, List.length_append, List.length_cons, Nat.succ_mul]
  have h1 := sA (L := L) h
  have h2 := h x
  omega
theorem aDm (e : dB) (ts : List aE) (R : aC) : (cN e ts R).length ≤ R.length := by
 unfold cN
 refine Nat.le_trans (aJa _) ?_
 exact List.length_filterMap_le _ _
theorem mL (all : List aM) (R : Nat -> aC) : ∀ (rest : List aM) (i : Nat) (e : dB), (gE all R rest i e).length ≤ tZ R rest i
 | [], i, e => by
  unfold gE tZ
  split
  ·exact Nat.le_refl _
  ·exact Nat.zero_le _
 | l :: rest, i, e => by
  unfold gE tZ
  split
  ·refine Nat.le_trans (sA fun q => mL all R rest (i + 1) _) (Nat.mul_le_mul_right _ ?_)
   have h1 := aDm e (aB l) (jL (aB l) (R i))
   have h2 : (jL (aB l) (R i)).length ≤ (R i).length := List.length_filter_le _ _
   omega
  ·exact mL all R rest (i + 1) e
theorem zN {C : List bG} : ∀ {ls : List aM} {n m : Nat}, n ≤ 20000 -> iZ C ls n = some m -> m ≤ 20000
 | [], n, m, h, e => by cases e; exact h
 | l :: ls, n, m, h, e => by
  unfold iZ at e
  split at e
  ·split at e
   ·cases e
   ·rename_i hq
    exact zN (Nat.not_lt.1 hq) e
  ·exact zN h e
def pM (C : List bG) : List aM -> Nat
 | [] => 1
 | l :: rest => if l.1 = 1 then (1 + (bL C (bF l)).length) * pM C rest else pM C rest
theorem tY {R : Nat -> aC} {C : List bG} : ∀ {rest : List aM} {i : Nat}, (∀ (j : Nat) (l : aM), rest[j]? = some l -> (R (i + j)).length ≤ (bL C (bF l)).length) -> tZ R rest i ≤ pM C rest
 | [], i, h => Nat.le_refl _
 | l :: rest, i, h => by
  have ht : ∀ (j : Nat) (l' : aM), rest[j]? = some l' -> (R (i + 1 + j)).length ≤ (bL C (bF l')).length := fun j l' hj => by
   have := h (j + 1) l' (by simpa using hj)
   rw [show i + (j + 1) = i + 1 + j by omega] at this; exact this
  have h0 := h 0 l rfl
  rw [Nat.add_zero] at h0
  unfold tZ pM
  split
  ·exact Nat.mul_le_mul (by omega) (tY ht)
  ·exact tY ht
theorem yB (r : bM) (C : List bG) : (cF r C).length ≤ pM C r.2.1 := by
 unfold cF
 split
 ·refine Nat.le_trans (mL r.2.1 (pJ C r.2.1) r.2.1 0 ([], [])) (tY fun j l hj => ?_)
  rw [Nat.zero_add]
  unfold pJ
  rw [hj]; exact Nat.le_refl _
 ·exact Nat.zero_le _
theorem qX {C : List bG} : ∀ {ls : List aM} {n m : Nat}, iZ C ls n = some m -> n * pM C ls ≤ m
 | [], n, m, e => by cases e; show n * 1 ≤ n; omega
 | l :: ls, n, m, e => by
  unfold iZ at e
  unfold pM
  split at e
  ·rename_i h1
   rw [if_pos h1]
   split at e
   ·cases e
   ·have h2 := qX e
    rw [Nat.mul_assoc] at h2; exact h2
  ·rename_i h1
   rw [if_neg h1]
   exact qX e
theorem aCf {C : List bG} {ls : List aM} (h : aCg C ls = true) : pM C ls ≤ 20000 := by
 unfold aCg at h
 obtain ⟨m, hm⟩ := Option.isSome_iff_exists.1 h
 have h1 := qX hm
 have h2 := zN (by decide) hm
 omega
theorem aHz {r : bM} {C : List bG} (hc : aP r = 0) (hC : BaseOk C) {V : List ByteArray} (hV : V ∈ cF r C) : ∀ s ∈ V, s.size ≤ 4096 := by
 rw [aCy hc, aCz] at hV
 intro s hs
 obtain ⟨v, hv⟩ := List.mem_iff_getElem?.1 hs
 have hvl := (List.getElem?_eq_some_iff.1 hv).1
 obtain ⟨l, hl, h1, hva⟩ := mO (ls := r.2.1) (v := v) (by rw [<- hV.1]; exact hvl)
 obtain ⟨_, i, t, hi, ht, he⟩ := dC.1 hva
 have hh := hV.2 l hl
 unfold jV at hh
 rw [if_pos h1] at hh
 obtain ⟨x, hx, hxl, hf⟩ := hh
 obtain ⟨u, hu1, hu2⟩ := (hf i t hi).2 ht
 have hN := cU r.2.1
 have hnv : (aA r.2.1)[v]? = some t.2.1 := by
  rw [he]; unfold aZ
  rw [List.getD_eq_getElem?_getD, qG (by rw [<- hV.1]; exact hvl)]; rfl
 have huv : u = v := by
  have hul := (List.getElem?_eq_some_iff.1 hu1).1
  exact (List.getElem?_inj hul hN).1 (hu1.trans hnv.symm)
 subst huv
 rw [hv] at hu2
 have e : s = aZ x i := Option.some.inj hu2
 unfold bL at hx
 cases hg : dG C (bF l) with
 | none => rw [hg] at hx; cases hx
 | some p =>
  rw [hg] at hx
  have ok := hC.all _ ((iY hC.nodup).1 hg)
  have htx := ok.txt x hx
  rw [e]
  unfold aZ
  rw [List.getD_eq_getElem?_getD]
  cases hxi : x[i]? with
  | none => decide
  | some y => exact of_decide_eq_true (List.all_eq_true.1 htx y (List.mem_of_getElem? hxi))
end
section
open Go.RowKit Go.Shelf
attribute [local go_sem] Oper.semAt_some
def FewTo (w0 : World) (C : List bG) (ls : List aM) (n : Nat) (pv iv : Value) (w : World) : Prop := ∃ (i m : Nat), i ≤ n /\ iv = .int .i64 i /\ pv = .int .i64 m /\ m ≤ 20000 /\ Hid (Ext w0 w) /\ Hid (iZ C (ls.take i) 1 = some m)
set_option maxHeartbeats 4000000 in
theorem aHi {S : Nat -> Prop} {w : World} {p : ByteArray} {hs : List aE} {ls : List aM} {ha ba : Option Addr} {hn hcap n bcap : Nat} {G : Nat -> Prop} {v : Value} {E : List Ent} (hbn : n = ls.length) (h : cD w G ba ls) (hf : Fit ls) (hB : BaseV S w v E) :
 Calls Tryz.prog 20 #[dL p ha hn hcap ba n bcap, v] w (RetN w fun w' u => u = .bool (aCg (aR E) ls)) := by
 have HN := qH hbn; have HE := qH h; have HF := qH hf; have hl : n ≤ 1048576 := by have := hf.len; omega
 have HSz := qH (fun W (hW : Ext w W) (s : ByteArray) => zU (hB.ext hW) s)
 have hok := hB.ok
 have HSm := qH (show ∀ s, (bL (aR E) s).length ≤ 65536 from fun s => by
  unfold bL
  cases hg : dG (aR E) s with
  | none => exact Nat.zero_le _
  | some x => exact (hok.all (s, x) ((iY hok.nodup).1 hg)).few)
 clear hbn h hf hB hok
 obtain ⟨g0, eg0⟩ : ∃ g, w.heap.size = g := ⟨_, rfl⟩
 obtain ⟨w1, e1⟩ : ∃ x, w.alloc (.cells #[.string p, .slice ha hn hcap, .slice ba n bcap] 43) = x := ⟨_, rfl⟩
 have hB1 : Blk w1 g0 [.string p, .slice ha hn hcap, .slice ba n bcap] 43 := by rw [<- e1, <- eg0]; exact Blk.new w _ _
 have hx1 : Ext w w1 := by rw [<- e1]; exact (Kp.refl w).alloc _
 have H1 := qH (And.intro hx1 hB1)
 clear hB1 hx1
 go_enter Tryz.func20, Tryz.ntmps20
 go_wp2
 clear e1 eg0
 go_loopw [5, 6] (fun pv iv wr => FewTo w1 (aR E) ls n pv iv wr) (fun _ iv _ => n - (intOf iv).toNat)
 case atStart => exact ⟨0, 1, Nat.zero_le _, rfl, rfl, by decide, qH (Kp.refl _), qH rfl⟩
 case round =>
  obtain ⟨i, m, hi, rfl, rfl, hm, hex, hfe⟩ := hrel
  have XR := qH (H1.out.1.trans hex.out)
  have b2 := (H1.out.2.ext hex.out).c2
  by_cases hlt : i < n
  ·have hltl : i < ls.length := by rw [<- HN.out]; exact hlt
   obtain ⟨l, hli⟩ : ∃ l, ls[i]? = some l := ⟨_, qG hltl⟩
   obtain ⟨b, off, a2, cap2, eao, hG, hb, hL, c0, c1, c2, c3, c4, c5, c6, c7⟩ := oR HE.out hli
   subst eao
   replace c0 := XR.out.cell c0 id
   replace c1 := XR.out.cell c1 id
   replace c2 := XR.out.cell c2 id
   replace c3 := XR.out.cell c3 id
   replace c4 := XR.out.cell c4 id
   replace c5 := XR.out.cell c5 id
   replace c6 := XR.out.cell c6 id
   replace c7 := XR.out.cell c7 id
   obtain ⟨mm, emm⟩ : ∃ mm, mm = (aB l).length := ⟨_, rfl⟩
   rw [<- emm] at c2
   have hmm : mm ≤ 1048576 := by rw [emm]; exact HF.out.terms l (List.mem_of_getElem? hli)
   obtain ⟨k, ek⟩ : ∃ k, k = l.1 := ⟨_, rfl⟩
   rw [<- ek] at c0
   clear hltl hG hb
   obtain ⟨pl, epl⟩ : ∃ pl, bF l = pl := ⟨_, rfl⟩
   rw [epl] at c1
   have HT := qH (show ls.take (i + 1) = ls.take i ++ [l] from by rw [List.take_add_one, hli]; rfl)
   have HL := qH (And.intro hli (And.intro ek epl))
   clear hli ek epl emm hL hmm
   by_cases hk1 : k = 1
   ·subst hk1
    obtain ⟨z, ez⟩ : ∃ z, (fR (bP E pl)).length = z := ⟨_, rfl⟩
    have hz16 : z ≤ 65536 := by rw [<- ez, oP]; exact HSm.out pl
    have hSz := HSz.out wr XR.out pl
    rw [ez] at hSz
    have HS := qH hSz
    have HZ := qH (show (bL (aR E) pl).length = z from by rw [<- oP]; exact ez)
    clear ez hSz
    go_wp2_with fail
    refine HS.out.mono ?_
    rintro e w2 ⟨v2, rfl, hk2, rfl⟩
    have X2 := qH (hex.out.trans hk2)
    have hmz : m * (1 + z) ≤ 20000 * 65537 := Nat.mul_le_mul hm (by omega)
    have hw1 : IntKind.i64.wrap ((1 : Int) + (z : Int)) = (1 : Int) + (z : Int) := IntWalk.i64_in _ (by omega)
    obtain ⟨q, eq⟩ : ∃ q, m * (1 + z) = q := ⟨_, rfl⟩
    have hqi : (m : Int) * (1 + (z : Int)) = (q : Int) := by rw [<- eq]; push_cast; rfl
    rw [eq] at hmz
    have hw2 : IntKind.i64.wrap ((m : Int) * (1 + (z : Int))) = (q : Int) := by rw [hqi]; exact IntWalk.i64_in _ (by omega)
    have HQ := qH eq
    clear hk2 eq hqi c0 c1 c2 c3 c4 c5 c6 c7 b2
    by_cases hq : 20000 < q
    ·have HFa := qH (show aCg (aR E) ls = false from by
      have e1 : ls = ls.take (i + 1) ++ ls.drop (i + 1) := (List.take_append_drop _ _).symm
      have e2 : iZ (aR E) (ls.take (i + 1)) 1 = none := by
       rw [HT.out, iJ, hfe.out]
       show iZ (aR E) [l] m = none
       unfold iZ
       rw [if_pos HL.out.2.1.symm, HL.out.2.2, HZ.out, HQ.out, if_pos hq]
      unfold aCg
      rw [e1, iJ, e2]; rfl)
     have hq2 : (20000 : Int) < (q : Int) := by omega
     clear hq hz16 hmz
     go_wp2
     go_ret
     exact RetN.mk (H1.out.1.trans X2.out) (by rw [HFa.out]; rfl)
    ·have HFa := qH (show iZ (aR E) (ls.take (i + 1)) 1 = some q from by
      rw [HT.out, iJ, hfe.out]
      show iZ (aR E) [l] m = some q
      unfold iZ
      rw [if_pos HL.out.2.1.symm, HL.out.2.2, HZ.out, HQ.out, if_neg hq]
      rfl)
     have hq2 : ¬ (20000 : Int) < (q : Int) := by omega
     have hq3 : q ≤ 20000 := by omega
     clear hq hz16 hmz hm
     go_wp2
     go_roundw
     case rel => exact ⟨i + 1, q, by omega, by first | rfl | (congr 1; done) | (congr 1; omega), rfl, hq3, X2, HFa⟩
     case measure => simp [intOf]; omega
   ·have hk2 : (k == 1) = false := by simp [hk1]
    have HFa := qH (show iZ (aR E) (ls.take (i + 1)) 1 = some m from by
     rw [HT.out, iJ, hfe.out]
     show iZ (aR E) [l] m = some m
     unfold iZ
     rw [if_neg (fun e => hk1 (HL.out.2.1.trans e))]
     rfl)
    clear hk1
    go_wp2
    go_roundw
    case rel => exact ⟨i + 1, m, by omega, by first | rfl | (congr 1; done) | (congr 1; omega), rfl, hm, hex, HFa⟩
    case measure => simp [intOf]; omega
  ·obtain rfl : n = i := by omega
   have HFa := qH (show aCg (aR E) ls = true from by
    have h := hfe.out
    rw [List.take_of_length_le (by rw [<- HN.out]; exact Nat.le_refl _)] at h
    unfold aCg; rw [h]; rfl)
   go_wp2
   go_ret
   exact RetN.mk XR.out (by rw [HFa.out]; rfl)
end
section
theorem aKx {r : bM} {C : List bG} (hC : BaseOk C) (hp : pM C r.2.1 ≤ 20000) (hts : ∀ t ∈ r.1.2.1, t.2.1.size ≤ 1048576) : okR r C = true := by
 have hl := yB r C
 have hV : ∀ V ∈ cF r C, ∀ s ∈ V, s.size ≤ 4096 := fun V hV => by
  by_cases hc : aP r = 0
  ·exact aHz hc hC hV
  ·unfold cF at hV
   rw [if_neg hc] at hV; cases hV
 have hz : ∀ {L : aC}, (∀ V ∈ L, ∀ s ∈ V, s.size ≤ 1048576) -> aFy L = true := fun {L} h => List.all_eq_true.2 fun V hV => List.all_eq_true.2 fun s hs => decide_eq_true (h V hV s hs)
 unfold okR
 rw [decide_eq_true (by omega), Bool.true_and, hz (fun V h s hs => by have := hV V h s hs; omega), Bool.true_and]
 refine hz fun U hU s hs => ?_
 obtain ⟨V, h1, rfl⟩ := List.mem_map.1 hU
 obtain ⟨t, ht, e⟩ := List.mem_filterMap.1 hs
 have ht2 := hts t ht
 split at e
 ·cases e; exact ht2
 ·split at e
  ·rename_i h1'
   cases e
   unfold lS
   rw [if_pos h1']
   unfold aZ
   rw [List.getD_eq_getElem?_getD]
   cases hx : V[(aA r.2.1).findIdx fun s => decide (s = t.2.1)]? with
   | none => decide
   | some y => have := hV V h1 y (List.mem_of_getElem? hx); show y.size ≤ _; omega
  ·cases e
theorem aE1 {r : bM} {nb : Bool} {L : aC} {e : Nat} {A : aC} (h : dD r nb L = (e, A)) : A.length ≤ 65536 := by
 have e1 : (dD r nb L).2.length ≤ 65536 := by
  unfold dD
  split
  ·exact Nat.zero_le _
  ·split
   ·split
    ·exact Nat.zero_le _
    ·exact gI _ _ _ (Nat.zero_le _)
   ·split
    ·exact Nat.zero_le _
    ·split
     ·exact Nat.zero_le _
     ·unfold aAa
      split
      ·exact Nat.zero_le _
      ·split
       ·exact Nat.zero_le _
       ·exact gI _ _ _ (Nat.zero_le _)
 rw [h] at e1; exact e1
theorem wG {r : bM} {nb : Bool} {L : aC} {e : Nat} {A : aC} (h : dD r nb L = (e, A)) : Strict aD A := by
 have hnl : Strict aD ([] : aC) := List.Pairwise.nil
 have e1 : Strict aD (dD r nb L).2 := by
  unfold dD
  split
  ·exact hnl
  ·split
   ·split
    ·exact hnl
    ·exact dR _ _ _ hnl
   ·split
    ·exact hnl
    ·split
     ·exact hnl
     ·unfold aAa
      split
      ·exact hnl
      ·split
       ·exact hnl
       ·exact dR _ _ _ hnl
 rw [h] at e1; exact e1
theorem zP {m : Nat} {LL : aC} {ss : List ByteArray} (h : Strict aD LL) : Strict aD (fY m LL ss) := by
 unfold fY
 split
 ·exact h
 ·exact h.drop cZ ss
theorem aHq (m : Nat) (LL : aC) (ss : List ByteArray) : (fY m LL ss).length ≤ LL.length := by
 unfold fY
 split
 ·exact Nat.le_refl _
 ·unfold jA
  split
  ·rw [List.length_append, List.length_take, List.length_drop]; omega
  ·exact Nat.le_refl _
end
section
open Go.RowKit Go.Shelf
attribute [local go_sem] Oper.semAt_some
set_option maxHeartbeats 16000000 in
theorem aGv {w : World} {p : ByteArray} {hs : List aE} {ls : List aM} {ha ba la : Option Addr} {hn hcap n bcap ln lc : Nat} {G : Nat -> Prop} {L1 : List lL} (hN : NumW w) (hhn : hn = hs.length) (hh : aU w G ha hs) (hhl : hn ≤ 1048576) (hbn : n = ls.length) (h : cD w G ba ls) (hf : Fit ls) (hnv : (aA ls).length ≤ 1048576)
 (hnc : n ≤ bcap) (hcm : bcap ≤ maxLen) (hl : n ≤ 1048575) (hts : ∀ t ∈ hs, t.2.1.size ≤ 1048576)
 (hln : ln = L1.length) (hL1 : RelsIn TT w la L1) (hll : ln ≤ 1048576) (hr1 : ∀ q ∈ L1, q.2.2.1.length ≤ 1048576) :
 Calls Tryz.prog 7 #[dL p ha hn hcap ba n bcap, .slice la ln lc] w (RetN w fun w' v => v = .bool true) := by
 have HE := qH h; have HF := qH hf; have HN := qH hbn
 have HH := qH (And.intro hh (And.intro hhn hhl))
 have HM := qH (And.intro hnv (And.intro hnc (And.intro hcm (And.intro hl (And.intro hts hN)))))
 have HFr := qH (fun (W : World) (hW : Ext w W) => aB6 L1 la ln lc W TT hln (hL1.ext hW) (by omega) hr1)
 have HFw := qH (fun (W : World) (hW : Ext w W) (S : Nat -> Prop) (v : Value) (E : List Ent) (hB : BaseV S W v E) => aHi (p := p) (hs := hs) (hn := hn) (hcap := hcap) (bcap := bcap) (ha := ha) hbn (h.ext hW) hf hB)
 obtain ⟨g0, eg0⟩ : ∃ g, w.heap.size = g := ⟨_, rfl⟩
 obtain ⟨w1, e1⟩ : ∃ x, w.alloc (.cells #[.string p, .slice ha hn hcap, .slice ba n bcap] 43) = x := ⟨_, rfl⟩
 have hB1 : Blk w1 g0 [.string p, .slice ha hn hcap, .slice ba n bcap] 43 := by rw [<- e1, <- eg0]; exact Blk.new w _ _
 have hx1 : Ext w w1 := by rw [<- e1]; exact (Kp.refl w).alloc _
 have H1 := qH (And.intro hx1 hB1)
 have hnl : n ≤ 1048575 := hl
 clear hB1 hx1 hhn hh hhl hbn h hf hnv hnc hcm hl hts hln hL1 hll hr1 hN
 go_enter Tryz.func7, Tryz.ntmps7
 go_wp2_with fail
 clear e1 eg0
 refine (HFr.out w1 H1.out.1).mono ?_
 rintro e w2 ⟨v2, rfl, hk2, hv2⟩
 have H2 := qH (And.intro (H1.out.1.trans hk2) (H1.out.2.ext hk2))
 clear hk2
 by_cases he : (gP [] L1).2 = 0
 rotate_left
 ·have ev := hv2.2 he
  subst ev
  obtain ⟨ez, eez⟩ : ∃ x, (gP [] L1).2 = x := ⟨_, rfl⟩
  rw [eez] at he ⊢
  have h0 : ((ez : Int) != 0) = true := by simp; omega
  clear eez hv2 he
  go_wp2_with fail
  refine (nW (ez : Nat) w2).mono ?_
  rintro e w3 ⟨v3, rfl, hk3, rfl⟩
  have X3 := qH (H2.out.1.trans hk3)
  clear hk3
  go_wp2_with fail
  refine (sG w3 (HM.out.2.2.2.2.2.ext X3.out)).mono ?_
  rintro e w4 ⟨v, rfl, hk4, rfl⟩
  have X4 := qH (X3.out.trans hk4)
  clear hk4
  go_wp2
  go_ret
  exact RetN.mk X4.out rfl
 obtain ⟨b1, m1, S1, E1, rfl, hA1, -, -, -⟩ := hv2.1 he
 clear hv2 he
 have HA := qH hA1
 clear hA1
 go_wp2_with fail
 refine (nW 0 w2).mono ?_
 rintro e w3 ⟨v3, rfl, hk3, rfl⟩
 have H3 := qH (show Ext w w3 /\ Blk w3 g0 [.string p, .slice ha hn hcap, .slice ba n bcap] 43 /\ BaseAt S1 w3 b1 m1 E1 from ⟨H2.out.1.trans hk3, H2.out.2.ext hk3, HA.out.ext hk3⟩)
 have HFe := qH (HFw.out w3 H3.out.1 S1 (.pointer (some ⟨b1, 0, none⟩)) E1 (.full b1 m1 E1 H3.out.2.2))
 have r0 := H3.out.2.1.c0
 have r1 := H3.out.2.1.c1
 have r2 := H3.out.2.1.c2
 obtain ⟨fb, efb⟩ : ∃ b, aCg (aR E1) ls = b := ⟨_, rfl⟩
 rw [efb] at HFe
 have HFb := qH efb
 clear hk3 efb
 go_wp2_with fail
 refine HFe.out.mono ?_
 rintro e w4 ⟨v, rfl, hk4, rfl⟩
 have H4 := qH (show Ext w w4 /\ Blk w4 g0 [.string p, .slice ha hn hcap, .slice ba n bcap] 43 /\ BaseAt S1 w4 b1 m1 E1 from ⟨H3.out.1.trans hk4, H3.out.2.1.ext hk4, H3.out.2.2.ext hk4⟩)
 clear hk4 r0 r1 r2
 have HAw := qH (sG w4 (HM.out.2.2.2.2.2.ext H4.out.1))
 cases fb
 ·go_wp2_with fail
  refine HAw.out.mono ?_
  rintro e w5 ⟨v, rfl, hk5, rfl⟩
  have X5 := qH (H4.out.1.trans hk5)
  clear hk5
  go_wp2
  go_ret
  exact RetN.mk X5.out rfl
 go_wp2_with fail
 refine HAw.out.mono ?_
 rintro e w5 ⟨v, rfl, hk5, rfl⟩
 have H5 := qH (show Ext w w5 /\ Blk w5 g0 [.string p, .slice ha hn hcap, .slice ba n bcap] 43 /\ BaseAt S1 w5 b1 m1 E1 from ⟨H4.out.1.trans hk5, H4.out.2.1.ext hk5, H4.out.2.2.ext hk5⟩)
 have a0 := H5.out.2.1.c0
 have a1 := H5.out.2.1.c1
 have a2 := H5.out.2.1.c2
 clear hk5
 obtain ⟨pr, epr⟩ : ∃ g, w5.heap.size = g := ⟨_, rfl⟩
 obtain ⟨w6, e6⟩ : ∃ x, w5.alloc (.cells #[.string p, .slice ha hn hcap, .slice ba n bcap] 43) = x := ⟨_, rfl⟩
 have hB6 : Blk w6 pr [.string p, .slice ha hn hcap, .slice ba n bcap] 43 := by rw [<- e6, <- epr]; exact Blk.new w5 _ _
 have x6 : Ext w5 w6 := by rw [<- e6]; exact (Kp.refl w5).alloc _
 obtain ⟨gi, egi⟩ : ∃ g, w6.heap.size = g := ⟨_, rfl⟩
 obtain ⟨w7, e7⟩ : ∃ x, w6.alloc (.cells #[.slice (some ⟨pr, 0, none⟩) 1 1] 69) = x := ⟨_, rfl⟩
 have hB7 : Blk w7 gi [.slice (some ⟨pr, 0, none⟩) 1 1] 69 := by rw [<- e7, <- egi]; exact Blk.new w6 _ _
 have x7 : Ext w6 w7 := by rw [<- e7]; exact (Kp.refl w6).alloc _
 have H7 := qH (show Ext w w7 /\ Blk w7 g0 [.string p, .slice ha hn hcap, .slice ba n bcap] 43 /\ BaseAt S1 w7 b1 m1 E1 /\ Blk w7 pr [.string p, .slice ha hn hcap, .slice ba n bcap] 43 /\ Blk w7 gi [.slice (some ⟨pr, 0, none⟩) 1 1] 69 from
  ⟨H5.out.1.trans (x6.trans x7), H5.out.2.1.ext (x6.trans x7), H5.out.2.2.ext (x6.trans x7), hB6.ext x7, hB7⟩)
 have d0 := hB7.c0
 have HLp := qH (zI p hs ls ha hn hcap ba n bcap pr w7 G HH.out.2.1 (HH.out.1.ext H7.out.1) HH.out.2.2 HN.out (HE.out.ext H7.out.1) HF.out H7.out.2.2.2.1)
 clear hB6 x6 hB7 x7
 go_wp2_with fail
 clear e6 e7 epr egi a0 a1 a2 d0
 refine HLp.out.mono ?_
 rintro e w8 ⟨v8, rfl, hk8, gr, rc, ha2, hc2, ba2, bc2, rfl, hrc, hrm, hK8⟩
 obtain ⟨gj, egj⟩ : ∃ g, w8.heap.size = g := ⟨_, rfl⟩
 obtain ⟨w9, e9⟩ : ∃ x, w8.alloc (.cells #[.slice (some ⟨gr, 0, none⟩) 1 rc] 69) = x := ⟨_, rfl⟩
 have hB9 : Blk w9 gj [.slice (some ⟨gr, 0, none⟩) 1 rc] 69 := by rw [<- e9, <- egj]; exact Blk.new w8 _ _
 have x9 : Ext w8 w9 := by rw [<- e9]; exact (Kp.refl w8).alloc _
 have x79 := hk8.trans x9
 obtain ⟨⟨rst, hgr⟩, hlo8, hRK⟩ := hK8
 have hK9 : aGi w7 w9 p hs ls gr ha2 hn hc2 ba2 n bc2 := ⟨⟨rst, hgr.ext x9⟩, hlo8, hRK.ext x9⟩
 have hTs := qK HH.out.1
 have hLs := aBj HE.out
 have H9 := qH (show Ext w w9 /\ Blk w9 g0 [.string p, .slice ha hn hcap, .slice ba n bcap] 43 /\ BaseAt S1 w9 b1 m1 E1 /\ Blk w9 pr [.string p, .slice ha hn hcap, .slice ba n bcap] 43 /\ Blk w9 gi [.slice (some ⟨pr, 0, none⟩) 1 1] 69 /\ Blk w9 gj [.slice (some ⟨gr, 0, none⟩) 1 rc] 69 /\ (aU w9 (New w7) ha2 hs /\ cD w9 (New w7) ba2 ls) /\ aGi w7 w9 p hs ls gr ha2 hn hc2 ba2 n bc2 /\ Blk w9 gr ([.string p, .slice ha2 hn hc2, .slice ba2 n bc2] ++ (aBi ++ rst)) 43 from
  ⟨H7.out.1.trans x79, H7.out.2.1.ext x79, H7.out.2.2.1.ext x79, H7.out.2.2.2.1.ext x79, H7.out.2.2.2.2.ext x79, hB9, ⟨hK9.2.2.terms hTs, hK9.2.2.lits hLs⟩, hK9, hgr.ext x9⟩)
 have HRc := qH (And.intro hrc hrm)
 have b0 := hB9.c0
 have c0 := (hgr.ext x9).c0
 have c1 := (hgr.ext x9).c1
 have HOf := qH (rI p hs ha2 hn hc2 w9 (New w7) HH.out.2.1 H9.out.2.2.2.2.2.2.1.1 HH.out.2.2)
 clear hk8 hB9 x9 x79 hK9 hgr hRK hlo8 hTs hLs hrc hrm
 go_wp2_with fail
 clear e9 egj b0 c0 c1
 refine HOf.out.mono ?_
 rintro e w10 ⟨vO, rfl, hkO, jO, bO, rfl, -⟩
 have HXO := qH hkO
 clear hkO
 have hbl := Nat.le_trans (yB ((p, hs, ()), ls, ()) (aR E1)) (aCf HFb.out)
 have hko := aKx (r := ((p, hs, ()), ls, ())) H9.out.2.2.1.ok (aCf HFb.out) HM.out.2.2.2.2.1
 have hko2 : (hs.any fun t => decide (4 ≤ t.1)) = true -> (cF ((p, hs, ()), ls, ()) (aR E1)).length ≤ 1048576 /\ (∀ V ∈ cF ((p, hs, ()), ls, ()) (aR E1), ∀ s ∈ V, s.size ≤ 1048576) /\ ∀ V ∈ cF ((p, hs, ()), ls, ()) (aR E1), ∀ s ∈ aY (aA ls) V hs, s.size ≤ 1048576 := fun _ => by
  have h2 := hko
  unfold okR at h2
  rw [Bool.and_eq_true, Bool.and_eq_true, decide_eq_true_eq] at h2
  exact ⟨h2.1, nO h2.2.1, fun V hV => nO h2.2.2 _ (List.mem_map.2 ⟨V, hV, rfl⟩)⟩
 obtain ⟨⟨ee, A⟩, hMA⟩ : ∃ x, dD ((p, hs, ()), ls, ()) false (cF ((p, hs, ()), ls, ()) (aR E1)) = x := ⟨_, rfl⟩
 have HAf := qH (And.intro (aE1 hMA) (wG hMA))
 have HFa := qH (fun X (hX : Ext w9 X) => (by
  have h := vV (S := S1) (hcap := hc2) (bcap := bc2) (p := p) (G := New w7) (E := E1) HH.out.2.1 (H9.out.2.2.2.2.2.2.1.1.ext hX) HH.out.2.2 HN.out (H9.out.2.2.2.2.2.2.1.2.ext hX) HF.out HM.out.1 (by omega) (.full b1 m1 E1 (H9.out.2.2.1.ext hX)) (vS ((p, hs, ()), ls, ()) E1) (HM.out.2.2.2.2.2.ext (H9.out.1.trans hX)) hko2
  rw [show (some (⟨b1, 0, none⟩ : Addr)).isNone = false from rfl, hMA] at h
  exact h : Calls Tryz.prog 33 #[dL p ha2 hn hc2 ba2 n bc2, .pointer (some ⟨b1, 0, none⟩)] X (RetN X fun w' v => FactsR ee hs.length A X w' v)))
 clear hbl hko hko2 hMA
 have cells : ∀ X, Ext w9 X -> X.cell? ⟨gj, 0, none⟩ = some (.slice (some ⟨gr, 0, none⟩) 1 rc) /\ X.cell? ⟨gr, 0, none⟩ = some (.string p) /\ X.cell? ⟨gr, 1, none⟩ = some (.slice ha2 hn hc2) /\ X.cell? ⟨gr, 2, none⟩ = some (.slice ba2 n bc2) /\ X.cell? ⟨gi, 0, none⟩ = some (.slice (some ⟨pr, 0, none⟩) 1 1) := fun X hX =>
  ⟨by rw [(H9.out.2.2.2.2.2.1.ext hX).cell']; rfl, by rw [(H9.out.2.2.2.2.2.2.2.2.ext hX).cell']; rfl, by rw [(H9.out.2.2.2.2.2.2.2.2.ext hX).cell']; rfl, by rw [(H9.out.2.2.2.2.2.2.2.2.ext hX).cell']; rfl, by rw [(H9.out.2.2.2.2.1.ext hX).cell']; rfl⟩
 have HCs := qH cells
 clear cells
 obtain ⟨b0, c0, c1, c2, -⟩ := HCs.out w10 HXO.out
 go_wp2_with fail
 clear b0 c0 c1 c2
 refine (HFa.out w10 HXO.out).mono ?_
 rintro e wx ⟨vx, rfl, hkx, hOx⟩
 obtain ⟨x1, x2, rfl⟩ := hOx.two
 have HXx := qH (And.intro (HXO.out.trans hkx) (And.intro hOx (And.intro HXO.out.size hkx.size)))
 obtain ⟨b0, c0, c1, c2, -⟩ := HCs.out wx HXx.out.1
 clear hkx hOx
 go_wp2_with fail
 clear b0 c0 c1 c2
 refine (HFa.out wx HXx.out.1).mono ?_
 rintro e wy ⟨vy, rfl, hky, hOy⟩
 obtain ⟨y1, y2, rfl⟩ := hOy.two
 have HXy := qH (And.intro hky (And.intro hOy hky.size))
 have hxy9 := HXx.out.1.trans hky
 obtain ⟨b0, c0, c1, c2, d0⟩ := HCs.out wy hxy9
 have HKp := qH (zJ p hs ls w7 gr rc pr ha2 ha hn hc2 hcap ba2 ba n bc2 bcap wy G HH.out.2.1 (HH.out.1.ext (H9.out.1.trans hxy9)) HH.out.2.2 HN.out (HE.out.ext (H9.out.1.trans hxy9)) HF.out ⟨⟨rst, H9.out.2.2.2.2.2.2.2.2.ext hxy9⟩, H9.out.2.2.2.2.2.2.2.1.2.1, H9.out.2.2.2.2.2.2.2.1.2.2.ext hxy9⟩ HRc.out.1 HRc.out.2 (H9.out.2.2.2.1.ext hxy9))
 have HY9 := qH hxy9
 clear hky hOy hxy9
 have hnn : ∀ X, (binOp .eql 73 (.pointer none) (.pointer none)).run Tryz.prog X = .ok (.bool true) X := fun X => by kernel_rfl
 have hns : ∀ (k : Nat) X, (binOp .eql 73 (.pointer (some ⟨k, 0, none⟩)) (.pointer none)).run Tryz.prog X = .ok (.bool false) X := fun k X => by kernel_rfl
 have h2 := HXx.out.2.1
 have h3 := HXy.out.2.1
 unfold FactsR at h2 h3
 rcases h2 with ⟨he, ex⟩ | ⟨he, rx, ivx, Sx, ex, hRx, hrx, hSx, hox⟩
 ·rcases h3 with ⟨_, ey⟩ | ⟨h0, _⟩
  rotate_left
  ·exact absurd h0 he
  cases ex; cases ey
  have HE2 := qH he
  clear he
  go_wp2_with fail
  clear b0 c0 c1 c2 d0
  refine HKp.out.mono ?_
  rintro e wk ⟨vk, rfl, hkk, rfl⟩
  have Xk := qH (H9.out.1.trans (HY9.out.trans hkk))
  have q1 := hnn wk
  clear hkk hnn hns
  go_wp2
  go_ret
  exact RetN.mk Xk.out rfl
 rcases h3 with ⟨h0, _⟩ | ⟨_, ry, ivy, Sy, ey, hRy, hry, hSy, hoy⟩
 ·exact absurd he h0
 cases ex; cases ey
 subst he
 have HRx := qH (And.intro hRx (And.intro hrx hox))
 have HRy := qH (And.intro hRy (And.intro hry (And.intro hSy hoy)))
 clear hRx hrx hSx hox hRy hry hSy hoy
 go_wp2_with fail
 clear b0 c0 c1 c2 d0
 refine HKp.out.mono ?_
 rintro e wk ⟨vk, rfl, hkk, rfl⟩
 have Xk := qH (And.intro (HY9.out.trans hkk) (And.intro hkk (HXy.out.1.trans hkk)))
 have q1 := hns rx wk
 have q2 := hns ry wk
 have HCp := qH (aD1 (z := False) (HRy.out.1.ext hkk).q)
 clear hkk hnn hns
 go_wp2_with fail
 clear q1 q2
 refine HCp.out.mono ?_
 rintro e wc ⟨vc, rfl, hkc, hRyc, rw, ivw, rfl, hrw, how, hRw⟩
 have hxc := hkc.fq
 have hRxc := HRx.out.1.ext (Xk.out.2.2.trans hxc)
 have HC := qH (show Ext w9 wc /\ Ext wx wc /\ RowsAt Sx wc rx ivx hs.length A /\ RowsAt Sy wc ry ivy hs.length A /\ RowsAt Sy wc rw ivw hs.length A /\ wk.heap.size ≤ rw /\ (∀ k, ivw.ownBlock = some k -> wk.heap.size ≤ k) from ⟨Xk.out.1.trans hxc, Xk.out.2.2.trans hxc, hRxc, hRyc, hRw, hrw, how⟩)
 have HLn := qH (rO hRxc)
 -- who owns what
 have ox : ∀ k, bN rx ivx k -> w9.heap.size ≤ k /\ k < wx.heap.size := fun k hk => by
  have h1 := (HRx.out.1.q (z := False)).ownLt k hk
  have s10 := HXx.out.2.2.1
  rcases hk with rfl | hk
  ·exact ⟨Nat.le_trans s10 HRx.out.2.1, h1⟩
  ·exact ⟨Nat.le_trans s10 (HRx.out.2.2 k hk), h1⟩
 have oy : ∀ k, bN ry ivy k -> wx.heap.size ≤ k /\ k < wy.heap.size := fun k hk => by
  have h1 := (HRy.out.1.q (z := False)).ownLt k hk
  rcases hk with rfl | hk
  ·exact ⟨HRy.out.2.1, h1⟩
  ·exact ⟨HRy.out.2.2.2 k hk, h1⟩
 have ow : ∀ k, bN rw ivw k -> wy.heap.size ≤ k := fun k hk => by
  have s1 := Xk.out.2.1.size
  rcases hk with rfl | hk
  ·omega
  ·have := how k hk; omega
 have sxy := HXy.out.2.2
 have HO := qH (show (∀ k, bN rx ivx k -> w9.heap.size ≤ k) /\ (∀ k, bN rx ivx k -> ¬ bN ry ivy k /\ ¬ bN rw ivw k /\ ¬ Sy k) /\ (∀ k, bN ry ivy k -> ¬ bN rw ivw k) from
  ⟨fun k hk => (ox k hk).1, fun k hk => ⟨fun h => by have := (ox k hk).2; have := (oy k h).1; omega, fun h => by have := (ox k hk).2; have := ow k h; omega, fun h => by have := (ox k hk).2; have := HRy.out.2.2.1 k h; omega⟩, fun k hk h => by have := (oy k hk).2; have := ow k h; omega⟩)
 obtain ⟨na, ena⟩ : ∃ x, A.length = x := ⟨_, rfl⟩
 rw [ena] at HLn
 have HNa := qH ena
 clear hkc hRyc hRw hrw how hxc hRxc ox oy ow sxy ena
 go_wp2_with fail
 refine HLn.out.mono ?_
 rintro e wl ⟨rfl, rfl⟩
 rename_i K2 hK2 K1 hK1 K0 hK0
 have HKK := qH hK2
 clear hK2
 by_cases hn0 : na = 0
 ·subst hn0
  go_wp2_with fail
  refine HKK.out _ _ ?_
  show Code.wp _ aEa _ _ _
  exact aF4 (H9.out.1.trans HC.out.1) (H9.out.2.1.ext HC.out.1) HH.out.2.2 HC.out.2.2.1.q HAf.out.2 HAf.out.1 HC.out.2.2.2.1 HC.out.2.2.2.2.1 (fun k hk => Nat.le_trans H9.out.1.size (HO.out.1 k hk)) HO.out.2.1 HO.out.2.2 rfl rfl rfl rfl rfl
 ·have hpos : (0 : Int) < (na : Int) := by omega
  have HAl := qH (qN (z := False) HC.out.2.2.1.q)
  have HN0 := qH hn0
  clear hn0
  go_wp2_with fail
  refine HAl.out.mono ?_
  rintro e wa ⟨va, rfl, hka, hRxa, hOA⟩
  have hxa := hka.fq
  obtain ⟨aa, ac, rfl, ps, hps, hca, hba, hprs⟩ := hOA.shape
  rw [HNa.out]
  obtain ⟨⟨⟨fa, fn, fc⟩, ss⟩, hp0⟩ : ∃ q, ps[0]? = some q := by
   have hl : 0 < ps.length := by
    have h1 := congrArg List.length hps
    rw [List.length_map] at h1
    have := HN0.out; have := HNa.out; omega
   exact ⟨_, qG hl⟩
  obtain ⟨ab, ao, eaa, c0⟩ := hca 0 _ (nS ps 0 _ hp0)
  subst eaa
  replace c0 : wa.cell? ⟨ab, ao, none⟩ = some (.slice fa fn fc) := c0
  obtain ⟨hr1, hr2, hr3⟩ := hprs _ (List.mem_of_getElem? hp0)
  have hlt0 := (HC.out.2.2.1.q (z := False)).ownLt
  have hDr := aD0 (z := False) hRxa.q HAf.out.2 (ao := fa) (n := fn) (cap := fc) (ss := ss) ⟨hr1, hr2, fun a e _ => (hr3 a e).2⟩ (fun a e _ ho => by
   have h1 := (hr3 a e).1
   have h2 := hlt0 _ ho
   omega)
  have HDr := qH hDr
  have HYa := qH (show RowsAt Sy wa ry ivy hs.length A /\ RowsAt Sy wa rw ivw hs.length A /\ Ext w9 wa from ⟨HC.out.2.2.2.1.ext hxa, HC.out.2.2.2.2.1.ext hxa, HC.out.1.trans hxa⟩)
  clear hDr hlt0 hr1 hr2 hr3 hp0 hps hba hprs hOA hRxa hka hxa hca
  go_wp2_with fail
  clear c0
  refine HDr.out.mono ?_
  rintro e wd ⟨vd, rfl, hkd, hvd, ivx2, hQ, hown⟩
  subst hvd
  have hO2 : ∀ k, bN rx ivx2 k -> bN rx ivx k := fun k hk => by
   rcases hk with h | h
   ·exact .inl h
   ·exact .inr (hown ▸ h)
  have hYd : RowsAt Sy wd ry ivy hs.length A := HYa.out.1.move hkd (fun k hk ho => (HO.out.2.1 k hk).1 ho) (fun k hk hs => (HO.out.2.1 k hk).2.2 hs) (fun _ h => h) (fun k hs => Nat.lt_of_lt_of_le (HYa.out.1.inS k hs) hkd.size) HYa.out.1.notS
  have hWd : RowsAt Sy wd rw ivw hs.length A := HYa.out.2.1.move hkd (fun k hk ho => (HO.out.2.1 k hk).2.1 ho) (fun k hk hs => (HO.out.2.1 k hk).2.2 hs) (fun _ h => h) (fun k hs => Nat.lt_of_lt_of_le (HYa.out.2.1.inS k hs) hkd.size) HYa.out.2.1.notS
  have hxd : Ext w wd := (H9.out.1.trans HYa.out.2.2).trans' hkd fun i hi ho => by have := HO.out.1 _ ho; have := H9.out.1.size; omega
  have hbd : Blk wd g0 [.string p, .slice ha hn hcap, .slice ba n bcap] 43 := ((H9.out.2.1.ext HYa.out.2.2).kp hkd fun ho => by
   have h1 := HO.out.1 _ ho
   have h2 := H9.out.2.1.lt
   omega)
  have HD := qH (And.intro hxd (And.intro hbd (And.intro hQ (And.intro hYd (And.intro hWd hO2)))))
  clear hkd hQ hown hO2 hYd hWd hxd hbd
  go_wp2_with fail
  refine HKK.out _ _ ?_
  show Code.wp _ aEa _ _ _
  exact aF4 HD.out.1 HD.out.2.1 HH.out.2.2 HD.out.2.2.1 (zP HAf.out.2) (Nat.le_trans (aHq _ _ _) HAf.out.1) HD.out.2.2.2.1 HD.out.2.2.2.2.1 (fun k hk => Nat.le_trans H9.out.1.size (HO.out.1 k (HD.out.2.2.2.2.2 k hk))) (fun k hk => HO.out.2.1 k (HD.out.2.2.2.2.2 k hk)) HO.out.2.2 rfl rfl rfl rfl rfl
end
section
open Go.ChangeShapes Go.WideShapes Go.ChangeAt Go.RowKit
noncomputable def shT : Shp Tryz.prog ByteArray := aAq 9 Tryz.underlying9 (by kernel_rfl)
noncomputable def aAp : Shp Tryz.prog (List ByteArray) := pD 66 shT Tryz.underlying66 (by kernel_rfl) (by decide)
noncomputable def shTss : Shp Tryz.prog (List (List ByteArray)) := pD 51 aAp Tryz.underlying51 (by kernel_rfl) (by decide)
noncomputable def oD : Shp Tryz.prog lL := mC 111 (fL shT (fL (aFz 3 .i64 Tryz.underlying3 (by kernel_rfl)) (fL shTss aCh))) (fs := _) Tryz.underlying111 ⟨_, _, rfl, rfl, rfl, _, _, rfl, rfl, rfl, _, _, rfl, rfl, rfl, rfl⟩ (by kernel_rfl)
theorem aBm {α β : Type} {P : Nat -> α -> β -> Prop} : ∀ (L : List α), (∀ i x, L[i]? = some x -> ∃ y, P i x y) -> ∃ ys : List β, ys.length = L.length /\ ∀ (i : Nat) (x : α) (y : β), L[i]? = some x -> ys[i]? = some y -> P i x y := by
 intro L
 induction L generalizing P with
 | nil => exact fun _ => ⟨[], rfl, fun i x y h => by simp at h⟩
 | cons a L ih =>
  intro h
  obtain ⟨y0, h0⟩ := h 0 a rfl
  obtain ⟨ys, h1, h2⟩ := ih (P := fun i x y => P (i + 1) x y) fun i x hx => h (i + 1) x (by simpa using hx)
  refine ⟨y0 :: ys, by simp [h1], fun i x y hx hy => ?_⟩
  cases i with
  | zero => simp at hx hy; subst hx; subst hy; exact h0
  | succ i => exact h2 i x y (by simpa using hx) (by simpa using hy)
theorem aE4 {w : World} {G : Nat -> Prop} {ao : Option Addr} {LL : List (List ByteArray)} (h : ElemsAt aAp w G ao LL) (hl : ∀ ss ∈ LL, ss.length ≤ 8796093021952) : RowsIn (fun _ => True) w ao LL := by
 have h1 : ∀ (i : Nat) (ss : List ByteArray), LL[i]? = some ss -> ∃ p : Option Addr × Nat × Nat, ∃ b off, ao = some ⟨b, off, none⟩ /\ w.cell? ⟨b, off + i, none⟩ = some (.slice p.1 p.2.1 p.2.2) /\ p.2.1 = ss.length /\ CellsAt w p.1 (strs ss) := fun i ss hi => by
  obtain ⟨b, off, es, e, _, _, ⟨a1, c1, ee, hl, _, hc⟩, hcell⟩ := h i ss hi
  refine ⟨(a1, ss.length, c1), b, off, e, ?_, rfl, aE3 (hu := Tryz.underlying9) (hc := by kernel_rfl) hc⟩
  have := hcell 0 (.slice a1 ss.length c1) (by rw [ee]; rfl)
  rw [show aAp.n = 1 from rfl, Nat.mul_one, Nat.add_zero] at this
  exact this
 obtain ⟨qs, hq, hP⟩ := aBm LL h1
 have hz : ∀ p ∈ qs.zip LL, ReadsAs w p.1 p.2 /\ p.2.length ≤ 8796093021952 /\ ∀ a, p.1.1 = some a -> True := fun p hp => by
  obtain ⟨i, hi, e⟩ := List.getElem_of_mem hp
  have h2 : (qs.zip LL)[i]? = some p := by rw [qG hi, e]
  obtain ⟨h3, h4⟩ := List.getElem?_zip_eq_some.1 h2
  obtain ⟨b, off, _, _, h5, h6⟩ := hP i _ _ h4 h3
  exact ⟨⟨h5, h6⟩, hl _ (List.mem_of_getElem? h4), fun _ _ => trivial⟩
 refine ⟨qs.zip LL, ?_, fun i u hu => ?_, fun _ _ => trivial, hz⟩
 ·rw [List.map_snd_zip (by omega)]
 ·cases hp : (qs.zip LL)[i]? with
  | none => rw [show (eG (qs.zip LL))[i]? = ((qs.zip LL)[i]?).map _ from List.getElem?_map .., hp] at hu; cases hu
  | some p =>
   rw [nS _ _ _ hp] at hu
   cases hu
   obtain ⟨h3, h4⟩ := List.getElem?_zip_eq_some.1 hp
   obtain ⟨b, off, e, hc, _⟩ := hP i _ _ h4 h3
   exact ⟨b, off, e, hc⟩
theorem aE5 {w : World} {G : Nat -> Prop} {ao : Option Addr} {L : List lL} (h : ElemsAt oD w G ao L) (hl : ∀ q ∈ L, ∀ ss ∈ q.2.2.1, ss.length ≤ 8796093021952) : RelsIn (fun _ => True) w ao L := fun i q hq => by
 obtain ⟨b, off, es, e, _, _, hat, hcell⟩ := h i q hq
 obtain ⟨x1, y1, e1, ⟨ex1, _⟩, x2, y2, e2, ⟨ex2, _⟩, x3, y3, e3, ⟨ra, rcap, ex3, r1, r2, r3⟩, e4⟩ := hat
 have e4' : y3 = [] := e4
 have ee : es = [.string q.1, .int .i64 q.2.1, .slice ra q.2.2.1.length rcap] := by
  rw [e1, ex1, e2, ex2, e3, ex3, e4']; rfl
 have hc : ∀ c u, es[c]? = some u -> w.cell? ⟨b, off + i * 3 + c, none⟩ = some u := fun c u hu => by
  have := hcell c u hu
  rw [show oD.n = 3 from rfl, <- Nat.add_assoc] at this
  exact this
 exact ⟨b, off, ra, rcap, e, trivial, hc 0 _ (by rw [ee]; rfl), hc 1 _ (by rw [ee]; rfl), hc 2 _ (by rw [ee]; rfl), r1, r2, aE4 r3 (hl q (List.mem_of_getElem? hq))⟩
theorem aIx {L : List lL} {N : Nat} (h : dA oD.bulk L ≤ N) : L.length ≤ N /\ ∀ q ∈ L, q.2.2.1.length ≤ N /\ ∀ ss ∈ q.2.2.1, ss.length ≤ N := by
 refine ⟨Nat.le_trans (fD oD.bulk (fun x => by show 1 ≤ _ + 1; omega) L) h, fun q hq => ?_⟩
 have h1 : oD.bulk q ≤ N := Nat.le_trans (gA oD.bulk hq) h
 have h2 : shT.bulk q.1 + (1 + ((dA aAp.bulk q.2.2.1 + 1) + 0)) + 1 ≤ N := h1
 have h3 := fD aAp.bulk (fun x => by show 1 ≤ _ + 1; omega) q.2.2.1
 refine ⟨by omega, fun ss hs => ?_⟩
 have h4 : aAp.bulk ss ≤ _ := gA aAp.bulk hs
 have h5 : dA shT.bulk ss + 1 ≤ dA aAp.bulk q.2.2.1 := h4
 have h6 := fD shT.bulk (fun x => by show 1 ≤ _ + 1; omega) ss
 omega
end
end Go.Proofs.YtikgpedgmnbcaaaGreatDoor
