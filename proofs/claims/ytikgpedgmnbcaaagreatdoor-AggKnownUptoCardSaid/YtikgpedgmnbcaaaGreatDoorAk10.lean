/- Texts joined for a claim (AggGiv, RowDrop, BaseDrop, AggGreat, AggKnown). -/
import Derived.Test.YtikgpedgmnbcaaaGreatDoorAk9
set_option linter.unusedVariables false
set_option linter.unusedSimpArgs false
set_option maxRecDepth 100000
namespace Go.Proofs.YtikgpedgmnbcaaaGreatDoor
section
open Go.RowKit Go.Shelf
attribute [local go_sem] Oper.semAt_some
def uG : List nG := [(⟨#[101]⟩, 2, [[(⟨#[97]⟩ : ByteArray), (⟨#[49]⟩ : ByteArray)], [(⟨#[97]⟩ : ByteArray), (⟨#[49, 48]⟩ : ByteArray)], [(⟨#[97]⟩ : ByteArray), (⟨#[57]⟩ : ByteArray)], [(⟨#[98]⟩ : ByteArray), (⟨#[57]⟩ : ByteArray)], [(⟨#[98]⟩ : ByteArray), (⟨#[]⟩ : ByteArray)]], ())]
def fE : List bJ := [(⟨#[101]⟩, 2, [[(⟨#[97]⟩ : ByteArray), (⟨#[49]⟩ : ByteArray)], [(⟨#[97]⟩ : ByteArray), (⟨#[49, 48]⟩ : ByteArray)], [(⟨#[97]⟩ : ByteArray), (⟨#[57]⟩ : ByteArray)], [(⟨#[98]⟩ : ByteArray), (⟨#[]⟩ : ByteArray)], [(⟨#[98]⟩ : ByteArray), (⟨#[57]⟩ : ByteArray)]])]
theorem uF : gT [] uG = (fE, 0) := by kernel_rfl
set_option maxHeartbeats 4000000 in
theorem rC (w : World) : Calls Tryz.prog 23 #[] w (RetN w fun w' v => ∃ bb E S, v = .pointer (some ⟨bb, 0, none⟩) /\ BaseV S w' v E /\ aT E = fE) := by
 obtain ⟨w1, e1⟩ : ∃ x, w.alloc (.cells #[.string ⟨#[97]⟩, .string ⟨#[49]⟩] 9) = x := ⟨_, rfl⟩
 have B1 := qH (show Blk w1 w.heap.size [.string ⟨#[97]⟩, .string ⟨#[49]⟩] 9 from by rw [<- e1]; exact Blk.new w _ _)
 have Y1 := qH (show Ext w w1 from by rw [<- e1]; exact (Kp.refl w).alloc _)
 obtain ⟨w2, e2⟩ : ∃ x, w1.alloc (.cells #[.string ⟨#[97]⟩, .string ⟨#[49, 48]⟩] 9) = x := ⟨_, rfl⟩
 have B2 := qH (show Blk w2 w1.heap.size [.string ⟨#[97]⟩, .string ⟨#[49, 48]⟩] 9 from by rw [<- e2]; exact Blk.new w1 _ _)
 have Y2 := qH (show Ext w1 w2 from by rw [<- e2]; exact (Kp.refl w1).alloc _)
 obtain ⟨w3, e3⟩ : ∃ x, w2.alloc (.cells #[.string ⟨#[97]⟩, .string ⟨#[57]⟩] 9) = x := ⟨_, rfl⟩
 have B3 := qH (show Blk w3 w2.heap.size [.string ⟨#[97]⟩, .string ⟨#[57]⟩] 9 from by rw [<- e3]; exact Blk.new w2 _ _)
 have Y3 := qH (show Ext w2 w3 from by rw [<- e3]; exact (Kp.refl w2).alloc _)
 obtain ⟨w4, e4⟩ : ∃ x, w3.alloc (.cells #[.string ⟨#[98]⟩, .string ⟨#[57]⟩] 9) = x := ⟨_, rfl⟩
 have B4 := qH (show Blk w4 w3.heap.size [.string ⟨#[98]⟩, .string ⟨#[57]⟩] 9 from by rw [<- e4]; exact Blk.new w3 _ _)
 have Y4 := qH (show Ext w3 w4 from by rw [<- e4]; exact (Kp.refl w3).alloc _)
 obtain ⟨w5, e5⟩ : ∃ x, w4.alloc (.cells #[.string ⟨#[98]⟩, .string ⟨#[]⟩] 9) = x := ⟨_, rfl⟩
 have B5 := qH (show Blk w5 w4.heap.size [.string ⟨#[98]⟩, .string ⟨#[]⟩] 9 from by rw [<- e5]; exact Blk.new w4 _ _)
 have Y5 := qH (show Ext w4 w5 from by rw [<- e5]; exact (Kp.refl w4).alloc _)
 obtain ⟨w6, e6⟩ : ∃ x, w5.alloc (.cells #[.slice (some ⟨w.heap.size, 0, none⟩) 2 2, .slice (some ⟨w1.heap.size, 0, none⟩) 2 2, .slice (some ⟨w2.heap.size, 0, none⟩) 2 2, .slice (some ⟨w3.heap.size, 0, none⟩) 2 2, .slice (some ⟨w4.heap.size, 0, none⟩) 2 2] 66) = x := ⟨_, rfl⟩
 have B6 := qH (show Blk w6 w5.heap.size [.slice (some ⟨w.heap.size, 0, none⟩) 2 2, .slice (some ⟨w1.heap.size, 0, none⟩) 2 2, .slice (some ⟨w2.heap.size, 0, none⟩) 2 2, .slice (some ⟨w3.heap.size, 0, none⟩) 2 2, .slice (some ⟨w4.heap.size, 0, none⟩) 2 2] 66 from by rw [<- e6]; exact Blk.new w5 _ _)
 have Y6 := qH (show Ext w5 w6 from by rw [<- e6]; exact (Kp.refl w5).alloc _)
 obtain ⟨w7, e7⟩ : ∃ x, w6.alloc (.cells #[.string ⟨#[101]⟩, .int .i64 2, .slice (some ⟨w5.heap.size, 0, none⟩) 5 5] 111) = x := ⟨_, rfl⟩
 have B7 := qH (show Blk w7 w6.heap.size [.string ⟨#[101]⟩, .int .i64 2, .slice (some ⟨w5.heap.size, 0, none⟩) 5 5] 111 from by rw [<- e7]; exact Blk.new w6 _ _)
 have Y7 := qH (show Ext w6 w7 from by rw [<- e7]; exact (Kp.refl w6).alloc _)
 have HE := qH (dU (w := w6) (g := w5.heap.size) (l := [(w.heap.size, [(⟨#[97]⟩ : ByteArray), (⟨#[49]⟩ : ByteArray)]), (w1.heap.size, [(⟨#[97]⟩ : ByteArray), (⟨#[49, 48]⟩ : ByteArray)]), (w2.heap.size, [(⟨#[97]⟩ : ByteArray), (⟨#[57]⟩ : ByteArray)]), (w3.heap.size, [(⟨#[98]⟩ : ByteArray), (⟨#[57]⟩ : ByteArray)]), (w4.heap.size, [(⟨#[98]⟩ : ByteArray), (⟨#[]⟩ : ByteArray)])]) (LL := [[(⟨#[97]⟩ : ByteArray), (⟨#[49]⟩ : ByteArray)], [(⟨#[97]⟩ : ByteArray), (⟨#[49, 48]⟩ : ByteArray)], [(⟨#[97]⟩ : ByteArray), (⟨#[57]⟩ : ByteArray)], [(⟨#[98]⟩ : ByteArray), (⟨#[57]⟩ : ByteArray)], [(⟨#[98]⟩ : ByteArray), (⟨#[]⟩ : ByteArray)]]) rfl B6.out (fun x hx => by
  simp only [List.mem_cons, List.not_mem_nil, or_false] at hx
  rcases hx with rfl | rfl | rfl | rfl | rfl
  ·exact ⟨B1.out.ext (Y2.out.trans (Y3.out.trans (Y4.out.trans (Y5.out.trans (Y6.out))))), by simp⟩
  ·exact ⟨B2.out.ext (Y3.out.trans (Y4.out.trans (Y5.out.trans (Y6.out)))), by simp⟩
  ·exact ⟨B3.out.ext (Y4.out.trans (Y5.out.trans (Y6.out))), by simp⟩
  ·exact ⟨B4.out.ext (Y5.out.trans (Y6.out)), by simp⟩
  ·exact ⟨B5.out.ext (Y6.out), by simp⟩))
 have X := qH (show Ext w w7 from Y1.out.trans (Y2.out.trans (Y3.out.trans (Y4.out.trans (Y5.out.trans (Y6.out.trans (Y7.out)))))))
 have XE := qH Y7.out
 have BR := qH B7.out
 clear B1 Y1 B2 Y2 B3 Y3 B4 Y4 B5 Y5 B6 Y6 B7 Y7
 have hL : aJk TT w7 (some ⟨w6.heap.size, 0, none⟩) uG := fun i q hq => by
  match i, hq with
  | 0, hq => cases hq; exact ⟨w6.heap.size, 0, some ⟨w5.heap.size, 0, none⟩, 5, rfl, trivial, by rw [BR.out.cell']; rfl, by rw [BR.out.cell']; rfl, by rw [BR.out.cell']; rfl, by decide, by decide, HE.out.ext XE.out⟩
  | n + 1, hq => cases hq
 have HFr := qH (aBn uG (some ⟨w6.heap.size, 0, none⟩) 1 1 w7 TT rfl hL (by decide) (by decide))
 clear hL
 go_enter Tryz.func23, Tryz.ntmps23
 go_wp2_with fail
 refine HFr.out.mono ?_
 rintro e w11 ⟨v, rfl, hk11, hv⟩
 obtain ⟨bb, r, S, E, rfl, hb, hC, -, -⟩ := hv.1 (by rw [uF])
 have H11 := qH (show Ext w w11 /\ BaseAt S w11 bb r E /\ aT E = fE from ⟨X.out.trans hk11, hb, by rw [hC, uF]⟩)
 clear hv hb hC hk11
 go_wp2
 go_ret
 exact RetN.mk H11.out.1 ⟨bb, E, S, rfl, .full bb r E H11.out.2.1, H11.out.2.2⟩
def qK : List aE := [((1 : Int), (⟨#[88]⟩ : ByteArray), ()), ((4 : Int), (⟨#[]⟩ : ByteArray), ())]
def aJb : List aE := [((1 : Int), (⟨#[88]⟩ : ByteArray), ()), ((1 : Int), (⟨#[89]⟩ : ByteArray), ())]
def oE : List aO := [((1 : Int), ((⟨#[101]⟩ : ByteArray), aJb, ()), (0 : Int), ((0 : Int), (⟨#[]⟩ : ByteArray), ()), ((0 : Int), (⟨#[]⟩ : ByteArray), ()), ())]
def aCe : aC := [[(⟨#[97]⟩ : ByteArray), (⟨#[51]⟩ : ByteArray)], [(⟨#[98]⟩ : ByteArray), (⟨#[50]⟩ : ByteArray)]]
theorem aKf : okR ((⟨#[116]⟩, qK, ()), oE, ()) fE = true := by kernel_rfl
theorem aKg : cG ((⟨#[116]⟩, qK, ()), oE, ()) false (bY ((⟨#[116]⟩, qK, ()), oE, ()) fE) = (0, aCe) := by kernel_rfl
theorem aEi (bb : Nat) (w : World) : (binOp .neq 45 (.pointer (some ⟨bb, 0, none⟩)) (.pointer none)).run Tryz.prog w = .ok (.bool true) w := by kernel_rfl
set_option maxHeartbeats 4000000 in
theorem aCd (w : World) (hN : NumW w) : Calls Tryz.prog 15 #[] w (RetN w fun w' v => v = .bool true) := by
 have HN := qH hN
 clear hN
 go_enter Tryz.func15, Tryz.ntmps15
 go_wp2_with fail
 refine (rC w).mono ?_
 rintro e w1 ⟨v1, rfl, hk1, bb, E, SS, rfl, hBv, hCv⟩
 have X1 := qH (And.intro hk1 (And.intro hBv hCv))
 clear hk1 hBv hCv
 have hnb := aEi bb w1
 go_wp2_with fail
 refine (dG ⟨#[88]⟩ w1).mono ?_
 rintro e w2 ⟨v2, rfl, hk2, rfl⟩
 have X2 := qH hk2
 clear hk2 hnb
 obtain ⟨w3, ew3⟩ : ∃ x, w2.alloc (.cells #[.int .i64 1, .string ⟨#[88]⟩, .int .i64 4, .string ⟨#[]⟩] 58) = x := ⟨_, rfl⟩
 have X3 := qH (show Ext w2 w3 from by rw [<- ew3]; exact (Kp.refl w2).alloc _)
 have T3 := qH (show aQ w3 TT (some ⟨w2.heap.size, 0, none⟩) qK from by rw [<- ew3]; exact cC w2 qK (by kernel_rfl))
 go_wp2_with fail
 clear ew3
 refine (dG ⟨#[88]⟩ w3).mono ?_
 rintro e w4 ⟨v4, rfl, hk4, rfl⟩
 have X4 := qH hk4
 clear hk4
 go_wp2_with fail
 refine (dG ⟨#[89]⟩ w4).mono ?_
 rintro e w5 ⟨v5, rfl, hk5, rfl⟩
 have X5 := qH hk5
 clear hk5
 obtain ⟨w6, ew6⟩ : ∃ x, w5.alloc (.cells #[.int .i64 1, .string ⟨#[88]⟩, .int .i64 1, .string ⟨#[89]⟩] 58) = x := ⟨_, rfl⟩
 have X6 := qH (show Ext w5 w6 from by rw [<- ew6]; exact (Kp.refl w5).alloc _)
 have T6 := qH (show aQ w6 TT (some ⟨w5.heap.size, 0, none⟩) aJb from by rw [<- ew6]; exact cC w5 aJb (by kernel_rfl))
 go_wp2_with fail
 clear ew6
 refine (iC ⟨#[101]⟩ (some ⟨w5.heap.size, 0, none⟩) 2 2 w6).mono ?_
 rintro e w7 ⟨v7, rfl, hk7, rfl⟩
 have X7 := qH hk7
 clear hk7
 obtain ⟨w8, ew8⟩ : ∃ x, w7.alloc (.cells #[.int .i64 1, .string ⟨#[101]⟩, .slice (some ⟨w5.heap.size, 0, none⟩) 2 2, .int .i64 0, .int .i64 0, .string ⟨#[]⟩, .int .i64 0, .string ⟨#[]⟩] 60) = x := ⟨_, rfl⟩
 have X8 := qH (show Ext w7 w8 from by rw [<- ew8]; exact (Kp.refl w7).alloc _)
 have L8 := qH (show bQ w8 TT (some ⟨w7.heap.size, 0, none⟩) oE from by
  rw [<- ew8]
  refine gH w7 oE [(some ⟨w5.heap.size, 0, none⟩, 2)] rfl (by kernel_rfl) fun x hx => ?_
  unfold oE at hx
  simp only [List.zip_cons_cons, List.zip_nil_right, List.mem_cons, List.not_mem_nil, or_false] at hx
  rcases hx with rfl
  exact ⟨T6.out.ext X7.out, Nat.le_refl _, (by decide : 2 ≤ maxLen)⟩)
 go_wp2_with fail
 clear ew8
 refine (cV (some ⟨w2.heap.size, 0, none⟩) (some ⟨w7.heap.size, 0, none⟩) 2 2 1 1 w8).mono ?_
 rintro e w9 ⟨v9, rfl, hk9, rfl⟩
 have X9 := qH hk9
 clear hk9
 obtain ⟨w10, e10⟩ : ∃ x, w9.alloc (.cells #[.string ⟨#[97]⟩, .string ⟨#[51]⟩] 9) = x := ⟨_, rfl⟩
 obtain ⟨w11, e11⟩ : ∃ x, w10.alloc (.cells #[.string ⟨#[98]⟩, .string ⟨#[50]⟩] 9) = x := ⟨_, rfl⟩
 obtain ⟨w12, e12⟩ : ∃ x, w11.alloc (.cells #[.slice (some ⟨w9.heap.size, 0, none⟩) 2 2, .slice (some ⟨w10.heap.size, 0, none⟩) 2 2] 66) = x := ⟨_, rfl⟩
 have x10 : Ext w9 w10 := by rw [<- e10]; exact (Kp.refl w9).alloc _
 have x11 : Ext w10 w11 := by rw [<- e11]; exact (Kp.refl w10).alloc _
 have x12 : Ext w11 w12 := by rw [<- e12]; exact (Kp.refl w11).alloc _
 have b10 : Blk w10 w9.heap.size [.string ⟨#[97]⟩, .string ⟨#[51]⟩] 9 := by rw [<- e10]; exact Blk.new w9 _ _
 have b11 : Blk w11 w10.heap.size [.string ⟨#[98]⟩, .string ⟨#[50]⟩] 9 := by rw [<- e11]; exact Blk.new w10 _ _
 have b12 : Blk w12 w11.heap.size [.slice (some ⟨w9.heap.size, 0, none⟩) 2 2, .slice (some ⟨w10.heap.size, 0, none⟩) 2 2] 66 := by rw [<- e12]; exact Blk.new w11 _ _
 have HW := qH (show RowsIn TT w12 (some ⟨w11.heap.size, 0, none⟩) aCe from dU (l := [(w9.heap.size, [(⟨#[97]⟩ : ByteArray), (⟨#[51]⟩ : ByteArray)]), (w10.heap.size, [(⟨#[98]⟩ : ByteArray), (⟨#[50]⟩ : ByteArray)])]) rfl b12 (fun x hx => by
  simp only [List.mem_cons, List.not_mem_nil, or_false] at hx
  rcases hx with rfl | rfl
  ·exact ⟨b10.ext (x11.trans x12), by simp⟩
  ·exact ⟨b11.ext x12, by simp⟩))
 have X12 := qH (x10.trans (x11.trans x12))
 clear x10 x11 x12 b10 b11 b12
 go_wp2_with fail
 clear e10 e11 e12
 have H9 := qH (show Ext w w12 /\ Ext w1 w12 /\ Ext w3 w12 /\ Ext w8 w12 from
  have a := X9.out.trans X12.out
  have b := X4.out.trans (X5.out.trans (X6.out.trans (X7.out.trans (X8.out.trans a))))
  have c := X2.out.trans (X3.out.trans b)
  ⟨X1.out.1.trans c, c, b, a⟩)
 refine (aKx (p := ⟨#[116]⟩) (hs := qK) (ls := oE) (hn := 2) (hcap := 2) (n := 1) (bcap := 1) (G := TT) (wc := 2) (B := aCe) rfl (T3.out.ext H9.out.2.2.1) (by decide) rfl (L8.out.ext H9.out.2.2.2) (aD2 (by kernel_rfl)) (aD3 (by kernel_rfl)) (by decide) (X1.out.2.1.ext H9.out.2.1) X1.out.2.2 (fun _ => aKf) (HN.out.ext H9.out.1) aKg (by decide) rfl HW.out).mono ?_
 rintro e w13 ⟨v13, rfl, hk13, rfl⟩
 have X13 := qH (H9.out.1.trans hk13)
 clear hk13
 rw [show decide (0 = 0 /\ aCe = aCe) = true from decide_eq_true ⟨rfl, rfl⟩]
 go_wp2
 go_ret
 exact RetN.mk X13.out rfl
end
section
open Go.RowKit Go.Shelf
section
variable {z : Prop} {S S' : Nat -> Prop} {w w' : World} {b : Nat} {iv : Value} {arity : Nat} {LL : List (List ByteArray)}
theorem RowsAt.openS (h : RowsAt S w b iv arity LL) (hst : Strict aD LL) {x : fQ} {ss : List ByteArray} (hx : RowIn w x ss) (ho : fP x (cS b iv)) :
 ∃ con zs, (∀ x ss, ReadsAs w x ss -> con x = ss) /\ SetAtRow Tryz.prog (gQ S x) w b (.func (Fn.func 120) #[] #[]) iv [.int .i64 arity] 138 (rV (gQ S x) w) (fun x y => aD (con x) (con y)) zs /\ zs.map con = LL /\
  rV (gQ S x) w x /\ con x = ss /\ Strict (fun x y => aD (con x) (con y)) zs /\ bA (fun x y => aD (con x) (con y)) zs x = bA aD LL ss /\ ∀ z ∈ zs, rV S w z := by
 obtain ⟨con, zs, hc, hs, hl⟩ := h
 have ex := hc x ss hx.1
 refine ⟨con, zs, hc, ⟨hs.blk, hs.row, hs.apart, fun k hk => ?_, fun k hk hs' => ?_, iM hc, fun z hz => ?_, hs.len⟩, hl, ⟨ss, hx.1, hx.2.1, fun a e hne => .inr ⟨a, e, hne, rfl⟩⟩, ex, ?_, ?_, hs.all⟩
 ·rcases hk with hk | ⟨a, e, hne, rfl⟩
  ·exact hs.inS k hk
  ·exact hx.2.2 a e hne
 ·rcases hs' with hs' | ⟨a, e, hne, rfl⟩
  ·exact hs.notS k hk hs'
  ·exact ho a e hne hk
 ·obtain ⟨sz, h1, h2, h3⟩ := hs.all z hz
  exact ⟨sz, h1, h2, fun a e hne => .inl (h3 a e hne)⟩
 ·rw [<- hl] at hst
  exact List.pairwise_map.1 hst
 ·rw [<- hl, <- ex]; simp [bA, List.any_map, Function.comp_def]
theorem RowsAt.of_set' {S' : Nat -> Prop} {w1 w2 : World} {con : fQ -> List ByteArray} {zs : List fQ} {D : fQ -> Prop} (hc : ∀ x ss, ReadsAs w1 x ss -> con x = ss) (hsame : Same S w1 w2) (hSS : ∀ k, S k -> S' k)
 (h : SetAtRow Tryz.prog S' w2 b (.func (Fn.func 120) #[] #[]) iv [.int .i64 arity] 138 D (fun x y => aD (con x) (con y)) zs) (hall : ∀ z ∈ zs, rV S w1 z) : RowsAt S w2 b iv arity (zs.map con) := by
 obtain ⟨con', hc'⟩ := uS w2
 have all : ∀ z ∈ zs, rV S w2 z /\ con' z = con z := fun z hz => by
  obtain ⟨ss, h1, h2, h3⟩ := hall z hz
  have h1' := h1.same hsame h3
  exact ⟨⟨ss, h1', h2, h3⟩, by rw [hc' z ss h1', hc z ss h1]⟩
 exact ⟨con', zs, hc', ⟨h.blk, h.row, h.apart, fun k hk => h.inS k (hSS k hk), fun k ho hk => h.notS k ho (hSS k hk), iM hc', fun z hz => (all z hz).1, h.len⟩, List.map_congr_left fun z hz => (all z hz).2⟩
theorem aC2 (h : RowsQ z S w b iv arity LL) (hst : Strict aD LL) {ao : Option Addr} {n cap : Nat} {ss : List ByteArray} (hx : RowIn w (ao, n, cap) ss) (ho : fP (ao, n, cap) (cS b iv)) :
 Calls Tryz.prog 37 #[.pointer (some ⟨b, 0, none⟩), .slice ao n cap] w (RetF (cS b iv) w fun w' v => v = .tuple #[.bool (cP arity LL ss).1, .int .i64 ((cP arity LL ss).2 : Nat)] /\
  ∃ iv', RowsQ z S w' b iv' arity (bF arity LL ss) /\ iv'.ownBlock = iv.ownBlock) := by
 have hn : n = ss.length := hx.1.1
 have c2 := h.ar
 by_cases h1 : n = arity
 ·have q1 : ((n : Int) != (arity : Int)) = false := by simp [h1]
  have HS := qH (mX h); clear h
  have HX := qH (And.intro hst (And.intro hx ho)); clear hst hx ho
  have HN := qH (show ss.length = arity by omega)
  clear hn h1
  go_enter Tryz.func37, Tryz.ntmps37
  go_wp2_with fail
  refine HS.out.mono ?_
  rintro e w1 ⟨v, rfl, hk, rfl, h1⟩
  have hx1 := HX.out.2.1.kp hk (fun a e hne hf => HX.out.2.2 a e hne (.inl hf.2))
  obtain ⟨con, zs, hc, hs, hl, hd, ex, hz, e1, hall⟩ := h1.openS HX.out.1 hx1 HX.out.2.2
  have HF := qH (sR (iT con) (ao, n, cap) hd hz hs)
  rw [e1] at HF
  have HC := qH (And.intro hc (And.intro hl (And.intro ex (And.intro hs hall))))
  have HK := qH (And.intro hk h1)
  clear hc hs hl hd ex hz e1 hall hk h1 hx1 q1 c2
  go_wp2_with fail
  refine HF.out.mono ?_
  rintro e w2 ⟨v, rfl, hk2, rfl, iv', hs2, hiv⟩
  have HK2 := qH (And.intro hk2 (And.intro hs2 hiv)); clear hk2 hs2 hiv
  go_wp2
  go_ret2
  obtain ⟨hc, hl, ex, hs, hall⟩ := HC.out
  have hsame : Same S w1 w2 := HK2.out.1.same HK.out.2.inS fun k h1 h2 => HK.out.2.notS k h2 h1
  have hrows := RowsAt.of_set' hc hsame (fun k h => Or.inl h) HK2.out.2.1 fun z hz => hall z (wM hz)
  rw [<- aGr con zs (ao, n, cap), hl, ex] at hrows
  refine RetF.mk ((HK.out.1.mono fun k _ h => FQ.owns k h).trans HK2.out.1) ⟨?_, iv', .inl ?_, HK2.out.2.2⟩
  ·unfold cP; rw [if_neg (by rw [HN.out]; simp)]; rfl
  ·unfold bF; rw [if_neg (by rw [HN.out]; simp)]; exact hrows
 ·have q1 : ((n : Int) != (arity : Int)) = true := by rw [bne_iff_ne]; omega
  have H := qH h; clear h
  have HN := qH (show ss.length ≠ arity by omega)
  clear hst hx ho hn h1
  go_enter Tryz.func37, Tryz.ntmps37
  go_wp2
  go_ret2
  refine RetF.mk (Kp.refl _) ⟨?_, iv, ?_, rfl⟩
  ·unfold cP; rw [if_pos HN.out]; rfl
  ·unfold bF; rw [if_pos HN.out]; exact H.out
end
end
section
open Go.RowKit
def xL (C : List bJ) (s : ByteArray) (row : List ByteArray) : Bool × Nat := if bO s = false then (false, 32) else match dD C s with
 | some v => cP v.1 v.2 row
 | none => (false, 0)
def pC (C : List bJ) (s : ByteArray) (row : List ByteArray) : List bJ := if bO s = false then C else match dD C s with
 | some v => oJ C s (v.1, bF v.1 v.2 row)
 | none => C
theorem qE {α : Type} {c : α -> α -> Int} (L : List α) (x : α) : (gU c L x).length + (if bA c L x = true then 1 else 0) = L.length := by
 unfold gU
 cases hi : bA c L x with
 | false => simp
 | true =>
  have hb : below c L x < L.length := by
   unfold below
   rw [List.length_filter_lt_length_iff_exists]
   unfold bA at hi
   obtain ⟨y, hy, h0⟩ := List.any_eq_true.1 hi
   have h0' : c y x = 0 := by simpa using h0
   exact ⟨y, hy, by simp [h0']⟩
  simp only [if_true, List.length_append, List.length_take, List.length_drop]
  omega
theorem aJ1 {C : List bJ} (h : BaseOk C) (s : ByteArray) (row : List ByteArray) : BaseOk (pC C s row) := by
 unfold pC
 split
 ·exact h
 ·cases hg : dD C s with
  | none => exact h
  | some v =>
   show BaseOk (oJ C s (v.1, bF v.1 v.2 row))
   have hp := h.all _ ((kD h.nodup).1 hg)
   have hle : (bF v.1 v.2 row).length ≤ v.2.length := by
    unfold bF
    split
    ·exact Nat.le_refl _
    ·have := qE (c := aD) v.2 row; omega
   have hmem : ∀ r ∈ bF v.1 v.2 row, r ∈ v.2 := fun r hr => by
    unfold bF at hr
    split at hr
    ·exact hr
    ·exact wM hr
   refine ⟨wJ h.nodup _ _, fun p hp' => ?_, ?_⟩
   ·rcases aE8 hp' with rfl | hp'
    ·refine ⟨hp.name, hp.ar, ?_, fun r hr => hp.len r (hmem r hr), fun r hr => hp.txt r (hmem r hr), Nat.le_trans hle hp.few⟩
     show Strict aD (bF v.1 v.2 row)
     unfold bF
     split
     ·exact hp.strict
     ·exact hp.strict.drop cZ row
    ·exact h.all p hp'
   ·have h1 := jP h.nodup (s := s) (v := (v.1, bF v.1 v.2 row))
    rw [fY hg] at h1
    have h2 : (v.1, bF v.1 v.2 row).2.length ≤ v.2.length := hle
    have := h.few
    omega
section
variable {S : Nat -> Prop} {w w3 : World} {bb r : Nat} {E : List Ent} {s : ByteArray} {ss : List ByteArray} {e : Ent} {iv' : Value}
def aCo (S : Nat -> Prop) (bb r : Nat) (E : List Ent) (s : ByteArray) (ss : List ByteArray) (w' : World) (v : Value) : Prop :=
 v = .tuple #[.bool (xL (aT E) s ss).1, .int .i64 ((xL (aT E) s ss).2 : Nat)] /\ ∃ E', BaseAt S w' bb r E' /\ aT E' = pC (aT E) s ss /\ ∀ k, eS bb r E' k -> eS bb r E k
theorem nR (h : BaseAt S w bb r E) (he : bN E s = some e) (hn : bO s = true) (hk : Kp e.own w w3) (hr : RowsAt S w3 e.b iv' e.ar (bF e.ar e.LL ss)) (hiv : iv'.ownBlock = e.iv.ownBlock) {n : Nat} {W : World} (hW : Kp (fun k => k = bb) w3 W)
 (hB : Blk W bb [.map (some r), .int .i64 (n : Nat)] 153) (en : n + (if (cP e.ar e.LL ss).1 = true then 1 else 0) = bG (aT E)) :
 ∃ E', BaseAt S W bb r E' /\ aT E' = pC (aT E) s ss /\ ∀ k, eS bb r E' k -> eS bb r E k := by
 obtain ⟨g1, g2⟩ := cY he
 have hnd := h.ok.nodup
 have hmap := (h.map.kp hk fun ho => (h.off e (cF he).1 r ho).2 rfl).kp hW fun e2 => h.ne e2.symm
 obtain ⟨pre, post, rfl⟩ := gL he
 have hset := uV he hnd iv' (bF e.ar e.LL ss)
 have hC : pC (aT (pre ++ e :: post)) s ss = aT (pre ++ { e with iv := iv', LL := bF e.ar e.LL ss } :: post) := by
  unfold pC
  rw [if_neg (by rw [hn]; simp), g1]
  exact hset
 have htot : n = bG (aT (pre ++ { e with iv := iv', LL := bF e.ar e.LL ss } :: post)) := by
  have h1 := jP hnd (s := s) (v := (e.ar, bF e.ar e.LL ss))
  rw [hset, g2] at h1
  have h2 : (bF e.ar e.LL ss).length + (if (cP e.ar e.LL ss).1 = true then 1 else 0) = e.LL.length := by
   unfold bF cP
   split
   ·simp
   ·exact qE (c := aD) e.LL ss
  have h3 : (e.ar, bF e.ar e.LL ss).2.length = (bF e.ar e.LL ss).length := rfl
  omega
 refine ⟨_, h.turn hk (fun _ x => x) (fun _ x => .inl x) hr (fun k hk' => .inl (by rw [<- hiv]; exact hk')) (hW.mono fun k _ ho => .inl ho) hmap hB htot (by rw [<- hC]; exact aJ1 h.ok s ss), hC.symm, fun k ho => ?_⟩
 rcases ho with h1 | h1 | ⟨f, hf, ho⟩
 ·exact .inl h1
 ·exact .inr (.inl h1)
 ·rcases List.mem_append.1 hf with hf | hf
  ·exact .inr (.inr ⟨f, List.mem_append_left _ hf, ho⟩)
  ·rcases List.mem_cons.1 hf with rfl | hf
   ·refine .inr (.inr ⟨e, List.mem_append_right _ List.mem_cons_self, ?_⟩)
    rcases ho with ho | ho
    ·exact .inl ho
    ·exact .inr (by rw [<- hiv]; exact ho)
   ·exact .inr (.inr ⟨f, List.mem_append_right _ (List.mem_cons_of_mem _ hf), ho⟩)
set_option maxHeartbeats 2000000 in
theorem zE (h : BaseAt S w bb r E) (s : ByteArray) {ao : Option Addr} {k cap : Nat} {ss : List ByteArray} (hx : RowIn w (ao, k, cap) ss) (ho : fP (ao, k, cap) (eS bb r E)) :
 Calls Tryz.prog 60 #[.pointer (some ⟨bb, 0, none⟩), .string s, .slice ao k cap] w (RetF (eS bb r E) w (aCo S bb r E s ss)) := by
 have c0 : w.cell? ⟨bb, 0, none⟩ = some (.map (some r)) := by rw [h.blk.cell']; rfl
 have hlk := fH (P := Tryz.prog) Tryz.underlying151 Tryz.underlying9 (z := .pointer none) (by kernel_rfl) h.map s
 rw [kE] at hlk
 have hnm := pU s w
 rw [show decide (1 ≤ s.size /\ s.size ≤ 4096) = bO s from rfl] at hnm
 obtain ⟨n, en⟩ : ∃ n, bG (aT E) = n := ⟨_, rfl⟩
 have hnl : n ≤ 262144 := by rw [<- en]; exact h.ok.few
 have H := qH (And.intro h en)
 have HX := qH (And.intro hx ho)
 clear h hx ho en
 cases hn : bO s with
 | false =>
  rw [hn] at hnm
  have HN := qH hnm
  have HNM := qH hn
  clear hn hlk c0 hnm
  go_enter Tryz.func60, Tryz.ntmps60
  go_wp2_with fail
  refine HN.out.mono ?_
  rintro e w' ⟨rfl, rfl⟩
  go_wp2
  go_ret2
  exact RetF.mk (Kp.refl _) ⟨by unfold xL; rw [if_pos HNM.out]; rfl, E, H.out.1, by unfold pC; rw [if_pos HNM.out], fun _ h => h⟩
 | true =>
  rw [hn] at hnm
  have HN := qH hnm
  have HNM := qH hn
  clear hn hnm
  cases he : bN E s with
  | none =>
   rw [he] at hlk
   have hlk' : (Instr.lookup 151 (.map (some r)) (.string s) false).run Tryz.prog w = .ok (.pointer none) w := hlk
   have HE := qH (dT he).1
   clear he hlk
   go_enter Tryz.func60, Tryz.ntmps60
   go_wp2_with fail
   refine HN.out.mono ?_
   rintro e w' ⟨rfl, rfl⟩
   go_wp2
   go_ret2
   exact RetF.mk (Kp.refl _) ⟨by unfold xL; rw [if_neg (by rw [HNM.out]; simp), HE.out]; rfl, E, H.out.1, by unfold pC; rw [if_neg (by rw [HNM.out]; simp), HE.out], fun _ h => h⟩
  | some e0 =>
   rw [he] at hlk
   have HE := qH he
   obtain ⟨hem, hes⟩ := cF he
   obtain ⟨b0, eb0⟩ : ∃ b0, e0.b = b0 := ⟨_, rfl⟩
   have hlk' : (Instr.lookup 151 (.map (some r)) (.string s) false).run Tryz.prog w = .ok (.pointer (some ⟨b0, 0, none⟩)) w := by rw [<- eb0]; exact hlk
   have hdr := aC2 (z := False) (H.out.1.rows e0 hem).q (H.out.1.strict hem) (ao := ao) (n := k) (cap := cap) (ss := ss) HX.out.1 fun a e hne hown => HX.out.2 a e hne (.inr (.inr ⟨e0, hem, hown⟩))
   rw [eb0] at hdr
   have hg := (cY he).1
   have HG := qH (And.intro hg (And.intro hem eb0))
   have HDr := qH hdr
   clear he hlk hem hes hdr eb0 hg
   go_enter Tryz.func60, Tryz.ntmps60
   go_wp2_with fail
   refine HN.out.mono ?_
   rintro e w' ⟨rfl, rfl⟩
   go_wp2_with fail
   refine HDr.out.mono ?_
   rintro e w3 ⟨v, rfl, hk3, rfl, iv', hr3, hiv⟩
   have hr3' : RowsAt S w3 e0.b iv' e0.ar (bF e0.ar e0.LL ss) := by
    rw [HG.out.2.2]
    rcases hr3 with h1 | ⟨h1, _⟩
    ·exact h1
    ·exact h1.elim
   rw [<- HG.out.2.2] at hk3
   have hb3 := fD H.out.1 HE.out (Kp.refl w) hk3
   rw [H.out.2] at hb3
   have hR : xL (aT E) s ss = cP e0.ar e0.LL ss := by unfold xL; rw [if_neg (by rw [HNM.out]; simp), HG.out.1]
   have HR := qH (And.intro hk3 (And.intro hr3' (And.intro hiv (And.intro hb3 hR))))
   have cb := hb3.cell 1 (by simp)
   have fb := hb3.free 1
   simp only [List.getElem_cons_succ, List.getElem_cons_zero] at cb
   clear hr3 hr3' hk3 hiv hb3 hR c0 hlk'
   obtain ⟨d, ed⟩ : ∃ d, (cP e0.ar e0.LL ss).2 = d := ⟨_, rfl⟩
   rw [ed]
   cases hwas : (cP e0.ar e0.LL ss).1 with
   | false =>
    have HW := qH (And.intro hwas ed)
    clear hwas ed
    go_wp2
    go_ret2
    refine RetF.mk (HR.out.1.mono fun k _ ho => .inr (.inr ⟨e0, HG.out.2.1, ho⟩)) ⟨by rw [HR.out.2.2.2.2, HW.out.1, HW.out.2]; rfl, ?_⟩
    exact nR H.out.1 HE.out HNM.out HR.out.1 HR.out.2.1 HR.out.2.2.1 (Kp.refl _) HR.out.2.2.2.1 (by rw [HW.out.1, H.out.2]; simp)
   | true =>
    have hpos : 1 ≤ n := by
     have h1 := jP H.out.1.ok.nodup (s := s) (v := (e0.ar, ([] : List (List ByteArray))))
     rw [fY HG.out.1, H.out.2] at h1
     have h2 : 1 ≤ e0.LL.length := by
      unfold cP at hwas
      split at hwas
      ·cases hwas
      ·have := qE (c := aD) e0.LL ss
       rw [if_pos hwas] at this
       omega
     have h3 : (e0.ar, e0.LL).2.length = e0.LL.length := rfl
     have h4 : (e0.ar, ([] : List (List ByteArray))).2.length = 0 := rfl
     omega
    have HW := qH (And.intro hwas ed)
    clear hwas ed
    obtain ⟨n', rfl⟩ : ∃ n', n = n' + 1 := ⟨n - 1, by omega⟩
    go_wp2
    go_ret2
    have hbn := HR.out.2.2.2.1.set 1 (.int .i64 (n' : Nat))
    refine RetF.mk ((HR.out.1.mono fun k _ ho => .inr (.inr ⟨e0, HG.out.2.1, ho⟩)).trans (Kp.setCell (F := eS bb r E) (Kp.refl w3) (p := ⟨bb, 1, none⟩) (fun _ => .inl rfl) _)) ⟨by rw [HR.out.2.2.2.2, HW.out.1, HW.out.2]; rfl, ?_⟩
    exact nR H.out.1 HE.out HNM.out HR.out.1 HR.out.2.1 HR.out.2.2.1 (Kp.setCell (F := fun k => k = bb) (Kp.refl w3) (p := ⟨bb, 1, none⟩) (fun _ => rfl) _) hbn (by rw [HW.out.1, H.out.2]; simp)
end
end
section
open Go.RowKit Go.Shelf
attribute [local go_sem] Oper.semAt_some
def fitK (hs : List aE) (ls : List aO) : Bool := decide (hs.length ≤ 1048576) && (decide (ls.length ≤ 1048576) && (aIz ls && fewB ls))
theorem aC1 (w : World) (a : Option Addr) : RowsIn (fun k => ∀ b, a = some b -> k = b.block) w a [] := ⟨[], rfl, fun i u h => by simp [eG] at h, fun b hb c hc => by rw [hb] at hc; cases hc; rfl, fun p hp => by cases hp⟩
section
variable {S G : Nat -> Prop} {w : World} {p : ByteArray} {hs : List aE} {ls : List aO} {ha ba : Option Addr} {hn hcap n bcap wn wc : Nat} {ob : Addr} {E : List Ent} {C : List bJ} {A : aC} {e : Nat}
theorem isK {S' : Nat -> Prop} (hhn : hn = hs.length) (hh : aQ w G ha hs) (hbn : n = ls.length) (h : bQ w G ba ls) (hf : fitK hs ls = true) (hB : BaseV S w (.pointer (some ob)) E) (hC : aT E = C) (hN : NumW w) (hok : (hs.any fun t => decide (4 ≤ t.1)) = true -> okR ((p, hs, ()), ls, ()) C = true) (hM : cG ((p, hs, ()), ls, ()) false (bY ((p, hs, ()), ls, ()) C) = (0, A)) (hAl : A.length ≤ 1048576) (wa : Option Addr) (hwn : wn = A.length) (hW : RowsIn S' w wa A) :
 Calls Tryz.prog 27 #[dM p ha hn hcap ba n bcap, .pointer (some ob), .slice wa wn wc] w (RetN w fun w' v => v = .bool true) := by
 unfold fitK at hf
 rw [Bool.and_eq_true, Bool.and_eq_true, Bool.and_eq_true, decide_eq_true_eq, decide_eq_true_eq] at hf
 refine (aKx (p := p) (hcap := hcap) (bcap := bcap) (wc := wc) hhn hh (by rw [hhn]; exact hf.1) hbn h (aD2 hf.2.2.1) (aD3 hf.2.2.2) (by rw [hbn]; exact hf.2.1) hB hC hok hN hM hAl hwn ⟨hW.choose, hW.choose_spec.1, hW.choose_spec.2.1, fun _ _ => trivial, fun p hp => ⟨(hW.choose_spec.2.2.2 p hp).1, (hW.choose_spec.2.2.2 p hp).2.1, fun _ _ => trivial⟩⟩).mono ?_
 rintro e w' ⟨v, rfl, hk, rfl⟩
 exact RetN.mk hk (by rw [decide_eq_true ⟨rfl, rfl⟩])
theorem aD4 (hhn : hn = hs.length) (hh : aQ w G ha hs) (hbn : n = ls.length) (h : bQ w G ba ls) (hf : fitK hs ls = true) (hB : BaseV S w (.pointer (some ob)) E) (hC : aT E = C) (hN : NumW w) (hok : (hs.any fun t => decide (4 ≤ t.1)) = true -> okR ((p, hs, ()), ls, ()) C = true) (hM : cG ((p, hs, ()), ls, ()) false (bY ((p, hs, ()), ls, ()) C) = (e, A)) (he : e ≠ 0) (z : Int) (hz : (e : Int) = z) :
 Calls Tryz.prog 21 #[dM p ha hn hcap ba n bcap, .pointer (some ob)] w (RetN w fun w' v => v = .tuple #[.slice none 0 0, .int .i64 z]) := by
 unfold fitK at hf
 rw [Bool.and_eq_true, Bool.and_eq_true, Bool.and_eq_true, decide_eq_true_eq, decide_eq_true_eq] at hf
 refine (aBy (p := p) (hcap := hcap) (bcap := bcap) hhn hh (by rw [hhn]; exact hf.1) hbn h (aD2 hf.2.2.1) (aD3 hf.2.2.2) (by rw [hbn]; exact hf.2.1) hB hC hok hN hM).mono ?_
 rintro e' w' ⟨v, rfl, hk, ⟨_, rfl⟩ | ⟨h0, _⟩⟩
 ·exact RetN.mk hk (by rw [hz])
 ·exact absurd h0 he
end
theorem sL (w : World) {G : Nat -> Prop} (ts : List aE) (h : aI0 ts = true) (hG : G w.heap.size) : aQ (w.alloc (.cells (yD ts).toArray 58)) G (some ⟨w.heap.size, 0, none⟩) ts :=
 aB1 (s := jO) (f := vU) (rest := []) (fun x => rfl) (fun i x hi => rX (pB h x (List.mem_of_getElem? hi))) hG (by rw [List.append_nil]; exact Blk.new w (yD ts) 58)
theorem aF6 (w : World) {G : Nat -> Prop} (ls : List aO) (vs : List (Option Addr × Nat)) (hv : vs.length = ls.length) (h : yS ls = true) (hG : G w.heap.size) (ht : ∀ x ∈ ls.zip vs, aQ w G x.2.1 (aB x.1) /\ (aB x.1).length ≤ x.2.2 /\ x.2.2 ≤ maxLen) : bQ (w.alloc (.cells ((ls.zip vs).flatMap yT).toArray 60)) G (some ⟨w.heap.size, 0, none⟩) ls :=
 tL (rest := []) hv (qY h) (fun x hx => ⟨(ht x hx).1.ext ((Kp.refl w).alloc _), (ht x hx).2⟩) hG (by rw [List.append_nil]; exact Blk.new w ((ls.zip vs).flatMap yT) 60)
def aKy : List nG := [((⟨#[101]⟩ : ByteArray), 2, [[(⟨#[97]⟩ : ByteArray), (⟨#[57, 50, 50, 51, 51, 55, 50, 48, 51, 54, 56, 53, 52, 55, 55, 53, 56, 48, 55]⟩ : ByteArray)], [(⟨#[97]⟩ : ByteArray), (⟨#[49]⟩ : ByteArray)], [(⟨#[98]⟩ : ByteArray), (⟨#[57, 50, 50, 51, 51, 55, 50, 48, 51, 54, 56, 53, 52, 55, 55, 53, 56, 48, 55]⟩ : ByteArray)], [(⟨#[98]⟩ : ByteArray), (⟨#[50]⟩ : ByteArray)], [(⟨#[98]⟩ : ByteArray), (⟨#[45, 51]⟩ : ByteArray)]], ())]
def aBk : List bJ := [((⟨#[101]⟩ : ByteArray), 2, [[(⟨#[97]⟩ : ByteArray), (⟨#[49]⟩ : ByteArray)], [(⟨#[97]⟩ : ByteArray), (⟨#[57, 50, 50, 51, 51, 55, 50, 48, 51, 54, 56, 53, 52, 55, 55, 53, 56, 48, 55]⟩ : ByteArray)], [(⟨#[98]⟩ : ByteArray), (⟨#[45, 51]⟩ : ByteArray)], [(⟨#[98]⟩ : ByteArray), (⟨#[50]⟩ : ByteArray)], [(⟨#[98]⟩ : ByteArray), (⟨#[57, 50, 50, 51, 51, 55, 50, 48, 51, 54, 56, 53, 52, 55, 55, 53, 56, 48, 55]⟩ : ByteArray)]])]
def aFg : List bJ := [((⟨#[101]⟩ : ByteArray), 2, [[(⟨#[97]⟩ : ByteArray), (⟨#[57, 50, 50, 51, 51, 55, 50, 48, 51, 54, 56, 53, 52, 55, 55, 53, 56, 48, 55]⟩ : ByteArray)], [(⟨#[98]⟩ : ByteArray), (⟨#[45, 51]⟩ : ByteArray)], [(⟨#[98]⟩ : ByteArray), (⟨#[50]⟩ : ByteArray)], [(⟨#[98]⟩ : ByteArray), (⟨#[57, 50, 50, 51, 51, 55, 50, 48, 51, 54, 56, 53, 52, 55, 55, 53, 56, 48, 55]⟩ : ByteArray)]])]
theorem aFf : gT [] aKy = (aBk, 0) := by kernel_rfl
theorem aGg : pC aBk ⟨#[101]⟩ [(⟨#[97]⟩ : ByteArray), (⟨#[49]⟩ : ByteArray)] = aFg := by kernel_rfl
def mF : List aE := [((1 : Int), (⟨#[88]⟩ : ByteArray), ()), ((5 : Int), (⟨#[89]⟩ : ByteArray), ())]
def aIm : List aE := [((1 : Int), (⟨#[88]⟩ : ByteArray), ()), ((1 : Int), (⟨#[89]⟩ : ByteArray), ())]
def lH : List aO := [((1 : Int), ((⟨#[101]⟩ : ByteArray), aIm, ()), (0 : Int), ((0 : Int), (⟨#[]⟩ : ByteArray), ()), ((0 : Int), (⟨#[]⟩ : ByteArray), ()), ())]
def k15A0 : aC := []
theorem k15o0 : okR ((⟨#[116]⟩, mF, ()), lH, ()) aBk = true := by kernel_rfl
theorem k15m0 : cG ((⟨#[116]⟩, mF, ()), lH, ()) false (bY ((⟨#[116]⟩, mF, ()), lH, ()) aBk) = (151, k15A0) := by kernel_rfl
def aKr : aC := [[(⟨#[97]⟩ : ByteArray), (⟨#[57, 50, 50, 51, 51, 55, 50, 48, 51, 54, 56, 53, 52, 55, 55, 53, 56, 48, 55]⟩ : ByteArray)], [(⟨#[98]⟩ : ByteArray), (⟨#[57, 50, 50, 51, 51, 55, 50, 48, 51, 54, 56, 53, 52, 55, 55, 53, 56, 48, 54]⟩ : ByteArray)]]
theorem k15o9 : okR ((⟨#[116]⟩, mF, ()), lH, ()) aFg = true := by kernel_rfl
theorem k15m9 : cG ((⟨#[116]⟩, mF, ()), lH, ()) false (bY ((⟨#[116]⟩, mF, ()), lH, ()) aFg) = (0, aKr) := by kernel_rfl
set_option maxHeartbeats 16000000 in
theorem aBj (w : World) (hN : NumW w) : Calls Tryz.prog 30 #[] w (RetN w fun w' v => v = .bool true) := by
 have HN := qH hN
 clear hN
 go_enter Tryz.func30, Tryz.ntmps30
 obtain ⟨w1, ew1⟩ : ∃ x, w.alloc (.cells #[.string ⟨#[97]⟩, .string ⟨#[57, 50, 50, 51, 51, 55, 50, 48, 51, 54, 56, 53, 52, 55, 55, 53, 56, 48, 55]⟩] 9) = x := ⟨_, rfl⟩
 have Xw1 := qH (show Ext w w1 from by rw [<- ew1]; exact (Kp.refl w).alloc _)
 have Bw1 := qH (show Blk w1 w.heap.size [.string ⟨#[97]⟩, .string ⟨#[57, 50, 50, 51, 51, 55, 50, 48, 51, 54, 56, 53, 52, 55, 55, 53, 56, 48, 55]⟩] 9 from by rw [<- ew1]; exact Blk.new w _ _)
 obtain ⟨w2, ew2⟩ : ∃ x, w1.alloc (.cells #[.string ⟨#[97]⟩, .string ⟨#[49]⟩] 9) = x := ⟨_, rfl⟩
 have Xw2 := qH (show Ext w1 w2 from by rw [<- ew2]; exact (Kp.refl w1).alloc _)
 have Bw2 := qH (show Blk w2 w1.heap.size [.string ⟨#[97]⟩, .string ⟨#[49]⟩] 9 from by rw [<- ew2]; exact Blk.new w1 _ _)
 obtain ⟨w3, ew3⟩ : ∃ x, w2.alloc (.cells #[.string ⟨#[98]⟩, .string ⟨#[57, 50, 50, 51, 51, 55, 50, 48, 51, 54, 56, 53, 52, 55, 55, 53, 56, 48, 55]⟩] 9) = x := ⟨_, rfl⟩
 have Xw3 := qH (show Ext w2 w3 from by rw [<- ew3]; exact (Kp.refl w2).alloc _)
 have Bw3 := qH (show Blk w3 w2.heap.size [.string ⟨#[98]⟩, .string ⟨#[57, 50, 50, 51, 51, 55, 50, 48, 51, 54, 56, 53, 52, 55, 55, 53, 56, 48, 55]⟩] 9 from by rw [<- ew3]; exact Blk.new w2 _ _)
 obtain ⟨w4, ew4⟩ : ∃ x, w3.alloc (.cells #[.string ⟨#[98]⟩, .string ⟨#[50]⟩] 9) = x := ⟨_, rfl⟩
 have Xw4 := qH (show Ext w3 w4 from by rw [<- ew4]; exact (Kp.refl w3).alloc _)
 have Bw4 := qH (show Blk w4 w3.heap.size [.string ⟨#[98]⟩, .string ⟨#[50]⟩] 9 from by rw [<- ew4]; exact Blk.new w3 _ _)
 obtain ⟨w5, ew5⟩ : ∃ x, w4.alloc (.cells #[.string ⟨#[98]⟩, .string ⟨#[45, 51]⟩] 9) = x := ⟨_, rfl⟩
 have Xw5 := qH (show Ext w4 w5 from by rw [<- ew5]; exact (Kp.refl w4).alloc _)
 have Bw5 := qH (show Blk w5 w4.heap.size [.string ⟨#[98]⟩, .string ⟨#[45, 51]⟩] 9 from by rw [<- ew5]; exact Blk.new w4 _ _)
 obtain ⟨w6, ew6⟩ : ∃ x, w5.alloc (.cells #[.slice (some ⟨w.heap.size, 0, none⟩) 2 2, .slice (some ⟨w1.heap.size, 0, none⟩) 2 2, .slice (some ⟨w2.heap.size, 0, none⟩) 2 2, .slice (some ⟨w3.heap.size, 0, none⟩) 2 2, .slice (some ⟨w4.heap.size, 0, none⟩) 2 2] 66) = x := ⟨_, rfl⟩
 have Xw6 := qH (show Ext w5 w6 from by rw [<- ew6]; exact (Kp.refl w5).alloc _)
 have Rw6 := qH (show RowsIn TT w6 (some ⟨w5.heap.size, 0, none⟩) [[(⟨#[97]⟩ : ByteArray), (⟨#[57, 50, 50, 51, 51, 55, 50, 48, 51, 54, 56, 53, 52, 55, 55, 53, 56, 48, 55]⟩ : ByteArray)], [(⟨#[97]⟩ : ByteArray), (⟨#[49]⟩ : ByteArray)], [(⟨#[98]⟩ : ByteArray), (⟨#[57, 50, 50, 51, 51, 55, 50, 48, 51, 54, 56, 53, 52, 55, 55, 53, 56, 48, 55]⟩ : ByteArray)], [(⟨#[98]⟩ : ByteArray), (⟨#[50]⟩ : ByteArray)], [(⟨#[98]⟩ : ByteArray), (⟨#[45, 51]⟩ : ByteArray)]] from dU (l := [(w.heap.size, [(⟨#[97]⟩ : ByteArray), (⟨#[57, 50, 50, 51, 51, 55, 50, 48, 51, 54, 56, 53, 52, 55, 55, 53, 56, 48, 55]⟩ : ByteArray)]), (w1.heap.size, [(⟨#[97]⟩ : ByteArray), (⟨#[49]⟩ : ByteArray)]), (w2.heap.size, [(⟨#[98]⟩ : ByteArray), (⟨#[57, 50, 50, 51, 51, 55, 50, 48, 51, 54, 56, 53, 52, 55, 55, 53, 56, 48, 55]⟩ : ByteArray)]), (w3.heap.size, [(⟨#[98]⟩ : ByteArray), (⟨#[50]⟩ : ByteArray)]), (w4.heap.size, [(⟨#[98]⟩ : ByteArray), (⟨#[45, 51]⟩ : ByteArray)])]) rfl (show Blk w6 w5.heap.size [.slice (some ⟨w.heap.size, 0, none⟩) 2 2, .slice (some ⟨w1.heap.size, 0, none⟩) 2 2, .slice (some ⟨w2.heap.size, 0, none⟩) 2 2, .slice (some ⟨w3.heap.size, 0, none⟩) 2 2, .slice (some ⟨w4.heap.size, 0, none⟩) 2 2] 66 from by rw [<- ew6]; exact Blk.new w5 _ _) (fun x hx => by
  simp only [List.mem_cons, List.not_mem_nil, or_false] at hx
  rcases hx with rfl | rfl | rfl | rfl | rfl
  ·exact ⟨Bw1.out.ext (Xw2.out.trans (Xw3.out.trans (Xw4.out.trans (Xw5.out.trans Xw6.out)))), by simp⟩
  ·exact ⟨Bw2.out.ext (Xw3.out.trans (Xw4.out.trans (Xw5.out.trans Xw6.out))), by simp⟩
  ·exact ⟨Bw3.out.ext (Xw4.out.trans (Xw5.out.trans Xw6.out)), by simp⟩
  ·exact ⟨Bw4.out.ext (Xw5.out.trans Xw6.out), by simp⟩
  ·exact ⟨Bw5.out.ext Xw6.out, by simp⟩))
 obtain ⟨w7, ew7⟩ : ∃ x, w6.alloc (.cells #[.string ⟨#[101]⟩, .int .i64 2, .slice (some ⟨w5.heap.size, 0, none⟩) 5 5] 111) = x := ⟨_, rfl⟩
 have Xw7 := qH (show Ext w6 w7 from by rw [<- ew7]; exact (Kp.refl w6).alloc _)
 have BR := qH (show Blk w7 w6.heap.size [.string ⟨#[101]⟩, .int .i64 2, .slice (some ⟨w5.heap.size, 0, none⟩) 5 5] 111 from by rw [<- ew7]; exact Blk.new w6 _ _)
 have HFr := qH (aBn aKy (some ⟨w6.heap.size, 0, none⟩) 1 1 w7 TT rfl (fun i q hq => by
  match i, hq with
  | 0, hq => cases hq; exact ⟨w6.heap.size, 0, some ⟨w5.heap.size, 0, none⟩, 5, rfl, trivial, by rw [BR.out.cell']; rfl, by rw [BR.out.cell']; rfl, by rw [BR.out.cell']; rfl, by decide, by decide, Rw6.out.ext Xw7.out⟩
  | n + 1, hq => cases hq) (by decide) (by decide))
 go_wp2_with fail
 clear ew1 ew2 ew3 ew4 ew5 ew6 ew7
 refine (HFr.out).mono ?_
 rintro e w8 ⟨vw8, rfl, hkw8, hv⟩
 have Xw8 := qH (show Ext w7 w8 from hkw8)
 clear hkw8
 obtain ⟨bb, r, S, E, rfl, hb, hC, -, hO⟩ := hv.1 (by rw [aFf])
 rw [aFf] at hC
 have HBv := qH (show BaseAt S w8 bb r E /\ aT E = aBk /\ ∀ k, eS bb r E k -> w.heap.size ≤ k from ⟨hb, hC, fun k ho => Nat.le_trans ((Xw1.out.trans (Xw2.out.trans (Xw3.out.trans (Xw4.out.trans (Xw5.out.trans (Xw6.out.trans Xw7.out))))))).size (hO k ho)⟩)
 clear hv hb hC hO
 have Zw8 := qH (Xw1.out.trans (Xw2.out.trans (Xw3.out.trans (Xw4.out.trans (Xw5.out.trans (Xw6.out.trans (Xw7.out.trans Xw8.out)))))))
 clear Xw1 Xw2 Xw3 Xw4 Xw5 Xw6 Xw7 Xw8
 go_wp2_with fail
 refine (dG ⟨#[88]⟩ w8).mono ?_
 rintro e w9 ⟨vw9, rfl, hkw9, rfl⟩
 have Xw9 := qH (show Ext w8 w9 from hkw9)
 clear hkw9
 obtain ⟨w10, ew10⟩ : ∃ x, w9.alloc (.cells #[.int .i64 1, .string ⟨#[88]⟩, .int .i64 5, .string ⟨#[89]⟩] 58) = x := ⟨_, rfl⟩
 have Xw10 := qH (show Ext w9 w10 from by rw [<- ew10]; exact (Kp.refl w9).alloc _)
 have Tw10 := qH (show aQ w10 (fun k => w8.heap.size ≤ k) (some ⟨w9.heap.size, 0, none⟩) mF from by rw [<- ew10]; exact sL w9 mF (by kernel_rfl) (Xw9.out).size)
 go_wp2_with fail
 clear ew10
 refine (dG ⟨#[88]⟩ w10).mono ?_
 rintro e w11 ⟨vw11, rfl, hkw11, rfl⟩
 have Xw11 := qH (show Ext w10 w11 from hkw11)
 clear hkw11
 go_wp2_with fail
 refine (dG ⟨#[89]⟩ w11).mono ?_
 rintro e w12 ⟨vw12, rfl, hkw12, rfl⟩
 have Xw12 := qH (show Ext w11 w12 from hkw12)
 clear hkw12
 obtain ⟨w13, ew13⟩ : ∃ x, w12.alloc (.cells #[.int .i64 1, .string ⟨#[88]⟩, .int .i64 1, .string ⟨#[89]⟩] 58) = x := ⟨_, rfl⟩
 have Xw13 := qH (show Ext w12 w13 from by rw [<- ew13]; exact (Kp.refl w12).alloc _)
 have Tw13 := qH (show aQ w13 (fun k => w8.heap.size ≤ k) (some ⟨w12.heap.size, 0, none⟩) aIm from by rw [<- ew13]; exact sL w12 aIm (by kernel_rfl) ((Xw9.out.trans (Xw10.out.trans (Xw11.out.trans Xw12.out)))).size)
 go_wp2_with fail
 clear ew13
 refine (iC ⟨#[101]⟩ (some ⟨w12.heap.size, 0, none⟩) 2 2 w13).mono ?_
 rintro e w14 ⟨vw14, rfl, hkw14, rfl⟩
 have Xw14 := qH (show Ext w13 w14 from hkw14)
 clear hkw14
 obtain ⟨w15, ew15⟩ : ∃ x, w14.alloc (.cells #[.int .i64 1, .string ⟨#[101]⟩, .slice (some ⟨w12.heap.size, 0, none⟩) 2 2, .int .i64 0, .int .i64 0, .string ⟨#[]⟩, .int .i64 0, .string ⟨#[]⟩] 60) = x := ⟨_, rfl⟩
 have Xw15 := qH (show Ext w14 w15 from by rw [<- ew15]; exact (Kp.refl w14).alloc _)
 have Lw15 := qH (show bQ w15 (fun k => w8.heap.size ≤ k) (some ⟨w14.heap.size, 0, none⟩) lH from by
  rw [<- ew15]
  refine aF6 w14 lH [(some ⟨w12.heap.size, 0, none⟩, 2)] rfl (by kernel_rfl) ((Xw9.out.trans (Xw10.out.trans (Xw11.out.trans (Xw12.out.trans (Xw13.out.trans Xw14.out)))))).size fun x hx => ?_
  unfold lH at hx
  simp only [List.zip_cons_cons, List.zip_nil_right, List.mem_cons, List.not_mem_nil, or_false] at hx
  rcases hx with rfl
  ·exact ⟨(Tw13.out.ext Xw14.out), Nat.le_refl _, (by decide : 2 ≤ maxLen)⟩)
 go_wp2_with fail
 clear ew15
 refine (cV (some ⟨w9.heap.size, 0, none⟩) (some ⟨w14.heap.size, 0, none⟩) 2 2 1 1 w15).mono ?_
 rintro e w16 ⟨vw16, rfl, hkw16, rfl⟩
 have Xw16 := qH (show Ext w15 w16 from hkw16)
 clear hkw16
 obtain ⟨w17, ew17⟩ : ∃ x, w16.alloc (.cells #[.string ⟨#[116]⟩, .slice (some ⟨w9.heap.size, 0, none⟩) 2 2, .slice (some ⟨w14.heap.size, 0, none⟩) 1 1] 43) = x := ⟨_, rfl⟩
 have Xw17 := qH (show Ext w16 w17 from by rw [<- ew17]; exact (Kp.refl w16).alloc _)
 have B1 := qH (show Blk w17 w16.heap.size [.string ⟨#[116]⟩, .slice (some ⟨w9.heap.size, 0, none⟩) 2 2, .slice (some ⟨w14.heap.size, 0, none⟩) 1 1] 43 from by rw [<- ew17]; exact Blk.new w16 _ _)
 have q2_0 : w17.cell? ⟨w16.heap.size, 0, none⟩ = some (.string ⟨#[116]⟩) := by rw [(B1.out.ext (Kp.refl w17)).cell']; rfl
 have q2_1 : w17.cell? ⟨w16.heap.size, 1, none⟩ = some (.slice (some ⟨w9.heap.size, 0, none⟩) 2 2) := by rw [(B1.out.ext (Kp.refl w17)).cell']; rfl
 have q2_2 : w17.cell? ⟨w16.heap.size, 2, none⟩ = some (.slice (some ⟨w14.heap.size, 0, none⟩) 1 1) := by rw [(B1.out.ext (Kp.refl w17)).cell']; rfl
 go_wp2_with fail
 clear ew17 q2_0 q2_1 q2_2
 refine (aD4 (hs := mF) (ls := lH) (ha := some ⟨w9.heap.size, 0, none⟩) (ba := some ⟨w14.heap.size, 0, none⟩) (hn := 2) (hcap := 2) (n := 1) (bcap := 1) rfl (Tw10.out.ext (Xw11.out.trans (Xw12.out.trans (Xw13.out.trans (Xw14.out.trans (Xw15.out.trans (Xw16.out.trans Xw17.out))))))) rfl (Lw15.out.ext (Xw16.out.trans Xw17.out)) (by kernel_rfl) (.full bb _ _ (HBv.out.1.ext (Xw9.out.trans (Xw10.out.trans (Xw11.out.trans (Xw12.out.trans (Xw13.out.trans (Xw14.out.trans (Xw15.out.trans (Xw16.out.trans Xw17.out)))))))))) HBv.out.2.1 (HN.out.ext (Zw8.out.trans (Xw9.out.trans (Xw10.out.trans (Xw11.out.trans (Xw12.out.trans (Xw13.out.trans (Xw14.out.trans (Xw15.out.trans (Xw16.out.trans Xw17.out)))))))))) (fun _ => k15o0) k15m0 (by decide) 151 rfl).mono ?_
 rintro e w18 ⟨vw18, rfl, hkw18, rfl⟩
 have Xw18 := qH (show Ext w17 w18 from hkw18)
 clear hkw18
 obtain ⟨w19, ew19⟩ : ∃ x, w18.alloc (.cells #[.string ⟨#[97]⟩, .string ⟨#[49]⟩] 9) = x := ⟨_, rfl⟩
 have Xw19 := qH (show Ext w18 w19 from by rw [<- ew19]; exact (Kp.refl w18).alloc _)
 have BX := qH (show Blk w19 w18.heap.size [.string ⟨#[97]⟩, .string ⟨#[49]⟩] 9 from by rw [<- ew19]; exact Blk.new w18 _ _)
 have HT := qH (And.intro (Tw10.out.ext (Xw11.out.trans (Xw12.out.trans (Xw13.out.trans (Xw14.out.trans (Xw15.out.trans (Xw16.out.trans (Xw17.out.trans (Xw18.out.trans Xw19.out))))))))) (And.intro (Lw15.out.ext (Xw16.out.trans (Xw17.out.trans (Xw18.out.trans Xw19.out)))) (And.intro (show Ext w8 w19 from (Xw9.out.trans (Xw10.out.trans (Xw11.out.trans (Xw12.out.trans (Xw13.out.trans (Xw14.out.trans (Xw15.out.trans (Xw16.out.trans (Xw17.out.trans (Xw18.out.trans Xw19.out))))))))))) (And.intro (show Ext w w8 from Zw8.out) (B1.out.ext (Xw18.out.trans Xw19.out))))))
 go_wp2_with fail
 clear ew19
 refine (zE (HBv.out.1.ext HT.out.2.2.1) ⟨#[101]⟩ (ss := [(⟨#[97]⟩ : ByteArray), (⟨#[49]⟩ : ByteArray)]) ⟨⟨rfl, CellsAt.pre (rest := []) (by rw [List.append_nil]; exact BX.out)⟩, by decide, fun a e _ => by cases e; exact BX.out.lt⟩ (fun a e _ ho => by cases e; have h1 : w18.heap.size < w8.heap.size := HBv.out.1.ownLt _ ho; have := ((Xw9.out.trans (Xw10.out.trans (Xw11.out.trans (Xw12.out.trans (Xw13.out.trans (Xw14.out.trans (Xw15.out.trans (Xw16.out.trans (Xw17.out.trans Xw18.out)))))))))).size; omega)).mono ?_
 rintro e wd ⟨vd, rfl, hkd, rfl, E2, hb2, hc2, -⟩
 have HD := qH (show BaseAt S wd bb r E2 /\ aT E2 = aFg /\ Ext w wd /\ aQ wd (fun k => w8.heap.size ≤ k) (some ⟨w9.heap.size, 0, none⟩) mF /\ bQ wd (fun k => w8.heap.size ≤ k) (some ⟨w14.heap.size, 0, none⟩) lH /\ Blk wd w16.heap.size [.string ⟨#[116]⟩, .slice (some ⟨w9.heap.size, 0, none⟩) 2 2, .slice (some ⟨w14.heap.size, 0, none⟩) 1 1] 43 from ⟨hb2, by rw [hc2, HBv.out.2.1, aGg], (HT.out.2.2.2.1.trans HT.out.2.2.1).trans' hkd (fun i hi ho => by have := HBv.out.2.2 _ ho; omega), HT.out.1.kp hkd (fun k hg ho => by have := HBv.out.1.ownLt _ ho; have hg2 : w8.heap.size ≤ k := hg; omega), HT.out.2.1.kp hkd (fun k hg ho => by have := HBv.out.1.ownLt _ ho; have hg2 : w8.heap.size ≤ k := hg; omega), (HT.out.2.2.2.2).kp hkd (fun ho => by have := HBv.out.1.ownLt _ ho; have := ((Xw9.out.trans (Xw10.out.trans (Xw11.out.trans (Xw12.out.trans (Xw13.out.trans (Xw14.out.trans (Xw15.out.trans Xw16.out)))))))).size; omega)⟩)
 clear hkd hb2 hc2
 have HDX := qH HD.out.2.2.1
 have HDT := qH HD.out.2.2.2.1
 have HDL := qH HD.out.2.2.2.2.1
 have HDB := qH HD.out.2.2.2.2.2
 have q3_0 : wd.cell? ⟨w16.heap.size, 0, none⟩ = some (.string ⟨#[116]⟩) := by rw [(HDB.out.ext (Kp.refl wd)).cell']; rfl
 have q3_1 : wd.cell? ⟨w16.heap.size, 1, none⟩ = some (.slice (some ⟨w9.heap.size, 0, none⟩) 2 2) := by rw [(HDB.out.ext (Kp.refl wd)).cell']; rfl
 have q3_2 : wd.cell? ⟨w16.heap.size, 2, none⟩ = some (.slice (some ⟨w14.heap.size, 0, none⟩) 1 1) := by rw [(HDB.out.ext (Kp.refl wd)).cell']; rfl
 obtain ⟨w20, ew20⟩ : ∃ x, wd.alloc (.cells #[.string ⟨#[97]⟩, .string ⟨#[57, 50, 50, 51, 51, 55, 50, 48, 51, 54, 56, 53, 52, 55, 55, 53, 56, 48, 55]⟩] 9) = x := ⟨_, rfl⟩
 have Xw20 := qH (show Ext wd w20 from by rw [<- ew20]; exact (Kp.refl wd).alloc _)
 have Bw20 := qH (show Blk w20 wd.heap.size [.string ⟨#[97]⟩, .string ⟨#[57, 50, 50, 51, 51, 55, 50, 48, 51, 54, 56, 53, 52, 55, 55, 53, 56, 48, 55]⟩] 9 from by rw [<- ew20]; exact Blk.new wd _ _)
 obtain ⟨w21, ew21⟩ : ∃ x, w20.alloc (.cells #[.string ⟨#[98]⟩, .string ⟨#[57, 50, 50, 51, 51, 55, 50, 48, 51, 54, 56, 53, 52, 55, 55, 53, 56, 48, 54]⟩] 9) = x := ⟨_, rfl⟩
 have Xw21 := qH (show Ext w20 w21 from by rw [<- ew21]; exact (Kp.refl w20).alloc _)
 have Bw21 := qH (show Blk w21 w20.heap.size [.string ⟨#[98]⟩, .string ⟨#[57, 50, 50, 51, 51, 55, 50, 48, 51, 54, 56, 53, 52, 55, 55, 53, 56, 48, 54]⟩] 9 from by rw [<- ew21]; exact Blk.new w20 _ _)
 obtain ⟨w22, ew22⟩ : ∃ x, w21.alloc (.cells #[.slice (some ⟨wd.heap.size, 0, none⟩) 2 2, .slice (some ⟨w20.heap.size, 0, none⟩) 2 2] 66) = x := ⟨_, rfl⟩
 have Xw22 := qH (show Ext w21 w22 from by rw [<- ew22]; exact (Kp.refl w21).alloc _)
 have Rw22 := qH (show RowsIn TT w22 (some ⟨w21.heap.size, 0, none⟩) aKr from dU (l := [(wd.heap.size, [(⟨#[97]⟩ : ByteArray), (⟨#[57, 50, 50, 51, 51, 55, 50, 48, 51, 54, 56, 53, 52, 55, 55, 53, 56, 48, 55]⟩ : ByteArray)]), (w20.heap.size, [(⟨#[98]⟩ : ByteArray), (⟨#[57, 50, 50, 51, 51, 55, 50, 48, 51, 54, 56, 53, 52, 55, 55, 53, 56, 48, 54]⟩ : ByteArray)])]) rfl (show Blk w22 w21.heap.size [.slice (some ⟨wd.heap.size, 0, none⟩) 2 2, .slice (some ⟨w20.heap.size, 0, none⟩) 2 2] 66 from by rw [<- ew22]; exact Blk.new w21 _ _) (fun x hx => by
  simp only [List.mem_cons, List.not_mem_nil, or_false] at hx
  rcases hx with rfl | rfl
  ·exact ⟨Bw20.out.ext (Xw21.out.trans Xw22.out), by simp⟩
  ·exact ⟨Bw21.out.ext Xw22.out, by simp⟩))
 go_wp2_with fail
 clear q3_0 q3_1 q3_2 ew20 ew21 ew22
 refine (isK (hs := mF) (ls := lH) (ha := some ⟨w9.heap.size, 0, none⟩) (ba := some ⟨w14.heap.size, 0, none⟩) (hn := 2) (hcap := 2) (n := 1) (bcap := 1) rfl (HDT.out.ext (Xw20.out.trans (Xw21.out.trans Xw22.out))) rfl (HDL.out.ext (Xw20.out.trans (Xw21.out.trans Xw22.out))) (by kernel_rfl) (.full bb _ _ (HD.out.1.ext (Xw20.out.trans (Xw21.out.trans Xw22.out)))) HD.out.2.1 (HN.out.ext (HDX.out.trans (Xw20.out.trans (Xw21.out.trans Xw22.out)))) (fun _ => k15o9) k15m9 (by decide) (some ⟨w21.heap.size, 0, none⟩) rfl (Rw22.out.ext (Kp.refl w22))).mono ?_
 rintro e w23 ⟨vw23, rfl, hkw23, rfl⟩
 have Xw23 := qH (show Ext w22 w23 from hkw23)
 clear hkw23
 go_wp2
 go_ret
 exact RetN.mk (HDX.out.trans (Xw20.out.trans (Xw21.out.trans (Xw22.out.trans Xw23.out)))) rfl
theorem yU (t : Array Value) (h : t.size = 172) : ∃ u : Nat -> Value, (∀ i, t.getD i undef = u i) /\ t = #[u 0, u 1, u 2, u 3, u 4, u 5, u 6, u 7, u 8, u 9, u 10, u 11, u 12, u 13, u 14, u 15, u 16, u 17, u 18, u 19, u 20, u 21, u 22, u 23, u 24, u 25, u 26, u 27, u 28, u 29, u 30, u 31, u 32, u 33, u 34, u 35, u 36, u 37, u 38, u 39, u 40, u 41, u 42, u 43, u 44, u 45, u 46, u 47, u 48, u 49, u 50, u 51, u 52, u 53, u 54, u 55, u 56, u 57, u 58, u 59, u 60, u 61, u 62, u 63, u 64, u 65, u 66, u 67, u 68, u 69, u 70, u 71, u 72, u 73, u 74, u 75, u 76, u 77, u 78, u 79, u 80, u 81, u 82, u 83, u 84, u 85, u 86, u 87, u 88, u 89, u 90, u 91, u 92, u 93, u 94, u 95, u 96, u 97, u 98, u 99, u 100, u 101, u 102, u 103, u 104, u 105, u 106, u 107, u 108, u 109, u 110, u 111, u 112, u 113, u 114, u 115, u 116, u 117, u 118, u 119, u 120, u 121, u 122, u 123, u 124, u 125, u 126, u 127, u 128, u 129, u 130, u 131, u 132, u 133, u 134, u 135, u 136, u 137, u 138, u 139, u 140, u 141, u 142, u 143, u 144, u 145, u 146, u 147, u 148, u 149, u 150, u 151, u 152, u 153, u 154, u 155, u 156, u 157, u 158, u 159, u 160, u 161, u 162, u 163, u 164, u 165, u 166, u 167, u 168, u 169, u 170, u 171] := by
 refine ⟨fun i => t.toList.getD i undef, fun i => by simp [Array.getD_eq_getD_getElem?, List.getD_eq_getElem?_getD], ?_⟩
 apply Array.ext'
 have := jW t.toList 172 (by simpa using h)
 exact this
theorem aI {P : Program} {md : Region.Mode} {l : List Oper} {Q : Exit -> Act -> World -> Prop} {t0 : Array Value} {D : List Deferred} {w0 : World} {Φ : List VP} {i : Nat} {o : Oper} {φ : VP} (ho : l[i]? = some o) (hφ : Φ[i]? = some φ)
 (h : ∀ (u : Nat -> Value) (W : World), Ext w0 W -> (∀ (j d : Nat) (ψ : VP), depB md l i j d = true -> Φ[j]? = some ψ -> ψ.at_ W (u d)) -> (∀ d, uI l d = true -> u d = t0.getD d undef) ->
  ∀ K : Act -> World -> Prop, Shut (∀ v W', Ext W W' -> φ.at_ W' v -> K (Act.put ⟨#[u 0, u 1, u 2, u 3, u 4, u 5, u 6, u 7, u 8, u 9, u 10, u 11, u 12, u 13, u 14, u 15, u 16, u 17, u 18, u 19, u 20, u 21, u 22, u 23, u 24, u 25, u 26, u 27, u 28, u 29, u 30, u 31, u 32, u 33, u 34, u 35, u 36, u 37, u 38, u 39, u 40, u 41, u 42, u 43, u 44, u 45, u 46, u 47, u 48, u 49, u 50, u 51, u 52, u 53, u 54, u 55, u 56, u 57, u 58, u 59, u 60, u 61, u 62, u 63, u 64, u 65, u 66, u 67, u 68, u 69, u 70, u 71, u 72, u 73, u 74, u 75, u 76, u 77, u 78, u 79, u 80, u 81, u 82, u 83, u 84, u 85, u 86, u 87, u 88, u 89, u 90, u 91, u 92, u 93, u 94, u 95, u 96, u 97, u 98, u 99, u 100, u 101, u 102, u 103, u 104, u 105, u 106, u 107, u 108, u 109, u 110, u 111, u 112, u 113, u 114, u 115, u 116, u 117, u 118, u 119, u 120, u 121, u 122, u 123, u 124, u 125, u 126, u 127, u 128, u 129, u 130, u 131, u 132, u 133, u 134, u 135, u 136, u 137, u 138, u 139, u 140, u 141, u 142, u 143, u 144, u 145, u 146, u 147, u 148, u 149, u 150, u 151, u 152, u 153, u 154, u 155, u 156, u 157, u 158, u 159, u 160, u 161, u 162, u 163, u 164, u 165, u 166, u 167, u 168, u 169, u 170, u 171], D⟩ o.dst v) W') -> if Region.wanted o (yielded l.toArray #[u 0, u 1, u 2, u 3, u 4, u 5, u 6, u 7, u 8, u 9, u 10, u 11, u 12, u 13, u 14, u 15, u 16, u 17, u 18, u 19, u 20, u 21, u 22, u 23, u 24, u 25, u 26, u 27, u 28, u 29, u 30, u 31, u 32, u 33, u 34, u 35, u 36, u 37, u 38, u 39, u 40, u 41, u 42, u 43, u 44, u 45, u 46, u 47, u 48, u 49, u 50, u 51, u 52, u 53, u 54, u 55, u 56, u 57, u 58, u 59, u 60, u 61, u 62, u 63, u 64, u 65, u 66, u 67, u 68, u 69, u 70, u 71, u 72, u 73, u 74, u 75, u 76, u 77, u 78, u 79, u 80, u 81, u 82, u 83, u 84, u 85, u 86, u 87, u 88, u 89, u 90, u 91, u 92, u 93, u 94, u 95, u 96, u 97, u 98, u 99, u 100, u 101, u 102, u 103, u 104, u 105, u 106, u 107, u 108, u 109, u 110, u 111, u 112, u 113, u 114, u 115, u 116, u 117, u 118, u 119, u 120, u 121, u 122, u 123, u 124, u 125, u 126, u 127, u 128, u 129, u 130, u 131, u 132, u 133, u 134, u 135, u 136, u 137, u 138, u 139, u 140, u 141, u 142, u 143, u 144, u 145, u 146, u 147, u 148, u 149, u 150, u 151, u 152, u 153, u 154, u 155, u 156, u 157, u 158, u 159, u 160, u 161, u 162, u 163, u 164, u 165, u 166, u 167, u 168, u 169, u 170, u 171]) = true then Oper.wp P o ⟨#[u 0, u 1, u 2, u 3, u 4, u 5, u 6, u 7, u 8, u 9, u 10, u 11, u 12, u 13, u 14, u 15, u 16, u 17, u 18, u 19, u 20, u 21, u 22, u 23, u 24, u 25, u 26, u 27, u 28, u 29, u 30, u 31, u 32, u 33, u 34, u 35, u 36, u 37, u 38, u 39, u 40, u 41, u 42, u 43, u 44, u 45, u 46, u 47, u 48, u 49, u 50, u 51, u 52, u 53, u 54, u 55, u 56, u 57, u 58, u 59, u 60, u 61, u 62, u 63, u 64, u 65, u 66, u 67, u 68, u 69, u 70, u 71, u 72, u 73, u 74, u 75, u 76, u 77, u 78, u 79, u 80, u 81, u 82, u 83, u 84, u 85, u 86, u 87, u 88, u 89, u 90, u 91, u 92, u 93, u 94, u 95, u 96, u 97, u 98, u 99, u 100, u 101, u 102, u 103, u 104, u 105, u 106, u 107, u 108, u 109, u 110, u 111, u 112, u 113, u 114, u 115, u 116, u 117, u 118, u 119, u 120, u 121, u 122, u 123, u 124, u 125, u 126, u 127, u 128, u 129, u 130, u 131, u 132, u 133, u 134, u 135, u 136, u 137, u 138, u 139, u 140, u 141, u 142, u 143, u 144, u 145, u 146, u 147, u 148, u 149, u 150, u 151, u 152, u 153, u 154, u 155, u 156, u 157, u 158, u 159, u 160, u 161, u 162, u 163, u 164, u 165, u 166, u 167, u 168, u 169, u 170, u 171], D⟩ W K Q else K (Act.put ⟨#[u 0, u 1, u 2, u 3, u 4, u 5, u 6, u 7, u 8, u 9, u 10, u 11, u 12, u 13, u 14, u 15, u 16, u 17, u 18, u 19, u 20, u 21, u 22, u 23, u 24, u 25, u 26, u 27, u 28, u 29, u 30, u 31, u 32, u 33, u 34, u 35, u 36, u 37, u 38, u 39, u 40, u 41, u 42, u 43, u 44, u 45, u 46, u 47, u 48, u 49, u 50, u 51, u 52, u 53, u 54, u 55, u 56, u 57, u 58, u 59, u 60, u 61, u 62, u 63, u 64, u 65, u 66, u 67, u 68, u 69, u 70, u 71, u 72, u 73, u 74, u 75, u 76, u 77, u 78, u 79, u 80, u 81, u 82, u 83, u 84, u 85, u 86, u 87, u 88, u 89, u 90, u 91, u 92, u 93, u 94, u 95, u 96, u 97, u 98, u 99, u 100, u 101, u 102, u 103, u 104, u 105, u 106, u 107, u 108, u 109, u 110, u 111, u 112, u 113, u 114, u 115, u 116, u 117, u 118, u 119, u 120, u 121, u 122, u 123, u 124, u 125, u 126, u 127, u 128, u 129, u 130, u 131, u 132, u 133, u 134, u 135, u 136, u 137, u 138, u 139, u 140, u 141, u 142, u 143, u 144, u 145, u 146, u 147, u 148, u 149, u 150, u 151, u 152, u 153, u 154, u 155, u 156, u 157, u 158, u 159, u 160, u 161, u 162, u 163, u 164, u 165, u 166, u 167, u 168, u 169, u 170, u 171], D⟩ o.dst undef) W) : aEu P md l Q 172 t0 D w0 Φ i := by
 intro o' φ' ho' hφ' t W hz hx hd hb K hK
 rw [ho] at ho'; cases ho'
 rw [hφ] at hφ'; cases hφ'
 obtain ⟨u, hu, rfl⟩ := yU t hz
 exact h u W hx (fun j d ψ h1 h2 => by rw [<- hu d]; exact hd j d ψ h1 h2) (fun d h1 => by rw [<- hu d]; exact hb d h1) K hK
def vEq (x : Value) : VP := ⟨fun _ v => v = x, fun h _ => h⟩
def vT (n : Nat) (H : List aE) : VP := ⟨fun W v => ∃ g, v = .slice (some ⟨g, 0, none⟩) n n /\ aQ W TT (some ⟨g, 0, none⟩) H, fun ⟨g, e, h⟩ k => ⟨g, e, h.ext k⟩⟩
def vL (n : Nat) (L : List aO) : VP := ⟨fun W v => ∃ g, v = .slice (some ⟨g, 0, none⟩) n n /\ bQ W TT (some ⟨g, 0, none⟩) L, fun ⟨g, e, h⟩ k => ⟨g, e, h.ext k⟩⟩
def vR (n : Nat) (H : List aE) (m : Nat) (L : List aO) : VP := ⟨fun W v => ∃ g1 g2, v = dM ⟨#[116]⟩ (some ⟨g1, 0, none⟩) n n (some ⟨g2, 0, none⟩) m m /\ aQ W TT (some ⟨g1, 0, none⟩) H /\ bQ W TT (some ⟨g2, 0, none⟩) L, fun ⟨g1, g2, e, h1, h2⟩ k => ⟨g1, g2, e, h1.ext k, h2.ext k⟩⟩
def vS (ss : List ByteArray) : VP := ⟨fun W v => ∃ g, v = .slice (some ⟨g, 0, none⟩) ss.length ss.length /\ Blk W g (strs ss) 9, fun ⟨g, e, h⟩ k => ⟨g, e, h.ext k⟩⟩
def vW (n : Nat) (A : aC) : VP := ⟨fun W v => ∃ g, v = .slice (some ⟨g, 0, none⟩) n n /\ RowsIn TT W (some ⟨g, 0, none⟩) A, fun ⟨g, e, h⟩ k => ⟨g, e, h.ext k⟩⟩
def k15T : List aE := [((1 : Int), (⟨#[88]⟩ : ByteArray), ()), ((1 : Int), (⟨#[89]⟩ : ByteArray), ())]
def wW : List aE := [((4 : Int), (⟨#[]⟩ : ByteArray), ())]
def aIl : List aE := [((2 : Int), (⟨#[]⟩ : ByteArray), ()), ((2 : Int), (⟨#[]⟩ : ByteArray), ())]
def tV : List aO := [((1 : Int), ((⟨#[101]⟩ : ByteArray), aIl, ()), (0 : Int), ((0 : Int), (⟨#[]⟩ : ByteArray), ()), ((0 : Int), (⟨#[]⟩ : ByteArray), ()), ())]
def aKw : aC := [[(⟨#[49]⟩ : ByteArray)]]
theorem k15o1 : okR ((⟨#[116]⟩, wW, ()), tV, ()) fE = true := by kernel_rfl
theorem k15m1 : cG ((⟨#[116]⟩, wW, ()), tV, ()) false (bY ((⟨#[116]⟩, wW, ()), tV, ()) fE) = (0, aKw) := by kernel_rfl
def jF : List aE := [((1 : Int), (⟨#[88]⟩ : ByteArray), ()), ((5 : Int), (⟨#[89]⟩ : ByteArray), ())]
def dN : List aO := [((1 : Int), ((⟨#[101]⟩ : ByteArray), k15T, ()), (0 : Int), ((0 : Int), (⟨#[]⟩ : ByteArray), ()), ((0 : Int), (⟨#[]⟩ : ByteArray), ()), ())]
def k15A2 : aC := []
theorem k15o2 : okR ((⟨#[116]⟩, jF, ()), dN, ()) fE = true := by kernel_rfl
theorem k15m2 : cG ((⟨#[116]⟩, jF, ()), dN, ()) false (bY ((⟨#[116]⟩, jF, ()), dN, ()) fE) = (150, k15A2) := by kernel_rfl
def rA : List aO := [((1 : Int), ((⟨#[101]⟩ : ByteArray), k15T, ()), (0 : Int), ((0 : Int), (⟨#[]⟩ : ByteArray), ()), ((0 : Int), (⟨#[]⟩ : ByteArray), ()), ()), ((3 : Int), ((⟨#[]⟩ : ByteArray), [], ()), (2 : Int), ((1 : Int), (⟨#[89]⟩ : ByteArray), ()), ((3 : Int), (⟨#[]⟩ : ByteArray), ()), ())]
def aKv : aC := [[(⟨#[97]⟩ : ByteArray), (⟨#[50, 48]⟩ : ByteArray)], [(⟨#[98]⟩ : ByteArray), (⟨#[57]⟩ : ByteArray)]]
theorem k15o3 : okR ((⟨#[116]⟩, jF, ()), rA, ()) fE = true := by kernel_rfl
theorem k15m3 : cG ((⟨#[116]⟩, jF, ()), rA, ()) false (bY ((⟨#[116]⟩, jF, ()), rA, ()) fE) = (0, aKv) := by kernel_rfl
def tX : List aE := [((7 : Int), (⟨#[89]⟩ : ByteArray), ()), ((1 : Int), (⟨#[88]⟩ : ByteArray), ())]
def tW : List aE := [((6 : Int), (⟨#[89]⟩ : ByteArray), ()), ((1 : Int), (⟨#[88]⟩ : ByteArray), ())]
def aKu : aC := [[(⟨#[57]⟩ : ByteArray), (⟨#[97]⟩ : ByteArray)], [(⟨#[57]⟩ : ByteArray), (⟨#[98]⟩ : ByteArray)]]
theorem k15o4 : okR ((⟨#[116]⟩, tX, ()), dN, ()) fE = true := by kernel_rfl
theorem k15m4 : cG ((⟨#[116]⟩, tX, ()), dN, ()) false (bY ((⟨#[116]⟩, tX, ()), dN, ()) fE) = (0, aKu) := by kernel_rfl
def aKt : aC := [[(⟨#[]⟩ : ByteArray), (⟨#[98]⟩ : ByteArray)], [(⟨#[49]⟩ : ByteArray), (⟨#[97]⟩ : ByteArray)]]
theorem k15o5 : okR ((⟨#[116]⟩, tW, ()), dN, ()) fE = true := by kernel_rfl
theorem k15m5 : cG ((⟨#[116]⟩, tW, ()), dN, ()) false (bY ((⟨#[116]⟩, tW, ()), dN, ()) fE) = (0, aKt) := by kernel_rfl
def wV : List aE := [((4 : Int), (⟨#[]⟩ : ByteArray), ())]
def aFe : List aO := []
def k15A6 : aC := []
theorem k15o6 : okR ((⟨#[116]⟩, wV, ()), aFe, ()) fE = true := by kernel_rfl
theorem k15m6 : cG ((⟨#[116]⟩, wV, ()), aFe, ()) false (bY ((⟨#[116]⟩, wV, ()), aFe, ()) fE) = (111, k15A6) := by kernel_rfl
def wU : List aE := [((4 : Int), (⟨#[]⟩ : ByteArray), ())]
def aIk : List aE := [((3 : Int), (⟨#[99]⟩ : ByteArray), ()), ((2 : Int), (⟨#[]⟩ : ByteArray), ())]
def tU : List aO := [((1 : Int), ((⟨#[101]⟩ : ByteArray), aIk, ()), (0 : Int), ((0 : Int), (⟨#[]⟩ : ByteArray), ()), ((0 : Int), (⟨#[]⟩ : ByteArray), ()), ())]
def k15A7 : aC := []
theorem k15o7 : okR ((⟨#[116]⟩, wU, ()), tU, ()) fE = true := by kernel_rfl
theorem k15m7 : cG ((⟨#[116]⟩, wU, ()), tU, ()) false (bY ((⟨#[116]⟩, wU, ()), tU, ()) fE) = (0, k15A7) := by kernel_rfl
def aA9 : List aE := [((1 : Int), (⟨#[88]⟩ : ByteArray), ())]
def aIj : List aE := [((1 : Int), (⟨#[88]⟩ : ByteArray), ()), ((2 : Int), (⟨#[]⟩ : ByteArray), ())]
def wT : List aO := [((1 : Int), ((⟨#[101]⟩ : ByteArray), aIj, ()), (0 : Int), ((0 : Int), (⟨#[]⟩ : ByteArray), ()), ((0 : Int), (⟨#[]⟩ : ByteArray), ()), ())]
def aKs : aC := [[(⟨#[97]⟩ : ByteArray)], [(⟨#[98]⟩ : ByteArray)]]
theorem k15m8 : cG ((⟨#[116]⟩, aA9, ()), wT, ()) false (bY ((⟨#[116]⟩, aA9, ()), wT, ()) fE) = (0, aKs) := by kernel_rfl
set_option maxHeartbeats 16000000 in
theorem aA4 (w : World) (hN : NumW w) : Calls Tryz.prog 6 #[] w (RetN w fun w' v => v = .bool true) := by
 have HN := qH hN
 clear hN
 go_enter Tryz.func6, Tryz.ntmps6
 go_wp2_with fail
 refine (rC w).mono ?_
 rintro e w1 ⟨vw1, rfl, hkw1, bb, E, SS, rfl, hBv, hCv⟩
 have Xw1 := qH (show Ext w w1 from hkw1)
 clear hkw1
 have HBv := qH (And.intro hBv hCv)
 clear hBv hCv
 go_wp2_with fail
 refine (dG ⟨#[88]⟩ w1).mono ?_
 rintro e w2 ⟨vw2, rfl, hkw2, rfl⟩
 have Xw2 := qH (show Ext w1 w2 from hkw2)
 clear hkw2
 go_wp2_with fail
 refine (dG ⟨#[89]⟩ w2).mono ?_
 rintro e w3 ⟨vw3, rfl, hkw3, rfl⟩
 have Xw3 := qH (show Ext w2 w3 from hkw3)
 clear hkw3
 obtain ⟨w4, ew4⟩ : ∃ x, w3.alloc (.cells #[.int .i64 1, .string ⟨#[88]⟩, .int .i64 1, .string ⟨#[89]⟩] 58) = x := ⟨_, rfl⟩
 have Xw4 := qH (show Ext w3 w4 from by rw [<- ew4]; exact (Kp.refl w3).alloc _)
 have Tw4 := qH (show aQ w4 TT (some ⟨w3.heap.size, 0, none⟩) k15T from by rw [<- ew4]; exact cC w3 k15T (by kernel_rfl))
 go_wp2_with fail
 clear ew4
 refine (iC ⟨#[101]⟩ (some ⟨w3.heap.size, 0, none⟩) 2 2 w4).mono ?_
 rintro e w5 ⟨vw5, rfl, hkw5, rfl⟩
 have Xw5 := qH (show Ext w4 w5 from hkw5)
 clear hkw5
 go_wp2_with fail
 obtain ⟨w6, ew6⟩ : ∃ x, w5.alloc (.cells #[.int .i64 1, .string ⟨#[101]⟩, .slice (some ⟨w3.heap.size, 0, none⟩) 2 2, .int .i64 0, .int .i64 0, .string ⟨#[]⟩, .int .i64 0, .string ⟨#[]⟩] 60) = x := ⟨_, rfl⟩
 have Xw6 := qH (show Ext w5 w6 from by rw [<- ew6]; exact (Kp.refl w5).alloc _)
 rw [ew6]
 have Bw6 := qH (show Blk w6 w5.heap.size [.int .i64 1, .string ⟨#[101]⟩, .slice (some ⟨w3.heap.size, 0, none⟩) 2 2, .int .i64 0, .int .i64 0, .string ⟨#[]⟩, .int .i64 0, .string ⟨#[]⟩] 60 from by rw [<- ew6]; exact Blk.new w5 _ _)
 clear ew6
 refine (aCd w6 (HN.out.ext (Xw1.out.trans (Xw2.out.trans (Xw3.out.trans (Xw4.out.trans (Xw5.out.trans Xw6.out))))))).mono ?_
 rintro e w7 ⟨vw7, rfl, hkw7, rfl⟩
 have Xw7 := qH (show Ext w6 w7 from hkw7)
 clear hkw7
 go_wp2_with fail
 refine (bS ⟨#[48]⟩ ⟨#[48]⟩ (by decide) w7 (HN.out.ext (Xw1.out.trans (Xw2.out.trans (Xw3.out.trans (Xw4.out.trans (Xw5.out.trans (Xw6.out.trans Xw7.out))))))) (by kernel_rfl)).mono ?_
 rintro e w8 ⟨vw8, rfl, hkw8, rfl⟩
 have Xw8 := qH (show Ext w7 w8 from hkw8)
 clear hkw8
 have Zw8 := qH (Xw7.out.trans Xw8.out)
 clear Xw7 Xw8
 go_wp2_with fail
 refine (bS ⟨#[45, 53]⟩ ⟨#[45, 53]⟩ (by decide) w8 (HN.out.ext (Xw1.out.trans (Xw2.out.trans (Xw3.out.trans (Xw4.out.trans (Xw5.out.trans (Xw6.out.trans Zw8.out))))))) (by kernel_rfl)).mono ?_
 rintro e w9 ⟨vw9, rfl, hkw9, rfl⟩
 have Xw9 := qH (show Ext w8 w9 from hkw9)
 clear hkw9
 have Zw9 := qH (Zw8.out.trans Xw9.out)
 clear Zw8 Xw9
 go_wp2_with fail
 refine (bS ⟨#[45, 48]⟩ ⟨#[110, 111]⟩ (by decide) w9 (HN.out.ext (Xw1.out.trans (Xw2.out.trans (Xw3.out.trans (Xw4.out.trans (Xw5.out.trans (Xw6.out.trans Zw9.out))))))) (by kernel_rfl)).mono ?_
 rintro e w10 ⟨vw10, rfl, hkw10, rfl⟩
 have Xw10 := qH (show Ext w9 w10 from hkw10)
 clear hkw10
 have Zw10 := qH (Zw9.out.trans Xw10.out)
 clear Zw9 Xw10
 go_wp2_with fail
 refine (bS ⟨#[48, 55]⟩ ⟨#[110, 111]⟩ (by decide) w10 (HN.out.ext (Xw1.out.trans (Xw2.out.trans (Xw3.out.trans (Xw4.out.trans (Xw5.out.trans (Xw6.out.trans Zw10.out))))))) (by kernel_rfl)).mono ?_
 rintro e w11 ⟨vw11, rfl, hkw11, rfl⟩
 have Xw11 := qH (show Ext w10 w11 from hkw11)
 clear hkw11
 have Zw11 := qH (Zw10.out.trans Xw11.out)
 clear Zw10 Xw11
 go_wp2_with fail
 refine (bS ⟨#[]⟩ ⟨#[110, 111]⟩ (by decide) w11 (HN.out.ext (Xw1.out.trans (Xw2.out.trans (Xw3.out.trans (Xw4.out.trans (Xw5.out.trans (Xw6.out.trans Zw11.out))))))) (by kernel_rfl)).mono ?_
 rintro e w12 ⟨vw12, rfl, hkw12, rfl⟩
 have Xw12 := qH (show Ext w11 w12 from hkw12)
 clear hkw12
 have Zw12 := qH (Zw11.out.trans Xw12.out)
 clear Zw11 Xw12
 go_wp2_with fail
 refine (bS ⟨#[57, 50, 50, 51, 51, 55, 50, 48, 51, 54, 56, 53, 52, 55, 55, 53, 56, 48, 56]⟩ ⟨#[110, 111]⟩ (by decide) w12 (HN.out.ext (Xw1.out.trans (Xw2.out.trans (Xw3.out.trans (Xw4.out.trans (Xw5.out.trans (Xw6.out.trans Zw12.out))))))) (by kernel_rfl)).mono ?_
 rintro e w13 ⟨vw13, rfl, hkw13, rfl⟩
 have Xw13 := qH (show Ext w12 w13 from hkw13)
 clear hkw13
 have Zw13 := qH (Zw12.out.trans Xw13.out)
 clear Zw12 Xw13
 go_wp2_with fail
 refine (bS ⟨#[45, 57, 50, 50, 51, 51, 55, 50, 48, 51, 54, 56, 53, 52, 55, 55, 53, 56, 48, 56]⟩ ⟨#[45, 57, 50, 50, 51, 51, 55, 50, 48, 51, 54, 56, 53, 52, 55, 55, 53, 56, 48, 56]⟩ (by decide) w13 (HN.out.ext (Xw1.out.trans (Xw2.out.trans (Xw3.out.trans (Xw4.out.trans (Xw5.out.trans (Xw6.out.trans Zw13.out))))))) (by kernel_rfl)).mono ?_
 rintro e w14 ⟨vw14, rfl, hkw14, rfl⟩
 have Xw14 := qH (show Ext w13 w14 from hkw14)
 clear hkw14
 have Zw14 := qH (Zw13.out.trans Xw14.out)
 clear Zw13 Xw14
 go_wp2_with fail
 refine (bS ⟨#[57, 50, 50, 51, 51, 55, 50, 48, 51, 54, 56, 53, 52, 55, 55, 53, 56, 48, 55]⟩ ⟨#[57, 50, 50, 51, 51, 55, 50, 48, 51, 54, 56, 53, 52, 55, 55, 53, 56, 48, 55]⟩ (by decide) w14 (HN.out.ext (Xw1.out.trans (Xw2.out.trans (Xw3.out.trans (Xw4.out.trans (Xw5.out.trans (Xw6.out.trans Zw14.out))))))) (by kernel_rfl)).mono ?_
 rintro e w15 ⟨vw15, rfl, hkw15, rfl⟩
 have Xw15 := qH (show Ext w14 w15 from hkw15)
 clear hkw15
 have Zw15 := qH (Zw14.out.trans Xw15.out)
 clear Zw14 Xw15
 go_wp2_with fail
 refine (bS ⟨#[43, 49]⟩ ⟨#[110, 111]⟩ (by decide) w15 (HN.out.ext (Xw1.out.trans (Xw2.out.trans (Xw3.out.trans (Xw4.out.trans (Xw5.out.trans (Xw6.out.trans Zw15.out))))))) (by kernel_rfl)).mono ?_
 rintro e w16 ⟨vw16, rfl, hkw16, rfl⟩
 have Xw16 := qH (show Ext w15 w16 from hkw16)
 clear hkw16
 have Zw16 := qH (Zw15.out.trans Xw16.out)
 clear Zw15 Xw16
 go_wp2_with fail
 refine (bS ⟨#[49, 32]⟩ ⟨#[110, 111]⟩ (by decide) w16 (HN.out.ext (Xw1.out.trans (Xw2.out.trans (Xw3.out.trans (Xw4.out.trans (Xw5.out.trans (Xw6.out.trans Zw16.out))))))) (by kernel_rfl)).mono ?_
 rintro e w17 ⟨vw17, rfl, hkw17, rfl⟩
 have Xw17 := qH (show Ext w16 w17 from hkw17)
 clear hkw17
 have Zw17 := qH (Zw16.out.trans Xw17.out)
 clear Zw16 Xw17
 go_wp2_with fail
 refine (bS ⟨#[45, 57, 50, 50, 51, 51, 55, 50, 48, 51, 54, 56, 53, 52, 55, 55, 53, 56, 48, 57]⟩ ⟨#[110, 111]⟩ (by decide) w17 (HN.out.ext (Xw1.out.trans (Xw2.out.trans (Xw3.out.trans (Xw4.out.trans (Xw5.out.trans (Xw6.out.trans Zw17.out))))))) (by kernel_rfl)).mono ?_
 rintro e w18 ⟨vw18, rfl, hkw18, rfl⟩
 have Xw18 := qH (show Ext w17 w18 from hkw18)
 clear hkw18
 have Zw18 := qH (Zw17.out.trans Xw18.out)
 clear Zw17 Xw18
 obtain ⟨w19, ew19⟩ : ∃ x, w18.alloc (.cells #[.int .i64 4, .string ⟨#[]⟩] 58) = x := ⟨_, rfl⟩
 have Xw19 := qH (show Ext w18 w19 from by rw [<- ew19]; exact (Kp.refl w18).alloc _)
 have Tw19 := qH (show aQ w19 TT (some ⟨w18.heap.size, 0, none⟩) wW from by rw [<- ew19]; exact cC w18 wW (by kernel_rfl))
 obtain ⟨w20, ew20⟩ : ∃ x, w19.alloc (.cells #[.int .i64 2, .string ⟨#[]⟩, .int .i64 2, .string ⟨#[]⟩] 58) = x := ⟨_, rfl⟩
 have Xw20 := qH (show Ext w19 w20 from by rw [<- ew20]; exact (Kp.refl w19).alloc _)
 have Tw20 := qH (show aQ w20 TT (some ⟨w19.heap.size, 0, none⟩) aIl from by rw [<- ew20]; exact cC w19 aIl (by kernel_rfl))
 go_wp2_with fail
 clear ew19 ew20
 refine (iC ⟨#[101]⟩ (some ⟨w19.heap.size, 0, none⟩) 2 2 w20).mono ?_
 rintro e w21 ⟨vw21, rfl, hkw21, rfl⟩
 have Xw21 := qH (show Ext w20 w21 from hkw21)
 clear hkw21
 obtain ⟨w22, ew22⟩ : ∃ x, w21.alloc (.cells #[.int .i64 1, .string ⟨#[101]⟩, .slice (some ⟨w19.heap.size, 0, none⟩) 2 2, .int .i64 0, .int .i64 0, .string ⟨#[]⟩, .int .i64 0, .string ⟨#[]⟩] 60) = x := ⟨_, rfl⟩
 have Xw22 := qH (show Ext w21 w22 from by rw [<- ew22]; exact (Kp.refl w21).alloc _)
 have Lw22 := qH (show bQ w22 TT (some ⟨w21.heap.size, 0, none⟩) tV from by
  rw [<- ew22]
  refine gH w21 tV [(some ⟨w19.heap.size, 0, none⟩, 2)] rfl (by kernel_rfl) fun x hx => ?_
  unfold tV at hx
  simp only [List.zip_cons_cons, List.zip_nil_right, List.mem_cons, List.not_mem_nil, or_false] at hx
  rcases hx with rfl
  ·exact ⟨(Tw20.out.ext Xw21.out), Nat.le_refl _, (by decide : 2 ≤ maxLen)⟩)
 go_wp2_with fail
 clear ew22
 refine (cV (some ⟨w18.heap.size, 0, none⟩) (some ⟨w21.heap.size, 0, none⟩) 1 1 1 1 w22).mono ?_
 rintro e w23 ⟨vw23, rfl, hkw23, rfl⟩
 have Xw23 := qH (show Ext w22 w23 from hkw23)
 clear hkw23
 obtain ⟨w24, ew24⟩ : ∃ x, w23.alloc (.cells #[.string ⟨#[49]⟩] 9) = x := ⟨_, rfl⟩
 have Xw24 := qH (show Ext w23 w24 from by rw [<- ew24]; exact (Kp.refl w23).alloc _)
 have Bw24 := qH (show Blk w24 w23.heap.size [.string ⟨#[49]⟩] 9 from by rw [<- ew24]; exact Blk.new w23 _ _)
 obtain ⟨w25, ew25⟩ : ∃ x, w24.alloc (.cells #[.slice (some ⟨w23.heap.size, 0, none⟩) 1 1] 66) = x := ⟨_, rfl⟩
 have Xw25 := qH (show Ext w24 w25 from by rw [<- ew25]; exact (Kp.refl w24).alloc _)
 have Rw25 := qH (show RowsIn TT w25 (some ⟨w24.heap.size, 0, none⟩) aKw from dU (l := [(w23.heap.size, [(⟨#[49]⟩ : ByteArray)])]) rfl (show Blk w25 w24.heap.size [.slice (some ⟨w23.heap.size, 0, none⟩) 1 1] 66 from by rw [<- ew25]; exact Blk.new w24 _ _) (fun x hx => by
  simp only [List.mem_cons, List.not_mem_nil, or_false] at hx
  rcases hx with rfl
  ·exact ⟨Bw24.out.ext Xw25.out, by simp⟩))
 go_wp2_with fail
 clear ew24 ew25
 refine (isK (hs := wW) (ls := tV) (ha := some ⟨w18.heap.size, 0, none⟩) (ba := some ⟨w21.heap.size, 0, none⟩) (hn := 1) (hcap := 1) (n := 1) (bcap := 1) rfl (Tw19.out.ext (Xw20.out.trans (Xw21.out.trans (Xw22.out.trans (Xw23.out.trans (Xw24.out.trans Xw25.out)))))) rfl (Lw22.out.ext (Xw23.out.trans (Xw24.out.trans Xw25.out))) (by kernel_rfl) (HBv.out.1.ext (Xw2.out.trans (Xw3.out.trans (Xw4.out.trans (Xw5.out.trans (Xw6.out.trans (Zw18.out.trans (Xw19.out.trans (Xw20.out.trans (Xw21.out.trans (Xw22.out.trans (Xw23.out.trans (Xw24.out.trans Xw25.out))))))))))))) HBv.out.2 (HN.out.ext (Xw1.out.trans (Xw2.out.trans (Xw3.out.trans (Xw4.out.trans (Xw5.out.trans (Xw6.out.trans (Zw18.out.trans (Xw19.out.trans (Xw20.out.trans (Xw21.out.trans (Xw22.out.trans (Xw23.out.trans (Xw24.out.trans Xw25.out)))))))))))))) (fun _ => k15o1) k15m1 (by decide) (some ⟨w24.heap.size, 0, none⟩) rfl (Rw25.out.ext (Kp.refl w25))).mono ?_
 rintro e w26 ⟨vw26, rfl, hkw26, rfl⟩
 have Xw26 := qH (show Ext w25 w26 from hkw26)
 clear hkw26
 have Zw26 := qH (Zw18.out.trans (Xw19.out.trans (Xw20.out.trans (Xw21.out.trans (Xw22.out.trans (Xw23.out.trans (Xw24.out.trans (Xw25.out.trans Xw26.out))))))))
 clear Zw18 Xw19 Xw20 Xw21 Xw22 Xw23 Xw24 Xw25 Xw26
 go_wp2_with fail
 refine mK (P := Tryz.prog) [vEq (.agg #[.int .i64 1, .string ⟨#[88]⟩]), vEq (.agg #[.int .i64 5, .string ⟨#[89]⟩]), vT 2 jF, vEq (.agg #[.int .i64 1, .string ⟨#[101]⟩, .slice (some ⟨w3.heap.size, 0, none⟩) 2 2, .int .i64 0, .int .i64 0, .string ⟨#[]⟩, .int .i64 0, .string ⟨#[]⟩]), vL 1 dN, vR 2 jF 1 dN, vEq (.pointer (some ⟨bb, 0, none⟩)), vEq (.tuple #[.slice none 0 0, .int .i64 150]), vEq (.tuple #[.slice none 0 0, .int .i64 150]), vEq (.slice none 0 0), vEq (.int .i64 150), vEq (.slice none 0 0), vEq (.int .i64 150)] 172 (by kernel_rfl) (by kernel_rfl) rfl rfl (fun i hi => ?_) (fun t w27 hz hx hv hb => ?_)
 ·match i, hi with
  | 0, _ =>
   refine aI rfl rfl fun u W hx hd hb K hK => ?_
   go_simp
   refine (dG ⟨#[88]⟩ W).mono ?_
   rintro e W2 ⟨v, rfl, hk, rfl⟩
   go_wp2_with fail
   exact hK.out _ _ hk rfl
  | 1, _ =>
   refine aI rfl rfl fun u W hx hd hb K hK => ?_
   go_simp
   exact hK.out _ _ (Kp.refl _) rfl
  | 2, _ =>
   refine aI rfl rfl fun u W hx hd hb K hK => ?_
   rw [show u 73 = .agg #[.int .i64 1, .string ⟨#[88]⟩] from hd 0 73 _ (by kernel_rfl) rfl] at hK ⊢
   rw [show u 74 = .agg #[.int .i64 5, .string ⟨#[89]⟩] from hd 1 74 _ (by kernel_rfl) rfl] at hK ⊢
   go_simp
   refine hK.out _ _ ((Kp.refl W).alloc _) ?_
   exact ⟨_, rfl, cC W jF (by kernel_rfl)⟩
  | 3, _ =>
   refine aI rfl rfl fun u W hx hd hb K hK => ?_
   rw [show u 2 = .pointer (some ⟨w5.heap.size, 0, none⟩) from hb 2 (by kernel_rfl)] at hK ⊢
   have q0 : W.cell? ⟨w5.heap.size, 0, none⟩ = some (.int .i64 1) := by rw [(Bw6.out.ext (Zw26.out.trans hx)).cell']; rfl
   have q1 : W.cell? ⟨w5.heap.size, 1, none⟩ = some (.string ⟨#[101]⟩) := by rw [(Bw6.out.ext (Zw26.out.trans hx)).cell']; rfl
   have q2 : W.cell? ⟨w5.heap.size, 2, none⟩ = some (.slice (some ⟨w3.heap.size, 0, none⟩) 2 2) := by rw [(Bw6.out.ext (Zw26.out.trans hx)).cell']; rfl
   have q3 : W.cell? ⟨w5.heap.size, 3, none⟩ = some (.int .i64 0) := by rw [(Bw6.out.ext (Zw26.out.trans hx)).cell']; rfl
   have q4 : W.cell? ⟨w5.heap.size, 4, none⟩ = some (.int .i64 0) := by rw [(Bw6.out.ext (Zw26.out.trans hx)).cell']; rfl
   have q5 : W.cell? ⟨w5.heap.size, 5, none⟩ = some (.string ⟨#[]⟩) := by rw [(Bw6.out.ext (Zw26.out.trans hx)).cell']; rfl
   have q6 : W.cell? ⟨w5.heap.size, 6, none⟩ = some (.int .i64 0) := by rw [(Bw6.out.ext (Zw26.out.trans hx)).cell']; rfl
   have q7 : W.cell? ⟨w5.heap.size, 7, none⟩ = some (.string ⟨#[]⟩) := by rw [(Bw6.out.ext (Zw26.out.trans hx)).cell']; rfl
   go_simp
   exact hK.out _ _ (Kp.refl _) rfl
  | 4, _ =>
   refine aI rfl rfl fun u W hx hd hb K hK => ?_
   rw [show u 76 = .agg #[.int .i64 1, .string ⟨#[101]⟩, .slice (some ⟨w3.heap.size, 0, none⟩) 2 2, .int .i64 0, .int .i64 0, .string ⟨#[]⟩, .int .i64 0, .string ⟨#[]⟩] from hd 3 76 _ (by kernel_rfl) rfl] at hK ⊢
   go_simp
   refine hK.out _ _ ((Kp.refl W).alloc _) ?_
   refine ⟨_, rfl, gH W dN [(some ⟨w3.heap.size, 0, none⟩, 2)] rfl (by kernel_rfl) fun x h => ?_⟩
   unfold dN at h
   simp only [List.zip_cons_cons, List.zip_nil_right, List.mem_cons, List.not_mem_nil, or_false] at h
   rcases h with rfl
   ·exact ⟨Tw4.out.ext ((Xw5.out.trans (Xw6.out.trans Zw26.out)).trans hx), Nat.le_refl _, (by decide : 2 ≤ maxLen)⟩
  | 5, _ =>
   refine aI rfl rfl fun u W hx hd hb K hK => ?_
   obtain ⟨g1, e1, h1⟩ := hd 2 75 _ (by kernel_rfl) rfl
   obtain ⟨g2, e2, h2⟩ := hd 4 77 _ (by kernel_rfl) rfl
   rw [e1, e2] at hK ⊢
   go_simp
   refine (cV (some ⟨g1, 0, none⟩) (some ⟨g2, 0, none⟩) 2 2 1 1 W).mono ?_
   rintro e W2 ⟨v, rfl, hk, rfl⟩
   go_wp2_with fail
   exact hK.out _ _ hk ⟨g1, g2, rfl, h1.ext hk, h2.ext hk⟩
  | 6, _ =>
   refine aI rfl rfl fun u W hx hd hb K hK => ?_
   rw [show u 1 = .pointer (some ⟨bb, 0, none⟩) from hb 1 (by kernel_rfl)] at hK ⊢
   go_simp
   exact hK.out _ _ (Kp.refl _) rfl
  | 7, _ =>
   refine aI rfl rfl fun u W hx hd hb K hK => ?_
   obtain ⟨g1, g2, e1, h1, h2⟩ := hd 5 78 _ (by kernel_rfl) rfl
   rw [e1] at hK ⊢
   rw [show u 79 = .pointer (some ⟨bb, 0, none⟩) from hd 6 79 _ (by kernel_rfl) rfl] at hK ⊢
   go_simp
   refine (aD4 (hs := jF) (ls := dN) (ha := some ⟨g1, 0, none⟩) (ba := some ⟨g2, 0, none⟩) (hn := 2) (hcap := 2) (n := 1) (bcap := 1) rfl h1 rfl h2 (by kernel_rfl) (HBv.out.1.ext ((Xw2.out.trans (Xw3.out.trans (Xw4.out.trans (Xw5.out.trans (Xw6.out.trans Zw26.out))))).trans hx)) HBv.out.2 (HN.out.ext ((Xw1.out.trans (Xw2.out.trans (Xw3.out.trans (Xw4.out.trans (Xw5.out.trans (Xw6.out.trans Zw26.out)))))).trans hx)) (fun _ => k15o2) k15m2 (by decide) 150 rfl).mono ?_
   rintro e W2 ⟨v, rfl, hk, rfl⟩
   go_wp2_with fail
   exact hK.out _ _ hk rfl
  | 8, _ =>
   refine aI rfl rfl fun u W hx hd hb K hK => ?_
   rw [show u 80 = .tuple #[.slice none 0 0, .int .i64 150] from hd 7 80 _ (by kernel_rfl) rfl] at hK ⊢
   go_simp
   exact hK.out _ _ (Kp.refl _) rfl
  | 9, _ =>
   refine aI rfl rfl fun u W hx hd hb K hK => ?_
   rw [show u 72 = .tuple #[.slice none 0 0, .int .i64 150] from hd 8 72 _ (by kernel_rfl) rfl] at hK ⊢
   go_simp
   exact hK.out _ _ (Kp.refl _) rfl
  | 10, _ =>
   refine aI rfl rfl fun u W hx hd hb K hK => ?_
   rw [show u 72 = .tuple #[.slice none 0 0, .int .i64 150] from hd 8 72 _ (by kernel_rfl) rfl] at hK ⊢
   go_simp
   exact hK.out _ _ (Kp.refl _) rfl
  | 11, _ =>
   refine aI rfl rfl fun u W hx hd hb K hK => ?_
   rw [show u 81 = .slice none 0 0 from hd 9 81 _ (by kernel_rfl) rfl] at hK ⊢
   go_simp
   exact hK.out _ _ (Kp.refl _) rfl
  | 12, _ =>
   refine aI rfl rfl fun u W hx hd hb K hK => ?_
   rw [show u 82 = .int .i64 150 from hd 10 82 _ (by kernel_rfl) rfl] at hK ⊢
   go_simp
   exact hK.out _ _ (Kp.refl _) rfl
  | n + 13, h => exact absurd h (by simp)
 have Xw27 := qH (show Ext w26 w27 from hx)
 obtain ⟨u, hu, rfl⟩ := yU t hz
 rw [show u 1 = .pointer (some ⟨bb, 0, none⟩) from (hu 1).symm.trans (hb 1 (by kernel_rfl))]
 rw [show u 2 = .pointer (some ⟨w5.heap.size, 0, none⟩) from (hu 2).symm.trans (hb 2 (by kernel_rfl))]
 rw [show u 4 = .int .i64 150 from (hu 4).symm.trans (hv 12 _ 4 _ rfl rfl rfl)]
 clear hx hv hb hu hz
 go_wp2_with fail
 refine (dG ⟨#[89]⟩ w27).mono ?_
 rintro e w28 ⟨vw28, rfl, hkw28, rfl⟩
 have Xw28 := qH (show Ext w27 w28 from hkw28)
 clear hkw28
 have Zw28 := qH (Zw26.out.trans (Xw27.out.trans Xw28.out))
 clear Zw26 Xw27 Xw28
 go_wp2_with fail
 obtain ⟨w29, ew29⟩ : ∃ x, w28.alloc (.cells #[.int .i64 3, .string ⟨#[]⟩, .slice none 0 0, .int .i64 2, .int .i64 1, .string ⟨#[89]⟩, .int .i64 3, .string ⟨#[]⟩] 60) = x := ⟨_, rfl⟩
 have Xw29 := qH (show Ext w28 w29 from by rw [<- ew29]; exact (Kp.refl w28).alloc _)
 rw [ew29]
 have Bw29 := qH (show Blk w29 w28.heap.size [.int .i64 3, .string ⟨#[]⟩, .slice none 0 0, .int .i64 2, .int .i64 1, .string ⟨#[89]⟩, .int .i64 3, .string ⟨#[]⟩] 60 from by rw [<- ew29]; exact Blk.new w28 _ _)
 clear ew29
 go_wp2_with fail
 refine mK (P := Tryz.prog) [vEq (.int .i64 150), vEq (.bool false), vEq (.bool false), vEq (.agg #[.int .i64 1, .string ⟨#[88]⟩]), vEq (.agg #[.int .i64 5, .string ⟨#[89]⟩]), vT 2 jF, vEq (.agg #[.int .i64 1, .string ⟨#[101]⟩, .slice (some ⟨w3.heap.size, 0, none⟩) 2 2, .int .i64 0, .int .i64 0, .string ⟨#[]⟩, .int .i64 0, .string ⟨#[]⟩]), vEq (.agg #[.int .i64 3, .string ⟨#[]⟩, .slice none 0 0, .int .i64 2, .int .i64 1, .string ⟨#[89]⟩, .int .i64 3, .string ⟨#[]⟩]), vL 2 rA, vR 2 jF 2 rA, vEq (.pointer (some ⟨bb, 0, none⟩)), vS [(⟨#[97]⟩ : ByteArray), (⟨#[50, 48]⟩ : ByteArray)], vS [(⟨#[98]⟩ : ByteArray), (⟨#[57]⟩ : ByteArray)], vW 2 aKv, vEq (.bool true), vEq (.bool false), vEq (.bool false)] 172 (by kernel_rfl) (by kernel_rfl) rfl rfl (fun i hi => ?_) (fun t w30 hz hx hv hb => ?_)
 ·match i, hi with
  | 0, _ =>
   refine aI rfl rfl fun u W hx hd hb K hK => ?_
   rw [show u 4 = .int .i64 150 from hb 4 (by kernel_rfl)] at hK ⊢
   go_simp
   exact hK.out _ _ (Kp.refl _) rfl
  | 1, _ =>
   refine aI rfl rfl fun u W hx hd hb K hK => ?_
   rw [show u 86 = .int .i64 150 from hd 0 86 _ (by kernel_rfl) rfl] at hK ⊢
   go_simp
   exact hK.out _ _ (Kp.refl _) rfl
  | 2, _ =>
   refine aI rfl rfl fun u W hx hd hb K hK => ?_
   rw [show u 87 = .bool false from hd 1 87 _ (by kernel_rfl) rfl] at hK ⊢
   go_simp
   exact hK.out _ _ (Kp.refl _) rfl
  | 3, _ =>
   refine aI rfl rfl fun u W hx hd hb K hK => ?_
   rw [show u 88 = .bool false from hd 2 88 _ (by kernel_rfl) rfl] at hK ⊢
   go_simp
   refine (dG ⟨#[88]⟩ W).mono ?_
   rintro e W2 ⟨v, rfl, hk, rfl⟩
   go_wp2_with fail
   exact hK.out _ _ hk rfl
  | 4, _ =>
   refine aI rfl rfl fun u W hx hd hb K hK => ?_
   rw [show u 88 = .bool false from hd 2 88 _ (by kernel_rfl) rfl] at hK ⊢
   go_simp
   exact hK.out _ _ (Kp.refl _) rfl
  | 5, _ =>
   refine aI rfl rfl fun u W hx hd hb K hK => ?_
   rw [show u 88 = .bool false from hd 2 88 _ (by kernel_rfl) rfl] at hK ⊢
   rw [show u 89 = .agg #[.int .i64 1, .string ⟨#[88]⟩] from hd 3 89 _ (by kernel_rfl) rfl] at hK ⊢
   rw [show u 90 = .agg #[.int .i64 5, .string ⟨#[89]⟩] from hd 4 90 _ (by kernel_rfl) rfl] at hK ⊢
   go_simp
   refine hK.out _ _ ((Kp.refl W).alloc _) ?_
   exact ⟨_, rfl, cC W jF (by kernel_rfl)⟩
  | 6, _ =>
   refine aI rfl rfl fun u W hx hd hb K hK => ?_
   rw [show u 88 = .bool false from hd 2 88 _ (by kernel_rfl) rfl] at hK ⊢
   rw [show u 2 = .pointer (some ⟨w5.heap.size, 0, none⟩) from hb 2 (by kernel_rfl)] at hK ⊢
   have q0 : W.cell? ⟨w5.heap.size, 0, none⟩ = some (.int .i64 1) := by rw [(Bw6.out.ext ((Zw28.out.trans Xw29.out).trans hx)).cell']; rfl
   have q1 : W.cell? ⟨w5.heap.size, 1, none⟩ = some (.string ⟨#[101]⟩) := by rw [(Bw6.out.ext ((Zw28.out.trans Xw29.out).trans hx)).cell']; rfl
   have q2 : W.cell? ⟨w5.heap.size, 2, none⟩ = some (.slice (some ⟨w3.heap.size, 0, none⟩) 2 2) := by rw [(Bw6.out.ext ((Zw28.out.trans Xw29.out).trans hx)).cell']; rfl
   have q3 : W.cell? ⟨w5.heap.size, 3, none⟩ = some (.int .i64 0) := by rw [(Bw6.out.ext ((Zw28.out.trans Xw29.out).trans hx)).cell']; rfl
   have q4 : W.cell? ⟨w5.heap.size, 4, none⟩ = some (.int .i64 0) := by rw [(Bw6.out.ext ((Zw28.out.trans Xw29.out).trans hx)).cell']; rfl
   have q5 : W.cell? ⟨w5.heap.size, 5, none⟩ = some (.string ⟨#[]⟩) := by rw [(Bw6.out.ext ((Zw28.out.trans Xw29.out).trans hx)).cell']; rfl
   have q6 : W.cell? ⟨w5.heap.size, 6, none⟩ = some (.int .i64 0) := by rw [(Bw6.out.ext ((Zw28.out.trans Xw29.out).trans hx)).cell']; rfl
   have q7 : W.cell? ⟨w5.heap.size, 7, none⟩ = some (.string ⟨#[]⟩) := by rw [(Bw6.out.ext ((Zw28.out.trans Xw29.out).trans hx)).cell']; rfl
   go_simp
   exact hK.out _ _ (Kp.refl _) rfl
  | 7, _ =>
   refine aI rfl rfl fun u W hx hd hb K hK => ?_
   rw [show u 88 = .bool false from hd 2 88 _ (by kernel_rfl) rfl] at hK ⊢
   rw [show u 5 = .pointer (some ⟨w28.heap.size, 0, none⟩) from hb 5 (by kernel_rfl)] at hK ⊢
   have q0 : W.cell? ⟨w28.heap.size, 0, none⟩ = some (.int .i64 3) := by rw [(Bw29.out.ext ((Kp.refl w29).trans hx)).cell']; rfl
   have q1 : W.cell? ⟨w28.heap.size, 1, none⟩ = some (.string ⟨#[]⟩) := by rw [(Bw29.out.ext ((Kp.refl w29).trans hx)).cell']; rfl
   have q2 : W.cell? ⟨w28.heap.size, 2, none⟩ = some (.slice none 0 0) := by rw [(Bw29.out.ext ((Kp.refl w29).trans hx)).cell']; rfl
   have q3 : W.cell? ⟨w28.heap.size, 3, none⟩ = some (.int .i64 2) := by rw [(Bw29.out.ext ((Kp.refl w29).trans hx)).cell']; rfl
   have q4 : W.cell? ⟨w28.heap.size, 4, none⟩ = some (.int .i64 1) := by rw [(Bw29.out.ext ((Kp.refl w29).trans hx)).cell']; rfl
   have q5 : W.cell? ⟨w28.heap.size, 5, none⟩ = some (.string ⟨#[89]⟩) := by rw [(Bw29.out.ext ((Kp.refl w29).trans hx)).cell']; rfl
   have q6 : W.cell? ⟨w28.heap.size, 6, none⟩ = some (.int .i64 3) := by rw [(Bw29.out.ext ((Kp.refl w29).trans hx)).cell']; rfl
   have q7 : W.cell? ⟨w28.heap.size, 7, none⟩ = some (.string ⟨#[]⟩) := by rw [(Bw29.out.ext ((Kp.refl w29).trans hx)).cell']; rfl
   go_simp
   exact hK.out _ _ (Kp.refl _) rfl
  | 8, _ =>
   refine aI rfl rfl fun u W hx hd hb K hK => ?_
   rw [show u 88 = .bool false from hd 2 88 _ (by kernel_rfl) rfl] at hK ⊢
   rw [show u 92 = .agg #[.int .i64 1, .string ⟨#[101]⟩, .slice (some ⟨w3.heap.size, 0, none⟩) 2 2, .int .i64 0, .int .i64 0, .string ⟨#[]⟩, .int .i64 0, .string ⟨#[]⟩] from hd 6 92 _ (by kernel_rfl) rfl] at hK ⊢
   rw [show u 93 = .agg #[.int .i64 3, .string ⟨#[]⟩, .slice none 0 0, .int .i64 2, .int .i64 1, .string ⟨#[89]⟩, .int .i64 3, .string ⟨#[]⟩] from hd 7 93 _ (by kernel_rfl) rfl] at hK ⊢
   go_simp
   refine hK.out _ _ ((Kp.refl W).alloc _) ?_
   refine ⟨_, rfl, gH W rA [(some ⟨w3.heap.size, 0, none⟩, 2), (none, 0)] rfl (by kernel_rfl) fun x h => ?_⟩
   unfold rA at h
   simp only [List.zip_cons_cons, List.zip_nil_right, List.mem_cons, List.not_mem_nil, or_false] at h
   rcases h with rfl | rfl
   ·exact ⟨Tw4.out.ext ((Xw5.out.trans (Xw6.out.trans (Zw28.out.trans Xw29.out))).trans hx), Nat.le_refl _, (by decide : 2 ≤ maxLen)⟩
   ·exact ⟨aFq W none, Nat.le_refl _, (by decide : 0 ≤ maxLen)⟩
  | 9, _ =>
   refine aI rfl rfl fun u W hx hd hb K hK => ?_
   rw [show u 88 = .bool false from hd 2 88 _ (by kernel_rfl) rfl] at hK ⊢
   obtain ⟨g1, e1, h1⟩ := hd 5 91 _ (by kernel_rfl) rfl
   obtain ⟨g2, e2, h2⟩ := hd 8 94 _ (by kernel_rfl) rfl
   rw [e1, e2] at hK ⊢
   go_simp
   refine (cV (some ⟨g1, 0, none⟩) (some ⟨g2, 0, none⟩) 2 2 2 2 W).mono ?_
   rintro e W2 ⟨v, rfl, hk, rfl⟩
   go_wp2_with fail
   exact hK.out _ _ hk ⟨g1, g2, rfl, h1.ext hk, h2.ext hk⟩
  | 10, _ =>
   refine aI rfl rfl fun u W hx hd hb K hK => ?_
   rw [show u 88 = .bool false from hd 2 88 _ (by kernel_rfl) rfl] at hK ⊢
   rw [show u 1 = .pointer (some ⟨bb, 0, none⟩) from hb 1 (by kernel_rfl)] at hK ⊢
   go_simp
   exact hK.out _ _ (Kp.refl _) rfl
  | 11, _ =>
   refine aI rfl rfl fun u W hx hd hb K hK => ?_
   rw [show u 88 = .bool false from hd 2 88 _ (by kernel_rfl) rfl] at hK ⊢
   go_simp
   refine hK.out _ _ ((Kp.refl W).alloc _) ?_
   exact ⟨_, rfl, Blk.new W [.string ⟨#[97]⟩, .string ⟨#[50, 48]⟩] 9⟩
  | 12, _ =>
   refine aI rfl rfl fun u W hx hd hb K hK => ?_
   rw [show u 88 = .bool false from hd 2 88 _ (by kernel_rfl) rfl] at hK ⊢
   go_simp
   refine hK.out _ _ ((Kp.refl W).alloc _) ?_
   exact ⟨_, rfl, Blk.new W [.string ⟨#[98]⟩, .string ⟨#[57]⟩] 9⟩
  | 13, _ =>
   refine aI rfl rfl fun u W hx hd hb K hK => ?_
   rw [show u 88 = .bool false from hd 2 88 _ (by kernel_rfl) rfl] at hK ⊢
   obtain ⟨g1, e1, h1⟩ := hd 11 97 _ (by kernel_rfl) rfl
   obtain ⟨g2, e2, h2⟩ := hd 12 98 _ (by kernel_rfl) rfl
   rw [e1, e2] at hK ⊢
   go_simp
   refine hK.out _ _ ((Kp.refl W).alloc _) ?_
   refine ⟨_, rfl, dU (l := [(g1, [(⟨#[97]⟩ : ByteArray), (⟨#[50, 48]⟩ : ByteArray)]), (g2, [(⟨#[98]⟩ : ByteArray), (⟨#[57]⟩ : ByteArray)])]) rfl (Blk.new W [.slice (some ⟨g1, 0, none⟩) 2 2, .slice (some ⟨g2, 0, none⟩) 2 2] 66) fun x h => ?_⟩
   simp only [List.mem_cons, List.not_mem_nil, or_false] at h
   rcases h with rfl | rfl
   ·exact ⟨h1.ext ((Kp.refl W).alloc _), by simp⟩
   ·exact ⟨h2.ext ((Kp.refl W).alloc _), by simp⟩
  | 14, _ =>
   refine aI rfl rfl fun u W hx hd hb K hK => ?_
   rw [show u 88 = .bool false from hd 2 88 _ (by kernel_rfl) rfl] at hK ⊢
   obtain ⟨g1, g2, e1, h1, h2⟩ := hd 9 95 _ (by kernel_rfl) rfl
   obtain ⟨g3, e3, h3⟩ := hd 13 99 _ (by kernel_rfl) rfl
   rw [e1, e3] at hK ⊢
   rw [show u 96 = .pointer (some ⟨bb, 0, none⟩) from hd 10 96 _ (by kernel_rfl) rfl] at hK ⊢
   go_simp
   refine (isK (hs := jF) (ls := rA) (ha := some ⟨g1, 0, none⟩) (ba := some ⟨g2, 0, none⟩) (hn := 2) (hcap := 2) (n := 2) (bcap := 2) rfl h1 rfl h2 (by kernel_rfl) (HBv.out.1.ext ((Xw2.out.trans (Xw3.out.trans (Xw4.out.trans (Xw5.out.trans (Xw6.out.trans (Zw28.out.trans Xw29.out)))))).trans hx)) HBv.out.2 (HN.out.ext ((Xw1.out.trans (Xw2.out.trans (Xw3.out.trans (Xw4.out.trans (Xw5.out.trans (Xw6.out.trans (Zw28.out.trans Xw29.out))))))).trans hx)) (fun _ => k15o3) k15m3 (by decide) (some ⟨g3, 0, none⟩) rfl h3).mono ?_
   rintro e W2 ⟨v, rfl, hk, rfl⟩
   go_wp2_with fail
   exact hK.out _ _ hk rfl
  | 15, _ =>
   refine aI rfl rfl fun u W hx hd hb K hK => ?_
   rw [show u 88 = .bool false from hd 2 88 _ (by kernel_rfl) rfl] at hK ⊢
   rw [show u 100 = .bool true from hd 14 100 _ (by kernel_rfl) rfl] at hK ⊢
   go_simp
   exact hK.out _ _ (Kp.refl _) rfl
  | 16, _ =>
   refine aI rfl rfl fun u W hx hd hb K hK => ?_
   rw [show u 88 = .bool false from hd 2 88 _ (by kernel_rfl) rfl] at hK ⊢
   rw [show u 101 = .bool false from hd 15 101 _ (by kernel_rfl) rfl] at hK ⊢
   go_simp
   exact hK.out _ _ (Kp.refl _) rfl
  | n + 17, h => exact absurd h (by simp)
 have Xw30 := qH (show Ext w29 w30 from hx)
 obtain ⟨u, hu, rfl⟩ := yU t hz
 rw [show u 1 = .pointer (some ⟨bb, 0, none⟩) from (hu 1).symm.trans (hb 1 (by kernel_rfl))]
 rw [show u 2 = .pointer (some ⟨w5.heap.size, 0, none⟩) from (hu 2).symm.trans (hb 2 (by kernel_rfl))]
 rw [show u 102 = .bool false from (hu 102).symm.trans (hv 16 _ 102 _ rfl rfl rfl)]
 clear hx hv hb hu hz
 have Zw30 := qH (Zw28.out.trans (Xw29.out.trans Xw30.out))
 clear Zw28 Xw29 Xw30
 go_wp2_with fail
 refine mK (P := Tryz.prog) [vEq (.agg #[.int .i64 7, .string ⟨#[89]⟩]), vEq (.agg #[.int .i64 1, .string ⟨#[88]⟩]), vT 2 tX, vEq (.agg #[.int .i64 1, .string ⟨#[101]⟩, .slice (some ⟨w3.heap.size, 0, none⟩) 2 2, .int .i64 0, .int .i64 0, .string ⟨#[]⟩, .int .i64 0, .string ⟨#[]⟩]), vL 1 dN, vR 2 tX 1 dN, vEq (.pointer (some ⟨bb, 0, none⟩)), vS [(⟨#[57]⟩ : ByteArray), (⟨#[97]⟩ : ByteArray)], vS [(⟨#[57]⟩ : ByteArray), (⟨#[98]⟩ : ByteArray)], vW 2 aKu, vEq (.bool true), vEq (.bool false), vEq (.bool false), vEq (.agg #[.int .i64 6, .string ⟨#[89]⟩]), vEq (.agg #[.int .i64 1, .string ⟨#[88]⟩]), vT 2 tW, vEq (.agg #[.int .i64 1, .string ⟨#[101]⟩, .slice (some ⟨w3.heap.size, 0, none⟩) 2 2, .int .i64 0, .int .i64 0, .string ⟨#[]⟩, .int .i64 0, .string ⟨#[]⟩]), vL 1 dN, vR 2 tW 1 dN, vEq (.pointer (some ⟨bb, 0, none⟩)), vS [(⟨#[]⟩ : ByteArray), (⟨#[98]⟩ : ByteArray)], vS [(⟨#[49]⟩ : ByteArray), (⟨#[97]⟩ : ByteArray)], vW 2 aKt, vEq (.bool true), vEq (.bool false), vEq (.bool false)] 172 (by kernel_rfl) (by kernel_rfl) rfl rfl (fun i hi => ?_) (fun t w31 hz hx hv hb => ?_)
 ·match i, hi with
  | 0, _ =>
   refine aI rfl rfl fun u W hx hd hb K hK => ?_
   go_simp
   exact hK.out _ _ (Kp.refl _) rfl
  | 1, _ =>
   refine aI rfl rfl fun u W hx hd hb K hK => ?_
   go_simp
   refine (dG ⟨#[88]⟩ W).mono ?_
   rintro e W2 ⟨v, rfl, hk, rfl⟩
   go_wp2_with fail
   exact hK.out _ _ hk rfl
  | 2, _ =>
   refine aI rfl rfl fun u W hx hd hb K hK => ?_
   rw [show u 103 = .agg #[.int .i64 7, .string ⟨#[89]⟩] from hd 0 103 _ (by kernel_rfl) rfl] at hK ⊢
   rw [show u 104 = .agg #[.int .i64 1, .string ⟨#[88]⟩] from hd 1 104 _ (by kernel_rfl) rfl] at hK ⊢
   go_simp
   refine hK.out _ _ ((Kp.refl W).alloc _) ?_
   exact ⟨_, rfl, cC W tX (by kernel_rfl)⟩
  | 3, _ =>
   refine aI rfl rfl fun u W hx hd hb K hK => ?_
   rw [show u 2 = .pointer (some ⟨w5.heap.size, 0, none⟩) from hb 2 (by kernel_rfl)] at hK ⊢
   have q0 : W.cell? ⟨w5.heap.size, 0, none⟩ = some (.int .i64 1) := by rw [(Bw6.out.ext (Zw30.out.trans hx)).cell']; rfl
   have q1 : W.cell? ⟨w5.heap.size, 1, none⟩ = some (.string ⟨#[101]⟩) := by rw [(Bw6.out.ext (Zw30.out.trans hx)).cell']; rfl
   have q2 : W.cell? ⟨w5.heap.size, 2, none⟩ = some (.slice (some ⟨w3.heap.size, 0, none⟩) 2 2) := by rw [(Bw6.out.ext (Zw30.out.trans hx)).cell']; rfl
   have q3 : W.cell? ⟨w5.heap.size, 3, none⟩ = some (.int .i64 0) := by rw [(Bw6.out.ext (Zw30.out.trans hx)).cell']; rfl
   have q4 : W.cell? ⟨w5.heap.size, 4, none⟩ = some (.int .i64 0) := by rw [(Bw6.out.ext (Zw30.out.trans hx)).cell']; rfl
   have q5 : W.cell? ⟨w5.heap.size, 5, none⟩ = some (.string ⟨#[]⟩) := by rw [(Bw6.out.ext (Zw30.out.trans hx)).cell']; rfl
   have q6 : W.cell? ⟨w5.heap.size, 6, none⟩ = some (.int .i64 0) := by rw [(Bw6.out.ext (Zw30.out.trans hx)).cell']; rfl
   have q7 : W.cell? ⟨w5.heap.size, 7, none⟩ = some (.string ⟨#[]⟩) := by rw [(Bw6.out.ext (Zw30.out.trans hx)).cell']; rfl
   go_simp
   exact hK.out _ _ (Kp.refl _) rfl
  | 4, _ =>
   refine aI rfl rfl fun u W hx hd hb K hK => ?_
   rw [show u 106 = .agg #[.int .i64 1, .string ⟨#[101]⟩, .slice (some ⟨w3.heap.size, 0, none⟩) 2 2, .int .i64 0, .int .i64 0, .string ⟨#[]⟩, .int .i64 0, .string ⟨#[]⟩] from hd 3 106 _ (by kernel_rfl) rfl] at hK ⊢
   go_simp
   refine hK.out _ _ ((Kp.refl W).alloc _) ?_
   refine ⟨_, rfl, gH W dN [(some ⟨w3.heap.size, 0, none⟩, 2)] rfl (by kernel_rfl) fun x h => ?_⟩
   unfold dN at h
   simp only [List.zip_cons_cons, List.zip_nil_right, List.mem_cons, List.not_mem_nil, or_false] at h
   rcases h with rfl
   ·exact ⟨Tw4.out.ext ((Xw5.out.trans (Xw6.out.trans Zw30.out)).trans hx), Nat.le_refl _, (by decide : 2 ≤ maxLen)⟩
  | 5, _ =>
   refine aI rfl rfl fun u W hx hd hb K hK => ?_
   obtain ⟨g1, e1, h1⟩ := hd 2 105 _ (by kernel_rfl) rfl
   obtain ⟨g2, e2, h2⟩ := hd 4 107 _ (by kernel_rfl) rfl
   rw [e1, e2] at hK ⊢
   go_simp
   refine (cV (some ⟨g1, 0, none⟩) (some ⟨g2, 0, none⟩) 2 2 1 1 W).mono ?_
   rintro e W2 ⟨v, rfl, hk, rfl⟩
   go_wp2_with fail
   exact hK.out _ _ hk ⟨g1, g2, rfl, h1.ext hk, h2.ext hk⟩
  | 6, _ =>
   refine aI rfl rfl fun u W hx hd hb K hK => ?_
   rw [show u 1 = .pointer (some ⟨bb, 0, none⟩) from hb 1 (by kernel_rfl)] at hK ⊢
   go_simp
   exact hK.out _ _ (Kp.refl _) rfl
  | 7, _ =>
   refine aI rfl rfl fun u W hx hd hb K hK => ?_
   go_simp
   refine hK.out _ _ ((Kp.refl W).alloc _) ?_
   exact ⟨_, rfl, Blk.new W [.string ⟨#[57]⟩, .string ⟨#[97]⟩] 9⟩
  | 8, _ =>
   refine aI rfl rfl fun u W hx hd hb K hK => ?_
   go_simp
   refine hK.out _ _ ((Kp.refl W).alloc _) ?_
   exact ⟨_, rfl, Blk.new W [.string ⟨#[57]⟩, .string ⟨#[98]⟩] 9⟩
  | 9, _ =>
   refine aI rfl rfl fun u W hx hd hb K hK => ?_
   obtain ⟨g1, e1, h1⟩ := hd 7 110 _ (by kernel_rfl) rfl
   obtain ⟨g2, e2, h2⟩ := hd 8 111 _ (by kernel_rfl) rfl
   rw [e1, e2] at hK ⊢
   go_simp
   refine hK.out _ _ ((Kp.refl W).alloc _) ?_
   refine ⟨_, rfl, dU (l := [(g1, [(⟨#[57]⟩ : ByteArray), (⟨#[97]⟩ : ByteArray)]), (g2, [(⟨#[57]⟩ : ByteArray), (⟨#[98]⟩ : ByteArray)])]) rfl (Blk.new W [.slice (some ⟨g1, 0, none⟩) 2 2, .slice (some ⟨g2, 0, none⟩) 2 2] 66) fun x h => ?_⟩
   simp only [List.mem_cons, List.not_mem_nil, or_false] at h
   rcases h with rfl | rfl
   ·exact ⟨h1.ext ((Kp.refl W).alloc _), by simp⟩
   ·exact ⟨h2.ext ((Kp.refl W).alloc _), by simp⟩
  | 10, _ =>
   refine aI rfl rfl fun u W hx hd hb K hK => ?_
   obtain ⟨g1, g2, e1, h1, h2⟩ := hd 5 108 _ (by kernel_rfl) rfl
   obtain ⟨g3, e3, h3⟩ := hd 9 112 _ (by kernel_rfl) rfl
   rw [e1, e3] at hK ⊢
   rw [show u 109 = .pointer (some ⟨bb, 0, none⟩) from hd 6 109 _ (by kernel_rfl) rfl] at hK ⊢
   go_simp
   refine (isK (hs := tX) (ls := dN) (ha := some ⟨g1, 0, none⟩) (ba := some ⟨g2, 0, none⟩) (hn := 2) (hcap := 2) (n := 1) (bcap := 1) rfl h1 rfl h2 (by kernel_rfl) (HBv.out.1.ext ((Xw2.out.trans (Xw3.out.trans (Xw4.out.trans (Xw5.out.trans (Xw6.out.trans Zw30.out))))).trans hx)) HBv.out.2 (HN.out.ext ((Xw1.out.trans (Xw2.out.trans (Xw3.out.trans (Xw4.out.trans (Xw5.out.trans (Xw6.out.trans Zw30.out)))))).trans hx)) (fun _ => k15o4) k15m4 (by decide) (some ⟨g3, 0, none⟩) rfl h3).mono ?_
   rintro e W2 ⟨v, rfl, hk, rfl⟩
   go_wp2_with fail
   exact hK.out _ _ hk rfl
  | 11, _ =>
   refine aI rfl rfl fun u W hx hd hb K hK => ?_
   rw [show u 113 = .bool true from hd 10 113 _ (by kernel_rfl) rfl] at hK ⊢
   go_simp
   exact hK.out _ _ (Kp.refl _) rfl
  | 12, _ =>
   refine aI rfl rfl fun u W hx hd hb K hK => ?_
   rw [show u 114 = .bool false from hd 11 114 _ (by kernel_rfl) rfl] at hK ⊢
   go_simp
   exact hK.out _ _ (Kp.refl _) rfl
  | 13, _ =>
   refine aI rfl rfl fun u W hx hd hb K hK => ?_
   rw [show u 115 = .bool false from hd 12 115 _ (by kernel_rfl) rfl] at hK ⊢
   go_simp
   exact hK.out _ _ (Kp.refl _) rfl
  | 14, _ =>
   refine aI rfl rfl fun u W hx hd hb K hK => ?_
   rw [show u 115 = .bool false from hd 12 115 _ (by kernel_rfl) rfl] at hK ⊢
   go_simp
   refine (dG ⟨#[88]⟩ W).mono ?_
   rintro e W2 ⟨v, rfl, hk, rfl⟩
   go_wp2_with fail
   exact hK.out _ _ hk rfl
  | 15, _ =>
   refine aI rfl rfl fun u W hx hd hb K hK => ?_
   rw [show u 115 = .bool false from hd 12 115 _ (by kernel_rfl) rfl] at hK ⊢
   rw [show u 116 = .agg #[.int .i64 6, .string ⟨#[89]⟩] from hd 13 116 _ (by kernel_rfl) rfl] at hK ⊢
   rw [show u 117 = .agg #[.int .i64 1, .string ⟨#[88]⟩] from hd 14 117 _ (by kernel_rfl) rfl] at hK ⊢
   go_simp
   refine hK.out _ _ ((Kp.refl W).alloc _) ?_
   exact ⟨_, rfl, cC W tW (by kernel_rfl)⟩
  | 16, _ =>
   refine aI rfl rfl fun u W hx hd hb K hK => ?_
   rw [show u 115 = .bool false from hd 12 115 _ (by kernel_rfl) rfl] at hK ⊢
   rw [show u 2 = .pointer (some ⟨w5.heap.size, 0, none⟩) from hb 2 (by kernel_rfl)] at hK ⊢
   have q0 : W.cell? ⟨w5.heap.size, 0, none⟩ = some (.int .i64 1) := by rw [(Bw6.out.ext (Zw30.out.trans hx)).cell']; rfl
   have q1 : W.cell? ⟨w5.heap.size, 1, none⟩ = some (.string ⟨#[101]⟩) := by rw [(Bw6.out.ext (Zw30.out.trans hx)).cell']; rfl
   have q2 : W.cell? ⟨w5.heap.size, 2, none⟩ = some (.slice (some ⟨w3.heap.size, 0, none⟩) 2 2) := by rw [(Bw6.out.ext (Zw30.out.trans hx)).cell']; rfl
   have q3 : W.cell? ⟨w5.heap.size, 3, none⟩ = some (.int .i64 0) := by rw [(Bw6.out.ext (Zw30.out.trans hx)).cell']; rfl
   have q4 : W.cell? ⟨w5.heap.size, 4, none⟩ = some (.int .i64 0) := by rw [(Bw6.out.ext (Zw30.out.trans hx)).cell']; rfl
   have q5 : W.cell? ⟨w5.heap.size, 5, none⟩ = some (.string ⟨#[]⟩) := by rw [(Bw6.out.ext (Zw30.out.trans hx)).cell']; rfl
   have q6 : W.cell? ⟨w5.heap.size, 6, none⟩ = some (.int .i64 0) := by rw [(Bw6.out.ext (Zw30.out.trans hx)).cell']; rfl
   have q7 : W.cell? ⟨w5.heap.size, 7, none⟩ = some (.string ⟨#[]⟩) := by rw [(Bw6.out.ext (Zw30.out.trans hx)).cell']; rfl
   go_simp
   exact hK.out _ _ (Kp.refl _) rfl
  | 17, _ =>
   refine aI rfl rfl fun u W hx hd hb K hK => ?_
   rw [show u 115 = .bool false from hd 12 115 _ (by kernel_rfl) rfl] at hK ⊢
   rw [show u 119 = .agg #[.int .i64 1, .string ⟨#[101]⟩, .slice (some ⟨w3.heap.size, 0, none⟩) 2 2, .int .i64 0, .int .i64 0, .string ⟨#[]⟩, .int .i64 0, .string ⟨#[]⟩] from hd 16 119 _ (by kernel_rfl) rfl] at hK ⊢
   go_simp
   refine hK.out _ _ ((Kp.refl W).alloc _) ?_
   refine ⟨_, rfl, gH W dN [(some ⟨w3.heap.size, 0, none⟩, 2)] rfl (by kernel_rfl) fun x h => ?_⟩
   unfold dN at h
   simp only [List.zip_cons_cons, List.zip_nil_right, List.mem_cons, List.not_mem_nil, or_false] at h
   rcases h with rfl
   ·exact ⟨Tw4.out.ext ((Xw5.out.trans (Xw6.out.trans Zw30.out)).trans hx), Nat.le_refl _, (by decide : 2 ≤ maxLen)⟩
  | 18, _ =>
   refine aI rfl rfl fun u W hx hd hb K hK => ?_
   rw [show u 115 = .bool false from hd 12 115 _ (by kernel_rfl) rfl] at hK ⊢
   obtain ⟨g1, e1, h1⟩ := hd 15 118 _ (by kernel_rfl) rfl
   obtain ⟨g2, e2, h2⟩ := hd 17 120 _ (by kernel_rfl) rfl
   rw [e1, e2] at hK ⊢
   go_simp
   refine (cV (some ⟨g1, 0, none⟩) (some ⟨g2, 0, none⟩) 2 2 1 1 W).mono ?_
   rintro e W2 ⟨v, rfl, hk, rfl⟩
   go_wp2_with fail
   exact hK.out _ _ hk ⟨g1, g2, rfl, h1.ext hk, h2.ext hk⟩
  | 19, _ =>
   refine aI rfl rfl fun u W hx hd hb K hK => ?_
   rw [show u 115 = .bool false from hd 12 115 _ (by kernel_rfl) rfl] at hK ⊢
   rw [show u 1 = .pointer (some ⟨bb, 0, none⟩) from hb 1 (by kernel_rfl)] at hK ⊢
   go_simp
   exact hK.out _ _ (Kp.refl _) rfl
  | 20, _ =>
   refine aI rfl rfl fun u W hx hd hb K hK => ?_
   rw [show u 115 = .bool false from hd 12 115 _ (by kernel_rfl) rfl] at hK ⊢
   go_simp
   refine hK.out _ _ ((Kp.refl W).alloc _) ?_
   exact ⟨_, rfl, Blk.new W [.string ⟨#[]⟩, .string ⟨#[98]⟩] 9⟩
  | 21, _ =>
   refine aI rfl rfl fun u W hx hd hb K hK => ?_
   rw [show u 115 = .bool false from hd 12 115 _ (by kernel_rfl) rfl] at hK ⊢
   go_simp
   refine hK.out _ _ ((Kp.refl W).alloc _) ?_
   exact ⟨_, rfl, Blk.new W [.string ⟨#[49]⟩, .string ⟨#[97]⟩] 9⟩
  | 22, _ =>
   refine aI rfl rfl fun u W hx hd hb K hK => ?_
   rw [show u 115 = .bool false from hd 12 115 _ (by kernel_rfl) rfl] at hK ⊢
   obtain ⟨g1, e1, h1⟩ := hd 20 123 _ (by kernel_rfl) rfl
   obtain ⟨g2, e2, h2⟩ := hd 21 124 _ (by kernel_rfl) rfl
   rw [e1, e2] at hK ⊢
   go_simp
   refine hK.out _ _ ((Kp.refl W).alloc _) ?_
   refine ⟨_, rfl, dU (l := [(g1, [(⟨#[]⟩ : ByteArray), (⟨#[98]⟩ : ByteArray)]), (g2, [(⟨#[49]⟩ : ByteArray), (⟨#[97]⟩ : ByteArray)])]) rfl (Blk.new W [.slice (some ⟨g1, 0, none⟩) 2 2, .slice (some ⟨g2, 0, none⟩) 2 2] 66) fun x h => ?_⟩
   simp only [List.mem_cons, List.not_mem_nil, or_false] at h
   rcases h with rfl | rfl
   ·exact ⟨h1.ext ((Kp.refl W).alloc _), by simp⟩
   ·exact ⟨h2.ext ((Kp.refl W).alloc _), by simp⟩
  | 23, _ =>
   refine aI rfl rfl fun u W hx hd hb K hK => ?_
   rw [show u 115 = .bool false from hd 12 115 _ (by kernel_rfl) rfl] at hK ⊢
   obtain ⟨g1, g2, e1, h1, h2⟩ := hd 18 121 _ (by kernel_rfl) rfl
   obtain ⟨g3, e3, h3⟩ := hd 22 125 _ (by kernel_rfl) rfl
   rw [e1, e3] at hK ⊢
   rw [show u 122 = .pointer (some ⟨bb, 0, none⟩) from hd 19 122 _ (by kernel_rfl) rfl] at hK ⊢
   go_simp
   refine (isK (hs := tW) (ls := dN) (ha := some ⟨g1, 0, none⟩) (ba := some ⟨g2, 0, none⟩) (hn := 2) (hcap := 2) (n := 1) (bcap := 1) rfl h1 rfl h2 (by kernel_rfl) (HBv.out.1.ext ((Xw2.out.trans (Xw3.out.trans (Xw4.out.trans (Xw5.out.trans (Xw6.out.trans Zw30.out))))).trans hx)) HBv.out.2 (HN.out.ext ((Xw1.out.trans (Xw2.out.trans (Xw3.out.trans (Xw4.out.trans (Xw5.out.trans (Xw6.out.trans Zw30.out)))))).trans hx)) (fun _ => k15o5) k15m5 (by decide) (some ⟨g3, 0, none⟩) rfl h3).mono ?_
   rintro e W2 ⟨v, rfl, hk, rfl⟩
   go_wp2_with fail
   exact hK.out _ _ hk rfl
  | 24, _ =>
   refine aI rfl rfl fun u W hx hd hb K hK => ?_
   rw [show u 115 = .bool false from hd 12 115 _ (by kernel_rfl) rfl] at hK ⊢
   rw [show u 126 = .bool true from hd 23 126 _ (by kernel_rfl) rfl] at hK ⊢
   go_simp
   exact hK.out _ _ (Kp.refl _) rfl
  | 25, _ =>
   refine aI rfl rfl fun u W hx hd hb K hK => ?_
   rw [show u 115 = .bool false from hd 12 115 _ (by kernel_rfl) rfl] at hK ⊢
   rw [show u 127 = .bool false from hd 24 127 _ (by kernel_rfl) rfl] at hK ⊢
   go_simp
   exact hK.out _ _ (Kp.refl _) rfl
  | n + 26, h => exact absurd h (by simp)
 have Xw31 := qH (show Ext w30 w31 from hx)
 obtain ⟨u, hu, rfl⟩ := yU t hz
 rw [show u 1 = .pointer (some ⟨bb, 0, none⟩) from (hu 1).symm.trans (hb 1 (by kernel_rfl))]
 rw [show u 128 = .bool false from (hu 128).symm.trans (hv 25 _ 128 _ rfl rfl rfl)]
 clear hx hv hb hu hz
 have Zw31 := qH (Zw30.out.trans Xw31.out)
 clear Zw30 Xw31
 obtain ⟨w32, ew32⟩ : ∃ x, w31.alloc (.cells #[.int .i64 4, .string ⟨#[]⟩] 58) = x := ⟨_, rfl⟩
 have Xw32 := qH (show Ext w31 w32 from by rw [<- ew32]; exact (Kp.refl w31).alloc _)
 have Tw32 := qH (show aQ w32 TT (some ⟨w31.heap.size, 0, none⟩) wV from by rw [<- ew32]; exact cC w31 wV (by kernel_rfl))
 go_wp2_with fail
 clear ew32
 refine (cV (some ⟨w31.heap.size, 0, none⟩) (none) 1 1 0 0 w32).mono ?_
 rintro e w33 ⟨vw33, rfl, hkw33, rfl⟩
 have Xw33 := qH (show Ext w32 w33 from hkw33)
 clear hkw33
 go_wp2_with fail
 refine (aD4 (hs := wV) (ls := aFe) (ha := some ⟨w31.heap.size, 0, none⟩) (ba := none) (hn := 1) (hcap := 1) (n := 0) (bcap := 0) rfl (Tw32.out.ext Xw33.out) rfl (aH6 w33 none) (by kernel_rfl) (HBv.out.1.ext (Xw2.out.trans (Xw3.out.trans (Xw4.out.trans (Xw5.out.trans (Xw6.out.trans (Zw31.out.trans (Xw32.out.trans Xw33.out)))))))) HBv.out.2 (HN.out.ext (Xw1.out.trans (Xw2.out.trans (Xw3.out.trans (Xw4.out.trans (Xw5.out.trans (Xw6.out.trans (Zw31.out.trans (Xw32.out.trans Xw33.out))))))))) (fun _ => k15o6) k15m6 (by decide) 111 rfl).mono ?_
 rintro e w34 ⟨vw34, rfl, hkw34, rfl⟩
 have Xw34 := qH (show Ext w33 w34 from hkw34)
 clear hkw34
 have Zw34 := qH (Zw31.out.trans (Xw32.out.trans (Xw33.out.trans Xw34.out)))
 clear Zw31 Xw32 Xw33 Xw34
 obtain ⟨w35, ew35⟩ : ∃ x, w34.alloc (.cells #[.int .i64 4, .string ⟨#[]⟩] 58) = x := ⟨_, rfl⟩
 have Xw35 := qH (show Ext w34 w35 from by rw [<- ew35]; exact (Kp.refl w34).alloc _)
 have Tw35 := qH (show aQ w35 TT (some ⟨w34.heap.size, 0, none⟩) wU from by rw [<- ew35]; exact cC w34 wU (by kernel_rfl))
 obtain ⟨w36, ew36⟩ : ∃ x, w35.alloc (.cells #[.int .i64 3, .string ⟨#[99]⟩, .int .i64 2, .string ⟨#[]⟩] 58) = x := ⟨_, rfl⟩
 have Xw36 := qH (show Ext w35 w36 from by rw [<- ew36]; exact (Kp.refl w35).alloc _)
 have Tw36 := qH (show aQ w36 TT (some ⟨w35.heap.size, 0, none⟩) aIk from by rw [<- ew36]; exact cC w35 aIk (by kernel_rfl))
 go_wp2_with fail
 clear ew35 ew36
 refine (iC ⟨#[101]⟩ (some ⟨w35.heap.size, 0, none⟩) 2 2 w36).mono ?_
 rintro e w37 ⟨vw37, rfl, hkw37, rfl⟩
 have Xw37 := qH (show Ext w36 w37 from hkw37)
 clear hkw37
 obtain ⟨w38, ew38⟩ : ∃ x, w37.alloc (.cells #[.int .i64 1, .string ⟨#[101]⟩, .slice (some ⟨w35.heap.size, 0, none⟩) 2 2, .int .i64 0, .int .i64 0, .string ⟨#[]⟩, .int .i64 0, .string ⟨#[]⟩] 60) = x := ⟨_, rfl⟩
 have Xw38 := qH (show Ext w37 w38 from by rw [<- ew38]; exact (Kp.refl w37).alloc _)
 have Lw38 := qH (show bQ w38 TT (some ⟨w37.heap.size, 0, none⟩) tU from by
  rw [<- ew38]
  refine gH w37 tU [(some ⟨w35.heap.size, 0, none⟩, 2)] rfl (by kernel_rfl) fun x hx => ?_
  unfold tU at hx
  simp only [List.zip_cons_cons, List.zip_nil_right, List.mem_cons, List.not_mem_nil, or_false] at hx
  rcases hx with rfl
  ·exact ⟨(Tw36.out.ext Xw37.out), Nat.le_refl _, (by decide : 2 ≤ maxLen)⟩)
 go_wp2_with fail
 clear ew38
 refine (cV (some ⟨w34.heap.size, 0, none⟩) (some ⟨w37.heap.size, 0, none⟩) 1 1 1 1 w38).mono ?_
 rintro e w39 ⟨vw39, rfl, hkw39, rfl⟩
 have Xw39 := qH (show Ext w38 w39 from hkw39)
 clear hkw39
 go_wp2_with fail
 refine (isK (hs := wU) (ls := tU) (ha := some ⟨w34.heap.size, 0, none⟩) (ba := some ⟨w37.heap.size, 0, none⟩) (hn := 1) (hcap := 1) (n := 1) (bcap := 1) rfl (Tw35.out.ext (Xw36.out.trans (Xw37.out.trans (Xw38.out.trans Xw39.out)))) rfl (Lw38.out.ext Xw39.out) (by kernel_rfl) (HBv.out.1.ext (Xw2.out.trans (Xw3.out.trans (Xw4.out.trans (Xw5.out.trans (Xw6.out.trans (Zw34.out.trans (Xw35.out.trans (Xw36.out.trans (Xw37.out.trans (Xw38.out.trans Xw39.out))))))))))) HBv.out.2 (HN.out.ext (Xw1.out.trans (Xw2.out.trans (Xw3.out.trans (Xw4.out.trans (Xw5.out.trans (Xw6.out.trans (Zw34.out.trans (Xw35.out.trans (Xw36.out.trans (Xw37.out.trans (Xw38.out.trans Xw39.out)))))))))))) (fun _ => k15o7) k15m7 (by decide) (none) rfl (aC1 _ none)).mono ?_
 rintro e w40 ⟨vw40, rfl, hkw40, rfl⟩
 have Xw40 := qH (show Ext w39 w40 from hkw40)
 clear hkw40
 have Zw40 := qH (Zw34.out.trans (Xw35.out.trans (Xw36.out.trans (Xw37.out.trans (Xw38.out.trans (Xw39.out.trans Xw40.out))))))
 clear Zw34 Xw35 Xw36 Xw37 Xw38 Xw39 Xw40
 go_wp2_with fail
 refine (dG ⟨#[88]⟩ w40).mono ?_
 rintro e w41 ⟨vw41, rfl, hkw41, rfl⟩
 have Xw41 := qH (show Ext w40 w41 from hkw41)
 clear hkw41
 obtain ⟨w42, ew42⟩ : ∃ x, w41.alloc (.cells #[.int .i64 1, .string ⟨#[88]⟩] 58) = x := ⟨_, rfl⟩
 have Xw42 := qH (show Ext w41 w42 from by rw [<- ew42]; exact (Kp.refl w41).alloc _)
 have Tw42 := qH (show aQ w42 TT (some ⟨w41.heap.size, 0, none⟩) aA9 from by rw [<- ew42]; exact cC w41 aA9 (by kernel_rfl))
 go_wp2_with fail
 clear ew42
 refine (dG ⟨#[88]⟩ w42).mono ?_
 rintro e w43 ⟨vw43, rfl, hkw43, rfl⟩
 have Xw43 := qH (show Ext w42 w43 from hkw43)
 clear hkw43
 obtain ⟨w44, ew44⟩ : ∃ x, w43.alloc (.cells #[.int .i64 1, .string ⟨#[88]⟩, .int .i64 2, .string ⟨#[]⟩] 58) = x := ⟨_, rfl⟩
 have Xw44 := qH (show Ext w43 w44 from by rw [<- ew44]; exact (Kp.refl w43).alloc _)
 have Tw44 := qH (show aQ w44 TT (some ⟨w43.heap.size, 0, none⟩) aIj from by rw [<- ew44]; exact cC w43 aIj (by kernel_rfl))
 go_wp2_with fail
 clear ew44
 refine (iC ⟨#[101]⟩ (some ⟨w43.heap.size, 0, none⟩) 2 2 w44).mono ?_
 rintro e w45 ⟨vw45, rfl, hkw45, rfl⟩
 have Xw45 := qH (show Ext w44 w45 from hkw45)
 clear hkw45
 obtain ⟨w46, ew46⟩ : ∃ x, w45.alloc (.cells #[.int .i64 1, .string ⟨#[101]⟩, .slice (some ⟨w43.heap.size, 0, none⟩) 2 2, .int .i64 0, .int .i64 0, .string ⟨#[]⟩, .int .i64 0, .string ⟨#[]⟩] 60) = x := ⟨_, rfl⟩
 have Xw46 := qH (show Ext w45 w46 from by rw [<- ew46]; exact (Kp.refl w45).alloc _)
 have Lw46 := qH (show bQ w46 TT (some ⟨w45.heap.size, 0, none⟩) wT from by
  rw [<- ew46]
  refine gH w45 wT [(some ⟨w43.heap.size, 0, none⟩, 2)] rfl (by kernel_rfl) fun x hx => ?_
  unfold wT at hx
  simp only [List.zip_cons_cons, List.zip_nil_right, List.mem_cons, List.not_mem_nil, or_false] at hx
  rcases hx with rfl
  ·exact ⟨(Tw44.out.ext Xw45.out), Nat.le_refl _, (by decide : 2 ≤ maxLen)⟩)
 go_wp2_with fail
 clear ew46
 refine (cV (some ⟨w41.heap.size, 0, none⟩) (some ⟨w45.heap.size, 0, none⟩) 1 1 1 1 w46).mono ?_
 rintro e w47 ⟨vw47, rfl, hkw47, rfl⟩
 have Xw47 := qH (show Ext w46 w47 from hkw47)
 clear hkw47
 obtain ⟨w48, ew48⟩ : ∃ x, w47.alloc (.cells #[.string ⟨#[97]⟩] 9) = x := ⟨_, rfl⟩
 have Xw48 := qH (show Ext w47 w48 from by rw [<- ew48]; exact (Kp.refl w47).alloc _)
 have Bw48 := qH (show Blk w48 w47.heap.size [.string ⟨#[97]⟩] 9 from by rw [<- ew48]; exact Blk.new w47 _ _)
 obtain ⟨w49, ew49⟩ : ∃ x, w48.alloc (.cells #[.string ⟨#[98]⟩] 9) = x := ⟨_, rfl⟩
 have Xw49 := qH (show Ext w48 w49 from by rw [<- ew49]; exact (Kp.refl w48).alloc _)
 have Bw49 := qH (show Blk w49 w48.heap.size [.string ⟨#[98]⟩] 9 from by rw [<- ew49]; exact Blk.new w48 _ _)
 obtain ⟨w50, ew50⟩ : ∃ x, w49.alloc (.cells #[.slice (some ⟨w47.heap.size, 0, none⟩) 1 1, .slice (some ⟨w48.heap.size, 0, none⟩) 1 1] 66) = x := ⟨_, rfl⟩
 have Xw50 := qH (show Ext w49 w50 from by rw [<- ew50]; exact (Kp.refl w49).alloc _)
 have Rw50 := qH (show RowsIn TT w50 (some ⟨w49.heap.size, 0, none⟩) aKs from dU (l := [(w47.heap.size, [(⟨#[97]⟩ : ByteArray)]), (w48.heap.size, [(⟨#[98]⟩ : ByteArray)])]) rfl (show Blk w50 w49.heap.size [.slice (some ⟨w47.heap.size, 0, none⟩) 1 1, .slice (some ⟨w48.heap.size, 0, none⟩) 1 1] 66 from by rw [<- ew50]; exact Blk.new w49 _ _) (fun x hx => by
  simp only [List.mem_cons, List.not_mem_nil, or_false] at hx
  rcases hx with rfl | rfl
  ·exact ⟨Bw48.out.ext (Xw49.out.trans Xw50.out), by simp⟩
  ·exact ⟨Bw49.out.ext Xw50.out, by simp⟩))
 go_wp2_with fail
 clear ew48 ew49 ew50
 refine (isK (hs := aA9) (ls := wT) (ha := some ⟨w41.heap.size, 0, none⟩) (ba := some ⟨w45.heap.size, 0, none⟩) (hn := 1) (hcap := 1) (n := 1) (bcap := 1) rfl (Tw42.out.ext (Xw43.out.trans (Xw44.out.trans (Xw45.out.trans (Xw46.out.trans (Xw47.out.trans (Xw48.out.trans (Xw49.out.trans Xw50.out)))))))) rfl (Lw46.out.ext (Xw47.out.trans (Xw48.out.trans (Xw49.out.trans Xw50.out)))) (by kernel_rfl) (HBv.out.1.ext (Xw2.out.trans (Xw3.out.trans (Xw4.out.trans (Xw5.out.trans (Xw6.out.trans (Zw40.out.trans (Xw41.out.trans (Xw42.out.trans (Xw43.out.trans (Xw44.out.trans (Xw45.out.trans (Xw46.out.trans (Xw47.out.trans (Xw48.out.trans (Xw49.out.trans Xw50.out)))))))))))))))) HBv.out.2 (HN.out.ext (Xw1.out.trans (Xw2.out.trans (Xw3.out.trans (Xw4.out.trans (Xw5.out.trans (Xw6.out.trans (Zw40.out.trans (Xw41.out.trans (Xw42.out.trans (Xw43.out.trans (Xw44.out.trans (Xw45.out.trans (Xw46.out.trans (Xw47.out.trans (Xw48.out.trans (Xw49.out.trans Xw50.out))))))))))))))))) (fun h => by revert h; decide) k15m8 (by decide) (some ⟨w49.heap.size, 0, none⟩) rfl (Rw50.out.ext (Kp.refl w50))).mono ?_
 rintro e w51 ⟨vw51, rfl, hkw51, rfl⟩
 have Xw51 := qH (show Ext w50 w51 from hkw51)
 clear hkw51
 have Zw51 := qH (Zw40.out.trans (Xw41.out.trans (Xw42.out.trans (Xw43.out.trans (Xw44.out.trans (Xw45.out.trans (Xw46.out.trans (Xw47.out.trans (Xw48.out.trans (Xw49.out.trans (Xw50.out.trans Xw51.out)))))))))))
 clear Zw40 Xw41 Xw42 Xw43 Xw44 Xw45 Xw46 Xw47 Xw48 Xw49 Xw50 Xw51
 go_wp2_with fail
 refine (zQ w51).mono ?_
 rintro e w52 ⟨vw52, rfl, hkw52, rfl⟩
 have Xw52 := qH (show Ext w51 w52 from hkw52)
 clear hkw52
 go_wp2_with fail
 refine (aBj w52 (HN.out.ext (Xw1.out.trans (Xw2.out.trans (Xw3.out.trans (Xw4.out.trans (Xw5.out.trans (Xw6.out.trans (Zw51.out.trans Xw52.out))))))))).mono ?_
 rintro e w53 ⟨vw53, rfl, hkw53, rfl⟩
 have Xw53 := qH (show Ext w52 w53 from hkw53)
 clear hkw53
 go_wp2
 go_ret
 exact RetN.mk (Xw1.out.trans (Xw2.out.trans (Xw3.out.trans (Xw4.out.trans (Xw5.out.trans (Xw6.out.trans (Zw51.out.trans (Xw52.out.trans Xw53.out)))))))) rfl
end
end Go.Proofs.YtikgpedgmnbcaaaGreatDoor
