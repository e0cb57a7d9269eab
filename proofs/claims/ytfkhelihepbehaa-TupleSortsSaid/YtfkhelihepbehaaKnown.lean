/- The statements' known(): a set and a base that the document names. -/
import Derived.Test.YtfkhelihepbehaaBasePut
import Derived.Test.YtfkhelihepbehaaSetOpsInt
import Derived.Test.YtfkhelihepbehaaInts
namespace Go.Proofs.Ytfkhelihepbehaa
open Go.RowKit
set_option linter.unusedVariables false

section
variable {w w' : World} {bb r b : Nat} {n : Int} {S : Nat → Prop} {iv : Value} {arity : Nat} {LL : List (List ByteArray)}
set_option maxRecDepth 100000 in
/-- A row of another length than the relation's. -/
theorem baseAdd_arity (hB : Blk w bb [.map (some r), .int .i64 n] 128) (s : ByteArray) (hm : MapIs w r [(s, .pointer (some ⟨b, 0, none⟩))]) (hr : RowsAt S w b iv arity LL) (hs1 : 1 ≤ s.size) (hs2 : s.size ≤ 4096) (ao : Option Addr) (k cap : Nat) (hk : k ≠ arity) :
    Calls Try.prog 59 #[.pointer (some ⟨bb, 0, none⟩), .string s, .slice ao k cap] w (Ret (.tuple #[.bool false, .int .i64 30]) w) := by
  have c0 : w.cell? ⟨bb, 0, none⟩ = some (.map (some r)) := by rw [hB.cell']; rfl
  have c2 : w.cell? ⟨b, 2, none⟩ = some (.int .i64 arity) := by rw [hr.blk.cell']; rfl
  have hlk := run_lookup_str (P := Try.prog) Try.underlying126 Try.underlying9 (z := .pointer none) (by kernel_rfl) hm s
  have hl0 : (getM [(s, Value.pointer (some ⟨b, 0, none⟩))] s).getD (.pointer none) = .pointer (some ⟨b, 0, none⟩) := by simp [getM]
  rw [hl0] at hlk
  have hnm := named_any s w
  rw [show decide (1 ≤ s.size ∧ s.size ≤ 4096) = true by simp [hs1, hs2]] at hnm
  have HN := Lib.hid hnm; clear hnm
  have q1 : ((arity : Int) != (k : Int)) = true := by rw [bne_iff_ne]; omega
  clear hB hm hr hl0 hk
  go_enter Try.func59, Try.ntmps59
  go_wp2_with fail
  refine HN.out.mono ?_
  rintro e w' ⟨rfl, rfl⟩
  go_wp2
  go_ret2
  exact Ret.mk rfl
end

/-- The order of known's set. -/
theorem sub_law : OrdLaw (fun x y : Int => x - y) := ⟨fun x y => by omega, fun x y z h h' => by omega⟩
theorem knownFn_any (x y : Int) (h : wrap64 (x - y) = x - y) (w : World) : Calls Try.prog 57 #[.int .i64 x, .int .i64 y] w (Ret (.int .i64 (x - y)) w) := by
  go_enter Try.func57, Try.ntmps57
  go_wp2
  go_ret
  exact Ret.mk (by simp [h])
theorem known_ord (S : Nat → Prop) (w : World) : OrdVInt Try.prog S w (.func (Fn.func 57) #[] #[]) (fun x => x ∈ ([3, 1, 3, 2] : List Int)) (fun x y => x - y) := by
  refine .inr ⟨_, _, _, rfl, enters_of Try.func57 (by kernel_rfl) rfl, fun w' hw x y hx hy => ?_⟩
  have hx' : 1 ≤ x ∧ x ≤ 3 := by simp at hx; omega
  have hy' : 1 ≤ y ∧ y ≤ 3 := by simp at hy; omega
  refine (knownFn_any x y (by unfold wrap64; omega) w').mono ?_
  rintro e w2 ⟨rfl, rfl⟩
  exact ⟨rfl, Kp.refl _⟩
end Go.Proofs.Ytfkhelihepbehaa

namespace Go.Proofs.Ytfkhelihepbehaa
open Go.RowKit
set_option linter.unusedVariables false
def tA : ByteArray := ⟨#[97]⟩
def tB : ByteArray := ⟨#[98]⟩
def tP : ByteArray := ⟨#[112]⟩
def tZ : ByteArray := ⟨#[122]⟩

theorem num_any (x : Int) (w : World) : Calls Try.prog 23 #[.int .i64 x] w (Ret (.int .i64 x) w) := by
  go_enter Try.func23, Try.ntmps23
  go_wp2
  go_ret
  exact Ret.mk rfl

set_option maxRecDepth 100000 in
set_option maxHeartbeats 2000000 in
theorem known_any (w : World) : Calls Try.prog 19 #[] w (RetN w fun w' v => v = .bool true) := by
  have hnew : newS (fun x y : Int => x - y) [3, 1, 3, 2] = [1, 2, 3] := by decide
  go_enter Try.func19, Try.ntmps19
  go_wp2_with fail
  refine (newSetInt_any (fun _ => False) _ _ (some ⟨w.heap.size, 0, none⟩) 4 4 (fun x => x ∈ ([3, 1, 3, 2] : List Int)) (fun x y => x - y) sub_law [3, 1, 3, 2] rfl ?_ (fun _ h => h.elim) (known_ord _ _) (fun x h => h) (by decide)).mono ?_
  · exact CellsAt.pre (rest := []) (Blk.new w [Value.int .i64 3, .int .i64 1, .int .i64 3, .int .i64 2] 3)
  rintro e w1 ⟨v, rfl, hk1, b1, iv1, rfl, hb1, hi1, hs1⟩
  rw [hnew] at hs1
  have x1 : Ext w w1 := ((Kp.refl w).alloc _).trans hk1
  have HS := Lib.hid hs1; clear hs1 hk1 hnew
  go_wp2_with fail
  refine (setItemsInt_any HS.out).mono ?_
  rintro e w2 ⟨v, rfl, hk2, hr2⟩
  obtain ⟨ao2, cap2, ev, hc2, _⟩ := hr2.shape
  subst ev
  clear hr2
  have HC2 := Lib.hid hc2; clear hc2
  go_wp2_with fail
  refine (ints_yes [1, 2, 3] ao2 (some ⟨w2.heap.size, 0, none⟩) 3 cap2 3 _ rfl (HC2.out.alloc _) (CellsAt.pre (rest := []) (Blk.new w2 [Value.int .i64 1, .int .i64 2, .int .i64 3] 3)) (by decide)).mono ?_
  rintro e w' ⟨rfl, n3, rfl⟩
  have x3 : Ext w1 ((w2.alloc (.cells #[.int .i64 1, .int .i64 2, .int .i64 3] 3)).drewN n3) := (hk2.alloc _).drewN _
  generalize (w2.alloc (.cells #[.int .i64 1, .int .i64 2, .int .i64 3] 3)).drewN n3 = w3 at x3 ⊢
  have hst : Strict (fun x y : Int => x - y) [1, 2, 3] := by unfold Strict; decide
  have HB := Lib.hid (setBelowInt_any sub_law 3 (by simp) hst (HS.out.ext x3))
  have e2 : below (fun x y : Int => x - y) [1, 2, 3] 3 = 2 := by decide
  rw [e2] at HB
  go_wp2_with fail
  refine HB.out.mono ?_
  rintro e w4 ⟨v, rfl, hk4, rfl⟩
  have HA := Lib.hid (setAddInt_any sub_law 2 (by simp) hst (HS.out.ext (x3.trans hk4)) (by decide))
  have e3 : isIn (fun x y : Int => x - y) [1, 2, 3] 2 = true := by decide
  rw [e3] at HA
  go_wp2_with fail
  refine HA.out.mono ?_
  rintro e w5 ⟨v, rfl, hk5, rfl, _⟩
  have x5 : Ext w w5 := (x1.trans (x3.trans hk4)).trans' hk5 (fun i hi ho => by
    rw [alloc_size] at hb1
    rcases ho with ho | ho
    · omega
    · have := hi1 i ho; rw [alloc_size] at this; omega)
  have X5 := Lib.hid x5
  clear HS HB HA HC2 hst e2 e3 hk5 hk4 x3 x1 hk2 x5 hb1 hi1
  go_wp2_with fail
  refine (newBase_any w5).mono ?_
  rintro e w6 ⟨v, rfl, hk6, rfl, hB6, hm6⟩
  have H6 := Lib.hid (And.intro hk6 (And.intro hB6 hm6)); clear hk6 hB6 hm6
  go_wp2_with fail
  refine (baseAdd_first (fun _ => False) (H6.out.2.1.alloc _) (H6.out.2.2.ext ((Kp.refl w6).alloc _)) (fun _ h => h.elim) id id tP (by decide) (by decide) (ao := some ⟨w6.heap.size, 0, none⟩) (k := 2) (cap := 2) (ss := [tA, tB]) ⟨⟨rfl, CellsAt.pre (rest := []) (Blk.new w6 [Value.string tA, .string tB] 9)⟩, by decide, fun a e => by cases e; simp⟩ (by decide) (by decide)).mono ?_
  rintro e w7 ⟨v, rfl, hk7, rfl, S', b, iv, hB7, hm7, hr7, hb⟩
  have x7 : Ext w w7 := ((X5.out.trans H6.out.1).alloc (.cells #[.string tA, .string tB] 9)).trans' hk7 (fun i hi h => by have := X5.out.size; rcases h with h | h <;> omega)
  have H7 := Lib.hid (And.intro hB7 (And.intro hm7 (And.intro hr7 x7))); clear hk7 hB7 hm7 hr7 x7 hb
  go_wp2_with fail
  refine (baseAdd_arity (H7.out.1.alloc _) tP (H7.out.2.1.ext ((Kp.refl w7).alloc _)) (H7.out.2.2.1.ext ((Kp.refl w7).alloc _)) (by decide) (by decide) (some ⟨w7.heap.size, 0, none⟩) 1 1 (by decide)).mono ?_
  rintro e w' ⟨rfl, rfl⟩
  have x8 : Ext w7 (w7.alloc (.cells #[.string tA] 9)) := (Kp.refl w7).alloc _
  go_wp2_with fail
  refine (num_any 0 _).mono ?_
  rintro e w' ⟨rfl, rfl⟩
  go_wp2_with fail
  refine (num_any 30 _).mono ?_
  rintro e w' ⟨rfl, rfl⟩
  go_wp2_with fail
  have g1 := (Blk.new (w7.alloc (.cells #[.string tA] 9)) [Value.string tB] 9).alloc (.cells #[.string tA, .string tZ] 9)
  have g2 := Blk.new ((w7.alloc (.cells #[.string tA] 9)).alloc (.cells #[.string tB] 9)) [Value.string tA, .string tZ] 9
  rw [alloc_size] at g1
  rw [alloc_size, alloc_size] at g2
  have hcmp : cmpRow [tB] [tA, tZ] = 1 := by first | kernel_rfl | decide +kernel
  have hcc := tupleCompare_any [tB] [tA, tZ] _ _ 1 2 _ (CellsAt.pre (rest := []) g1) (CellsAt.pre (rest := []) g2) (by decide) (by decide)
  rw [hcmp] at hcc
  refine hcc.mono ?_
  rintro e w' ⟨rfl, rfl⟩
  have x9 : Ext w7 (((w7.alloc (.cells #[.string tA] 9)).alloc (.cells #[.string tB] 9)).alloc (.cells #[.string tA, .string tZ] 9)) := (((Kp.refl w7).alloc _).alloc _).alloc _
  clear g1 g2 hcc hcmp x8
  go_wp2_with fail
  refine (baseLen_any (H7.out.1.ext x9)).mono ?_
  rintro e w' ⟨rfl, rfl⟩
  go_wp2
  go_ret
  exact RetN.mk (H7.out.2.2.2.trans x9) rfl
end Go.Proofs.Ytfkhelihepbehaa
