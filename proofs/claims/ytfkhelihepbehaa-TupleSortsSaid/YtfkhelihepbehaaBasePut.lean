/- tuple.Base: put, NewBase, Len. -/
import Derived.Test.YtfkhelihepbehaaRowSet
import Derived.Test.YtfkhelihepbehaaMap
namespace Go.Proofs.Ytfkhelihepbehaa
open Go.RowKit
set_option linter.unusedVariables false

section
variable {w w' : World} {bb r : Nat} {n : Int} {m : List (ByteArray × Value)}
theorem basePut_any (hB : Blk w bb [.map (some r), .int .i64 n] 128) (hm : MapIs w r m) (s : ByteArray) (p : Option Addr) :
    Calls Try.prog 100 #[.pointer (some ⟨bb, 0, none⟩), .string s, .pointer p] w (RetF (fun k => k = r) w fun w' v => MapIs w' r (putM m s (.pointer p))) := by
  have c0 : w.cell? ⟨bb, 0, none⟩ = some (.map (some r)) := by rw [hB.cell']; rfl
  obtain ⟨w2, hrun, hm2, hk2⟩ := run_update_str (P := Try.prog) Try.underlying126 Try.underlying9 hm s (.pointer p)
  have hq : ∀ w : World, (binOp .eql 126 (.map (some r)) (.map none)).run Try.prog w = .ok (.bool false) w := fun w => by kernel_rfl
  have HM := Lib.hid (And.intro hm2 hk2)
  clear hB hm hm2 hk2
  go_enter Try.func100, Try.ntmps100
  go_wp2
  go_end0
  exact RetF.mk HM.out.2 HM.out.1
theorem newBase_any (w : World) : Calls Try.prog 58 #[] w (RetN w fun w' v => v = .pointer (some ⟨w.heap.size + 1, 0, none⟩) ∧ Blk w' (w.heap.size + 1) [.map (some w.heap.size), .int .i64 0] 128 ∧ MapIs w' w.heap.size []) := by
  have hmm := @run_makeMap Try.prog
  go_enter Try.func58, Try.ntmps58
  go_wp2
  go_ret
  have hB := Blk.new (w.alloc (.map #[] 0)) [.map (some w.heap.size), .int .i64 0] 128
  rw [alloc_size] at hB
  exact RetN.mk (((Kp.refl w).alloc _).alloc _) ⟨rfl, hB, (MapIs.new w).ext ((Kp.refl _).alloc _)⟩
theorem baseLen_nil (w : World) : Calls Try.prog 60 #[.pointer none] w (Ret (.int .i64 0) w) := by
  go_enter Try.func60, Try.ntmps60
  go_wp2
  go_ret
  exact Ret.mk rfl
theorem baseLen_any (hB : Blk w bb [.map (some r), .int .i64 n] 128) : Calls Try.prog 60 #[.pointer (some ⟨bb, 0, none⟩)] w (Ret (.int .i64 n) w) := by
  have c0 : w.cell? ⟨bb, 1, none⟩ = some (.int .i64 n) := by rw [hB.cell']; rfl
  clear hB
  go_enter Try.func60, Try.ntmps60
  go_wp2
  go_ret
  exact Ret.mk rfl

set_option maxRecDepth 100000 in
set_option maxHeartbeats 2000000 in
/-- The first fact of an empty base. -/
theorem baseAdd_first (S : Nat → Prop) (hB : Blk w bb [.map (some r), .int .i64 0] 128) (hm : MapIs w r []) (hS : ∀ k, S k → k < w.heap.size) (hSb : ¬ S bb) (hSr : ¬ S r) (s : ByteArray) (hs1 : 1 ≤ s.size) (hs2 : s.size ≤ 4096)
    {ao : Option Addr} {k cap : Nat} {ss : List ByteArray} (hx : RowIn w (ao, k, cap) ss) (hk : ss.length ≤ 64) (ht : textsC ss = true) :
    Calls Try.prog 59 #[.pointer (some ⟨bb, 0, none⟩), .string s, .slice ao k cap] w (RetF (fun g => g = bb ∨ g = r) w fun w' v => v = .tuple #[.bool true, .int .i64 0] ∧
      ∃ S' b iv, Blk w' bb [.map (some r), .int .i64 1] 128 ∧ MapIs w' r [(s, .pointer (some ⟨b, 0, none⟩))] ∧ RowsAt S' w' b iv ss.length [ss] ∧ w.heap.size ≤ b) := by
  have hkn : k = ss.length := hx.1.1
  have hcs : CellsAt w ao (strs ss) := hx.1.2
  have hbr : bb ≠ r := by
    rintro rfl
    obtain ⟨es, c, h1, _⟩ := hm
    unfold Blk at hB; rw [hB] at h1; cases h1
  have hblt := hB.lt
  have hrlt := hm.lt
  have c0 : w.cell? ⟨bb, 0, none⟩ = some (.map (some r)) := by rw [hB.cell']; rfl
  have hlk := run_lookup_str (P := Try.prog) Try.underlying126 Try.underlying9 (z := .pointer none) (by kernel_rfl) hm s
  have hnm := named_any s w
  rw [show decide (1 ≤ s.size ∧ s.size ≤ 4096) = true by simp [hs1, hs2]] at hnm
  have HN := Lib.hid hnm; clear hnm
  have HNR := Lib.hid (newRows_any S w k (by omega) hS)
  have HT := Lib.hid (fun w1 (hw : Ext w w1) => texts_any ss ao k cap w1 hkn (hcs.ext hw) (by omega))
  rw [ht] at HT
  have hl0 : (getM ([] : List (ByteArray × Value)) s).getD (.pointer none) = .pointer none := rfl
  rw [hl0] at hlk
  have HA := Lib.hid (fun w1 (hw : Ext w w1) (hr : RowsAt S w1 w.heap.size (.slice none 0 0) k []) => rowsAdd_any hr List.Pairwise.nil (ao := ao) (n := k) (cap := cap) (ss := ss) ⟨⟨hkn, hcs.ext hw⟩, by omega, fun a e => Nat.lt_of_lt_of_le (hx.2.2 a e) hw.size⟩
    (fun a e ho => by
      have := hx.2.2 a e
      rcases ho with ho | ho
      · omega
      · cases ho) (by simp))
  have HB := Lib.hid (And.intro hB hm)
  have HKN := Lib.hid hkn
  have HTX := Lib.hid ht
  clear hB hm hx hcs hkn ht hl0
  have hk64 : k ≤ 64 := by rw [HKN.out]; exact hk
  go_enter Try.func59, Try.ntmps59
  go_wp2_with fail
  refine HN.out.mono ?_
  rintro e w' ⟨rfl, rfl⟩
  go_wp2_with fail
  refine HNR.out.mono ?_
  rintro e w1 ⟨v, rfl, hk1, rfl, hrows⟩
  have d2 : w1.cell? ⟨w.heap.size, 2, none⟩ = some (.int .i64 k) := by rw [hrows.blk.cell']; rfl
  have hB1 := HB.out.1.ext hk1
  have c1 : w1.cell? ⟨bb, 1, none⟩ = some (.int .i64 0) := by rw [hB1.cell']; rfl
  have HR := Lib.hid (And.intro hk1 (And.intro hrows hB1))
  clear hk1 hrows hB1
  go_wp2_with fail
  refine (HT.out w1 HR.out.1).mono ?_
  rintro e w2 ⟨v, rfl, hk2, rfl⟩
  have c1' := hk2.cell c1 id
  have HK2 := Lib.hid hk2; clear hk2
  go_wp2_with fail
  refine (HA.out w2 (HR.out.1.trans HK2.out) (HR.out.2.1.ext HK2.out)).mono ?_
  rintro e w3 ⟨v, rfl, hk3, hv, S', iv', hss, hsn, hrows3, hiv⟩
  have e0 : rowsAddR k [] ss = (true, 0) := by
    unfold rowsAddR; rw [if_neg (by rw [HKN.out]; simp), if_neg (by rw [HTX.out]; simp), if_neg (by simp)]; simp [isIn]
  have e1 : rowsAddL k [] ss = [ss] := by
    unfold rowsAddL; rw [e0]; simp [addS, isIn, below]
  rw [e0] at hv
  rw [e1] at hrows3
  subst hv
  have kk3 : Kp (fun g => g = w.heap.size) w2 w3 := hk3.mono fun g _ h => by
    rcases h with h | h
    · exact h
    · cases h
  have hex3 : Ext w w3 := (HR.out.1.trans HK2.out).trans' kk3 (fun i hi e => by omega)
  have HB3 := Lib.hid (And.intro (HB.out.1.ext hex3) (HB.out.2.ext hex3))
  have HX3 := Lib.hid (And.intro hex3 hrows3)
  have HIV := Lib.hid (And.intro hiv hsn)
  have hz2 := (HR.out.1.trans HK2.out).size
  have hz3 := hrows3.blk.lt
  clear hk3 kk3 hex3 hrows3 hss hsn hiv e0 e1 c1 c1' d2 hlk c0
  go_wp2_with fail
  refine (basePut_any HB3.out.1 HB3.out.2 s (some ⟨w.heap.size, 0, none⟩)).mono ?_
  rintro e w4 ⟨v, rfl, hk4, hm4⟩
  have hB4 := HB3.out.1.kp hk4 hbr
  have c4 : w4.cell? ⟨bb, 1, none⟩ = some (.int .i64 0) := by rw [hB4.cell']; rfl
  have f4 := hB4.free 1
  have HB4 := Lib.hid hB4
  have HM4 := Lib.hid (And.intro hk4 hm4)
  clear hB4 hk4 hm4
  go_wp2
  go_ret2
  have kf : Kp (fun g => g = bb) w4 (w4.setCell ⟨bb, 1, none⟩ (.int .i64 1)) := Kp.setCell (F := fun g => g = bb) (Kp.refl w4) (fun _ => rfl) _
  have kfw : Kp (fun g => g = bb ∨ g = r) w3 (w4.setCell ⟨bb, 1, none⟩ (.int .i64 1)) := (HM4.out.1.mono fun g _ h => .inr h).trans (kf.mono fun g _ h => .inl h)
  have hown : ∀ g, g = bb ∨ g = r → ¬ Owns w.heap.size iv' g := fun g hg ho => by
    rcases ho with ho | ho
    · omega
    · rcases HIV.out.1 g ho with h | h
      · cases h
      · omega
  have hnoS : ∀ g, g = bb ∨ g = r → ¬ S' g := fun g hg hs => by
    rcases HIV.out.2 g hs with h | h
    · rcases hg with rfl | rfl
      · exact hSb h
      · exact hSr h
    · omega
  have hend := HX3.out.2.move kfw hown hnoS (fun _ h => h) (fun q hq => Nat.lt_of_lt_of_le (HX3.out.2.inS q hq) kfw.size) HX3.out.2.notS
  rw [HKN.out] at hend
  exact RetF.mk ((Ext.kp HX3.out.1).trans kfw) ⟨rfl, S', w.heap.size, iv', HB4.out.set 1 _, HM4.out.2.kp kf (fun e => hbr e.symm), hend, Nat.le_refl _⟩
end
end Go.Proofs.Ytfkhelihepbehaa
