/- TupleSets: the script as it came in. -/
import Derived.Test.YtfkhelihepbehaaBulk
import Derived.Lib.SmallJoins
import Derived.Deep.Slices
namespace Go.Proofs.Ytfkhelihepbehaa
open Go.ChangeShapes Go.WideShapes Go.ChangeAt Go.RowKit
set_option linter.unusedVariables false

/-- The cells of a script. -/
def opVals (o : Int × Int × Int × Int) : List Value := [.int .i64 o.1, .int .i64 o.2.1, .int .i64 o.2.2.1, .int .i64 o.2.2.2]
/-- A script in memory: each step's four cells. -/
def OpsAt (w : World) (ao : Option Addr) (ops : List (Int × Int × Int × Int)) : Prop :=
  ∀ i o, ops[i]? = some o → ∃ b off, ao = some ⟨b, off, none⟩ ∧ b < w.heap.size ∧ ∀ c u, (opVals o)[c]? = some u → w.cell? ⟨b, off + (i * 4 + c), none⟩ = some u
theorem OpsAt.ext {w w' : World} {ao : Option Addr} {ops : List (Int × Int × Int × Int)} (h : OpsAt w ao ops) (hk : Ext w w') : OpsAt w' ao ops := fun i o hi => by
  obtain ⟨b, off, e, hb, hc⟩ := h i o hi
  exact ⟨b, off, e, Nat.lt_of_lt_of_le hb hk.size, fun c u hu => hk.cell (hc c u hu) id⟩
theorem OpsAt.kp {w w' : World} {ao : Option Addr} {ops : List (Int × Int × Int × Int)} {lo : Nat} (h : OpsAt w ao ops) (hw : w.heap.size ≤ lo) (hk : Kp (fun g => lo ≤ g) w w') : OpsAt w' ao ops := fun i o hi => by
  obtain ⟨b, off, e, hb, hc⟩ := h i o hi
  exact ⟨b, off, e, Nat.lt_of_lt_of_le hb hk.size, fun c u hu => hk.cell (hc c u hu) (by omega)⟩
/-- A script that came in. -/
def InOps (w : World) (v : Value) (n : Nat) : Prop :=
  ∃ ao cap ops, v = .slice ao ops.length cap ∧ OpsAt w ao ops ∧ ops.length ≤ n

set_option maxRecDepth 100000 in
theorem read_ops {H : Type} {enc : TypeId × Value → H} {W : World} {base : Nat} {v : Value} {d : DataW H} {p : List MemPlace}
    (hok : Value.okWide Try.prog W .any base 27 v) (h : DataW.Trod enc Try.prog W 0 (fun _ => true) true 27 v d p) {N : Nat} (hN : Rows.uptoBulk d ≤ N) : InOps W v N := by
  have hu := Try.underlying27
  have hc4 : Try.prog.cellsOf 45 = 4 := by kernel_rfl
  have hc1 : Try.prog.cellsOf 3 = 1 := by kernel_rfl
  obtain ⟨ao, len, cap, rfl⟩ := okWide_slice hu hok
  obtain ⟨fuel, hf⟩ := h
  rcases Go.Deep.open_slice hu hf with ⟨hcs, hx⟩ | ⟨a, len', cap', m, n, D, Pl, hcs, _, hl, hm, hmm, hx, hel⟩
  · simp [Value.cells] at hcs
    obtain ⟨rfl, rfl, rfl⟩ := hcs
    exact ⟨none, 0, [], rfl, fun i o hi => by simp at hi, by simp⟩
  · simp [Value.cells] at hcs
    obtain ⟨rfl, rfl, rfl⟩ := hcs
    simp only [Prod.mk.injEq] at hx
    obtain ⟨rfl, _⟩ := hx
    simp only [if_true] at hmm
    have hb := bulk_slice ((List.range len).map D) ((List.range (m - len)).map fun j => D (len + j))
    simp only [List.length_map, List.length_range] at hb
    have each : ∀ i, i < len → ∃ o : Int × Int × Int × Int, ∃ b off, a = ⟨b, off, none⟩ ∧ b < W.heap.size ∧ ∀ c u, (opVals o)[c]? = some u → W.cell? ⟨b, off + (i * 4 + c), none⟩ = some u := by
      intro i hi
      obtain ⟨cs, hcs, ht⟩ := hel i (by omega)
      rw [hc4] at hcs
      obtain ⟨_, hlen, hcell⟩ := World.cells?_some hcs
      obtain ⟨y0, y1, y2, y3, n', _, _, t0, t1, t2, t3⟩ := Go.Joins.trod_struct4 Try.underlying45 ht
      obtain ⟨z0, e0, _⟩ := DataW.trod_int Try.underlying3 t0
      obtain ⟨z1, e1, _⟩ := DataW.trod_int Try.underlying3 t1
      obtain ⟨z2, e2, _⟩ := DataW.trod_int Try.underlying3 t2
      obtain ⟨z3, e3, _⟩ := DataW.trod_int Try.underlying3 t3
      simp only [hc1] at e0 e1 e2 e3
      match cs, hlen with
      | [v0, v1, v2, v3], _ =>
        simp at e0 e1 e2 e3
        subst e0 e1 e2 e3
        obtain ⟨b, off, spot⟩ := a
        have hspot : spot = none := by
          obtain ⟨cs0, hcs0, _⟩ := hel 0 (by omega)
          rw [hc4] at hcs0
          obtain ⟨_, hlen0, hcell0⟩ := World.cells?_some hcs0
          have h0 := hcell0 0 (by omega)
          rw [List.getElem?_eq_getElem (by omega)] at h0
          have := World.cell?_spot h0
          simpa [Addr.add] using this
        subst hspot
        have cell : ∀ c, c < 4 → W.cell? ⟨b, off + (i * 4 + c), none⟩ = (opVals (z0, z1, z2, z3))[c]? := fun c hc => by
          have := hcell c hc
          rw [Go.Deep.add_add, Addr.add_lit] at this
          exact this
        refine ⟨(z0, z1, z2, z3), b, off, rfl, ?_, fun c u hu => ?_⟩
        · exact World.block_lt_of_cell? _ _ (cell 0 (by omega))
        · have hc := (List.getElem?_eq_some_iff.1 hu).1
          rw [cell c (by simpa [opVals] using hc)]; exact hu
    obtain ⟨f, hf'⟩ := Go.Deep.choose_lt each
    refine ⟨some a, cap, (List.range len).map f, by simp, fun i o hi => ?_, by simp; omega⟩
    obtain ⟨hi', rfl⟩ := List.getElem?_eq_some_iff.1 hi
    simp only [List.length_map, List.length_range] at hi'
    obtain ⟨b, off, rfl, hb', hc⟩ := hf' i hi'
    simp only [List.getElem_map, List.getElem_range]
    exact ⟨b, off, rfl, hb', hc⟩
end Go.Proofs.Ytfkhelihepbehaa
