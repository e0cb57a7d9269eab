/- What a bound on the reading gives; []int as it came in. -/
import Derived.Test.YtcphalpcdcddpaaDoorRows
import Derived.Test.YtcphalpcdcddpaaDoorRead
namespace Go.Proofs.YtcphalpcdcddpaaDoor
open Go.ChangeShapes Go.WideShapes Go.ChangeAt Go.RowKit
set_option linter.unusedVariables false

theorem bulk_one {H : Type} (d : DataW H) : 1 ≤ Rows.uptoBulk d := by
  cases d with
  | lit l => cases l <;> simp [Rows.uptoBulk]
  | nil => simp [Rows.uptoBulk]
  | ptr d => simp [Rows.uptoBulk]
  | slice elems spare => simp [Rows.uptoBulk]
  | agg parts => simp [Rows.uptoBulk]
  | iface t d => simp [Rows.uptoBulk]
  | map entries => simp [Rows.uptoBulk]
  | held h => simp [Rows.uptoBulk]
theorem bulk_len {H : Type} (l : List (DataW H)) : l.length ≤ Rows.uptoBulkAll l := by
  induction l with
  | nil => simp [Rows.uptoBulkAll]
  | cons x r ih => have := bulk_one x; simp only [Rows.uptoBulkAll, List.length_cons]; omega
theorem bulk_slice {H : Type} (elems spare : List (DataW H)) : elems.length + spare.length + 1 ≤ Rows.uptoBulk (.slice elems spare) := by
  have h1 := bulk_len elems
  have h2 := bulk_len spare
  simp only [Rows.uptoBulk]
  omega

/-- A []int that came in. -/
def InInts (w : World) (v : Value) (n : Nat) : Prop :=
  ∃ ao cap zs, v = .slice ao zs.length cap ∧ CellsAt w ao (ints zs) ∧ zs.length ≤ n

theorem read_ints {H : Type} {enc : TypeId × Value → H} {P : Program} {W : World} {t e : TypeId} {base : Nat} {v : Value} {d : DataW H} {p : List MemPlace} (hu : P.underlying t = some (.slice e)) (he : P.underlying e = some (.int .i64)) (hc : P.cellsOf e = 1)
    (hok : Value.okWide P W .any base t v) (h : DataW.Trod enc P W 0 (fun _ => true) true t v d p) {N : Nat} (hN : Rows.uptoBulk d ≤ N) : InInts W v N := by
  obtain ⟨ao, len, cap, rfl⟩ := okWide_slice hu hok
  obtain ⟨fuel, hf⟩ := h
  rcases open_ints hu he hc hf with ⟨hcs, hx⟩ | ⟨a, len', cap', zs, hcs, _, hl, hm, hz, hx, hcell, hws⟩
  · simp [Value.cells] at hcs
    obtain ⟨rfl, rfl, rfl⟩ := hcs
    exact ⟨none, 0, [], rfl, CellsAt.nil _ _, by simp⟩
  · simp [Value.cells] at hcs
    obtain ⟨rfl, rfl, rfl⟩ := hcs
    simp only [Prod.mk.injEq] at hx
    obtain ⟨rfl, _⟩ := hx
    simp only [if_true] at hz
    have hlen : (zs.take len).length = len := by rw [List.length_take]; omega
    have hb := bulk_slice (lits (H := H) .i64 (zs.take len)) (lits .i64 (zs.drop len))
    have hl2 : (lits (H := H) .i64 (zs.take len)).length = len := by simp [lits]; omega
    refine ⟨some a, cap, zs.take len, by rw [hlen], fun i u hu' => ?_, by rw [hlen]; omega⟩
    have hi : i < len := by
      have := (List.getElem?_eq_some_iff.1 hu').1
      simp only [ints, List.length_map, hlen] at this; exact this
    obtain ⟨b, off, spot⟩ := a
    have h0 := hcell i (by omega)
    have hspot : spot = none := by
      have := World.cell?_spot (hcell 0 (by omega)); simpa [Addr.add] using this
    subst hspot
    refine ⟨b, off, rfl, ?_⟩
    rw [Addr.add_lit] at h0
    rw [h0]
    simp only [ints, List.getElem?_map, List.getElem?_take, hi, if_true] at hu'
    rw [List.getD_eq_getElem?_getD]
    cases hq : zs[i]? with
    | none => rw [hq] at hu'; simp at hu'
    | some x => rw [hq] at hu'; simpa using hu'
end Go.Proofs.YtcphalpcdcddpaaDoor
