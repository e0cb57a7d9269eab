/- Arguments as they came in, by their shapes. -/
import Derived.Test.YtcphalpcdcddpaaDoorShape
namespace Go.Proofs.YtcphalpcdcddpaaDoor
open Go.ChangeShapes Go.WideShapes Go.ChangeAt Go.RowKit
set_option linter.unusedVariables false
section
variable {P : Program} {α β : Type}
/-- A slice that came in. -/
theorem arg_slice {t : TypeId} {s : Shp P α} (hu : P.underlying t = some (.slice s.ty)) (hc : P.cellsOf t = 1) (hn : 0 < s.n) {H : Type} {enc : TypeId × Value → H} {W : World} {base : Nat} {v : Value} {d : DataW H} {p : List MemPlace}
    (hok : Value.okWide P W .any base t v) (h : DataW.Trod enc P W 0 (fun _ => true) true t v d p) {N : Nat} (hN : Rows.uptoBulk d ≤ N) :
    ∃ ao cap xs, v = .slice ao xs.length cap ∧ xs.length ≤ cap ∧ ElemsAt s W (fun k => k < W.heap.size) ao xs ∧ bulkL s.bulk xs + 1 ≤ N := by
  obtain ⟨ao, len, cap, rfl⟩ := okWide_slice hu hok
  obtain ⟨x, ⟨ao', cap', e, hl, _, hx⟩, hb⟩ := (shSlice t s hu hc hn).arg h hN
  simp [Value.cells] at e
  obtain ⟨rfl, rfl, rfl⟩ := e
  exact ⟨ao, cap, x, rfl, hl, hx, hb⟩
/-- A text that came in. -/
theorem arg_str {t : TypeId} (hu : P.underlying t = some .string) (hc : P.cellsOf t = 1) {H : Type} {enc : TypeId × Value → H} {W : World} {base : Nat} {v : Value} {d : DataW H} {p : List MemPlace}
    (hok : Value.okWide P W .any base t v) (h : DataW.Trod enc P W 0 (fun _ => true) true t v d p) {N : Nat} (hN : Rows.uptoBulk d ≤ N) : ∃ s, v = .string s ∧ s.size + 1 ≤ N := by
  obtain ⟨s, rfl⟩ := okWide_string hu hok
  obtain ⟨x, ⟨e, _⟩, hb⟩ := (shStr t hu hc).arg h hN
  simp [Value.cells] at e
  subst e
  exact ⟨s, rfl, hb⟩
theorem bulk_in {H : Type} {l : List (DataW H)} {N : Nat} (h : Rows.uptoBulkAll l ≤ N) {d : DataW H} (hd : d ∈ l) : Rows.uptoBulk d ≤ N := by
  induction l with
  | nil => cases hd
  | cons x l ih =>
    simp only [Rows.uptoBulkAll] at h
    rcases List.mem_cons.1 hd with rfl | hd
    · omega
    · exact ih (by omega) hd
end
end Go.Proofs.YtcphalpcdcddpaaDoor
