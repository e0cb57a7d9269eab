/- From what a row hands over of an argument to the words of these proofs. No program in sight. -/
import Derived.Test.YtcphalpcdcddpaaDoorBase
import Derived.ProofKit
import Derived.OpenShut
import Derived.ShutString
import Derived.ChangeOld
import Derived.Carry
import Derived.SliceStrings
import Derived.SizedLaws
import Derived.JoinedCond
import Derived.Deep.Slices
namespace Go.Proofs.YtcphalpcdcddpaaDoor
open Go.ChangeShapes Go.WideShapes Go.ChangeAt Go.RowKit
open Go.ChangeMaps (open_string shut_string)
set_option linter.unusedVariables false

section
variable {H : Type} {enc : TypeId × Value → H} {P : Program} {W : World}

def Sized (P : Program) (t : TypeId) (d : DataW H) : Prop := ∀ n ∈ d.weights P t, n ≤ reachBytes
theorem sized_of {ts : List TypeId} {ds : List (DataW H)} (h : (DataW.weightsEach P ts ds).all (· ≤ reachBytes) = true) {j : Nat} {t : TypeId} {d : DataW H} (ht : ts[j]? = some t) (hd : ds[j]? = some d) : Sized P t d := fun n hn => by
  have := List.all_eq_true.1 h _ (DataW.weights_mem_each ht hd n hn)
  simpa using this

/-- A []string that came in. -/
def InStrs (w : World) (v : Value) (n m : Nat) : Prop :=
  ∃ ao cap ss, v = .slice ao ss.length cap ∧ CellsAt w ao (strs ss) ∧ ss.length ≤ n ∧ ∀ s ∈ ss, s.size ≤ m

theorem weights_str (P : Program) (e : TypeId) (b : List UInt8) : (DataW.lit (H := H) (.string b)).weights P e = [b.length] := by simp [DataW.weights]
theorem weightsAll_mem (P : Program) (e : TypeId) : ∀ {l : List (DataW H)} {d : DataW H}, d ∈ l → ∀ n ∈ d.weights P e, n ∈ DataW.weightsAll P e l
  | d0 :: l, d, hd, n, hn => by
    simp only [DataW.weightsAll, List.mem_append]
    rcases List.mem_cons.1 hd with rfl | hd
    · exact .inl hn
    · exact .inr (weightsAll_mem P e hd n hn)

theorem read_strs {t e : TypeId} {base : Nat} {v : Value} {d : DataW H} {p : List MemPlace} (hu : P.underlying t = some (.slice e)) (he : P.underlying e = some .string) (hc : P.cellsOf e = 1) (hby : P.bytesOf e = 16)
    (hok : Value.okWide P W .any base t v) (h : DataW.Trod enc P W 0 (fun _ => true) true t v d p) (hsz : Sized P t d) : InStrs W v 8796093021952 140737488351232 := by
  obtain ⟨ao, len, cap, rfl⟩ := okWide_slice hu hok
  obtain ⟨fuel, hf⟩ := h
  rcases open_strings hu he hc hf with ⟨hcs, hx⟩ | ⟨a, len', cap', ss, hcs, _, hl, hm, hz, hx, hcell, hws⟩
  · simp [Value.cells] at hcs
    obtain ⟨rfl, rfl, rfl⟩ := hcs
    exact ⟨none, 0, [], rfl, CellsAt.nil _ _, by simp, by simp⟩
  · simp [Value.cells] at hcs
    obtain ⟨rfl, rfl, rfl⟩ := hcs
    simp only [Prod.mk.injEq] at hx
    obtain ⟨rfl, _⟩ := hx
    simp only [if_true] at hz
    have hlen : (ss.take len).length = len := by rw [List.length_take]; omega
    have hr : reachBytes = 140737488351232 := by decide
    refine ⟨some a, cap, ss.take len, by rw [hlen], fun i u hu' => ?_, ?_, fun s hs => ?_⟩
    · have hi : i < len := by
        have := (List.getElem?_eq_some_iff.1 hu').1
        simp only [strs, List.length_map, hlen] at this; exact this
      obtain ⟨b, off, spot⟩ := a
      have h0 := hcell i (by omega)
      have hspot : spot = none := by
        have := World.cell?_spot (hcell 0 (by omega)); simpa [Addr.add] using this
      subst hspot
      refine ⟨b, off, rfl, ?_⟩
      rw [Addr.add_lit] at h0
      rw [h0]
      simp only [strs, List.getElem?_map, List.getElem?_take, hi, if_true] at hu'
      rw [List.getD_eq_getElem?_getD]
      cases hq : ss[i]? with
      | none => rw [hq] at hu'; simp at hu'
      | some x => rw [hq] at hu'; simpa using hu'
    · have := hsz ((ss.take len).length * 16 + (ss.drop len).length * 16) (by simp [DataW.weights, hu, hby, Nat.add_mul, ChangeShapes.strs])
      rw [hr] at this
      omega
    · have hmem : (DataW.lit (H := H) (.string s.data.toList)) ∈ ChangeShapes.strs (H := H) (ss.take len) := by
        simp only [ChangeShapes.strs, List.mem_map]; exact ⟨s, hs, rfl⟩
      have := hsz s.data.toList.length (by
        simp only [DataW.weights, hu, List.mem_cons, List.mem_append]
        right; left
        exact weightsAll_mem P e hmem _ (by rw [weights_str]; simp))
      rw [hr] at this
      exact this
end
end Go.Proofs.YtcphalpcdcddpaaDoor
