/- Runs: more plain laws. -/
import Derived.Test.YtfkhelihepbehaaArr
namespace Go.Proofs.Ytfkhelihepbehaa
theorem Good.mem {c : Nat → Nat → Int} : ∀ {s : Nat} {X : List (List Nat)} {i : Nat}, Good c s X → i ∈ X.flatten → s ≤ i ∧ i < s + X.flatten.length
  | s, [], i, _, hi => by simp at hi
  | s, A :: X, i, h, hi => by
    obtain ⟨h1, h2, h3⟩ := h
    rw [List.flatten_cons, List.mem_append] at hi
    rw [List.flatten_cons, List.length_append]
    rcases hi with hi | hi
    · have := range'_mem_lt h1 hi; omega
    · have := Good.mem h3 hi; omega
end Go.Proofs.Ytfkhelihepbehaa
