/- Worlds in which some blocks are as they were. No program in sight. -/
import Derived.Test.YtfkhelihepbehaaBase
namespace Go.Proofs.Ytfkhelihepbehaa
open Go.RowKit
set_option linter.unusedVariables false

/-- Blocks of S lay in w0 and are the same in w. -/
def Same (S : Nat → Prop) (w0 w : World) : Prop := ∀ k, S k → k < w0.heap.size ∧ w.heap[k]? = w0.heap[k]?

section
variable {S S' : Nat → Prop} {w0 w w' : World}
theorem Same.refl (h : ∀ k, S k → k < w.heap.size) : Same S w w := fun k hk => ⟨h k hk, rfl⟩
theorem Same.in (h : Same S w0 w) : ∀ k, S k → k < w0.heap.size := fun k hk => (h k hk).1
theorem Same.trans (h : Same S w0 w) (h' : Same S w w') : Same S w0 w' := fun k hk => ⟨(h k hk).1, (h' k hk).2.trans (h k hk).2⟩
theorem Same.mono (h : Same S w0 w) (hs : ∀ k, S' k → S k) : Same S' w0 w := fun k hk => h k (hs k hk)
theorem Kp.same {F : Nat → Prop} (h : Kp F w w') (hS : ∀ k, S k → k < w.heap.size) (hd : ∀ k, S k → ¬ F k) : Same S w w' := fun k hk => ⟨hS k hk, h.block k (hS k hk) (hd k hk)⟩
theorem Same.back (h : Same S w0 w) (h' : Same S w0 w') (hl : ∀ k, S k → k < w.heap.size) : Same S w w' := fun k hk => ⟨hl k hk, (h' k hk).2.trans (h k hk).2.symm⟩
theorem Same.lt (h : Same S w0 w) : ∀ k, S k → k < w.heap.size := fun k hk => by
  obtain ⟨h1, h2⟩ := h k hk
  have : w0.heap[k]? = some (w0.heap[k]'h1) := Array.getElem?_eq_getElem h1
  rw [this] at h2
  exact (Array.getElem?_eq_some_iff.1 h2).1
end
theorem Row.lt {w : World} {e : TypeId} {k : Nat} {v : Value} {n : Nat} {xs : List Value} {M : Nat → Prop} (h : Row w e k v n xs M) : ∀ g, v.ownBlock = some g → g < w.heap.size := by
  obtain ⟨_, ⟨rfl, _⟩ | ⟨g, cap, rest, rfl, _, hb, _⟩⟩ := h
  · intro g hg; cases hg
  · intro g' hg
    have e : g = g' := Option.some.inj hg
    rw [← e]; exact hb.lt
theorem alloc_size (w : World) (o : Obj) : (w.alloc o).heap.size = w.heap.size + 1 := by simp
/-- What a set owns: its struct's block, its row's block. -/
def Owns (b : Nat) (iv : Value) (k : Nat) : Prop := k = b ∨ iv.ownBlock = some k
end Go.Proofs.Ytfkhelihepbehaa
