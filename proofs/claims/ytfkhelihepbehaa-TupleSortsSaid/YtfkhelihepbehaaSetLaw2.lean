/- Sets in an order: more plain laws: what is in a new set; what is met; sets of a universe. -/
import Derived.Test.YtfkhelihepbehaaSetLaw
namespace Go.Proofs.Ytfkhelihepbehaa
set_option linter.unusedVariables false

section
variable {α : Type} {c : α → α → Int}
theorem OrdLaw.zero_trans (L : OrdLaw c) {x y z : α} (h : c x y = 0) (h' : c y z = 0) : c x z = 0 := by
  have t1 := L.trans x y z (by omega) (by omega)
  have h1 := L.zero h; have h2 := L.zero h'
  have t2 := L.trans z y x (by omega) (by omega)
  have := L.swap x z; omega
theorem isIn_addS (O : OrdLaw c) (L : List α) (y x : α) : isIn c (addS c L y) x = (isIn c L x || c y x == 0) := by
  rw [Bool.eq_iff_iff, isIn_iff, Bool.or_eq_true, isIn_iff, beq_iff_eq]
  constructor
  · rintro ⟨z, hz, e⟩
    rcases mem_addS.1 hz with hz | ⟨rfl, _⟩
    · exact .inl ⟨z, hz, e⟩
    · exact .inr e
  · rintro (⟨z, hz, e⟩ | e)
    · exact ⟨z, mem_addS.2 (.inl hz), e⟩
    · cases hin : isIn c L y with
      | false => exact ⟨y, mem_addS.2 (.inr ⟨rfl, hin⟩), e⟩
      | true =>
        obtain ⟨z, hz, e'⟩ := isIn_iff.1 hin
        exact ⟨z, mem_addS.2 (.inl hz), O.zero_trans e' e⟩
theorem isIn_newS (O : OrdLaw c) (L : List α) (x : α) : isIn c (newS c L) x = isIn c L x := by
  suffices h : ∀ (ys L : List α), isIn c (ys.foldl (addS c) L) x = (isIn c L x || isIn c ys x) from by
    have := h L []
    simpa [newS, isIn] using this
  intro ys
  induction ys with
  | nil => intro L; simp [isIn]
  | cons y ys ih =>
    intro L
    rw [List.foldl_cons, ih, isIn_addS O]
    simp [isIn, Bool.or_assoc]
/-- What is in both is what is not in what is in the first alone. -/
theorem meet_minus (O : OrdLaw c) {zs : List α} (hs : Strict c zs) (p : α → Bool) (hp : ∀ x y, c x y = 0 → p x = p y) :
    zs.filter (fun x => !isIn c (zs.filter fun x => !p x) x) = zs.filter p := by
  refine List.filter_congr fun x hx => ?_
  have e : isIn c (zs.filter fun x => !p x) x = !p x := by
    rw [Bool.eq_iff_iff, isIn_iff]
    constructor
    · rintro ⟨y, hy, e⟩
      have := (List.mem_filter.1 hy).2
      rw [hp y x e] at this
      exact this
    · intro h
      exact ⟨x, List.mem_filter.2 ⟨hx, h⟩, O.refl x⟩
  rw [e]; simp
theorem isIn_alike (O : OrdLaw c) (L : List α) (x y : α) (h : c x y = 0) : isIn c L x = isIn c L y := by
  rw [Bool.eq_iff_iff, isIn_iff, isIn_iff]
  constructor
  · rintro ⟨z, hz, e⟩; exact ⟨z, hz, O.zero_trans e h⟩
  · rintro ⟨z, hz, e⟩; exact ⟨z, hz, O.zero_trans e (O.zero h)⟩
theorem Strict.nodup (O : OrdLaw c) {L : List α} (h : Strict c L) : L.Nodup := by
  refine List.Pairwise.imp ?_ h
  rintro a b hab rfl
  have := O.refl a; omega
theorem nodup_len [DecidableEq α] : ∀ {L U : List α}, L.Nodup → (∀ x ∈ L, x ∈ U) → L.length ≤ U.length
  | [], _, _, _ => by simp
  | x :: L, U, h, hu => by
    obtain ⟨h1, h2⟩ := List.nodup_cons.1 h
    have hx := hu x (by simp)
    have := nodup_len (L := L) (U := U.erase x) h2 (fun y hy => by
      have hne : y ≠ x := fun e => h1 (e ▸ hy)
      exact (List.mem_erase_of_ne hne).2 (hu y (List.mem_cons_of_mem _ hy)))
    rw [List.length_erase_of_mem hx] at this
    have : 0 < U.length := List.length_pos_of_mem hx
    simp only [List.length_cons]; omega
/-- A strict set of a universe is no longer than it. -/
theorem Strict.len_le [DecidableEq α] (O : OrdLaw c) {L U : List α} (h : Strict c L) (hu : ∀ x ∈ L, x ∈ U) : L.length ≤ U.length := nodup_len (h.nodup O) hu
theorem mem_dropS {L : List α} {x y : α} (h : y ∈ dropS c L x) : y ∈ L := by
  unfold dropS at h
  split at h
  · rcases List.mem_append.1 h with h | h
    · exact List.mem_of_mem_take h
    · exact List.mem_of_mem_drop h
  · exact h
end
end Go.Proofs.Ytfkhelihepbehaa
