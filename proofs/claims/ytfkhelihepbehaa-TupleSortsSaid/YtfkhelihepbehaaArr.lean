/- Rows of cells as lists: plain laws; the stable order of places. No program in sight. -/
import Derived.Test.YtfkhelihepbehaaBase
import Derived.Shelf.Abstract
namespace Go.Proofs.Ytfkhelihepbehaa
open Go.RowKit
set_option linter.unusedVariables false

theorem get_mid {α : Type} (u : List α) (x : α) (v : List α) (k : Nat) (hk : k = u.length) : (u ++ x :: v)[k]? = some x := by subst hk; simp
theorem set_mid {α : Type} (u : List α) (x y : α) (v : List α) (k : Nat) (hk : k = u.length) : (u ++ x :: v).set k y = u ++ y :: v := by subst hk; simp
theorem cut_at {α : Type} (l : List α) (k : Nat) (h : k < l.length) : ∃ u x v, l = u ++ x :: v ∧ u.length = k :=
  ⟨l.take k, l[k], l.drop (k + 1), by rw [← List.drop_eq_getElem_cons h, List.take_append_drop], by simp; omega⟩

/-- Two cells exchanged, in either order of the stores. -/
theorem swapCells {w : World} {g : Nat} {f : Nat → Value} {rest : List Value} {e : TypeId} {u v t : List Nat} {x y : Nat} (h : Blk w g ((u ++ x :: (v ++ y :: t)).map f ++ rest) e) {i j : Nat} (hi : i = u.length) (hj : j = u.length + 1 + v.length) :
    Blk ((w.setCell ⟨g, i, none⟩ (f y)).setCell ⟨g, j, none⟩ (f x)) g ((u ++ y :: (v ++ x :: t)).map f ++ rest) e ∧
    Blk ((w.setCell ⟨g, j, none⟩ (f x)).setCell ⟨g, i, none⟩ (f y)) g ((u ++ y :: (v ++ x :: t)).map f ++ rest) e ∧
    w.cell? ⟨g, i, none⟩ = some (f x) ∧ w.cell? ⟨g, j, none⟩ = some (f y) := by
  have e1 : ∀ a b, (u ++ a :: (v ++ b :: t)).map f ++ rest = u.map f ++ f a :: (v.map f ++ f b :: (t.map f ++ rest)) := by intro a b; simp
  have e2 : ∀ a b, (u ++ a :: (v ++ b :: t)).map f ++ rest = (u.map f ++ f a :: v.map f) ++ f b :: (t.map f ++ rest) := by intro a b; simp
  have l1 : i = (u.map f).length := by simpa using hi
  have l2 : ∀ a, j = (u.map f ++ f a :: v.map f).length := by intro a; simp; omega
  refine ⟨?_, ?_, ?_, ?_⟩
  · have h1 := h.set i (f y)
    rw [e1, set_mid _ _ _ _ _ l1, ← e1] at h1
    have h2 := h1.set j (f x)
    rw [e2, set_mid _ _ _ _ _ (l2 y), ← e2] at h2
    exact h2
  · have h1 := h.set j (f x)
    rw [e2, set_mid _ _ _ _ _ (l2 x), ← e2] at h1
    have h2 := h1.set i (f y)
    rw [e1, set_mid _ _ _ _ _ l1, ← e1] at h2
    exact h2
  · rw [h.cell', e1, get_mid _ _ _ _ l1]
  · rw [h.cell', e2, get_mid _ _ _ _ (l2 x)]

/-- What a drawn region must know of a sum that is an index. -/
theorem idx_facts {a b n : Nat} (h : a + b < n) (hn : n ≤ 4611686018427387904) :
    IntKind.i64.wrap ((a : Int) + (b : Int)) = (a : Int) + (b : Int) ∧ (0 : Int) ≤ (a : Int) + (b : Int) ∧ (a : Int) + (b : Int) < (n : Int) ∧ ((a : Int) + (b : Int)).toNat = a + b :=
  ⟨IntWalk.i64_in _ (by omega), by omega, by omega, by omega⟩

/-- What a drawn region must know of 'k + 1' and 'k + 1 - 1' as indexes. -/
theorem idx_pred {k n : Nat} (h : k + 1 < n) (hn : n ≤ 4611686018427387904) :
    IntKind.i64.wrap ((k : Int) + 1 - 1) = (k : Int) ∧ IntKind.i64.wrap ((k : Int)) = (k : Int) ∧ IntKind.i64.wrap ((k : Int) + 1) = (k : Int) + 1 ∧ (0 : Int) ≤ (k : Int) + 1 ∧ (k : Int) + 1 < (n : Int) ∧ ((k : Int) + 1).toNat = k + 1 ∧ k < n :=
  ⟨by rw [IntWalk.i64_in _ (by omega)]; omega, IntWalk.i64_in _ (by omega), IntWalk.i64_in _ (by omega), by omega, by omega, by omega, by omega⟩

/-- What a drawn region must know of the middle of two places. -/
theorem idx_half {i j n : Nat} (h : (i + j) / 2 < n) (hn : n ≤ 4611686018427387904) :
    IntKind.i64.wrap (((i : Int) + j) / 2) = ((i : Int) + j) / 2 ∧ (0 : Int) ≤ ((i : Int) + j) / 2 ∧ ((i : Int) + j) / 2 < (n : Int) ∧ (((i : Int) + j) / 2).toNat = (i + j) / 2 :=
  ⟨IntWalk.i64_in _ (by omega), by omega, by omega, by omega⟩

/-! ### The order of a sort that keeps alike ones in their order: places held against each other -/

/-- A comparison of places that goes as an order does. -/
structure CmpLaw (c : Nat → Nat → Int) : Prop where
  swap : ∀ i j, c i j < 0 ↔ 0 < c j i
  trans : ∀ i j k, c i j ≤ 0 → c j k ≤ 0 → c i k ≤ 0

/-- Place i stands ahead of place j. -/
def Ahead (c : Nat → Nat → Int) (i j : Nat) : Prop := c i j < 0 ∨ (c i j = 0 ∧ i < j)

section
variable {c : Nat → Nat → Int}
theorem Ahead.le {i j : Nat} (h : Ahead c i j) : c i j ≤ 0 := by rcases h with h | h <;> omega
variable (L : CmpLaw c)
include L
theorem CmpLaw.le_of {i j : Nat} (h : ¬ c i j < 0) : c j i ≤ 0 := by
  have := L.swap i j; have := L.swap j i; omega
theorem CmpLaw.zero {i j : Nat} (h : c i j = 0) : c j i = 0 := by
  have := L.swap i j; have := L.swap j i; omega
theorem Ahead.trans {i j k : Nat} (h1 : Ahead c i j) (h2 : Ahead c j k) : Ahead c i k := by
  have l := L.trans i j k (Ahead.le h1) (Ahead.le h2)
  by_cases e : c i k < 0
  · exact .inl e
  · have e0 : c i k = 0 := by omega
    have k0 := L.zero e0
    have t1 := L.trans j k i (Ahead.le h2) (by omega)
    have t2 := L.trans k i j (by omega) (Ahead.le h1)
    have s1 := L.swap i j
    have s2 := L.swap j k
    rcases h1 with h1 | ⟨h1, l1⟩
    · omega
    · rcases h2 with h2 | ⟨h2, l2⟩
      · omega
      · exact .inr ⟨e0, by omega⟩
theorem Ahead.of_not {i j : Nat} (h : ¬ c j i < 0) (hl : i < j) : Ahead c i j := by
  have h' := L.le_of h
  by_cases e : c i j < 0
  · exact .inl e
  · exact .inr ⟨by omega, hl⟩
theorem Ahead.asymm {i j : Nat} (h : Ahead c i j) (h' : Ahead c j i) : False := by
  have := L.swap i j; have := L.swap j i
  rcases h with h | h <;> rcases h' with h' | h' <;> omega
end

/-- In the order. -/
def Sorted (c : Nat → Nat → Int) (l : List Nat) : Prop := l.Pairwise (Ahead c)

section
variable {c : Nat → Nat → Int}
theorem Sorted.append {a b : List Nat} : Sorted c (a ++ b) ↔ Sorted c a ∧ Sorted c b ∧ ∀ x ∈ a, ∀ y ∈ b, Ahead c x y := List.pairwise_append
theorem Sorted.nil : Sorted c [] := List.Pairwise.nil
theorem Sorted.one (x : Nat) : Sorted c [x] := List.pairwise_singleton _ _

/-- One more put in its place. -/
theorem Sorted.insert (L : CmpLaw c) {a b : List Nat} {x : Nat} (h : Sorted c (a ++ b)) (hb : ∀ y ∈ b, c x y < 0) (ha : ∀ y, a.getLast? = some y → Ahead c y x) : Sorted c (a ++ x :: b) := by
  obtain ⟨h1, h2, h3⟩ := Sorted.append.1 h
  refine Sorted.append.2 ⟨h1, List.pairwise_cons.2 ⟨fun y hy => .inl (hb y hy), h2⟩, ?_⟩
  have hx : ∀ y ∈ a, Ahead c y x := by
    intro y hy
    rcases List.eq_nil_or_concat a with rfl | ⟨a', l, rfl⟩
    · simp at hy
    · have hl := ha l (by simp)
      simp only [List.concat_eq_append, List.mem_append, List.mem_singleton] at hy
      rcases hy with hy | rfl
      · rw [List.concat_eq_append] at h1
        have := (Sorted.append.1 h1).2.2 y hy l (by simp)
        exact Ahead.trans L this hl
      · exact hl
  intro y hy w hw
  rcases List.mem_cons.1 hw with rfl | hw
  · exact hx y hy
  · exact h3 y hy w hw

/-- The one list in the order of a list's places. -/
theorem Sorted.unique (L : CmpLaw c) : ∀ {a b : List Nat}, a.Perm b → Sorted c a → Sorted c b → a = b
  | [], b, hp, _, _ => by have := hp.length_eq; simp at this; exact (List.eq_nil_of_length_eq_zero this.symm).symm
  | x :: a, [], hp, _, _ => by have := hp.length_eq; simp at this
  | x :: a, y :: b, hp, ha, hb => by
    have e : x = y := by
      have hx : x ∈ y :: b := hp.subset (by simp)
      have hy : y ∈ x :: a := hp.symm.subset (by simp)
      rcases List.mem_cons.1 hx with h | h
      · exact h
      · rcases List.mem_cons.1 hy with h' | h'
        · exact h'.symm
        · exact (Ahead.asymm L (List.rel_of_pairwise_cons ha h') (List.rel_of_pairwise_cons hb h)).elim
    subst e
    rw [Sorted.unique L (List.Perm.cons_inv hp) (List.Pairwise.of_cons ha) (List.Pairwise.of_cons hb)]
end

/-- One round of the insertion sort. -/
theorem ins_step {c : Nat → Nat → Int} (L : CmpLaw c) {seg S R' S1 S2 : List Nat} {x : Nat}
    (hp : (S ++ x :: R').Perm seg) (hs : Sorted c S) (hr : (x :: R').Pairwise (· < ·)) (hsr : ∀ s ∈ S, ∀ r ∈ x :: R', s < r)
    (h : S = S1 ++ S2) (h2 : ∀ y ∈ S2, c x y < 0) (h1 : ∀ y, S1.getLast? = some y → ¬ c x y < 0) :
    (S1 ++ x :: S2 ++ R').Perm seg ∧ Sorted c (S1 ++ x :: S2) ∧ R'.Pairwise (· < ·) ∧ ∀ s ∈ S1 ++ x :: S2, ∀ r ∈ R', s < r := by
  subst h
  have hr' := List.pairwise_cons.1 hr
  refine ⟨?_, Sorted.insert L hs h2 fun y hy => ?_, hr'.2, ?_⟩
  · refine List.Perm.trans ?_ hp
    have : (S1 ++ x :: S2 ++ R').Perm (S1 ++ (S2 ++ x :: R')) := by
      rw [List.append_assoc]
      refine List.Perm.append_left S1 ?_
      exact (List.perm_middle (a := x) (l₁ := S2) (l₂ := R')).symm
    simpa using this
  · have hm : y ∈ S1 := List.mem_of_getLast? hy
    exact Ahead.of_not L (h1 y hy) (hsr y (by simp [hm]) x (by simp))
  · intro s hs' r hr''
    simp only [List.mem_append, List.mem_cons] at hs'
    rcases hs' with h | rfl | h
    · exact hsr s (by simp [h]) r (by simp [hr''])
    · exact hr'.1 r hr''
    · exact hsr s (by simp [h]) r (by simp [hr''])

theorem CmpLaw.lt_of_le_lt {c : Nat → Nat → Int} (L : CmpLaw c) {u y x : Nat} (h1 : c u y ≤ 0) (h2 : c y x < 0) : c u x < 0 := by
  have t := L.trans u y x h1 (by omega)
  by_cases e : c u x < 0
  · exact e
  · have t2 := L.trans x u y (L.le_of e) h1
    have := L.swap y x
    omega
theorem CmpLaw.lt_of_lt_le {c : Nat → Nat → Int} (L : CmpLaw c) {u y x : Nat} (h1 : c u y < 0) (h2 : c y x ≤ 0) : c u x < 0 := by
  have t := L.trans u y x (by omega) h2
  by_cases e : c u x < 0
  · exact e
  · have t2 := L.trans y x u h2 (L.le_of e)
    have := L.swap u y
    omega

theorem Blk.at {w : World} {g : Nat} {L : List Nat} {f : Nat → Value} {rest : List Value} {e : TypeId} (h : Blk w g (L.map f ++ rest) e) (t : Nat) (ht : t < L.length) : w.cell? ⟨g, t, none⟩ = some (f (L.getD t 0)) := by
  rw [h.cell', List.getElem?_append_left (by simpa using ht)]
  simp [ht, List.getD]

theorem getD_mid {u v : List Nat} {x t : Nat} (h : t = u.length) : (u ++ x :: v).getD t 0 = x := by subst h; simp [List.getD]
theorem getD_mem {l : List Nat} {t : Nat} (h : t < l.length) : l.getD t 0 ∈ l := by
  simp [List.getD, h]
theorem getD_in {u B v : List Nat} {t : Nat} (h1 : u.length ≤ t) (h2 : t < u.length + B.length) : (u ++ B ++ v).getD t 0 = B.getD (t - u.length) 0 := by
  simp only [List.getD]
  rw [List.append_assoc, List.getElem?_append_right h1, List.getElem?_append_left (by omega)]

/-- What a binary search has found in a sorted list: where it parts (the lower part stands strictly ahead of x). -/
theorem part_below {c : Nat → Nat → Int} (L : CmpLaw c) {B : List Nat} (hs : Sorted c B) {x i : Nat} (hi : i ≤ B.length) (h1 : i = 0 ∨ c (B.getD (i - 1) 0) x < 0) (h2 : i = B.length ∨ ¬ c (B.getD i 0) x < 0) :
    ∃ B1 B2, B = B1 ++ B2 ∧ B1.length = i ∧ (∀ y ∈ B1, c y x < 0) ∧ ∀ y ∈ B2, ¬ c y x < 0 := by
  refine ⟨B.take i, B.drop i, (List.take_append_drop i B).symm, by simp; omega, ?_, ?_⟩
  · have hs' : Sorted c (B.take i) := List.Pairwise.sublist (List.take_sublist i B) hs
    intro y hy
    rcases List.eq_nil_or_concat (B.take i) with h | ⟨l, z, h⟩
    · rw [h] at hy; simp at hy
    · rw [List.concat_eq_append] at h
      rw [h] at hy hs'
      have hl : l.length + 1 = i := by have := congrArg List.length h; simp at this; omega
      have hz : B.getD (i - 1) 0 = z := by
        have : B = l ++ z :: B.drop i := by have e := (List.take_append_drop i B).symm; rw [h, List.append_assoc] at e; exact e
        rw [this]; exact getD_mid (by omega)
      rcases h1 with h1 | h1
      · omega
      · rw [hz] at h1
        simp only [List.mem_append, List.mem_singleton] at hy
        rcases hy with hy | rfl
        · exact L.lt_of_le_lt (Ahead.le ((Sorted.append.1 hs').2.2 y hy z (by simp))) h1
        · exact h1
  · have hs' : Sorted c (B.drop i) := List.Pairwise.sublist (List.drop_sublist i B) hs
    intro y hy hc
    rcases h : B.drop i with _ | ⟨z, l⟩
    · rw [h] at hy; simp at hy
    · rw [h] at hy hs'
      have hz : B.getD i 0 = z := by
        have hl : i < B.length := by
          have := congrArg List.length h; simp at this; omega
        have : B = B.take i ++ z :: l := by have e := (List.take_append_drop i B).symm; rw [h] at e; exact e
        rw [this]; exact getD_mid (by simp; omega)
      rcases h2 with h2 | h2
      · subst h2; simp at h
      · rw [hz] at h2
        rcases List.mem_cons.1 hy with rfl | hy
        · exact h2 hc
        · exact h2 (L.lt_of_le_lt (Ahead.le (List.rel_of_pairwise_cons hs' hy)) hc)

/-- The same where x is held against the list's. -/
theorem part_above {c : Nat → Nat → Int} (L : CmpLaw c) {A : List Nat} (hs : Sorted c A) {x i : Nat} (hi : i ≤ A.length) (h1 : i = 0 ∨ ¬ c x (A.getD (i - 1) 0) < 0) (h2 : i = A.length ∨ c x (A.getD i 0) < 0) :
    ∃ A1 A2, A = A1 ++ A2 ∧ A1.length = i ∧ (∀ y ∈ A1, ¬ c x y < 0) ∧ ∀ y ∈ A2, c x y < 0 := by
  refine ⟨A.take i, A.drop i, (List.take_append_drop i A).symm, by simp; omega, ?_, ?_⟩
  · have hs' : Sorted c (A.take i) := List.Pairwise.sublist (List.take_sublist i A) hs
    intro y hy hc
    rcases List.eq_nil_or_concat (A.take i) with h | ⟨l, z, h⟩
    · rw [h] at hy; simp at hy
    · rw [List.concat_eq_append] at h
      rw [h] at hy hs'
      have hl : l.length + 1 = i := by have := congrArg List.length h; simp at this; omega
      have hz : A.getD (i - 1) 0 = z := by
        have : A = l ++ z :: A.drop i := by have e := (List.take_append_drop i A).symm; rw [h, List.append_assoc] at e; exact e
        rw [this]; exact getD_mid (by omega)
      rcases h1 with h1 | h1
      · omega
      · rw [hz] at h1
        simp only [List.mem_append, List.mem_singleton] at hy
        rcases hy with hy | rfl
        · exact h1 (L.lt_of_lt_le hc (Ahead.le ((Sorted.append.1 hs').2.2 y hy z (by simp))))
        · exact h1 hc
  · have hs' : Sorted c (A.drop i) := List.Pairwise.sublist (List.drop_sublist i A) hs
    intro y hy
    rcases h : A.drop i with _ | ⟨z, l⟩
    · rw [h] at hy; simp at hy
    · rw [h] at hy hs'
      have hz : A.getD i 0 = z := by
        have hl : i < A.length := by
          have := congrArg List.length h; simp at this; omega
        have : A = A.take i ++ z :: l := by have e := (List.take_append_drop i A).symm; rw [h] at e; exact e
        rw [this]; exact getD_mid (by simp; omega)
      rcases h2 with h2 | h2
      · subst h2; simp at h
      · rw [hz] at h2
        rcases List.mem_cons.1 hy with rfl | hy
        · exact h2
        · exact L.lt_of_lt_le h2 (Ahead.le (List.rel_of_pairwise_cons hs' hy))

/-- One element sunk into the list behind it. -/
theorem merge_one {c : Nat → Nat → Int} (L : CmpLaw c) {x : Nat} {B1 B2 : List Nat} (hs : Sorted c (B1 ++ B2)) (hlr : ∀ v ∈ B1 ++ B2, x < v) (h1 : ∀ y ∈ B1, c y x < 0) (h2 : ∀ y ∈ B2, ¬ c y x < 0) :
    (B1 ++ x :: B2).Perm (x :: (B1 ++ B2)) ∧ Sorted c (B1 ++ x :: B2) := by
  obtain ⟨s1, s2, s3⟩ := Sorted.append.1 hs
  refine ⟨List.perm_middle, Sorted.append.2 ⟨s1, List.pairwise_cons.2 ⟨fun y hy => Ahead.of_not L (h2 y hy) (hlr y (by simp [hy])), s2⟩, fun u hu v hv => ?_⟩⟩
  rcases List.mem_cons.1 hv with rfl | hv
  · exact .inl (h1 u hu)
  · exact s3 u hu v hv
/-- One element risen into the list ahead of it. -/
theorem merge_last {c : Nat → Nat → Int} (L : CmpLaw c) {x : Nat} {A1 A2 : List Nat} (hs : Sorted c (A1 ++ A2)) (hlr : ∀ v ∈ A1 ++ A2, v < x) (h1 : ∀ y ∈ A1, ¬ c x y < 0) (h2 : ∀ y ∈ A2, c x y < 0) :
    (A1 ++ x :: A2).Perm ((A1 ++ A2) ++ [x]) ∧ Sorted c (A1 ++ x :: A2) := by
  obtain ⟨s1, s2, s3⟩ := Sorted.append.1 hs
  refine ⟨(List.perm_middle).trans (List.perm_append_comm (l₁ := [x]) (l₂ := A1 ++ A2)), Sorted.append.2 ⟨s1, List.pairwise_cons.2 ⟨fun y hy => .inl (h2 y hy), s2⟩, fun u hu v hv => ?_⟩⟩
  rcases List.mem_cons.1 hv with rfl | hv
  · exact Ahead.of_not L (h1 u hu) (hlr u (by simp [hu]))
  · exact s3 u hu v hv

theorem Sorted.to_last {c : Nat → Nat → Int} {l : List Nat} {z u : Nat} (h : Sorted c (l ++ [z])) (hu : u ∈ l ++ [z]) : u = z ∨ Ahead c u z := by
  rcases List.mem_append.1 hu with hu | hu
  · exact .inr ((Sorted.append.1 h).2.2 u hu z (by simp))
  · left; simpa using hu
theorem Sorted.from_head {c : Nat → Nat → Int} {l : List Nat} {z v : Nat} (h : Sorted c (z :: l)) (hv : v ∈ z :: l) : z = v ∨ Ahead c z v := by
  rcases List.mem_cons.1 hv with rfl | hv
  · exact .inl rfl
  · exact .inr (List.rel_of_pairwise_cons h hv)
theorem ahead_chain {c : Nat → Nat → Int} (L : CmpLaw c) {u u0 v0 v : Nat} (h1 : u = u0 ∨ Ahead c u u0) (h : Ahead c u0 v0) (h2 : v0 = v ∨ Ahead c v0 v) : Ahead c u v := by
  have h3 : Ahead c u v0 := by rcases h1 with rfl | h1; exact h; exact Ahead.trans L h1 h
  rcases h2 with rfl | h2; exact h3; exact Ahead.trans L h3 h2

/-- Where the merge of two sorted halves cuts them. -/
theorem merge_cut {c : Nat → Nat → Int} (L : CmpLaw c) {p A B q : List Nat} {a m b mid lo hi s : Nat} (ea : a = p.length) (em : m = a + A.length) (eb : b = m + B.length) (hmid : mid = (a + b) / 2)
    (hsA : Sorted c A) (hsB : Sorted c B) (hlr : ∀ u ∈ A, ∀ v ∈ B, u < v) (hA : 0 < A.length) (hB : 0 < B.length)
    (hc : (mid < m ∧ lo = mid + m - b ∧ hi = mid) ∨ (m ≤ mid ∧ lo = a ∧ hi = m)) (h1 : lo ≤ s) (h2 : s ≤ hi)
    (h3 : s = lo ∨ ¬ c ((p ++ A ++ B ++ q).getD (mid + m - 1 - (s - 1)) 0) ((p ++ A ++ B ++ q).getD (s - 1) 0) < 0) (h4 : s = hi ∨ c ((p ++ A ++ B ++ q).getD (mid + m - 1 - s) 0) ((p ++ A ++ B ++ q).getD s 0) < 0) :
    ∃ A1 A2 B1 B2, A = A1 ++ A2 ∧ B = B1 ++ B2 ∧ a + A1.length = s ∧ m + B1.length = mid + m - s ∧ ∀ u ∈ A1 ++ B1, ∀ v ∈ A2 ++ B2, Ahead c u v := by
  have hsa : a ≤ s := by omega
  have hsm : s ≤ m := by omega
  have hem : m ≤ mid + m - s := by omega
  have heb : mid + m - s ≤ b := by omega
  obtain ⟨A1, A2, rfl, lA⟩ : ∃ A1 A2, A = A1 ++ A2 ∧ A1.length = s - a := ⟨_, _, (List.take_append_drop (s - a) A).symm, by simp; omega⟩
  obtain ⟨B1, B2, rfl, lB⟩ : ∃ B1 B2, B = B1 ++ B2 ∧ B1.length = mid - s := ⟨_, _, (List.take_append_drop (mid - s) B).symm, by simp; omega⟩
  simp only [List.length_append] at em eb
  refine ⟨A1, A2, B1, B2, rfl, rfl, by omega, by omega, fun u hu v hv => ?_⟩
  obtain ⟨sA1, sA2, sA3⟩ := Sorted.append.1 hsA
  obtain ⟨sB1, sB2, sB3⟩ := Sorted.append.1 hsB
  rcases List.mem_append.1 hu with hu | hu <;> rcases List.mem_append.1 hv with hv | hv
  · exact sA3 u hu v hv
  · rcases List.eq_nil_or_concat A1 with rfl | ⟨A1', u0, rfl⟩
    · simp at hu
    · rw [List.concat_eq_append] at *
      cases B2 with
      | nil => simp at hv
      | cons v0 B2' =>
        simp only [List.length_append, List.length_cons, List.length_nil] at *
        rcases h3 with h3 | h3
        · omega
        · rw [show p ++ (A1' ++ [u0] ++ A2) ++ (B1 ++ v0 :: B2') ++ q = (p ++ A1' ++ u0 :: A2 ++ B1) ++ v0 :: (B2' ++ q) by simp, getD_mid (by simp; omega)] at h3
          rw [show (p ++ A1' ++ u0 :: A2 ++ B1) ++ v0 :: (B2' ++ q) = (p ++ A1') ++ u0 :: (A2 ++ B1 ++ v0 :: (B2' ++ q)) by simp, getD_mid (by simp; omega)] at h3
          exact ahead_chain L (Sorted.to_last sA1 hu) (Ahead.of_not L h3 (hlr u0 (by simp) v0 (by simp))) (Sorted.from_head sB2 hv)
  · rcases List.eq_nil_or_concat B1 with rfl | ⟨B1', u0, rfl⟩
    · simp at hu
    · rw [List.concat_eq_append] at *
      cases A2 with
      | nil => simp at hv
      | cons v0 A2' =>
        simp only [List.length_append, List.length_cons, List.length_nil] at *
        rcases h4 with h4 | h4
        · omega
        · rw [show p ++ (A1 ++ v0 :: A2') ++ (B1' ++ [u0] ++ B2) ++ q = (p ++ A1 ++ v0 :: A2' ++ B1') ++ u0 :: (B2 ++ q) by simp, getD_mid (by simp; omega)] at h4
          rw [show (p ++ A1 ++ v0 :: A2' ++ B1') ++ u0 :: (B2 ++ q) = (p ++ A1) ++ v0 :: (A2' ++ B1' ++ u0 :: (B2 ++ q)) by simp, getD_mid (by simp; omega)] at h4
          exact ahead_chain L (Sorted.to_last sB1 hu) (.inl h4) (Sorted.from_head sA2 hv)
  · exact sB3 u hu v hv

/-- Both parts of a cut merge in their order: so is the whole. -/
theorem merge_both {c : Nat → Nat → Int} {A1 A2 B1 B2 C1 C2 : List Nat} (h : ∀ u ∈ A1 ++ B1, ∀ v ∈ A2 ++ B2, Ahead c u v) (p1 : C1.Perm (A1 ++ B1)) (s1 : Sorted c C1) (p2 : C2.Perm (A2 ++ B2)) (s2 : Sorted c C2) :
    (C1 ++ C2).Perm ((A1 ++ A2) ++ (B1 ++ B2)) ∧ Sorted c (C1 ++ C2) := by
  refine ⟨(p1.append p2).trans ?_, Sorted.append.2 ⟨s1, s2, fun u hu v hv => h u (p1.subset hu) v (p2.subset hv)⟩⟩
  rw [List.append_assoc, List.append_assoc]
  refine List.Perm.append_left A1 ?_
  rw [← List.append_assoc, ← List.append_assoc]
  exact List.Perm.append_right B2 List.perm_append_comm

/-! ### Runs: neighbouring parts of the places, each in its order -/
def Good (c : Nat → Nat → Int) : Nat → List (List Nat) → Prop
  | _, [] => True
  | s, A :: r => A.Perm (List.range' s A.length) ∧ Sorted c A ∧ Good c (s + A.length) r
def Full (bs : Nat) : List (List Nat) → Prop
  | [] => True
  | [A] => 0 < A.length ∧ A.length ≤ bs
  | A :: B :: r => A.length = bs ∧ Full bs (B :: r)
theorem Good.append {c : Nat → Nat → Int} : ∀ {s : Nat} {X Y : List (List Nat)}, Good c s (X ++ Y) ↔ Good c s X ∧ Good c (s + X.flatten.length) Y
  | s, [], Y => by simp [Good]
  | s, A :: X, Y => by
    simp only [List.cons_append, Good, Good.append (s := s + A.length) (X := X), List.flatten_cons, List.length_append, Nat.add_assoc, and_assoc]
theorem Full.all {bs : Nat} : ∀ {X : List (List Nat)} {C : List Nat}, (∀ A ∈ X, A.length = bs) → 0 < C.length → C.length ≤ bs → Full bs (X ++ [C])
  | [], C, _, h1, h2 => ⟨h1, h2⟩
  | [A], C, h, h1, h2 => ⟨h A (by simp), h1, h2⟩
  | A :: B :: X, C, h, h1, h2 => ⟨h A (by simp), Full.all (X := B :: X) (fun A' hA' => h A' (List.mem_cons_of_mem _ hA')) h1 h2⟩
theorem Full.all' {bs : Nat} (hbs : 0 < bs) {X : List (List Nat)} (h : ∀ A ∈ X, A.length = bs) : Full bs X := by
  rcases List.eq_nil_or_concat X with rfl | ⟨l, C, rfl⟩
  · trivial
  · rw [List.concat_eq_append] at *
    have hC := h C (by simp)
    exact Full.all (fun A hA => h A (by simp [hA])) (by omega) (by omega)
theorem Full.one {bs n : Nat} (hbs : 0 < bs) {Cs : List (List Nat)} (h : Full bs Cs) (hn : Cs.flatten.length = n) (hb : n ≤ bs) : Cs = [] ∨ ∃ A, Cs = [A] := by
  match Cs, h with
  | [], _ => exact .inl rfl
  | [A], _ => exact .inr ⟨A, rfl⟩
  | A :: B :: r, h =>
    exfalso
    obtain ⟨h1, h2⟩ := h
    have : 0 < B.length := by cases r with | nil => exact h2.1 | cons _ _ => have := h2.1; omega
    simp at hn; omega
theorem Full.two {bs : Nat} (hbs : 0 < bs) {Cs : List (List Nat)} (h : Full bs Cs) (hn : 2 * bs ≤ Cs.flatten.length) : ∃ A B r, Cs = A :: B :: r ∧ A.length = bs ∧ B.length = bs ∧ Full bs r := by
  match Cs, h with
  | [], _ => simp at hn; omega
  | [A], h => have := h.2; simp at hn; omega
  | [A, B], h => have h1 := h.1; have h2 := h.2.2; refine ⟨A, B, [], rfl, h1, ?_, trivial⟩; simp at hn; omega
  | A :: B :: D :: r, h => exact ⟨A, B, D :: r, rfl, h.1, h.2.1, h.2.2⟩
theorem Full.rest {bs : Nat} (hbs : 0 < bs) {Cs : List (List Nat)} (h : Full bs Cs) (hn : Cs.flatten.length < 2 * bs) : (Cs = [] ∨ ∃ A, Cs = [A] ∧ 0 < A.length ∧ A.length ≤ bs) ∨ ∃ A B, Cs = [A, B] ∧ A.length = bs ∧ 0 < B.length ∧ B.length < bs := by
  match Cs, h with
  | [], _ => exact .inl (.inl rfl)
  | [A], h => exact .inl (.inr ⟨A, rfl, h.1, h.2⟩)
  | [A, B], h => have h1 := h.1; have h2 := h.2.1; exact .inr ⟨A, B, rfl, h1, h2, by simp at hn; omega⟩
  | A :: B :: D :: r, h =>
    exfalso
    have h1 := h.1; have h2 := h.2.1
    simp at hn; omega
theorem range'_mem_lt {a k u : Nat} {A : List Nat} (h : A.Perm (List.range' a k)) (hu : u ∈ A) : a ≤ u ∧ u < a + k := by
  have := h.subset hu
  rw [List.mem_range'_1] at this; exact this
theorem merge_range {a j k : Nat} {A B C : List Nat} (hA : A.Perm (List.range' a j)) (hB : B.Perm (List.range' (a + j) k)) (hC : C.Perm (A ++ B)) : C.Perm (List.range' a (j + k)) := by
  refine hC.trans ((hA.append hB).trans ?_)
  rw [List.range'_append_1]

/-- Between two rounds of the first loop of the stable sort. -/
def Stable1 (c : Nat → Nat → Int) (n : Nat) (w0 : World) (g : Nat) (val : Nat → Value) (rest : List Value) (e : TypeId) (av bv : Value) (w : World) : Prop :=
  ∃ dn : List (List Nat), (∀ A ∈ dn, A.length = 20) ∧ Good c 0 dn ∧ dn.flatten.length ≤ n ∧ av = .int .i64 (dn.flatten.length : Nat) ∧ bv = .int .i64 ((dn.flatten.length + 20 : Nat) : Int) ∧ Kp (fun k => k = g) w0 w ∧
    Blk w g ((dn.flatten ++ List.range' dn.flatten.length (n - dn.flatten.length)).map val ++ rest) e
/-- Between two rounds of its outer loop of merges. -/
def Stable2 (c : Nat → Nat → Int) (n : Nat) (w0 : World) (g : Nat) (val : Nat → Value) (rest : List Value) (e : TypeId) (sv : Value) (w : World) : Prop :=
  ∃ (bs : Nat) (Cs : List (List Nat)), 0 < bs ∧ sv = .int .i64 bs ∧ Full bs Cs ∧ Good c 0 Cs ∧ Cs.flatten.length = n ∧ bs ≤ 2 * n + 20 ∧ Kp (fun k => k = g) w0 w ∧ Blk w g (Cs.flatten.map val ++ rest) e
/-- Between two rounds of its inner loop. -/
def Stable3 (c : Nat → Nat → Int) (n bs : Nat) (w0 : World) (g : Nat) (val : Nat → Value) (rest : List Value) (e : TypeId) (av bv : Value) (w : World) : Prop :=
  ∃ dn td : List (List Nat), (∀ A ∈ dn, A.length = 2 * bs) ∧ Full bs td ∧ Good c 0 (dn ++ td) ∧ (dn ++ td).flatten.length = n ∧ av = .int .i64 (dn.flatten.length : Nat) ∧ bv = .int .i64 ((dn.flatten.length + 2 * bs : Nat) : Int) ∧ Kp (fun k => k = g) w0 w ∧
    Blk w g ((dn ++ td).flatten.map val ++ rest) e

/-- Between two rounds of a binary search in [lo, hi): what stands below i is 'low' at its end, what stands from j on is 'high' at its beginning. -/
def Search (lo hi : Nat) (low high : Nat → Prop) (F : Nat → Prop) (w0 : World) (g : Nat) (cells : List Value) (e : TypeId) (iv jv : Value) (w : World) : Prop :=
  ∃ i j : Nat, lo ≤ i ∧ i ≤ j ∧ j ≤ hi ∧ iv = .int .i64 i ∧ jv = .int .i64 j ∧ (i = lo ∨ low (i - 1)) ∧ (j = hi ∨ high j) ∧ Kp F w0 w ∧ Blk w g cells e

/-- Between two rounds of an element's way through a row. -/
def Sinking (a i : Nat) (B1 : List Nat) (w0 : World) (g : Nat) (cells : List Nat → List Nat → List Value) (e : TypeId) (kv : Value) (w : World) : Prop :=
  ∃ (k : Nat) (U V : List Nat), a ≤ k ∧ k ≤ i ∧ kv = .int .i64 k ∧ B1 = U ++ V ∧ k = a + U.length ∧ Kp (fun k => k = g) w0 w ∧ Blk w g (cells U V) e

/-- A comparison that the sort may call: of any two of the row's first n values, in every world in which nothing but the row's block has turned. -/
def CmpOn (P : Program) (f : FuncId) (first captured : Array Value) (g n : Nat) (w0 : World) (val : Nat → Value) (c : Nat → Nat → Int) : Prop :=
  (∀ args w, (callFunc f args).run P w = .ok (Next.enter f args) w) ∧ ∀ w, Kp (fun k => k = g) w0 w → ∀ i j, i < n → j < n → Calls P f (first ++ (#[val i, val j] ++ captured)) w fun e w' => e = .returned (.int .i64 (c i j)) ∧ Ext w w'
end Go.Proofs.Ytfkhelihepbehaa
