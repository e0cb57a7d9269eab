/- Sets in an order: plain laws, no program in sight. -/
import Derived.Test.YtfkhelihepbehaaKeep
namespace Go.Proofs.Ytfkhelihepbehaa
set_option linter.unusedVariables false

/-- A comparison that goes as an order does. -/
structure OrdLaw {α : Type} (c : α → α → Int) : Prop where
  swap : ∀ x y, c x y < 0 ↔ 0 < c y x
  trans : ∀ x y z, c x y ≤ 0 → c y z ≤ 0 → c x z ≤ 0

section
variable {α : Type} {c : α → α → Int}
theorem OrdLaw.idx (L : OrdLaw c) {β : Type} (z : β → α) : OrdLaw (fun i j => c (z i) (z j)) := ⟨fun i j => L.swap _ _, fun i j k => L.trans _ _ _⟩
theorem OrdLaw.nat {c : Nat → Nat → Int} (L : OrdLaw c) : CmpLaw c := ⟨L.swap, L.trans⟩
theorem OrdLaw.zero (L : OrdLaw c) {x y : α} (h : c x y = 0) : c y x = 0 := by have := L.swap x y; have := L.swap y x; omega
theorem OrdLaw.refl (L : OrdLaw c) (x : α) : c x x = 0 := by have := L.swap x x; omega
theorem OrdLaw.asymm (L : OrdLaw c) {x y : α} (h : c x y < 0) (h' : c y x < 0) : False := by have := L.swap x y; omega
theorem OrdLaw.le_of (L : OrdLaw c) {x y : α} (h : ¬ c x y < 0) : c y x ≤ 0 := by have := L.swap x y; have := L.swap y x; omega
theorem OrdLaw.lt_trans (L : OrdLaw c) {x y z : α} (h : c x y < 0) (h' : c y z ≤ 0) : c x z < 0 := by
  have t := L.trans x y z (by omega) h'
  by_cases e : c x z < 0
  · exact e
  · have e0 := L.zero (show c x z = 0 by omega)
    have := L.trans y z x h' (by omega)
    have := L.swap x y; omega
theorem OrdLaw.lt_trans' (L : OrdLaw c) {x y z : α} (h : c x y ≤ 0) (h' : c y z < 0) : c x z < 0 := by
  have t := L.trans x y z h (by omega)
  by_cases e : c x z < 0
  · exact e
  · have e0 := L.zero (show c x z = 0 by omega)
    have := L.trans z x y (by omega) h
    have := L.swap y z; omega
theorem OrdLaw.lt_zero (L : OrdLaw c) {x y z : α} (h : c x y < 0) (h' : c z y = 0) : c x z < 0 := L.lt_trans h (by have := L.zero h'; omega)

variable (c)
def isIn (L : List α) (x : α) : Bool := L.any fun y => c y x == 0
def below (L : List α) (x : α) : Nat := (L.filter fun y => decide (c y x < 0)).length
def addS (L : List α) (x : α) : List α := if isIn c L x then L else L.take (below c L x) ++ x :: L.drop (below c L x)
def dropS (L : List α) (x : α) : List α := if isIn c L x then L.take (below c L x) ++ L.drop (below c L x + 1) else L
def newS (xs : List α) : List α := xs.foldl (addS c) []
def Strict (L : List α) : Prop := L.Pairwise fun x y => c x y < 0
variable {c}

theorem below_le (L : List α) (x : α) : below c L x ≤ L.length := List.length_filter_le _ _

theorem isIn_iff {L : List α} {x : α} : isIn c L x = true ↔ ∃ y ∈ L, c y x = 0 := by simp [isIn]

/-- In a strict list those below x are its beginning. -/
theorem Strict.split (O : OrdLaw c) {L : List α} (h : Strict c L) (x : α) : (∀ y ∈ L.take (below c L x), c y x < 0) ∧ ∀ y ∈ L.drop (below c L x), ¬ c y x < 0 := by
  induction L with
  | nil => simp [below]
  | cons a L ih =>
    obtain ⟨h1, h2⟩ := List.pairwise_cons.1 h
    obtain ⟨i1, i2⟩ := ih h2
    by_cases ha : c a x < 0
    · have e : below c (a :: L) x = below c L x + 1 := by simp [below, ha]
      rw [e]
      simp only [List.take_succ_cons, List.drop_succ_cons]
      refine ⟨fun y hy => ?_, i2⟩
      rcases List.mem_cons.1 hy with rfl | hy
      · exact ha
      · exact i1 y hy
    · have hL : ∀ y ∈ a :: L, ¬ c y x < 0 := by
        intro y hy
        rcases List.mem_cons.1 hy with rfl | hy
        · exact ha
        · intro hyx
          exact ha (O.lt_trans (h1 y hy) (by omega))
      have e : below c (a :: L) x = 0 := by
        unfold below
        rw [List.filter_eq_nil_iff.2 (fun y hy => by have := hL y hy; simp; omega)]; rfl
      rw [e]
      exact ⟨by simp, hL⟩

/-- The place that a search finds. -/
theorem Strict.place (O : OrdLaw c) {L : List α} (h : Strict c L) {x : α} {i : Nat} (hi : i ≤ L.length) (h1 : ∀ y, 0 < i → L[i - 1]? = some y → c y x < 0) (h2 : ∀ y, L[i]? = some y → 0 ≤ c y x) :
    i = below c L x := by
  obtain ⟨s1, s2⟩ := h.split O x
  have hb := below_le (c := c) L x
  generalize hbb : below c L x = b at *
  rcases Nat.lt_trichotomy i b with hlt | heq | hgt
  · have g : L[i]? = some (L[i]'(by omega)) := List.getElem?_eq_getElem _
    have := h2 _ g
    have := s1 (L[i]'(by omega)) (List.mem_take_iff_getElem.2 ⟨i, by omega, rfl⟩)
    omega
  · exact heq
  · have g : L[i - 1]? = some (L[i - 1]'(by omega)) := List.getElem?_eq_getElem _
    have := h1 _ (by omega) g
    have := s2 (L[i - 1]'(by omega)) (List.mem_drop_iff_getElem.2 ⟨i - 1 - b, by omega, by congr 1; omega⟩)
    omega
theorem Strict.there (O : OrdLaw c) {L : List α} (h : Strict c L) (x : α) : isIn c L x = true ↔ ∃ y, L[below c L x]? = some y ∧ c y x = 0 := by
  obtain ⟨s1, s2⟩ := h.split O x
  constructor
  · intro hin
    obtain ⟨y, hy, hz⟩ := isIn_iff.1 hin
    obtain ⟨t, ht, rfl⟩ := List.mem_iff_getElem.1 hy
    have hb := below_le (c := c) L x
    generalize hbb : below c L x = b at *
    rcases Nat.lt_trichotomy t b with hlt | heq | hgt
    · have := s1 (L[t]) (List.mem_take_iff_getElem.2 ⟨t, by omega, rfl⟩); omega
    · exact ⟨L[t], by rw [← heq]; exact List.getElem?_eq_getElem _, hz⟩
    · have hlt := List.pairwise_iff_getElem.1 h b t (by omega) ht hgt
      have := s2 (L[b]'(by omega)) (List.mem_drop_iff_getElem.2 ⟨0, by omega, by congr 1⟩)
      have := O.lt_trans hlt (show c L[t] x ≤ 0 by omega)
      contradiction
  · rintro ⟨y, hy, hz⟩
    exact isIn_iff.2 ⟨y, List.mem_of_getElem? hy, hz⟩

theorem mem_addS {L : List α} {x y : α} : y ∈ addS c L x ↔ y ∈ L ∨ (y = x ∧ isIn c L x = false) := by
  unfold addS
  cases h : isIn c L x
  · simp only [Bool.false_eq_true, if_false]
    rw [List.mem_append, List.mem_cons]
    have e : y ∈ L ↔ y ∈ L.take (below c L x) ∨ y ∈ L.drop (below c L x) := by rw [← List.mem_append, List.take_append_drop]
    rw [e]
    constructor
    · rintro (h | rfl | h)
      · exact .inl (.inl h)
      · exact .inr ⟨rfl, trivial⟩
      · exact .inl (.inr h)
    · rintro ((h | h) | ⟨rfl, _⟩)
      · exact .inl h
      · exact .inr (.inr h)
      · exact .inr (.inl rfl)
  · simp
theorem Strict.add (O : OrdLaw c) {L : List α} (h : Strict c L) (x : α) : Strict c (addS c L x) := by
  unfold addS
  cases hin : isIn c L x
  · simp only [Bool.false_eq_true, if_false]
    obtain ⟨s1, s2⟩ := h.split O x
    have hL : Strict c (L.take (below c L x) ++ L.drop (below c L x)) := by rw [List.take_append_drop]; exact h
    obtain ⟨p1, p2, p3⟩ := List.pairwise_append.1 hL
    refine List.pairwise_append.2 ⟨p1, List.pairwise_cons.2 ⟨fun y hy => ?_, p2⟩, fun y hy w hw => ?_⟩
    · have h0 : ¬ c y x = 0 := fun e => by
        have := isIn_iff.2 ⟨y, List.mem_of_mem_drop hy, e⟩
        rw [hin] at this; cases this
      have := s2 y hy
      have := O.swap x y
      omega
    · rcases List.mem_cons.1 hw with rfl | hw
      · exact s1 y hy
      · exact p3 y hy w hw
  · simpa using h
theorem Strict.sub {L L' : List α} (h : Strict c L) (hs : L'.Sublist L) : Strict c L' := List.Pairwise.sublist hs h
theorem Strict.drop (O : OrdLaw c) {L : List α} (h : Strict c L) (x : α) : Strict c (dropS c L x) := by
  unfold dropS
  split
  · refine h.sub ?_
    conv => rhs; rw [← List.take_append_drop (below c L x) L]
    exact List.Sublist.append (List.Sublist.refl _) (by rw [← List.drop_drop]; exact List.drop_sublist _ _)
  · exact h
theorem strict_nil : Strict c ([] : List α) := List.Pairwise.nil
theorem newS_snoc (xs : List α) (x : α) : newS c (xs ++ [x]) = addS c (newS c xs) x := by simp [newS]
theorem Strict.new (O : OrdLaw c) (xs : List α) : Strict c (newS c xs) := by
  suffices h : ∀ (ys L : List α), Strict c L → Strict c (ys.foldl (addS c) L) from h xs [] strict_nil
  intro ys
  induction ys with
  | nil => exact fun L h => h
  | cons y ys ih => exact fun L h => ih _ (h.add O y)
theorem Strict.unique (O : OrdLaw c) : ∀ {a b : List α}, Strict c a → Strict c b → (∀ x, x ∈ a ↔ x ∈ b) → a = b
  | [], [], _, _, _ => rfl
  | [], y :: b, _, _, h => by have := (h y).2 (by simp); simp at this
  | x :: a, [], _, _, h => by have := (h x).1 (by simp); simp at this
  | x :: a, y :: b, ha, hb, h => by
    obtain ⟨a1, a2⟩ := List.pairwise_cons.1 ha
    obtain ⟨b1, b2⟩ := List.pairwise_cons.1 hb
    have e : x = y := by
      rcases List.mem_cons.1 ((h x).1 (by simp)) with e | hx
      · exact e
      · rcases List.mem_cons.1 ((h y).2 (by simp)) with e | hy
        · exact e.symm
        · exact (O.asymm (b1 x hx) (a1 y hy)).elim
    subst e
    congr 1
    refine Strict.unique O a2 b2 fun z => ⟨fun hz => ?_, fun hz => ?_⟩
    · rcases List.mem_cons.1 ((h z).1 (List.mem_cons_of_mem _ hz)) with rfl | hz'
      · have := a1 z hz; have := O.refl z; omega
      · exact hz'
    · rcases List.mem_cons.1 ((h z).2 (List.mem_cons_of_mem _ hz)) with rfl | hz'
      · have := b1 z hz; have := O.refl z; omega
      · exact hz'

theorem newS_mem {xs : List α} {x : α} (h : x ∈ newS c xs) : x ∈ xs := by
  suffices g : ∀ (ys L : List α), x ∈ ys.foldl (addS c) L → x ∈ L ∨ x ∈ ys from by simpa using g xs [] h
  intro ys
  induction ys with
  | nil => exact fun L h => .inl h
  | cons y ys ih =>
    intro L h
    rcases ih _ h with h | h
    · rcases mem_addS.1 h with h | ⟨rfl, _⟩
      · exact .inl h
      · exact .inr (by simp)
    · exact .inr (List.mem_cons_of_mem _ h)
theorem addS_len (L : List α) (x : α) : (addS c L x).length = L.length + (if isIn c L x then 0 else 1) := by
  have := below_le (c := c) L x
  unfold addS
  split <;> simp
  omega
theorem newS_len (xs : List α) : (newS c xs).length ≤ xs.length := by
  suffices g : ∀ (ys L : List α), (ys.foldl (addS c) L).length ≤ L.length + ys.length from by simpa [newS] using g xs []
  intro ys
  induction ys with
  | nil => exact fun L => Nat.le_refl _
  | cons y ys ih =>
    intro L
    have h1 := ih (addS c L y)
    have h2 := addS_len (c := c) L y
    simp only [List.foldl_cons, List.length_cons]
    split at h2 <;> omega

theorem addS_map {β : Type} (z : β → α) (L : List β) (i : β) : addS c (L.map z) (z i) = (addS (fun i j => c (z i) (z j)) L i).map z := by
  have e1 : isIn c (L.map z) (z i) = isIn (fun i j => c (z i) (z j)) L i := by simp [isIn, List.any_map, Function.comp_def]
  have e2 : below c (L.map z) (z i) = below (fun i j => c (z i) (z j)) L i := by simp [below, List.filter_map, Function.comp_def]
  unfold addS
  rw [e1, e2]
  split <;> simp
theorem newS_map {β : Type} (z : β → α) (xs : List β) : newS c (xs.map z) = (newS (fun i j => c (z i) (z j)) xs).map z := by
  suffices h : ∀ (ys L : List β), (ys.map z).foldl (addS c) (L.map z) = (ys.foldl (addS (fun i j => c (z i) (z j))) L).map z from h xs []
  intro ys
  induction ys with
  | nil => exact fun L => rfl
  | cons y ys ih => intro L; simp only [List.map_cons, List.foldl_cons]; rw [addS_map, ih]
end

/-- A place that no alike one stands ahead of. -/
def Leader (c : Nat → Nat → Int) (n i : Nat) : Prop := i < n ∧ ∀ j, j < i → ¬ c j i = 0

theorem leader_of {c : Nat → Nat → Int} (O : OrdLaw c) (n : Nat) : ∀ i, i < n → ∃ j, Leader c n j ∧ c j i = 0 := by
  intro i
  induction i using Nat.strongRecOn with
  | ind i ih =>
    intro hi
    by_cases h : ∃ j, j < i ∧ c j i = 0
    · obtain ⟨j, hj, hz⟩ := h
      obtain ⟨k, hk, hz'⟩ := ih j hj (by omega)
      refine ⟨k, hk, ?_⟩
      have t1 := O.trans k j i (by omega) (by omega)
      have := O.zero hz; have := O.zero hz'
      have t2 := O.trans i j k (by omega) (by omega)
      have := O.swap k i; have := O.swap i k; omega
    · exact ⟨i, ⟨hi, fun j hj e => h ⟨j, hj, e⟩⟩, O.refl i⟩

theorem mem_newI {c : Nat → Nat → Int} (O : OrdLaw c) (n i : Nat) : i ∈ newS c (List.range n) ↔ Leader c n i := by
  induction n generalizing i with
  | zero => simp [newS, Leader]
  | succ n ih =>
    rw [List.range_succ, newS_snoc, mem_addS, ih]
    have hin : isIn c (newS c (List.range n)) n = true ↔ ∃ j, j < n ∧ c j n = 0 := by
      rw [isIn_iff]
      constructor
      · rintro ⟨j, hj, hz⟩
        exact ⟨j, ((ih j).1 hj).1, hz⟩
      · rintro ⟨j, hj, hz⟩
        obtain ⟨k, hk, hz'⟩ := leader_of O n j hj
        refine ⟨k, (ih k).2 hk, ?_⟩
        have t1 := O.trans k j n (by omega) (by omega)
        have := O.zero hz; have := O.zero hz'
        have t2 := O.trans n j k (by omega) (by omega)
        have := O.swap k n; have := O.swap n k; omega
    unfold Leader
    constructor
    · rintro (⟨h1, h2⟩ | ⟨rfl, h⟩)
      · exact ⟨by omega, h2⟩
      · exact ⟨by omega, fun j hj e => by rw [hin.2 ⟨j, hj, e⟩] at h; cases h⟩
    · rintro ⟨h1, h2⟩
      by_cases e : i = n
      · subst e
        refine .inr ⟨rfl, ?_⟩
        cases hb : isIn c (newS c (List.range i)) i with
        | false => rfl
        | true =>
          obtain ⟨j, hj, hz⟩ := hin.1 hb
          exact (h2 j hj hz).elim
      · exact .inl ⟨by omega, h2⟩

/-- What is kept of a sorted row: the leaders, in their order. -/
theorem keep_new {c : Nat → Nat → Int} (O : OrdLaw c) {C : List Nat} {n : Nat} (hp : C.Perm (List.range n)) (hs : Sorted c C) :
    keepTo (fun i j => decide (c i j = 0)) C n = newS c (List.range n) := by
  have hl : C.length = n := by simpa using hp.length_eq
  have hA : ∀ s t (h1 : s < t) (h2 : t < C.length), Ahead c C[s] C[t] := fun s t h1 h2 => List.pairwise_iff_getElem.1 hs s t (by omega) h2 h1
  have gd : ∀ t (ht : t < C.length), C.getD t 0 = C[t] := fun t ht => by simp [List.getD, ht]
  have fin : ∀ t (ht : t < C.length), (0 < t → ¬ c C[t] (C[t - 1]'(by omega)) = 0) → ∀ s (hst : s < t), c (C[s]'(by omega)) C[t] < 0 := by
    intro t ht hno s hst
    have a := hA s t hst ht
    by_cases e : c (C[s]'(by omega)) C[t] < 0
    · exact e
    · have e0 : c (C[s]'(by omega)) C[t] = 0 := by have := Ahead.le a; omega
      have e0' := O.zero e0
      exfalso
      refine hno (by omega) ?_
      have a2 := hA (t - 1) t (by omega) ht
      have l2 := Ahead.le a2
      have l1 : c (C[s]'(by omega)) (C[t - 1]'(by omega)) ≤ 0 := by
        by_cases h : s = t - 1
        · subst h; have := O.refl C[t - 1]; omega
        · exact Ahead.le (hA s (t - 1) (by omega) (by omega))
      have l3 := O.trans C[t] (C[s]'(by omega)) (C[t - 1]'(by omega)) (by omega) l1
      have := O.swap C[t] (C[t - 1]'(by omega)); omega
  refine Strict.unique O ?_ (Strict.new O _) fun i => ?_
  · unfold keepTo
    refine List.pairwise_map.2 ?_
    refine List.Pairwise.imp_of_mem ?_ (List.Pairwise.filter _ List.pairwise_lt_range)
    intro s t hs' ht' hlt
    obtain ⟨m1, k1⟩ := List.mem_filter.1 ht'
    have htl : t < C.length := by have := List.mem_range.1 m1; omega
    rw [gd s (by omega), gd t htl]
    refine fin t htl (fun h0 e => ?_) s hlt
    rw [gd t htl, gd (t - 1) (by omega)] at k1
    simp only [e, decide_true, Bool.not_true, Bool.or_false, beq_iff_eq] at k1
    omega
  · rw [mem_newI O]
    unfold keepTo
    rw [List.mem_map]
    constructor
    · rintro ⟨t, ht, rfl⟩
      obtain ⟨m1, k1⟩ := List.mem_filter.1 ht
      have htl : t < C.length := by have := List.mem_range.1 m1; omega
      rw [gd t htl]
      have hf := fin t htl (fun h0 e => by
        rw [gd t htl, gd (t - 1) (by omega)] at k1
        simp only [e, decide_true, Bool.not_true, Bool.or_false, beq_iff_eq] at k1
        omega)
      have hin : ∀ u ∈ C, u < n := fun u hu => List.mem_range.1 (hp.subset hu)
      refine ⟨hin _ (List.getElem_mem _), fun j hj e => ?_⟩
      have hjn : j < n := by have := hin _ (List.getElem_mem htl); omega
      obtain ⟨s, hsl, rfl⟩ := List.mem_iff_getElem.1 (hp.symm.subset (List.mem_range.2 hjn))
      rcases Nat.lt_trichotomy s t with h | h | h
      · have := hf s h; omega
      · subst h; omega
      · have a := hA t s h hsl
        have := O.zero e
        rcases a with a | ⟨_, a⟩
        · omega
        · omega
    · rintro ⟨h1, h2⟩
      obtain ⟨t, htl, rfl⟩ := List.mem_iff_getElem.1 (hp.symm.subset (List.mem_range.2 h1))
      refine ⟨t, List.mem_filter.2 ⟨List.mem_range.2 (by omega), ?_⟩, gd t htl⟩
      by_cases h0 : t = 0
      · simp [h0]
      · rw [gd t htl, gd (t - 1) (by omega)]
        have a := hA (t - 1) t (by omega) htl
        have : ¬ c C[t] (C[t - 1]'(by omega)) = 0 := by
          intro e
          have e' := O.zero e
          rcases a with a | ⟨_, a⟩
          · omega
          · exact h2 _ a e'
        simp [this]
theorem pick_step {α : Type} (p : α → Bool) (zs : List α) (i : Nat) (x : α) (hx : zs[i]? = some x) : (zs.take (i + 1)).filter p = (zs.take i).filter p ++ (if p x then [x] else []) := by
  obtain ⟨h, e⟩ := List.getElem?_eq_some_iff.1 hx
  rw [List.take_succ_eq_append_getElem h, List.filter_append, e]
  cases hp : p x <;> simp [hp]

end Go.Proofs.Ytfkhelihepbehaa
