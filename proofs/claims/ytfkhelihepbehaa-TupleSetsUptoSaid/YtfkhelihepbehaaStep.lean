/- desk.step: what the program answers is what the document answers; the desk stays a desk. -/
import Derived.Test.YtfkhelihepbehaaDesk
namespace Go.Proofs.Ytfkhelihepbehaa
open Go.RowKit
set_option linter.unusedVariables false

/-- A place on the desk: the program's set and the document's, alike. -/
def Slot (S : Nat → Prop) (U : List Int) (w : World) (sv mv : Value) (G : Nat → Prop) : Prop :=
  ∃ which o G1 G2, SetP S U which w sv o G1 ∧ RefP U which w mv o G2 ∧ (∀ k, G1 k → ¬ G2 k) ∧ (∀ k, G1 k → G k) ∧ ∀ k, G2 k → G k

structure DeskAt (S : Nat → Prop) (U : List Int) (L : Nat → Prop) (bd : Nat) (w : World) (sv mv : Nat → Value) (G : Nat → Nat → Prop) : Prop where
  blk : Blk w bd [sv 0, sv 1, sv 2, sv 3, mv 0, mv 1, mv 2, mv 3] 35
  slot : ∀ i, i < 4 → Slot S U w (sv i) (mv i) (G i)
  apart : ∀ i j, i < 4 → j < 4 → i ≠ j → ∀ k, G i k → ¬ G j k
  own : ∀ i, i < 4 → ∀ k, G i k → k ≠ bd ∧ ¬ S k ∧ k < w.heap.size ∧ L k
  notS : ¬ S bd
  inS : ∀ k, S k → k < w.heap.size
  lob : L bd
  newL : ∀ k, w.heap.size ≤ k → L k
/-- Some desk. -/
def Desk (S : Nat → Prop) (U : List Int) (L : Nat → Prop) (bd : Nat) (w : World) : Prop := ∃ sv mv G, DeskAt S U L bd w sv mv G

section
variable {S : Nat → Prop} {U : List Int} {L : Nat → Prop} {bd : Nat} {w w' : World} {sv mv : Nat → Value} {G : Nat → Nat → Prop}

theorem Slot.kp {F : Nat → Prop} {s m : Value} {H : Nat → Prop} (h : Slot S U w s m H) (hk : Kp F w w') (hF : ∀ k, F k → ¬ H k) (hS : ∀ k, F k → ¬ S k) : Slot S U w' s m H := by
  obtain ⟨which, o, G1, G2, h1, h2, h3, h4, h5⟩ := h
  exact ⟨which, o, G1, G2, h1.kp hk (fun k hf hg => hF k hf (h4 k hg)) hS, h2.kp hk (fun k hf hg => hF k hf (h5 k hg)), h3, h4, h5⟩
theorem Slot.mono {s m : Value} {H H' : Nat → Prop} (h : Slot S U w s m H) (hH : ∀ k, k < w.heap.size → H k → H' k) : Slot S U w s m H' := by
  obtain ⟨which, o, G1, G2, h1, h2, h3, h4, h5⟩ := h
  exact ⟨which, o, fun k => G1 k ∧ k < w.heap.size, fun k => G2 k ∧ k < w.heap.size, h1.mono fun k hk hg => ⟨hg, hk⟩, h2.mono fun k hk hg => ⟨hg, hk⟩, fun k hg hg' => h3 k hg.1 hg'.1, fun k hg => hH k hg.2 (h4 k hg.1), fun k hg => hH k hg.2 (h5 k hg.1)⟩
theorem DeskAt.ext (h : DeskAt S U L bd w sv mv G) (hk : Ext w w') : DeskAt S U L bd w' sv mv G :=
  ⟨h.blk.ext hk, fun i hi => (h.slot i hi).kp hk (fun _ x => x.elim) (fun _ x => x.elim), h.apart, fun i hi k hg => by obtain ⟨a, b, c, d⟩ := h.own i hi k hg; exact ⟨a, b, Nat.lt_of_lt_of_le c hk.size, d⟩, h.notS, fun k hs => Nat.lt_of_lt_of_le (h.inS k hs) hk.size, h.lob, fun k hk' => h.newL k (Nat.le_trans hk.size hk')⟩
theorem DeskAt.cells (h : DeskAt S U L bd w sv mv G) {i : Nat} (hi : i < 4) : w.cell? ⟨bd, i, none⟩ = some (sv i) ∧ w.cell? ⟨bd, 4 + i, none⟩ = some (mv i) := by
  constructor
  · rw [h.blk.cell']
    match i, hi with
    | 0, _ => rfl
    | 1, _ => rfl
    | 2, _ => rfl
    | 3, _ => rfl
  · rw [h.blk.cell']
    match i, hi with
    | 0, _ => rfl
    | 1, _ => rfl
    | 2, _ => rfl
    | 3, _ => rfl
/-- One place has turned in itself. -/
theorem DeskAt.turn (h : DeskAt S U L bd w sv mv G) {i : Nat} (hi : i < 4) (hk : Kp (G i) w w') (hs : Slot S U w' (sv i) (mv i) fun k => G i k ∨ w.heap.size ≤ k) : Desk S U L bd w' := by
  refine ⟨sv, mv, fun j k => if j = i then (G i k ∨ w.heap.size ≤ k) ∧ k < w'.heap.size else G j k, ?_, ?_, ?_, ?_, h.notS, fun k hs => Nat.lt_of_lt_of_le (h.inS k hs) hk.size, h.lob, fun k hk' => h.newL k (Nat.le_trans hk.size hk')⟩
  · exact h.blk.kp hk fun hg => (h.own i hi _ hg).1 rfl
  · intro j hj
    by_cases e : j = i
    · subst e
      simp only [if_true]
      exact hs.mono fun k hk hg => ⟨hg, hk⟩
    · simp only [if_neg e]
      exact (h.slot j hj).kp hk (fun k hg => h.apart i j hi hj (fun e' => e e'.symm) k hg) (fun k hg => (h.own i hi k hg).2.1)
  · intro j l hj hl hne k hg hg'
    by_cases e : j = i
    · subst e
      have e2 : ¬ l = j := fun e => hne e.symm
      simp only [if_true, if_neg e2] at hg hg'
      rcases hg.1 with hg | hg
      · exact h.apart j l hj hl hne k hg hg'
      · have := (h.own l hl k hg').2.2.1; omega
    · by_cases e2 : l = i
      · subst e2
        simp only [if_true, if_neg e] at hg hg'
        rcases hg'.1 with hg' | hg'
        · exact h.apart j l hj hl hne k hg hg'
        · have := (h.own j hj k hg).2.2.1; omega
      · simp only [if_neg e, if_neg e2] at hg hg'
        exact h.apart j l hj hl hne k hg hg'
  · intro j hj k hg
    by_cases e : j = i
    · subst e
      simp only [if_true] at hg
      rcases hg.1 with h1 | h1
      · obtain ⟨a, b, c, d⟩ := h.own j hj k h1
        exact ⟨a, b, hg.2, d⟩
      · have hb := h.blk.lt
        refine ⟨by omega, fun hs => ?_, hg.2, h.newL k (by omega)⟩
        have := h.inS k hs; omega
    · simp only [if_neg e] at hg
      obtain ⟨a, b, c, d⟩ := h.own j hj k hg
      exact ⟨a, b, Nat.lt_of_lt_of_le c hk.size, d⟩
/-- New sets go to one place. -/
theorem DeskAt.put (h : DeskAt S U L bd w sv mv G) {i : Nat} (hi : i < 4) (hk : Ext w w') {s m : Value} (hs : Slot S U w' s m fun k => w.heap.size ≤ k) : Desk S U L bd ((w'.setCell ⟨bd, i, none⟩ s).setCell ⟨bd, 4 + i, none⟩ m) := by
  have hkb : Kp (fun k => k = bd) w' ((w'.setCell ⟨bd, i, none⟩ s).setCell ⟨bd, 4 + i, none⟩ m) := (Kp.setCell (F := fun k => k = bd) (Kp.refl w') (fun _ => rfl) s).setCell (fun _ => rfl) m
  have hsz : ((w'.setCell ⟨bd, i, none⟩ s).setCell ⟨bd, 4 + i, none⟩ m).heap.size = w'.heap.size := by simp [World.setCell]
  have hb := h.blk.lt
  refine ⟨fun j => if j = i then s else sv j, fun j => if j = i then m else mv j, fun j k => if j = i then w.heap.size ≤ k ∧ k < w'.heap.size else G j k, ?_, ?_, ?_, ?_, h.notS, fun k hs => by rw [hsz]; exact Nat.lt_of_lt_of_le (h.inS k hs) hk.size, h.lob, fun k hk' => h.newL k (by rw [hsz] at hk'; exact Nat.le_trans hk.size hk')⟩
  · have hB := ((h.blk.ext hk).set i s).set (4 + i) m
    refine hB.congrL ?_
    match i, hi with
    | 0, _ => rfl
    | 1, _ => rfl
    | 2, _ => rfl
    | 3, _ => rfl
  · intro j hj
    by_cases e : j = i
    · subst e
      simp only [if_true]
      exact (hs.mono fun k hk hg => (⟨hg, hk⟩ : w.heap.size ≤ k ∧ k < w'.heap.size)).kp hkb (fun k e hg => by subst e; omega) (fun k e hs => h.notS (e ▸ hs))
    · simp only [if_neg e]
      exact ((h.slot j hj).kp hk (fun _ x => x.elim) (fun _ x => x.elim)).kp hkb (fun k e hg => (h.own j hj k hg).1 e) (fun k e hs => h.notS (e ▸ hs))
  · intro j l hj hl hne k hg hg'
    by_cases e : j = i
    · subst e
      have e2 : ¬ l = j := fun e => hne e.symm
      simp only [if_true, if_neg e2] at hg hg'
      have := (h.own l hl k hg').2.2.1; omega
    · by_cases e2 : l = i
      · subst e2
        simp only [if_true, if_neg e] at hg hg'
        have := (h.own j hj k hg).2.2.1; omega
      · simp only [if_neg e, if_neg e2] at hg hg'
        exact h.apart j l hj hl hne k hg hg'
  · intro j hj k hg
    rw [hsz]
    by_cases e : j = i
    · subst e
      simp only [if_true] at hg
      refine ⟨by omega, fun hs => ?_, hg.2, h.newL k (by omega)⟩
      have := h.inS k hs; omega
    · simp only [if_neg e] at hg
      obtain ⟨a, b, c, d⟩ := h.own j hj k hg
      exact ⟨a, b, Nat.lt_of_lt_of_le c hk.size, d⟩

theorem told_slot (h : DeskAt S U L bd w sv mv G) {i : Nat} (hi : i < 4) : Calls Try.prog 18 #[.pointer (some ⟨bd, 0, none⟩), .int .i64 (i : Int)] w (RetN w fun w' v => v = .bool true) := by
  obtain ⟨which, o, G1, G2, h1, h2, _⟩ := h.slot i hi
  obtain ⟨c1, c2⟩ := h.cells hi
  refine told_any i hi c1 c2 h1.ptr h2.ptr ?_
  rcases h1 with ⟨e1, e2⟩ | ⟨b, ov, iv, zs, e1, e2, _⟩
  · rcases h2 with ⟨e3, e4⟩ | ⟨b2, lv, zs2, e3, e4, _⟩
    · simp [e1, e3]
    · rw [e2] at e4; cases e4
  · rcases h2 with ⟨e3, e4⟩ | ⟨b2, lv, zs2, e3, e4, _⟩
    · rw [e2] at e4; cases e4
    · simp [e1, e3]
end
theorem BoolIs.same {p : Prop} {a b : Value} (h : BoolIs p a) (h' : BoolIs p b) : ∃ r, a = .bool r ∧ b = .bool r := by
  obtain ⟨r, rfl, h1⟩ := h
  obtain ⟨q, rfl, h2⟩ := h'
  exact ⟨r, rfl, by rw [Bool.eq_iff_iff.2 (h2.trans h1.symm)]⟩
theorem place4 (x : Int) (w : World) : Calls Try.prog 11 #[.int .i64 x, .int .i64 4] w (Ret (.int .i64 (placeN x 4 : Nat)) w) := place_any x 4 (by decide) (by decide) w
theorem place5 (x : Int) (w : World) : Calls Try.prog 11 #[.int .i64 x, .int .i64 5] w (Ret (.int .i64 (placeN x 5 : Nat)) w) := place_any x 5 (by decide) (by decide) w
end Go.Proofs.Ytfkhelihepbehaa
