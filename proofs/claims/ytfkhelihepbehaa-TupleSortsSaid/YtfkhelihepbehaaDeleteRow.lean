/- slices.Delete of one element at []string. -/
import Derived.Test.YtfkhelihepbehaaSl2
import Derived.Test.YtfkhelihepbehaaBinRow
namespace Go.Proofs.Ytfkhelihepbehaa
open Go.RowKit
set_option linter.unusedVariables false

set_option maxRecDepth 100000 in
set_option maxHeartbeats 4000000 in
theorem deleteRow_any (xs : List Value) (iv : Value) (M : Nat → Prop) (n i : Nat) (w : World) (hn : n = xs.length) (hr : Row w 22 1 iv n xs M) (hi : i < n) (hxs : ∀ u ∈ xs, u.oneCell' = true) (hb : n ≤ 4611686018427387904) :
    Calls Try.prog 132 #[iv, .int .i64 i, .int .i64 ((i : Int) + 1)] w
      (RetF (fun g => iv.ownBlock = some g) w fun w' v => v.ownBlock = iv.ownBlock ∧ Row w' 22 1 v (n - 1) (xs.take i ++ xs.drop (i + 1)) (fun g => iv.ownBlock = some g)) := by
  obtain ⟨h1, ⟨h2, h3⟩ | ⟨g, cap, rest, rfl, hM, hB, hlen, hnc, hcm⟩⟩ := hr
  · omega
  obtain ⟨n, rfl⟩ : ∃ n', n = n' + 1 := ⟨n - 1, by omega⟩
  have hl1 : (xs.drop (i + 1)).length = n - i := by simp; omega
  have hsrc : CellsAt w.drew (if cap = i + 1 then some ⟨g, 0, none⟩ else some ⟨g, i + 1, none⟩) (xs.drop (i + 1)) := by
    intro j u hu
    have hlt := (List.getElem?_eq_some_iff.1 hu).1
    by_cases hc : cap = i + 1
    · rw [hl1] at hlt; omega
    · rw [if_neg hc]
      refine ⟨g, i + 1, rfl, ?_⟩
      rw [hB.drew.cell', List.getElem?_append_left (by rw [hl1] at hlt; omega), ← List.getElem?_drop]; exact hu
  obtain ⟨w1, hrun1, hk1, hB1⟩ := run_app_room (w := w.drew) elemRow hB.drew (k := i) (cap := cap) (c := cap - (i + 1)) hl1 hsrc (fun u hu => hxs u (List.mem_of_mem_drop hu)) (by omega) (by simp; omega)
  rw [show i + (n - i) = n by omega] at hrun1
  have hlen1 : (splice (xs ++ rest) i (xs.drop (i + 1))).length = cap := by
    have := hlen; simp [splice] at this ⊢; omega
  obtain ⟨w2, hrun2, hk2, hB2⟩ := run_clearB (w := w1) elemRow rfl (fun w => by kernel_rfl) hB1 (off := n) (n := 1) (c := cap - n) (sp := some ⟨g, n, none⟩) (fun _ => rfl) (by rw [hlen1]; omega)
  have HB2 := Lib.hid hB2
  have HK := Lib.hid (And.intro hk1 hk2)
  have HN := Lib.hid (And.intro hn (And.intro h1 hlen))
  clear hB1 hB2 hk1 hk2 hn h1 hlen hlen1 hsrc hl1 hB hxs hM
  have hne : ((i : Int) == (i : Int) + 1) = false := by simp; omega
  have nc1 : ¬ cap = i := by omega
  have nc2 : ¬ cap = n := by omega
  have hcm' := hcm
  unfold maxLen at hcm'
  have hi1 : ((i : Int) + 1).toNat = i + 1 := by omega
  have hp1 : (0 : Int) ≤ (i : Int) + 1 := by omega
  have hp2 : (i : Int) ≤ (cap : Int) := by omega
  have hp3 : (i : Int) ≤ (n : Int) := by omega
  have hs1 : n + 1 - (i + 1) = n - i := by omega
  have hs2 : n + 1 - n = 1 := by omega
  by_cases hci : cap = i + 1
  · have hni : n = i := by omega
    subst hni
    subst hci
    simp only [if_pos, Nat.sub_self] at hrun1
    simp only [hs2] at hrun2
    have hp4 : (n : Int) ≤ (n : Int) + 1 := by omega
    have hp5 : n ≤ n + 1 := by omega
    go_enter Try.func132, Try.ntmps132
    go_wp2
    go_still_tail 6, (by kernel_rfl)
    refine wp_appRun rfl _ _ rfl rfl rfl hrun1 ?_
    clear hrun1
    go_wp2
    go_ret
    have hk12 : Kp (fun k => k = g) w w2 := ((Kp.refl w).drew.trans HK.out.1).trans HK.out.2
    obtain ⟨q1, q2, q3⟩ := HN.out
    refine RetF.mk (hk12.mono fun k _ e => by rw [e]; rfl) ⟨rfl, ?_, .inr ⟨g, _, (.slice none 0 0) :: rest, rfl, rfl, HB2.out.congrL ?_, ?_, by omega, hcm⟩⟩
    · simp; omega
    · have e1 : xs = xs.take n ++ [xs[n]'(by omega)] ++ xs.drop (n + 1) := by
        rw [List.append_assoc, List.singleton_append, ← List.drop_eq_getElem_cons (by omega), List.take_append_drop]
      have l1 : (xs.take n).length = n := by simp; omega
      have l2 : (xs.drop (n + 1)).length = n - n := by simp; omega
      have e2 : splice (xs ++ rest) n (xs.drop (n + 1)) = xs.take n ++ xs.drop (n + 1) ++ (xs ++ rest).drop n := by
        unfold splice
        rw [List.take_append_of_le_length (by omega), l2, show n + (n - n) = n by omega, List.append_assoc]
      have e3 : (xs ++ rest).drop n = [xs[n]'(by omega)] ++ rest := by
        rw [List.drop_append_of_le_length (by omega), List.drop_eq_getElem_cons (by omega), List.drop_of_length_le (by omega)] <;> rfl
      rw [e2, e3, ← List.append_assoc, splice_at _ _ _ _ _ (by simp; omega) (by simp)]
      simp
    · simp at q3 ⊢; omega
  · simp only [if_neg hci] at hrun1
    go_enter Try.func132, Try.ntmps132
    go_wp2
    go_still_tail 6, (by kernel_rfl)
    refine wp_appRun rfl _ _ rfl rfl rfl hrun1 ?_
    clear hrun1
    go_wp2
    go_ret
    have hk12 : Kp (fun k => k = g) w w2 := ((Kp.refl w).drew.trans HK.out.1).trans HK.out.2
    obtain ⟨q1, q2, q3⟩ := HN.out
    refine RetF.mk (hk12.mono fun k _ e => by rw [e]; rfl) ⟨rfl, ?_, .inr ⟨g, _, (.slice none 0 0) :: rest, rfl, rfl, HB2.out.congrL ?_, ?_, by omega, hcm⟩⟩
    · simp; omega
    · have e1 : xs = xs.take i ++ [xs[i]'(by omega)] ++ xs.drop (i + 1) := by
        rw [List.append_assoc, List.singleton_append, ← List.drop_eq_getElem_cons (by omega), List.take_append_drop]
      have l1 : (xs.take i).length = i := by simp; omega
      have l2 : (xs.drop (i + 1)).length = n - i := by simp; omega
      have e2 : splice (xs ++ rest) i (xs.drop (i + 1)) = xs.take i ++ xs.drop (i + 1) ++ (xs ++ rest).drop n := by
        unfold splice
        rw [List.take_append_of_le_length (by omega), l2, show i + (n - i) = n by omega, List.append_assoc]
      have e3 : (xs ++ rest).drop n = [xs[n]'(by omega)] ++ rest := by
        rw [List.drop_append_of_le_length (by omega), List.drop_eq_getElem_cons (by omega), List.drop_of_length_le (by omega)] <;> rfl
      rw [e2, e3, ← List.append_assoc, splice_at _ _ _ _ _ (by first | (simp; done) | (simp; omega)) (by simp)]
      simp
    · simp at q3 ⊢; omega
end Go.Proofs.Ytfkhelihepbehaa
