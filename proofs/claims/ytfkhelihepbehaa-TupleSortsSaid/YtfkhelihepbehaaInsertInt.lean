/- slices.Insert of one element at int. -/
import Derived.Test.YtfkhelihepbehaaSl2
import Derived.Test.YtfkhelihepbehaaBinInt
namespace Go.Proofs.Ytfkhelihepbehaa
open Go.RowKit
set_option linter.unusedVariables false

set_option maxRecDepth 100000 in
set_option maxHeartbeats 4000000 in
theorem insertInt_any (xs : List Value) (iv : Value) (M : Nat → Prop) (n i : Nat) (x : Value) (vb : Nat) (ve : TypeId) (w : World) (hn : n = xs.length) (hr : Row w 3 1 iv n xs M) (hi : i ≤ n) (hx : x.oneCell' = true) (hxs : ∀ u ∈ xs, u.oneCell' = true)
    (hv : Blk w vb [x] ve) (hne : iv.ownBlock ≠ some vb) (hb : (n + 1) * 8 ≤ 140737488355328) :
    Calls Try.prog 89 #[iv, .int .i64 i, .slice (some ⟨vb, 0, none⟩) 1 1] w
      (RetF (fun g => iv.ownBlock = some g) w fun w' v => Row w' 3 1 v (n + 1) (xs.take i ++ x :: xs.drop i) (fun g => iv.ownBlock = some g ∨ w.heap.size ≤ g)) := by
  have hsrc : CellsAt w (some ⟨vb, 0, none⟩) [x] := CellsAt.pre (rest := []) hv
  have hl : n + 1 ≤ 9223372036854775807 := by omega
  obtain ⟨ao, cap, rfl, hcells, hcap⟩ := hr.shape
  by_cases hin : i = n
  · subst hin
    have HNN := Lib.hid hn; clear hn
    have hrM : Row w 3 1 (.slice ao i cap) i xs (fun g => (Value.slice ao i cap).ownBlock = some g ∨ w.heap.size ≤ g) := hr.own.mono fun g h => .inl h
    clear hr
    by_cases hci : cap = i
    all_goals
      first | (subst hci) | skip
      go_enter Try.func89, Try.ntmps89
      go_wp2_with (first | (at_builtin; refine Halted.out ?_))
      refine Halted.mk (wp_app elemInt rfl _ _ rfl (Kp.refl (F := fun g => (Value.slice ao _ _).ownBlock = some g) w) (M := fun g => (Value.slice ao _ _).ownBlock = some g ∨ w.heap.size ≤ g) (fun g h h' => by rcases h with h | h; exact h; omega) (fun g h => .inr h) rfl hrM rfl rfl hsrc (by simpa using hx) hb (by unfold maxLen; omega) ?_)
      intro v1 w1 hr1 hk1 _ _
      have HR := Lib.hid hr1; clear hr1 hcells hrM
      go_wp2
      go_ret
      refine RetF.mk hk1 ?_
      have := HNN.out
      rw [List.take_of_length_le (by omega), List.drop_of_length_le (by omega)]
      exact HR.out
  · have hlt : i < n := by omega
    obtain ⟨h1, ⟨h2, h3⟩ | ⟨g, cap', rest, h2, hM, hB, hlen, hnc, hcm⟩⟩ := hr
    · omega
    cases h2
    have hgv : g ≠ vb := fun e => hne (by simp [Value.ownBlock, e])
    have hfree := hv.free
    have hov : ∀ (W : World), Blk W vb [x] ve → (∀ cs, Blk w g cs 3 → True) → ∀ off lb cb (kB : Nat) (eB : TypeId), W.shape? g = some (eB, kB) → kB ≠ 0 →
        (callFunc 124 #[.slice (some ⟨vb, 0, none⟩) 1 1, .slice (some ⟨g, off, none⟩) lb cb]).run Try.prog W = .ok (.value (.bool false)) W := fun W hW _ off lb cb kB eB hs hk => by
      rw [run_callFunc_extern Try.func124 (by kernel_rfl) (by kernel_rfl) (by kernel_rfl) (e := Extern.SlicesOverlaps.overlaps #[26, 26] #[4]) (by kernel_rfl),
        Lib.run_overlaps_apart W 26 4 3 Try.underlying26 1 (fun w => by kernel_rfl) ⟨vb, 0, none⟩ ⟨g, off, none⟩ 1 1 lb cb (fun e => hgv e.symm) ve eB 1 kB hW.shape hs hk (hW.free 0) (hW.free 1)]
      rfl
    by_cases hroom : n + 1 ≤ cap
    · have hrest : ∃ y rest', rest = y :: rest' := by
        cases rest with
        | nil => simp at hlen h1; omega
        | cons y r => exact ⟨y, r, rfl⟩
      obtain ⟨y, rest', rfl⟩ := hrest
      have hov1 := fun off lb cb => hov w hv (fun _ _ => trivial) off lb cb _ _ hB.shape (by simp)
      have ncap : ¬ cap = i + 1 := by omega
      have ncap2 : ¬ cap = i := by omega
      have hi1 : ((i : Int) + 1).toNat = i + 1 := by omega
      have hw1 : IntKind.i64.wrap ((i : Int) + 1) = (i : Int) + 1 := IntWalk.i64_in _ (by omega)
      have hp1 : (0 : Int) ≤ (i : Int) + 1 := by omega
      have hp2 : (i : Int) ≤ (n : Int) + 1 := by omega
      have HNN := Lib.hid hn; clear hn
      have HB := Lib.hid hB; clear hB
      have HS := Lib.hid hsrc; clear hsrc
      have HV := Lib.hid hv; clear hv hov hfree
      have HXS := Lib.hid hxs; clear hxs
      have HC := Lib.hid hcells; clear hcells
      have HLN := Lib.hid (And.intro h1 hlen); clear h1 hlen
      have hcm' := hcm
      clear hM hcm hne
      unfold maxLen at hcm'
      go_enter Try.func89, Try.ntmps89
      go_wp2_with (simp only [hov1])
      go_still_tail 8, (by kernel_rfl)
      refine wp_copyB elemInt rfl _ _ rfl (w := w.drew) (HB.out.drew) (g := g) (off := i + 1) rfl rfl (cs := xs.drop i) (by have := HNN.out; simp [Nat.min_def]; first | omega | (split <;> omega)) (fun _ => rfl) (fun j u hu => ⟨g, i, rfl, by
          have hb := HB.out
          rw [hb.drew.cell']
          rw [List.getElem?_drop] at hu
          rw [List.getElem?_append_left (List.getElem?_eq_some_iff.1 hu).1]; exact hu⟩) (by have := HNN.out; simp; omega) (fun u hu => HXS.out u (List.mem_of_mem_drop hu)) ?_
      intro w2 hk2 hB2
      have hsv := (HS.out.drewN 1).kp hk2 (fun a ha e => by cases ha; exact hgv e.symm)
      obtain ⟨w3, hrun3, hk3, hB3⟩ := run_copyB elemInt (w := w2) hB2 (g := g) (off := i) (dp := some ⟨g, i, none⟩) (dLen := n + 1 - i) (dCap := cap - i) (sp := some ⟨vb, 0, none⟩) (sLen := 1) (sCap := 1) (cs := [x]) (by simp [Nat.min_def]; omega) (fun _ => rfl) hsv (by have := HNN.out; simp [splice]; omega) (by simpa using hx)
      have HK2 := Lib.hid hk2; have HK3 := Lib.hid hk3; have HB3 := Lib.hid hB3
      clear hk2 hk3 hB3 hB2 hsv hw1 hi1 hp1
      go_wp2
      go_ret
      have hk23 : Kp (fun k => k = g) w w3 := (((Kp.refl w).drew).trans (HK2.out)).trans HK3.out
      refine RetF.mk (hk23.mono fun k _ e => by rw [e]; rfl) ⟨?_, .inr ⟨g, cap, rest', rfl, .inl rfl, ?_, ?_, hroom, by unfold maxLen; omega⟩⟩
      · have := HNN.out; simp; omega
      · have := splice_ins xs rest' x y i (by have := HNN.out; omega)
        rw [← this]; exact HB3.out
      · have := HLN.out.2; have := HNN.out; simp at *; omega
    · have hcap' : n = cap := by omega
      subst hcap'
      have hk0 : 0 < n + 1 - i := by omega
      obtain ⟨w1, G, hrun1, hG, hGm, hext1, hsz1, hB1⟩ := run_app_zeros (w := w) elemInt rfl Try.underlying3 (ao := some ⟨g, 0, none⟩) (n := i) (cap := n) (olds := xs.take i) (fun j u hu => by
          rw [List.getElem?_take] at hu
          split at hu
          · exact hcells j u hu
          · cases hu) (by simp; omega) (k := n + 1 - i) hk0 (by omega) (by rw [show i + (n + 1 - i) = n + 1 by omega]; exact hb) (by unfold maxLen; omega)
      rw [show i + (n + 1 - i) = n + 1 by omega] at hrun1 hG
      have rk : (n : Int) + 1 - i = ((n + 1 - i : Nat) : Int) := by omega
      rw [← rk] at hrun1
      clear rk
      have hv1 := hsrc.ext hext1
      have hgh : g < w.heap.size := hB.lt
      obtain ⟨w2, hrun2, hk2, hB2⟩ := run_copyB elemInt (w := w1) hB1 (off := i) (dp := some ⟨w.heap.size, i, none⟩) (dLen := n + 1 - i) (dCap := G - i) (sp := some ⟨vb, 0, none⟩) (sLen := 1) (sCap := 1) (cs := [x]) (by simp [Nat.min_def]; omega) (fun _ => rfl) hv1 (by simp; omega) (by simpa using hx)
      have hB' : Blk w2 g (xs ++ rest) 3 := (hB.ext hext1).kp hk2 (by omega)
      have HB' := Lib.hid hB'; have HB2 := Lib.hid hB2; have HK2 := Lib.hid hk2; have HE1 := Lib.hid hext1
      have HNN := Lib.hid hn
      have HXS := Lib.hid hxs
      have HLN := Lib.hid (And.intro h1 hlen)
      have ncG : ¬ G = i := by omega
      have ncG1 : ¬ G = i + 1 := by omega
      have nci : ¬ n = i := by omega
      have hi1 : ((i : Int) + 1).toNat = i + 1 := by omega
      have hw1 : IntKind.i64.wrap ((i : Int) + 1) = (i : Int) + 1 := IntWalk.i64_in _ (by omega)
      have hp1 : (0 : Int) ≤ (i : Int) + 1 := by omega
      have hp2 : (i : Int) ≤ (n : Int) + 1 := by omega
      have hp3 : (i : Int) ≤ (n : Int) := by omega
      clear hB hB' hB2 hk2 hext1 hn hxs h1 hlen hv1 hB1 hM hcm hne hv hov hfree hsrc hcells
      unfold maxLen at hGm
      go_enter Try.func89, Try.ntmps89
      go_wp2_with (first | (at_builtin; refine Halted.out ?_))
      refine Halted.mk (wp_appRun rfl _ _ rfl rfl rfl hrun1 ?_)
      clear hrun1
      go_wp2
      go_still_tail 8, (by kernel_rfl)
      refine wp_copyB elemInt rfl _ _ rfl (w := w2.drew) (HB2.out.drew) (g := w.heap.size) (off := i + 1) rfl rfl (cs := xs.drop i) (by have := HNN.out; simp [Nat.min_def]; first | omega | (split <;> omega)) (fun _ => rfl) (fun j u hu => ⟨g, i, rfl, by
          have hb := HB'.out
          rw [hb.drew.cell']
          rw [List.getElem?_drop] at hu
          rw [List.getElem?_append_left (List.getElem?_eq_some_iff.1 hu).1]; exact hu⟩) (by have := HNN.out; simp [splice]; omega) (fun u hu => HXS.out u (List.mem_of_mem_drop hu)) ?_
      intro w3 hk3 hB3
      have HK3 := Lib.hid hk3; have HB3 := Lib.hid hB3
      clear hk3 hB3 hw1 hi1 hp1 hp2 hp3
      go_wp2
      go_ret
      have hext2 : Ext w w2 := HE1.out.trans' HK2.out (fun k hk e => by omega)
      have hext3 : Ext w w3 := (hext2.drew).trans' HK3.out (fun k hk e => by omega)
      refine RetF.mk hext3.kp ⟨?_, .inr ⟨w.heap.size, G, List.replicate (G - (n + 1)) (.int .i64 0), rfl, .inr (Nat.le_refl _), ?_, ?_, hG, by unfold maxLen; omega⟩⟩
      · have := HNN.out; simp; omega
      · have h := splice_ins2 xs x (.int .i64 0) i G (by have := HNN.out; omega) (by have := HNN.out; omega)
        have := HB3.out
        rw [h] at this
        exact this.congrL (by rw [HNN.out])
      · have := HNN.out; simp; omega
end Go.Proofs.Ytfkhelihepbehaa
