/- Texts joined for a claim (InsertRow, DeleteRow, SetOpsRow, SetCopyRow, SetPickRow, SetMeetRow, SetAtRow, IterRow, IterVRow, BinStr, IndexStr, GenStr, RowSet, BaseC, TriePlain, JoinTree, JoinPlain, JoinEnv, JoinEnv2, JoinRef, LeapPlain, TrieSpan, TriePath, JoinSol, JoinRef2, JoinList). -/
import Derived.Test.YtikgpedgmnbcaaaGreatDoorAw2
import Derived.Deep.RegionHeld3
import Derived.Deep.RegionWith
import Derived.Test.YtikgpedgmnbcaaaGreatDoorProg
set_option linter.unusedVariables false
set_option linter.unusedSimpArgs false
set_option maxRecDepth 100000
namespace Go.Proofs.YtikgpedgmnbcaaaGreatDoor
section
open Go.RowKit
set_option maxHeartbeats 4000000 in
theorem wF (xs : List Value) (iv : Value) (M : Nat -> Prop) (n i : Nat) (x : Value) (vb : Nat) (ve : TypeId) (w : World) (hn : n = xs.length) (hr : Row w 66 1 iv n xs M) (hi : i ≤ n) (hx : x.oneCell' = true) (hxs : ∀ u ∈ xs, u.oneCell' = true)
 (hv : Blk w vb [x] ve) (hne : iv.ownBlock ≠ some vb) (hb : (n + 1) * 24 ≤ 140737488355328) :
 Calls Tryz.prog 129 #[iv, .int .i64 i, .slice (some ⟨vb, 0, none⟩) 1 1] w
  (RetF (fun g => iv.ownBlock = some g) w fun w' v => Row w' 66 1 v (n + 1) (xs.take i ++ x :: xs.drop i) (fun g => iv.ownBlock = some g \/ w.heap.size ≤ g)) := by
 have hsrc : CellsAt w (some ⟨vb, 0, none⟩) [x] := CellsAt.pre (rest := []) hv
 have hl : n + 1 ≤ 9223372036854775807 := by omega
 obtain ⟨ao, cap, rfl, hcells, hcap⟩ := hr.shape
 by_cases hin : i = n
 ·subst hin
  have HNN := qH hn; clear hn
  have hrM : Row w 66 1 (.slice ao i cap) i xs (fun g => (Value.slice ao i cap).ownBlock = some g \/ w.heap.size ≤ g) := hr.own.mono fun g h => .inl h
  clear hr
  by_cases hci : cap = i
  all_goals
   first | (subst hci) | skip
   go_enter Tryz.func129, Tryz.ntmps129
   go_wp2_with (first | (at_builtin; refine Halted.out ?_))
   refine Halted.mk (aDh eS rfl _ _ rfl (Kp.refl (F := fun g => (Value.slice ao _ _).ownBlock = some g) w) (M := fun g => (Value.slice ao _ _).ownBlock = some g \/ w.heap.size ≤ g) (fun g h h' => by rcases h with h | h; exact h; omega) (fun g h => .inr h) rfl hrM rfl rfl hsrc (by simpa using hx) hb (by unfold maxLen; omega) ?_)
   intro v1 w1 hr1 hk1 _ _
   have HR := qH hr1; clear hr1 hcells hrM
   go_wp2
   go_ret
   refine RetF.mk hk1 ?_
   have := HNN.out
   rw [List.take_of_length_le (by omega), List.drop_of_length_le (by omega)]
   exact HR.out
 ·have hlt : i < n := by omega
  obtain ⟨h1, ⟨h2, h3⟩ | ⟨g, cap', rest, h2, hM, hB, hlen, hnc, hcm⟩⟩ := hr
  ·omega
  cases h2
  have hgv : g ≠ vb := fun e => hne (by simp [Value.ownBlock, e])
  have hfree := hv.free
  have hov : ∀ (W : World), Blk W vb [x] ve -> (∀ cs, Blk w g cs 66 -> True) -> ∀ off lb cb (kB : Nat) (eB : TypeId), W.shape? g = some (eB, kB) -> kB ≠ 0 ->
   (callFunc 179 #[.slice (some ⟨vb, 0, none⟩) 1 1, .slice (some ⟨g, off, none⟩) lb cb]).run Tryz.prog W = .ok (.value (.bool false)) W := fun W hW _ off lb cb kB eB hs hk => by
   rw [run_callFunc_extern Tryz.func179 (by kernel_rfl) (by kernel_rfl) (by kernel_rfl) (e := Extern.SlicesOverlaps.overlaps #[51, 51] #[4]) (by kernel_rfl),
    Lib.run_overlaps_apart W 51 4 66 Tryz.underlying51 1 (fun w => by kernel_rfl) ⟨vb, 0, none⟩ ⟨g, off, none⟩ 1 1 lb cb (fun e => hgv e.symm) ve eB 1 kB hW.shape hs hk (hW.free 0) (hW.free 1)]
   rfl
  by_cases hroom : n + 1 ≤ cap
  ·have hrest : ∃ y rest', rest = y :: rest' := by
    cases rest with
    | nil => simp at hlen h1; omega
    | cons y r => exact ⟨y, r, rfl⟩
   obtain ⟨y, rest', rfl⟩ := hrest
   have hov1 := fun off lb cb => hov w hv (fun _ _ => trivial) off lb cb _ _ hB.shape (by simp)
   have ncap : ¬ cap = i + 1 := by omega
   have ncap2 : ¬ cap = i := by omega
   have hi1 : ((i : Int) + 1).toNat = i + 1 := by omega
   have hw1 : IntKind.i64.wrap ((i : Int) + 1) = (i : Int) + 1 := IntWalk.i64_in _ (by omega)
   have hp1 : (0 : Int) ≤ (i : Int) + 1 := by omega
   have hp2 : (i : Int) ≤ (n : Int) + 1 := by omega
   have HNN := qH hn; clear hn
   have HB := qH hB; clear hB
   have HS := qH hsrc; clear hsrc
   have HV := qH hv; clear hv hov hfree
   have HXS := qH hxs; clear hxs
   have HC := qH hcells; clear hcells
   have HLN := qH (And.intro h1 hlen); clear h1 hlen
   have hcm' := hcm
   clear hM hcm hne
   unfold maxLen at hcm'
   go_enter Tryz.func129, Tryz.ntmps129
   go_wp2_with (simp only [hov1])
   go_still_tail 8, (by kernel_rfl)
   refine tI eS rfl _ _ rfl (w := w.drew) (HB.out.drew) (g := g) (off := i + 1) rfl rfl (cs := xs.drop i) (by have := HNN.out; simp [Nat.min_def]; first | omega | (split <;> omega)) (fun _ => rfl) (fun j u hu => ⟨g, i, rfl, by
    have hb := HB.out
    rw [hb.drew.cell']
    rw [List.getElem?_drop] at hu
    rw [List.getElem?_append_left (List.getElem?_eq_some_iff.1 hu).1]; exact hu⟩) (by have := HNN.out; simp; omega) (fun u hu => HXS.out u (List.mem_of_mem_drop hu)) ?_
   intro w2 hk2 hB2
   have hsv := (HS.out.drewN 1).kp hk2 (fun a ha e => by cases ha; exact hgv e.symm)
   obtain ⟨w3, hrun3, hk3, hB3⟩ := jX eS (w := w2) hB2 (g := g) (off := i) (dp := some ⟨g, i, none⟩) (dLen := n + 1 - i) (dCap := cap - i) (sp := some ⟨vb, 0, none⟩) (sLen := 1) (sCap := 1) (cs := [x]) (by simp [Nat.min_def]; omega) (fun _ => rfl) hsv (by have := HNN.out; simp [splice]; omega) (by simpa using hx)
   have HK2 := qH hk2; have HK3 := qH hk3; have HB3 := qH hB3
   clear hk2 hk3 hB3 hB2 hsv hw1 hi1 hp1
   go_wp2
   go_ret
   have hk23 : Kp (fun k => k = g) w w3 := (((Kp.refl w).drew).trans (HK2.out)).trans HK3.out
   refine RetF.mk (hk23.mono fun k _ e => by rw [e]; rfl) ⟨?_, .inr ⟨g, cap, rest', rfl, .inl rfl, ?_, ?_, hroom, by unfold maxLen; omega⟩⟩
   ·have := HNN.out; simp; omega
   ·have := aDu xs rest' x y i (by have := HNN.out; omega)
    rw [<- this]; exact HB3.out
   ·have := HLN.out.2; have := HNN.out; simp at *; omega
  ·have hcap' : n = cap := by omega
   subst hcap'
   have hk0 : 0 < n + 1 - i := by omega
   obtain ⟨w1, G, hrun1, hG, hGm, hext1, hsz1, hB1⟩ := oH (w := w) eS rfl Tryz.underlying3 (ao := some ⟨g, 0, none⟩) (n := i) (cap := n) (olds := xs.take i) (fun j u hu => by
    rw [List.getElem?_take] at hu
    split at hu
    ·exact hcells j u hu
    ·cases hu) (by simp; omega) (k := n + 1 - i) hk0 (by omega) (by rw [show i + (n + 1 - i) = n + 1 by omega]; exact hb) (by unfold maxLen; omega)
   rw [show i + (n + 1 - i) = n + 1 by omega] at hrun1 hG
   have rk : (n : Int) + 1 - i = ((n + 1 - i : Nat) : Int) := by omega
   rw [<- rk] at hrun1
   clear rk
   have hv1 := hsrc.ext hext1
   have hgh : g < w.heap.size := hB.lt
   obtain ⟨w2, hrun2, hk2, hB2⟩ := jX eS (w := w1) hB1 (off := i) (dp := some ⟨w.heap.size, i, none⟩) (dLen := n + 1 - i) (dCap := G - i) (sp := some ⟨vb, 0, none⟩) (sLen := 1) (sCap := 1) (cs := [x]) (by simp [Nat.min_def]; omega) (fun _ => rfl) hv1 (by simp; omega) (by simpa using hx)
   have hB' : Blk w2 g (xs ++ rest) 66 := (hB.ext hext1).kp hk2 (by omega)
   have HB' := qH hB'; have HB2 := qH hB2; have HK2 := qH hk2; have HE1 := qH hext1
   have HNN := qH hn
   have HXS := qH hxs
   have HLN := qH (And.intro h1 hlen)
   have ncG : ¬ G = i := by omega
   have ncG1 : ¬ G = i + 1 := by omega
   have nci : ¬ n = i := by omega
   have hi1 : ((i : Int) + 1).toNat = i + 1 := by omega
   have hw1 : IntKind.i64.wrap ((i : Int) + 1) = (i : Int) + 1 := IntWalk.i64_in _ (by omega)
   have hp1 : (0 : Int) ≤ (i : Int) + 1 := by omega
   have hp2 : (i : Int) ≤ (n : Int) + 1 := by omega
   have hp3 : (i : Int) ≤ (n : Int) := by omega
   clear hB hB' hB2 hk2 hext1 hn hxs h1 hlen hv1 hB1 hM hcm hne hv hov hfree hsrc hcells
   unfold maxLen at hGm
   go_enter Tryz.func129, Tryz.ntmps129
   go_wp2_with (first | (at_builtin; refine Halted.out ?_))
   refine Halted.mk (nJ rfl _ _ rfl rfl rfl hrun1 ?_)
   clear hrun1
   go_wp2
   go_still_tail 8, (by kernel_rfl)
   refine tI eS rfl _ _ rfl (w := w2.drew) (HB2.out.drew) (g := w.heap.size) (off := i + 1) rfl rfl (cs := xs.drop i) (by have := HNN.out; first | (simp; omega) | (simp [Nat.min_def]; first | omega | (split <;> omega))) (fun _ => rfl) (fun j u hu => ⟨g, i, rfl, by
    have hb := HB'.out
    rw [hb.drew.cell']
    rw [List.getElem?_drop] at hu
    rw [List.getElem?_append_left (List.getElem?_eq_some_iff.1 hu).1]; exact hu⟩) (by have := HNN.out; simp [splice]; omega) (fun u hu => HXS.out u (List.mem_of_mem_drop hu)) ?_
   intro w3 hk3 hB3
   have HK3 := qH hk3; have HB3 := qH hB3
   clear hk3 hB3 hw1 hi1 hp1 hp2 hp3
   go_wp2
   go_ret
   have hext2 : Ext w w2 := HE1.out.trans' HK2.out (fun k hk e => by omega)
   have hext3 : Ext w w3 := (hext2.drew).trans' HK3.out (fun k hk e => by omega)
   refine RetF.mk hext3.kp ⟨?_, .inr ⟨w.heap.size, G, List.replicate (G - (n + 1)) (.slice none 0 0), rfl, .inr (Nat.le_refl _), ?_, ?_, hG, by unfold maxLen; omega⟩⟩
   ·have := HNN.out; simp; omega
   ·have h := rM xs x (.slice none 0 0) i G (by have := HNN.out; omega) (by have := HNN.out; omega)
    have := HB3.out
    rw [h] at this
    exact this.congrL (by rw [HNN.out])
   ·have := HNN.out; simp; omega
set_option maxHeartbeats 4000000 in
theorem wH (xs : List Value) (iv : Value) (M : Nat -> Prop) (n i : Nat) (w : World) (hn : n = xs.length) (hr : Row w 66 1 iv n xs M) (hi : i < n) (hxs : ∀ u ∈ xs, u.oneCell' = true) (hb : n ≤ 4611686018427387904) :
 Calls Tryz.prog 123 #[iv, .int .i64 i, .int .i64 ((i : Int) + 1)] w
  (RetF (fun g => iv.ownBlock = some g) w fun w' v => v.ownBlock = iv.ownBlock /\ Row w' 66 1 v (n - 1) (xs.take i ++ xs.drop (i + 1)) (fun g => iv.ownBlock = some g)) := by
 obtain ⟨h1, ⟨h2, h3⟩ | ⟨g, cap, rest, rfl, hM, hB, hlen, hnc, hcm⟩⟩ := hr
 ·omega
 obtain ⟨n, rfl⟩ : ∃ n', n = n' + 1 := ⟨n - 1, by omega⟩
 have hl1 : (xs.drop (i + 1)).length = n - i := by simp; omega
 have hsrc : CellsAt w.drew (if cap = i + 1 then some ⟨g, 0, none⟩ else some ⟨g, i + 1, none⟩) (xs.drop (i + 1)) := by
  intro j u hu
  have hlt := (List.getElem?_eq_some_iff.1 hu).1
  by_cases hc : cap = i + 1
  ·rw [hl1] at hlt; omega
  ·rw [if_neg hc]
   refine ⟨g, i + 1, rfl, ?_⟩
   rw [hB.drew.cell', List.getElem?_append_left (by rw [hl1] at hlt; omega), <- List.getElem?_drop]; exact hu
 obtain ⟨w1, hrun1, hk1, hB1⟩ := yT (w := w.drew) eS hB.drew (k := i) (cap := cap) (c := cap - (i + 1)) hl1 hsrc (fun u hu => hxs u (List.mem_of_mem_drop hu)) (by omega) (by simp; omega)
 rw [show i + (n - i) = n by omega] at hrun1
 have hlen1 : (splice (xs ++ rest) i (xs.drop (i + 1))).length = cap := by
  have := hlen; simp [splice] at this ⊢; omega
 obtain ⟨w2, hrun2, hk2, hB2⟩ := tU (w := w1) eS rfl (fun w => by kernel_rfl) hB1 (off := n) (n := 1) (c := cap - n) (sp := some ⟨g, n, none⟩) (fun _ => rfl) (by rw [hlen1]; omega)
 have HB2 := qH hB2
 have HK := qH (And.intro hk1 hk2)
 have HN := qH (And.intro hn (And.intro h1 hlen))
 clear hB1 hB2 hk1 hk2 hn h1 hlen hlen1 hsrc hl1 hB hxs hM
 have hne : ((i : Int) == (i : Int) + 1) = false := by simp; omega
 have nc1 : ¬ cap = i := by omega
 have nc2 : ¬ cap = n := by omega
 have hcm' := hcm
 unfold maxLen at hcm'
 have hi1 : ((i : Int) + 1).toNat = i + 1 := by omega
 have hp1 : (0 : Int) ≤ (i : Int) + 1 := by omega
 have hp2 : (i : Int) ≤ (cap : Int) := by omega
 have hp3 : (i : Int) ≤ (n : Int) := by omega
 have hs1 : n + 1 - (i + 1) = n - i := by omega
 have hs2 : n + 1 - n = 1 := by omega
 by_cases hci : cap = i + 1
 ·have hni : n = i := by omega
  subst hni
  subst hci
  simp only [if_pos, Nat.sub_self] at hrun1
  simp only [hs2] at hrun2
  have hp4 : (n : Int) ≤ (n : Int) + 1 := by omega
  have hp5 : n ≤ n + 1 := by omega
  go_enter Tryz.func123, Tryz.ntmps123
  go_wp2
  go_still_tail 6, (by kernel_rfl)
  refine nJ rfl _ _ rfl rfl rfl hrun1 ?_
  clear hrun1
  go_wp2
  go_ret
  have hk12 : Kp (fun k => k = g) w w2 := ((Kp.refl w).drew.trans HK.out.1).trans HK.out.2
  obtain ⟨q1, q2, q3⟩ := HN.out
  refine RetF.mk (hk12.mono fun k _ e => by rw [e]; rfl) ⟨rfl, ?_, .inr ⟨g, _, (.slice none 0 0) :: rest, rfl, rfl, HB2.out.congrL ?_, ?_, by omega, hcm⟩⟩
  ·simp; omega
  ·have e1 : xs = xs.take n ++ [xs[n]'(by omega)] ++ xs.drop (n + 1) := by
    rw [List.append_assoc, List.singleton_append, <- List.drop_eq_getElem_cons (by omega), List.take_append_drop]
   have l1 : (xs.take n).length = n := by simp; omega
   have l2 : (xs.drop (n + 1)).length = n - n := by simp; omega
   have e2 : splice (xs ++ rest) n (xs.drop (n + 1)) = xs.take n ++ xs.drop (n + 1) ++ (xs ++ rest).drop n := by
    unfold splice
    rw [List.take_append_of_le_length (by omega), l2, show n + (n - n) = n by omega, List.append_assoc]
   have e3 : (xs ++ rest).drop n = [xs[n]'(by omega)] ++ rest := by
    rw [List.drop_append_of_le_length (by omega), List.drop_eq_getElem_cons (by omega), List.drop_of_length_le (by omega)] <;> rfl
   rw [e2, e3, <- List.append_assoc, iH _ _ _ _ _ (by simp; omega) (by simp)]
   simp
  ·simp at q3 ⊢; omega
 ·simp only [if_neg hci] at hrun1
  go_enter Tryz.func123, Tryz.ntmps123
  go_wp2
  go_still_tail 6, (by kernel_rfl)
  refine nJ rfl _ _ rfl rfl rfl hrun1 ?_
  clear hrun1
  go_wp2
  go_ret
  have hk12 : Kp (fun k => k = g) w w2 := ((Kp.refl w).drew.trans HK.out.1).trans HK.out.2
  obtain ⟨q1, q2, q3⟩ := HN.out
  refine RetF.mk (hk12.mono fun k _ e => by rw [e]; rfl) ⟨rfl, ?_, .inr ⟨g, _, (.slice none 0 0) :: rest, rfl, rfl, HB2.out.congrL ?_, ?_, by omega, hcm⟩⟩
  ·simp; omega
  ·have e1 : xs = xs.take i ++ [xs[i]'(by omega)] ++ xs.drop (i + 1) := by
    rw [List.append_assoc, List.singleton_append, <- List.drop_eq_getElem_cons (by omega), List.take_append_drop]
   have l1 : (xs.take i).length = i := by simp; omega
   have l2 : (xs.drop (i + 1)).length = n - i := by simp; omega
   have e2 : splice (xs ++ rest) i (xs.drop (i + 1)) = xs.take i ++ xs.drop (i + 1) ++ (xs ++ rest).drop n := by
    unfold splice
    rw [List.take_append_of_le_length (by omega), l2, show i + (n - i) = n by omega, List.append_assoc]
   have e3 : (xs ++ rest).drop n = [xs[n]'(by omega)] ++ rest := by
    rw [List.drop_append_of_le_length (by omega), List.drop_eq_getElem_cons (by omega), List.drop_of_length_le (by omega)] <;> rfl
   rw [e2, e3, <- List.append_assoc, iH _ _ _ _ _ (by first | (simp; done) | (simp; omega)) (by simp)]
   simp
  ·simp at q3 ⊢; omega
section
variable {S : Nat -> Prop} {w : World} {b : Nat} {ov iv : Value} {tail : List Value} {te : TypeId} {D : Option Addr × Nat × Nat -> Prop} {c : Option Addr × Nat × Nat -> Option Addr × Nat × Nat -> Int} {zs : List (Option Addr × Nat × Nat)}
theorem oF (O : OrdLaw c) (x : Option Addr × Nat × Nat) (hx : D x) (hs : Strict c zs) (h : SetAtRow Tryz.prog S w b ov iv tail te D c zs) :
 Calls Tryz.prog 128 #[.pointer (some ⟨b, 0, none⟩), (Value.slice (x).1 (x).2.1 (x).2.2)] w (RetF (fun _ => False) w fun w' v => v = .bool (bA c zs x)) := by
 have HF := qH (iS O x hx hs h); clear h
 go_enter Tryz.func128, Tryz.ntmps128
 go_wp2_with fail
 refine HF.out.mono ?_
 rintro e w1 ⟨v, rfl, hk, rfl⟩
 have HK := qH hk; clear hk
 go_wp2
 go_ret
 exact RetF.mk HK.out rfl
set_option maxHeartbeats 1000000 in
theorem vZ (O : OrdLaw c) (x : Option Addr × Nat × Nat) (hx : D x) (hs : Strict c zs) (h : SetAtRow Tryz.prog S w b ov iv tail te D c zs) (hl : zs.length + 1 ≤ 1048576 * 1048576) :
 Calls Tryz.prog 78 #[.pointer (some ⟨b, 0, none⟩), (Value.slice (x).1 (x).2.1 (x).2.2)] w
  (RetF (bN b iv) w fun w' v => v = .bool (!bA c zs x) /\ ∃ iv', SetAtRow Tryz.prog S w' b ov iv' tail te D c (cQ c zs x) /\ ∀ k, iv'.ownBlock = some k -> iv.ownBlock = some k \/ w.heap.size ≤ k) := by
 have HF := qH (iS O x hx hs h)
 have HH := qH h; clear h
 go_enter Tryz.func78, Tryz.ntmps78
 go_wp2_with fail
 refine HF.out.mono ?_
 rintro e w1 ⟨v, rfl, hk, rfl⟩
 have h1 := HH.out.ext hk
 have HK := qH hk; clear hk
 cases hin : bA c zs x
 ·obtain ⟨c1, c2⟩ := h1.cells
  have H1 := qH h1; clear h1
  go_wp2_with fail
  have hb := below_le (c := c) zs x
  have hbw : b < w1.heap.size := H1.out.blk.lt
  refine (wF (zs.map fun x => (Value.slice (x).1 (x).2.1 (x).2.2)) iv _ zs.length (below c zs x) ((Value.slice (x).1 (x).2.1 (x).2.2)) w1.heap.size 66 _ (by simp) (H1.out.row.alloc _) hb rfl (by intro u hu; obtain ⟨y, _, rfl⟩ := List.mem_map.1 hu; rfl) (Blk.new w1 [(Value.slice (x).1 (x).2.1 (x).2.2)] 66) (fun e => by
   have := H1.out.row
   obtain ⟨q1, ⟨q2, _⟩ | ⟨g, cap, rest, q2, _, q3, _⟩⟩ := this
   ·rw [q2] at e; cases e
   ·rw [q2] at e; have e' : g = w1.heap.size := Option.some.inj e
    have := q3.lt; omega) (by omega)).mono ?_
  rintro e w2 ⟨iv', rfl, hk2, hr⟩
  obtain ⟨ao', cap', eiv, _, _⟩ := hr.shape
  subst eiv
  have hk02 := ((Kp.refl (F := fun k => iv.ownBlock = some k) w1).alloc (.cells #[(Value.slice (x).1 (x).2.1 (x).2.2)] 66)).trans hk2
  have hB2 := H1.out.blk.kp hk02 H1.out.apart
  have f1 := hB2.free 1
  have d1 := hB2.c1
  have HR := qH (And.intro hk02 (And.intro hB2 hr))
  clear hk02 hB2 hr hk2 c1 c2
  go_wp2
  go_ret
  obtain ⟨hk02, hB2, hr⟩ := HR.out
  have h1 := H1.out
  have hz : cQ c zs x = zs.take (below c zs x) ++ x :: zs.drop (below c zs x) := by unfold cQ; rw [hin]; rfl
  have hlz : (cQ c zs x).length = zs.length + 1 := by rw [nI, hin]; rfl
  have hown : ∀ k, (Value.slice ao' (zs.length + 1) cap').ownBlock = some k -> iv.ownBlock = some k \/ w.heap.size ≤ k := fun k hk => by
   rcases hr.block k hk with hh | hh
   ·exact .inl hh
   ·have := HK.out.size; simp only [aI] at hh; exact .inr (by omega)
  have hownb : (Value.slice ao' (zs.length + 1) cap').ownBlock ≠ some b := fun hk => by
   rcases hr.block b hk with hh | hh
   ·exact h1.apart hh
   ·simp only [aI] at hh; omega
  have hK : Kp (bN b iv) w w2 := ((Ext.kp HK.out).trans (hk02.mono fun k _ hk => .inr hk))
  refine RetF.mk (hK.setCell (fun _ => .inl rfl) _) ⟨by rw [hin]; rfl, .slice ao' (zs.length + 1) cap', ?_, hown⟩
  refine mD hB2 (M := fun _ => True) ?_ hownb (fun k hk => Nat.lt_of_lt_of_le (h1.inS k hk) hk02.size) (fun k hk hS => ?_) (h1.ord.same (hk02.same h1.inS fun k hk hk' => h1.notS k (.inr hk') hk)) (fun y hy => ?_) (by rw [hlz]; exact hl)
  ·rw [hlz, hz]
   have := hr.mono (M' := fun _ => True) fun _ _ => trivial
   simpa using this
  ·rcases hk with hk | hk
   ·exact h1.notS k (.inl hk) hS
   ·rcases hr.block k hk with hh | hh
    ·exact h1.notS k (.inr hh) hS
    ·have := h1.inS k hS; simp only [aI] at hh; omega
  ·rcases mQ.1 hy with hy | ⟨rfl, _⟩
   ·exact h1.all y hy
   ·exact hx
 ·have H1 := qH h1; clear h1
  go_wp2
  go_ret
  have hz : cQ c zs x = zs := by unfold cQ; rw [hin]; rfl
  refine RetF.mk (Ext.kp HK.out) ⟨by rw [hin]; rfl, iv, ?_, fun k hk => .inl hk⟩
  rw [hz]; exact H1.out
set_option maxHeartbeats 1000000 in
theorem tS (O : OrdLaw c) (x : Option Addr × Nat × Nat) (hx : D x) (hs : Strict c zs) (h : SetAtRow Tryz.prog S w b ov iv tail te D c zs) :
 Calls Tryz.prog 73 #[.pointer (some ⟨b, 0, none⟩), (Value.slice (x).1 (x).2.1 (x).2.2)] w
  (RetF (bN b iv) w fun w' v => v = .bool (bA c zs x) /\ ∃ iv', SetAtRow Tryz.prog S w' b ov iv' tail te D c (jA c zs x) /\ iv'.ownBlock = iv.ownBlock) := by
 have HF := qH (iS O x hx hs h)
 have HH := qH h; clear h
 go_enter Tryz.func73, Tryz.ntmps73
 go_wp2_with fail
 refine HF.out.mono ?_
 rintro e w1 ⟨v, rfl, hk, rfl⟩
 have h1 := HH.out.ext hk
 have HK := qH hk; clear hk
 cases hin : bA c zs x
 ·have H1 := qH h1; clear h1
  go_wp2
  go_ret
  have hz : jA c zs x = zs := by unfold jA; rw [hin]; rfl
  refine RetF.mk (Ext.kp HK.out) ⟨by rw [hin]; rfl, iv, ?_, rfl⟩
  rw [hz]; exact H1.out
 ·obtain ⟨c1, c2⟩ := h1.cells
  have H1 := qH h1; clear h1
  have hb : below c zs x < zs.length := by
   obtain ⟨y, hy, _⟩ := (hs.there O x).1 hin
   exact (List.getElem?_eq_some_iff.1 hy).1
  have hlen := H1.out.len
  have hw1 : IntKind.i64.wrap (((below c zs x : Nat) : Int) + 1) = ((below c zs x : Nat) : Int) + 1 := IntWalk.i64_in _ (by omega)
  go_wp2_with fail
  refine (wH (zs.map fun x => (Value.slice (x).1 (x).2.1 (x).2.2)) iv _ zs.length (below c zs x) w1 (by simp) H1.out.row hb (by intro u hu; obtain ⟨y, _, rfl⟩ := List.mem_map.1 hu; rfl) (by omega)).mono ?_
  rintro e w2 ⟨iv', rfl, hk2, hov, hr⟩
  obtain ⟨ao', cap', eiv, _, _⟩ := hr.shape
  subst eiv
  have hB2 := H1.out.blk.kp hk2 H1.out.apart
  have f1 := hB2.free 1
  have d1 := hB2.c1
  have HR := qH (And.intro hk2 (And.intro hB2 (And.intro hov hr)))
  clear hB2 hr hk2 hov c1 c2
  go_wp2
  go_ret
  obtain ⟨hk2, hB2, hov, hr⟩ := HR.out
  have h1 := H1.out
  have hz : jA c zs x = zs.take (below c zs x) ++ zs.drop (below c zs x + 1) := by unfold jA; rw [hin]; rfl
  have hlz : (jA c zs x).length = zs.length - 1 := by rw [hz]; simp; omega
  have hK : Kp (bN b iv) w w2 := (Ext.kp HK.out).trans (hk2.mono fun k _ hk => .inr hk)
  refine RetF.mk (hK.setCell (fun _ => .inl rfl) _) ⟨by rw [hin]; rfl, .slice ao' (zs.length - 1) cap', ?_, hov⟩
  refine mD hB2 (M := fun _ => True) ?_ (by rw [hov]; exact h1.apart) (fun k hk => Nat.lt_of_lt_of_le (h1.inS k hk) hk2.size) (fun k hk hS => ?_) (h1.ord.same (hk2.same h1.inS fun k hk hk' => h1.notS k (.inr hk') hk)) (fun y hy => ?_) (by rw [hlz]; omega)
  ·rw [hlz, hz]
   have := hr.mono (M' := fun _ => True) fun _ _ => trivial
   simpa using this
  ·rcases hk with hk | hk
   ·exact h1.notS k (.inl hk) hS
   ·rw [hov] at hk; exact h1.notS k (.inr hk) hS
  ·rw [hz] at hy
   rcases List.mem_append.1 hy with hy | hy
   ·exact h1.all y (List.mem_of_mem_take hy)
   ·exact h1.all y (List.mem_of_mem_drop hy)
end
def PtrSetRow (P : Program) (S : Nat -> Prop) (w : World) (v : Value) (zs : List (Option Addr × Nat × Nat)) : Prop :=
 (v = .pointer none /\ zs = []) \/ ∃ b ov iv tail te D c, v = .pointer (some ⟨b, 0, none⟩) /\ SetAtRow P S w b ov iv tail te D c zs
theorem PtrSetRow.ext {P : Program} {S : Nat -> Prop} {w w' : World} {v : Value} {zs : List (Option Addr × Nat × Nat)} (h : PtrSetRow P S w v zs) (hk : Ext w w') : PtrSetRow P S w' v zs := by
 rcases h with h | ⟨b, ov, iv, tail, te, D, c, h1, h2⟩
 ·exact .inl h
 ·exact .inr ⟨b, ov, iv, tail, te, D, c, h1, h2.ext hk⟩
theorem PtrSetRow.len {P : Program} {S : Nat -> Prop} {w : World} {v : Value} {zs : List (Option Addr × Nat × Nat)} (h : PtrSetRow P S w v zs) : zs.length ≤ 1048576 * 1048576 := by
 rcases h with ⟨_, rfl⟩ | ⟨b, ov, iv, tail, te, D, c, h1, h2⟩
 ·simp
 ·exact h2.len
theorem lN {S : Nat -> Prop} {w : World} {v : Value} {zs : List (Option Addr × Nat × Nat)} (h : PtrSetRow Tryz.prog S w v zs) :
 Calls Tryz.prog 125 #[v] w (RetN w fun w' r => Row w' 66 1 r zs.length (zs.map fun x => (Value.slice (x).1 (x).2.1 (x).2.2)) (New w)) := by
 rcases h with ⟨rfl, rfl⟩ | ⟨b, ov, iv, tail, te, D, c, rfl, h2⟩
 ·refine (sK w).mono ?_
  rintro e w' ⟨rfl, rfl⟩
  exact RetN.mk (Kp.refl _) (Row.nil _ _ _ _)
 ·exact sL h2
theorem OrdVRow.form {P : Program} {S : Nat -> Prop} {w0 : World} {ov : Value} {D : Option Addr × Nat × Nat -> Prop} {c : Option Addr × Nat × Nat -> Option Addr × Nat × Nat -> Int} (h : OrdVRow P S w0 ov D c) : ov = .nilFunc \/ ∃ f first cap, ov = .func f first cap := by
 rcases h with ⟨h, _⟩ | ⟨f, first, cap, h, _⟩
 ·exact .inl h
 ·exact .inr ⟨_, _, _, h⟩
theorem pE {P : Program} {S : Nat -> Prop} {w w1 : World} {ov iv : Value} {D : Option Addr × Nat × Nat -> Prop} {c : Option Addr × Nat × Nat -> Option Addr × Nat × Nat -> Int} {zs : List (Option Addr × Nat × Nat)} {M : Nat -> Prop} (ho : OrdVRow P S w ov D c) (hS : ∀ k, S k -> k < w.heap.size) (hex : Ext w w1)
 (hr : Row w1 66 1 iv zs.length (zs.map fun x => (Value.slice (x).1 (x).2.1 (x).2.2)) M) (hD : ∀ x ∈ zs, D x) (hl : zs.length ≤ 1048576 * 1048576) (te : TypeId) (hM : ∀ k, M k -> w.heap.size ≤ k := by exact fun k h => h) :
 SetAtRow P S (w1.alloc (.cells #[ov, iv] te)) w1.heap.size ov iv [] te D c zs := by
 refine ⟨Blk.new w1 [ov, iv] te, (hr.own).alloc _, fun h => by have := hr.lt _ h; omega, fun k h => Nat.lt_of_lt_of_le (hS k h) (hex.alloc _).size, fun k h hs => ?_, ho.same ((hex.alloc _).same hS fun _ _ => id), hD, hl⟩
 have h1 := hS k hs
 have h2 := hex.size
 rcases h with h | h
 ·omega
 ·have := hM k (hr.block k h); omega
section
variable {S : Nat -> Prop} {w : World} {b : Nat} {ov iv : Value} {tail : List Value} {te : TypeId} {D : Option Addr × Nat × Nat -> Prop} {c : Option Addr × Nat × Nat -> Option Addr × Nat × Nat -> Int} {zs : List (Option Addr × Nat × Nat)}
set_option maxHeartbeats 2000000 in
theorem tT (h : SetAtRow Tryz.prog S w b ov iv tail te D c zs) :
 Calls Tryz.prog 71 #[.pointer (some ⟨b, 0, none⟩)] w
  (RetN w fun w' v => ∃ b' iv', v = .pointer (some ⟨b', 0, none⟩) /\ w.heap.size ≤ b' /\ (∀ k, iv'.ownBlock = some k -> w.heap.size ≤ k) /\ SetAtRow Tryz.prog S w' b' ov iv' [] 134 D c zs) := by
 obtain ⟨c1, c2⟩ := h.cells
 obtain ⟨ao, cap, rfl, hc, _⟩ := h.row.shape
 have hform := h.ord.form
 have hl := h.len
 have HC := qH hc; clear hc
 have HH := qH h; clear h
 rcases hform with rfl | ⟨f1, first1, cap1, rfl⟩
 ·go_enter Tryz.func71, Tryz.ntmps71
  go_wp2
  go_region_held3 (fun w' => w'.cell? ⟨b, 0, none⟩ = some .nilFunc /\ w'.cell? ⟨b, 1, none⟩ = some (.slice ao zs.length cap)) (first | exact ⟨by assumption, by assumption⟩ | go_keep)
   (first | (go_at_call 121; refine (lI (zs.map fun x => (Value.slice (x).1 (x).2.1 (x).2.2)) ao cap _ zs.length (by simp) (HC.out.drewN 1) (by intro u hu; obtain ⟨x, _, rfl⟩ := List.mem_map.1 hu; rfl) (by omega)).mono ?_; rintro e w1 ⟨v, rfl, hk, hr⟩; obtain ⟨ao1, cap2, ev, _, _⟩ := hr.shape; subst ev; have d1 := hk.cell c1 id; have d2 := hk.cell c2 id))
  go_wp2
  go_ret
  have hex : Ext w w1 := (Kp.refl w).drew.trans hk
  exact RetN.mk (hex.alloc _) ⟨w1.heap.size, .slice ao1 zs.length cap2, rfl, hex.size, (fun k hk' => hr.block k hk'), pE HH.out.ord HH.out.inS hex hr HH.out.all hl _⟩
 ·go_enter Tryz.func71, Tryz.ntmps71
  go_wp2
  go_region_held3 (fun w' => w'.cell? ⟨b, 0, none⟩ = some (.func f1 first1 cap1) /\ w'.cell? ⟨b, 1, none⟩ = some (.slice ao zs.length cap)) (first | exact ⟨by assumption, by assumption⟩ | go_keep)
   (first | (go_at_call 121; refine (lI (zs.map fun x => (Value.slice (x).1 (x).2.1 (x).2.2)) ao cap _ zs.length (by simp) (HC.out.drewN 1) (by intro u hu; obtain ⟨x, _, rfl⟩ := List.mem_map.1 hu; rfl) (by omega)).mono ?_; rintro e w1 ⟨v, rfl, hk, hr⟩; obtain ⟨ao1, cap2, ev, _, _⟩ := hr.shape; subst ev; have d1 := hk.cell c1 id; have d2 := hk.cell c2 id))
  go_wp2
  go_ret
  have hex : Ext w w1 := (Kp.refl w).drew.trans hk
  exact RetN.mk (hex.alloc _) ⟨w1.heap.size, .slice ao1 zs.length cap2, rfl, hex.size, (fun k hk' => hr.block k hk'), pE HH.out.ord HH.out.inS hex hr HH.out.all hl _⟩
end
section
variable {S : Nat -> Prop} {w : World} {b : Nat} {ov iv : Value} {tail : List Value} {te : TypeId} {D : Option Addr × Nat × Nat -> Prop} {c : Option Addr × Nat × Nat -> Option Addr × Nat × Nat -> Int} {zs : List (Option Addr × Nat × Nat)}
end
section
variable {S : Nat -> Prop} {w : World} {b : Nat} {ov iv : Value} {tail : List Value} {te : TypeId} {D : Option Addr × Nat × Nat -> Prop} {c : Option Addr × Nat × Nat -> Option Addr × Nat × Nat -> Int} {zs : List (Option Addr × Nat × Nat)}
set_option maxHeartbeats 2000000 in
theorem tQ {vo : Value} {zs2 : List (Option Addr × Nat × Nat)} (h : SetAtRow Tryz.prog S w b ov iv tail te D c zs) (h2 : PtrSetRow Tryz.prog S w vo zs2) (hD : ∀ x ∈ zs2, D x) :
 Calls Tryz.prog 79 #[.pointer (some ⟨b, 0, none⟩), vo] w
  (RetF (fun _ => False) w fun w' v => ∃ r : Bool, v = .bool r /\ (r = true ↔ zs.length = zs2.length /\ ∀ (i : Nat) x y, zs[i]? = some x -> zs2[i]? = some y -> c x y = 0)) := by
 obtain ⟨c1, c2⟩ := h.cells
 obtain ⟨ao, cap, rfl, hc, _⟩ := h.row.shape
 have hl := h.len
 have hl2 := h2.len
 have hent : ∀ args w, (callFunc 131 args).run Tryz.prog w = .ok (.enter 131 args) w := enters_of Tryz.func131 (by kernel_rfl) rfl
 have HE := qH hent; clear hent
 have HC := qH hc; clear hc
 have HH := qH h; clear h
 have H2 := qH h2; clear h2
 have heq : ∀ w1, Ext w w1 -> yJ Tryz.prog 131 #[.pointer (some ⟨b, 0, none⟩)] #[] w1 (zs.map fun x => (Value.slice (x).1 (x).2.1 (x).2.2)) (zs2.map fun x => (Value.slice (x).1 (x).2.1 (x).2.2)) (fun i => decide (c (zs.getD i default) (zs2.getD i default) = 0)) := by
  intro w1 h1
  refine ⟨HE.out, fun w2 hw2 i u v hu hv => ?_⟩
  rw [List.getElem?_map] at hu hv
  cases hx : zs[i]? with
  | none => rw [hx] at hu; cases hu
  | some x =>
   cases hy : zs2[i]? with
   | none => rw [hy] at hv; cases hv
   | some y =>
    rw [hx] at hu; rw [hy] at hv
    have eu : u = (Value.slice (x).1 (x).2.1 (x).2.2) := by have := Option.some.inj hu; exact this.symm
    have ev : v = (Value.slice (y).1 (y).2.1 (y).2.2) := by have := Option.some.inj hv; exact this.symm
    subst eu ev
    have hh := HH.out.ext (h1.trans hw2)
    have e1 : zs.getD i default = x := by simp [List.getD, hx]
    have e2 : zs2.getD i default = y := by simp [List.getD, hy]
    simp only [e1, e2]
    exact sN S w2 b ov _ te D c x y (HH.out.all x (List.mem_of_getElem? hx)) (hD y (List.mem_of_getElem? hy)) hh.blk hh.inS hh.ord
 have HEQ := qH heq; clear heq
 go_enter Tryz.func79, Tryz.ntmps79
 go_wp2
 go_region_held3 (fun w' => w'.cell? ⟨b, 1, none⟩ = some (.slice ao zs.length cap)) (first | assumption | go_keep)
  (first
   | (go_at_call 125; refine (lN (H2.out.ext (Kp.refl w).drew)).mono ?_; rintro e w1 ⟨v, rfl, hk, hr⟩; obtain ⟨ao1, cap2, ev, hcc, _⟩ := hr.shape; subst ev; have d1 := hk.cell c2 id; have hex : Ext w w1 := (Kp.refl w).drew.trans hk)
   | (go_at_call 130; refine (qZ (zs.map fun x => (Value.slice (x).1 (x).2.1 (x).2.2)) (zs2.map fun x => (Value.slice (x).1 (x).2.1 (x).2.2)) ao ao1 cap cap2 _ _ _ _ _ zs.length zs2.length (by simp) (by simp) (HC.out.ext hex) hcc (HEQ.out _ hex) (by omega) (by omega)).mono ?_; rintro e w2 ⟨v2, rfl, hk2, r, rfl, hr2⟩; have d2 := hk2.cell d1 id))
 all_goals
  go_wp2
  go_ret
  refine RetF.mk (hex.trans hk2) ⟨r, rfl, ?_⟩
  rw [hr2]
  refine and_congr_right fun hlen => ⟨fun H i x y hx hy => ?_, fun H i hi => ?_⟩
  ·have hi := (List.getElem?_eq_some_iff.1 hx).1
   have := of_decide_eq_true (H i hi)
   rw [show zs.getD i default = x by simp [List.getD, hx], show zs2.getD i default = y by simp [List.getD, hy]] at this
   exact this
  ·have g1 : zs[i]? = some (zs[i]'hi) := qG _
   have g2 : zs2[i]? = some (zs2[i]'(by omega)) := qG _
   have := H i _ _ g1 g2
   rw [show zs.getD i default = zs[i] by simp [List.getD, g1], show zs2.getD i default = zs2[i]'(by omega) by simp [List.getD, g2]]
   exact decide_eq_true this
end
section
variable {S : Nat -> Prop} {w : World} {b : Nat} {ov iv : Value} {tail : List Value} {te : TypeId} {D : Option Addr × Nat × Nat -> Prop} {c : Option Addr × Nat × Nat -> Option Addr × Nat × Nat -> Int} {zs : List (Option Addr × Nat × Nat)}
end
end
section
open Go.RowKit Go.Shelf
attribute [local go_sem] Oper.semAt_some
set_option maxHeartbeats 1000000 in
theorem jU (ao : Option Addr) (len cap : Nat) (w : World) :
 Calls Tryz.prog 124 #[.slice ao len cap] w (RetN w fun w' v => v = .func (.func 177) #[] #[.pointer (some ⟨w.heap.size, 0, none⟩)] /\ w' = w.alloc (.cells #[.slice ao len cap] 51)) := by
 go_enter Tryz.func124, Tryz.ntmps124
 go_wp2
 go_ret
 exact RetN.mk ((Kp.refl w).alloc _) ⟨rfl, rfl⟩
def IterRow (w : World) (v : Value) (zs : List (Option Addr × Nat × Nat)) (lo : Nat) : Prop :=
 ∃ Bs ao cap, v = .func (.func 177) #[] #[.pointer (some ⟨Bs, 0, none⟩)] /\ lo ≤ Bs /\ (∀ a, ao = some a -> lo ≤ a.block /\ a.block < w.heap.size) /\ w.cell? ⟨Bs, 0, none⟩ = some (.slice ao zs.length cap) /\ CellsAt w ao (zs.map fun x => (Value.slice (x).1 (x).2.1 (x).2.2)) /\ zs.length ≤ 1048576 * 1048576
set_option maxHeartbeats 1000000 in
theorem tR {S : Nat -> Prop} {w : World} {v : Value} {zs : List (Option Addr × Nat × Nat)} (h : PtrSetRow Tryz.prog S w v zs) :
 Calls Tryz.prog 74 #[v] w (RetN w fun w' r => IterRow w' r zs w.heap.size) := by
 have hl := h.len
 have HI := qH (lN h); clear h
 go_enter Tryz.func74, Tryz.ntmps74
 go_wp2_with fail
 refine HI.out.mono ?_
 rintro e w1 ⟨v1, rfl, hk, hr⟩
 have hb1 := hr.block
 have hlt := hr.lt
 obtain ⟨ao, cap, ev, hc, _⟩ := hr.shape
 subst ev
 have HK := qH (And.intro hk hc); clear hk hr hc
 go_wp2_with fail
 refine (jU ao zs.length cap w1).mono ?_
 rintro e w2 ⟨v2, rfl, hk2, rfl, ew⟩
 have HK2 := qH (And.intro hk2 ew); clear hk2 ew
 go_wp2
 go_ret
 have hsz := HK.out.1.size
 refine RetN.mk (HK.out.1.trans HK2.out.1) ⟨w1.heap.size, ao, cap, rfl, hsz, fun a e => ?_, ?_, HK.out.2.ext HK2.out.1, hl⟩
 ·subst e
  have h1 := hb1 a.block rfl
  have h2 := hlt a.block rfl
  exact ⟨h1, Nat.lt_of_lt_of_le h2 HK2.out.1.size⟩
 ·rw [HK2.out.2]; exact (Blk.new w1 [Value.slice ao zs.length cap] 51).cell' 0
set_option maxHeartbeats 2000000 in
theorem iN {α : Type} (f : α -> Value) (F : Fence) (n : Nat) (h7 : F.fn 177) (hro : F.round = none) (hn : 1 ≤ n) (S : Nat -> Prop) (l Bs : Nat) (ao : Option Addr) (m cap : Nat) (zs : List α) (hm : m = zs.length) (hreach : m ≤ 1048576 * 1048576) (J Jx : List α -> World -> Prop)
 (hY : ∀ pre x W, J pre W -> pre.length < zs.length -> YieldAt F (n - 1) Tryz.prog l #[f x] W fun e W' =>
  (e = .returned (.bool true) /\ J (pre ++ [x]) W' /\ SameOn S W W') \/ (e = .returned (.bool false) /\ Jx (pre ++ [x]) W'))
 (W : World) (hSB : S Bs) (hSa : ∀ a, ao = some a -> S a.block) (hBs : W.cell? ⟨Bs, 0, none⟩ = some (.slice ao m cap)) (hc : CellsAt W ao (zs.map fun x => f x)) (h0 : J [] W) :
 CallsIn F n Tryz.prog 177 #[.func (.yield l) #[] #[], .pointer (some ⟨Bs, 0, none⟩)] W fun e W' => (∃ v, e = .returned v) /\
  ((∃ ys, ys = zs /\ J ys W') \/ (∃ pre, pre <+: zs /\ Jx pre W')) := by
 have HC := qH hc; have HM := qH hm; clear hc hm
 refine callsIn_of_wp Tryz.func177 rfl h7 ?_ hro
 simp only [Tryz.ntmps177, List.size_toArray, List.length_cons, List.length_nil, Nat.reduceAdd, Nat.reduceSub, Array.replicate_succ, Array.replicate_zero, List.push_toArray, List.append_toArray, List.nil_append, List.cons_append]
 gi_wp2
 gi_loopw [7] (fun i wr => ∃ k : Nat, k ≤ m /\ i = .int .i64 k /\ J (zs.take k) wr /\ SameOn S W wr)
  (fun i _ => m - (intOf i).toNat)
 case atStart => exact ⟨0, Nat.zero_le _, rfl, h0, SameOn.refl _ _⟩
 case round =>
  obtain ⟨k, hk, rfl, hJs, hnx⟩ := hrel
  by_cases hlt : k < m
  ·have hkl : k < zs.length := by rw [<- HM.out]; exact hlt
   obtain ⟨x, hx⟩ : ∃ x, zs[k]? = some x := ⟨_, qG hkl⟩
   obtain ⟨g, o, eao, c3⟩ := HC.out k (f x) (by rw [List.getElem?_map, hx]; rfl)
   have c3' := (hnx.cell (o := o + k) (hSa _ eao)).trans c3
   have et : zs.take (k + 1) = zs.take k ++ [x] := by rw [List.take_add_one, hx]; rfl
   have ET := qH et
   have hy0 := hY _ x wr hJs (by rw [List.length_take]; omega)
   have HX := qH (And.intro hx hkl)
   clear hx hkl et c3
   subst eao
   obtain ⟨fn, tmps, assign, body, hy, hR⟩ := hy0
   gi_wp2
   refine hR.mono ?_
   rintro e W3 (⟨rfl, hJ3, hk3⟩ | ⟨rfl, hJx3⟩)
   ·gi_wp2
    go_roundw
    case rel => exact ⟨k + 1, by omega, by simp, by rw [ET.out]; exact hJ3, hnx.trans hk3⟩
    case measure => first | (simp [intOf]; done) | (simp [intOf]; omega)
   ·gi_wp2
    refine bodyPost_ret (results_none rfl _ _ _) rfl ?_
    exact ⟨⟨_, rfl⟩, .inr ⟨_, by rw [<- ET.out]; exact List.take_prefix _ _, hJx3⟩⟩
  ·obtain rfl : k = m := by omega
   gi_wp2
   go_end0
   exact ⟨⟨_, rfl⟩, .inl ⟨_, by rw [HM.out, List.take_length], hJs⟩⟩
def IterVRow (w : World) (v : Value) {α : Type} (f : α -> Value) (zs : List α) (lo : Nat) : Prop :=
 ∃ Bs ao cap, v = .func (.func 177) #[] #[.pointer (some ⟨Bs, 0, none⟩)] /\ lo ≤ Bs /\ (∀ a, ao = some a -> lo ≤ a.block /\ a.block < w.heap.size) /\ w.cell? ⟨Bs, 0, none⟩ = some (.slice ao zs.length cap) /\ CellsAt w ao (zs.map fun x => f x) /\ zs.length ≤ 1048576 * 1048576
theorem IterVRow.stops {w : World} {v : Value} {α : Type} {f : α -> Value} {zs : List α} {lo : Nat} (h : IterVRow w v f zs lo) (F : Fence) (n : Nat) (h7 : F.fn 177) (hro : F.round = none) (hn : 1 ≤ n) :
 ∃ Bs, v = .func (.func 177) #[] #[.pointer (some ⟨Bs, 0, none⟩)] /\ SeqStopsK F n Tryz.prog 177 #[.pointer (some ⟨Bs, 0, none⟩)] (fun x => #[f x]) (SameOn fun k => lo ≤ k /\ k < w.heap.size) (fun ys => ys = zs) (fun pre => pre <+: zs) zs.length w := by
 obtain ⟨Bs, ao, cap, h1, h2, h3, h4, h5, h6⟩ := h
 refine ⟨Bs, h1, fun l J Jx W hW _ _ hY h0 => ?_⟩
 have hb := World.block_lt_of_cell? _ _ h4
 exact iN f F n h7 hro hn _ l Bs ao zs.length cap zs rfl h6 J Jx hY W ⟨h2, hb⟩ (fun a e => h3 a e) ((Kp.of_below hW).cell h4 id) (h5.ext (Kp.of_below hW)) h0
theorem IterRow.sub {w : World} {v : Value} {zs : List (Option Addr × Nat × Nat)} {lo : Nat} (h : IterRow w v zs lo) : IterVRow w v (fun x : { x // x ∈ zs } => (Value.slice (x.1).1 (x.1).2.1 (x.1).2.2)) zs.attach lo := by
 obtain ⟨Bs, ao, cap, h1, h2, h3, h4, h5, h6⟩ := h
 refine ⟨Bs, ao, cap, h1, h2, h3, by rw [List.length_attach]; exact h4, ?_, by rw [List.length_attach]; exact h6⟩
 have e : (zs.attach.map fun x : { x // x ∈ zs } => (Value.slice (x.1).1 (x.1).2.1 (x.1).2.2)) = zs.map fun x => (Value.slice (x).1 (x).2.1 (x).2.2) := by
  have h : (zs.attach.map fun x : { x // x ∈ zs } => (Value.slice (x.1).1 (x.1).2.1 (x.1).2.2)) = (zs.attach.map Subtype.val).map fun x => (Value.slice (x).1 (x).2.1 (x).2.2) := by rw [List.map_map]; rfl
  rw [h, List.attach_map_subtype_val]
 rw [e]; exact h5
end
section
open Go.RowKit
theorem dM : cM Tryz.prog 66 9 1 16 (.string ⟨#[]⟩) := ⟨by kernel_rfl, by kernel_rfl, rfl, by decide⟩
def sH (P : Program) (f : FuncId) (first captured : Array Value) (w0 : World) (vs : List Value) (q : Nat -> Bool) : Prop :=
 (∀ args w, (callFunc f args).run P w = .ok (Next.enter f args) w) /\ ∀ w, Ext w0 w -> ∀ i u, vs[i]? = some u -> Calls P f (first.push u ++ captured) w fun e w' => e = .returned (.bool (q i)) /\ Ext w w'
def aIg (n : Nat) (q : Nat -> Bool) (w0 : World) (iv : Value) (w : World) : Prop :=
 ∃ i : Nat, i ≤ n /\ iv = .int .i64 i /\ (∀ j, j < i -> q j = false) /\ Ext w0 w
def aFp (n : Nat) (q : Nat -> Bool) (v : Value) : Prop := (∃ i : Nat, i < n /\ v = .int .i64 i /\ q i = true /\ ∀ j, j < i -> q j = false) \/ (v = .int .i64 (-1) /\ ∀ j, j < n -> q j = false)
set_option maxHeartbeats 2000000 in
theorem qS (vs : List Value) (ao : Option Addr) (c : Nat) (f : FuncId) (first captured : Array Value) (q : Nat -> Bool) (w : World) (n : Nat) (hn : n = vs.length)
 (ha : CellsAt w ao vs) (hcmp : sH Tryz.prog f first captured w vs q) (hbig : n ≤ 4611686018427387904) :
 Calls Tryz.prog 178 #[.slice ao n c, .func (Fn.func f) first captured] w (RetN w fun w' v => aFp n q v) := by
 have hent := hcmp.1
 have HC := qH hcmp.2; clear hcmp
 have HA := qH ha; clear ha
 have HN := qH hn; clear hn
 go_enter Tryz.func178, Tryz.ntmps178
 go_wp2
 go_loopw [8] (aIg n q w) (fun i _ => n - (intOf i).toNat)
 case atStart => exact ⟨0, Nat.zero_le _, rfl, by simp, Kp.refl _⟩
 case round =>
  obtain ⟨i, hi, rfl, hq, hkp⟩ := hrel
  have HQ := qH hq; clear hq
  by_cases hlt : i < n
  ·have g1 : vs[i]? = some (vs[i]'(by have := HN.out; omega)) := qG _
   obtain ⟨b1, o1, eao, c1⟩ := (HA.out.ext hkp) i _ g1
   have hcall := fun W hW => HC.out W hW i _ g1
   have HCall := qH hcall; clear hcall
   clear g1
   generalize vs[i]'(by have := HN.out; omega) = u at *
   subst eao
   cases hqi : q i
   ·rw [hqi] at HCall
    have HI := qH hqi; clear hqi
    go_wp2_with fail
    refine (HCall.out _ hkp).mono ?_
    rintro e w1 ⟨rfl, hk2⟩
    have hkp2 := hkp.ext hk2
    clear hk2 c1
    go_wp2
    go_roundw
    case rel =>
     refine ⟨i + 1, by omega, by first | rfl | (congr 1; done) | (congr 1; omega), fun j hj => ?_, hkp2⟩
     by_cases e : j = i
     ·subst e; exact HI.out
     ·exact HQ.out j (by omega)
    case measure => first | (simp [intOf]; done) | (simp [intOf]; omega)
   ·rw [hqi] at HCall
    have HI := qH hqi; clear hqi
    go_wp2_with fail
    refine (HCall.out _ hkp).mono ?_
    rintro e w1 ⟨rfl, hk2⟩
    have hkp2 := hkp.ext hk2
    clear hk2 c1
    go_wp2
    go_ret
    exact RetN.mk hkp2 (.inl ⟨i, hlt, rfl, HI.out, HQ.out⟩)
  ·have e : n = i := by omega
   subst e
   clear hlt hi
   go_wp2
   go_ret
   exact RetN.mk hkp (.inr ⟨rfl, HQ.out⟩)
theorem oB (vs : List Value) (ao : Option Addr) (c : Nat) (f : FuncId) (first captured : Array Value) (q : Nat -> Bool) (w : World) (n : Nat) (hn : n = vs.length)
 (ha : CellsAt w ao vs) (hcmp : sH Tryz.prog f first captured w vs q) (hbig : n ≤ 4611686018427387904) :
 Calls Tryz.prog 126 #[.slice ao n c, .func (Fn.func f) first captured] w (RetN w fun w' v => v = .bool ((List.range n).any q)) := by
 have HI := qH (qS vs ao c f first captured q w n hn ha hcmp hbig); clear ha hcmp hn
 go_enter Tryz.func126, Tryz.ntmps126
 go_wp2_with fail
 refine HI.out.mono ?_
 rintro e w1 ⟨v, rfl, hk, ⟨i, hi, rfl, hq, _⟩ | ⟨rfl, hq⟩⟩
 ·have t : (List.range n).any q = true := List.any_eq_true.2 ⟨i, List.mem_range.2 hi, hq⟩
  have HK := qH (And.intro hk t); clear hk hq t
  go_wp2
  go_ret
  exact RetN.mk HK.out.1 (by rw [HK.out.2]; first | rfl | simp)
 ·have t : (List.range n).any q = false := by
   rw [List.any_eq_false]
   intro i hi
   simp [hq i (List.mem_range.1 hi)]
  have HK := qH (And.intro hk t); clear hk hq t
  go_wp2
  go_ret
  exact RetN.mk HK.out.1 (by rw [HK.out.2]; first | rfl | simp)
theorem iF (vs : List Value) (ao : Option Addr) (cap : Nat) (w : World) (n : Nat) (hn : n = vs.length) (hc : CellsAt w ao vs) (h1 : ∀ u ∈ vs, u.oneCell' = true) (hm : n * 16 ≤ 140737488355328) :
 Calls Tryz.prog 75 #[.slice ao n cap] w (RetN w fun w' v => Row w' 9 1 v n vs (New w)) := by
 have hq : ∀ w : World, (binOp .eql 66 (.slice ao n cap) (.slice none 0 0)).run Tryz.prog w = .ok (.bool ao.isNone) w := fun w => Lib.run_eql_slice_nil w _ _ _ _ _ _ _ Tryz.underlying66
 have HNN := qH hn; clear hn
 have hl : n ≤ maxLen := by unfold maxLen; omega
 cases ao with
 | none =>
  have hv : vs = [] := by
   cases vs with
   | nil => rfl
   | cons x vs => obtain ⟨b, o, h, _⟩ := hc.off (by simp); cases h
  subst hv
  have h0 : n = 0 := HNN.out
  subst h0
  go_enter Tryz.func75, Tryz.ntmps75
  go_wp2
  go_ret
  exact RetN.mk (Kp.refl _) (Row.nil _ _ _ _)
 | some a =>
  go_enter Tryz.func75, Tryz.ntmps75
  go_wp2_with (first | (at_builtin; refine Halted.out ?_))
  refine Halted.mk (dK dM rfl _ _ rfl ((Kp.refl (F := fun _ => False) w).alloc _) rfl (Row.empty w 9 1 (New w) (Nat.le_refl _)) rfl (hc.alloc _) (by rw [HNN.out, Nat.mul_one]) h1 (by omega) (by omega) ?_)
  intro v1 w1 hr1 hk1 _ _
  have HR := qH hr1; clear hr1
  go_wp2
  go_ret
  exact RetN.mk hk1 (by simpa using HR.out)
end
end Go.Proofs.YtikgpedgmnbcaaaGreatDoor
namespace Go.Proofs.YtikgpedgmnbcaaaGreatDoor
open Go.RowKit
abbrev eZ := Option Addr × Nat × Nat
def ReadsAs (w : World) (x : eZ) (ss : List ByteArray) : Prop := x.2.1 = ss.length /\ CellsAt w x.1 (strs ss)
theorem ReadsAs.unique {w : World} {x : eZ} {a b : List ByteArray} (h : ReadsAs w x a) (h' : ReadsAs w x b) : a = b := by
 obtain ⟨h1, h2⟩ := h
 obtain ⟨h3, h4⟩ := h'
 refine List.ext_getElem (by omega) fun i hi hj => ?_
 obtain ⟨b1, o1, e1, c1⟩ := h2.str hi
 obtain ⟨b2, o2, e2, c2⟩ := h4.str hj
 rw [e1] at e2
 cases e2
 rw [c1] at c2
 simpa using c2
theorem rB (w : World) : ∃ con : eZ -> List ByteArray, ∀ x ss, ReadsAs w x ss -> con x = ss := by
 have h : ∀ x : eZ, ∃ l : List ByteArray, ∀ ss, ReadsAs w x ss -> l = ss := fun x => by
  by_cases hx : ∃ ss, ReadsAs w x ss
  ·obtain ⟨ss, hs⟩ := hx
   exact ⟨ss, fun ss' hs' => hs.unique hs'⟩
  ·exact ⟨[], fun ss hs => absurd ⟨ss, hs⟩ hx⟩
 exact ⟨fun x => Classical.choose (h x), fun x => Classical.choose_spec (h x)⟩
def oY (S : Nat -> Prop) (w : World) (x : eZ) : Prop := ∃ ss, ReadsAs w x ss /\ ss.length ≤ 8796093021952 /\ ∀ a, x.1 = some a -> x.2.1 ≠ 0 -> S a.block
theorem ReadsAs.same {S : Nat -> Prop} {w w' : World} {x : eZ} {ss : List ByteArray} (h : ReadsAs w x ss) (hs : Same S w w') (ha : ∀ a, x.1 = some a -> x.2.1 ≠ 0 -> S a.block) : ReadsAs w' x ss := by
 refine ⟨h.1, fun i u hu => ?_⟩
 have hne : x.2.1 ≠ 0 := by
  have h1 := (List.getElem?_eq_some_iff.1 hu).1
  simp only [strs, List.length_map] at h1
  rw [h.1]; omega
 obtain ⟨b, o, e, c⟩ := h.2 i u hu
 refine ⟨b, o, e, ?_⟩
 rw [World.cell?_of_block (w := w) (hs b (ha _ e hne)).2]; exact c
theorem jB {α : Type} (f : α -> List ByteArray) : OrdLaw (fun x y => aD (f x) (f y)) :=
 ⟨fun x y => by have := nB (f x) (f y); omega, fun x y z h h' => pZ h h'⟩
theorem gG {S : Nat -> Prop} {w : World} {con : eZ -> List ByteArray} (hc : ∀ x ss, ReadsAs w x ss -> con x = ss) :
 OrdVRow Tryz.prog S w (.func (Fn.func 120) #[] #[]) (oY S w) (fun x y => aD (con x) (con y)) := by
 refine .inr ⟨_, _, _, rfl, enters_of Tryz.func120 (by kernel_rfl) rfl, fun w' hw x y hx hy => ?_⟩
 obtain ⟨xs, hx1, hx2, hx3⟩ := hx
 obtain ⟨ys, hy1, hy2, hy3⟩ := hy
 have ex := hc x xs hx1
 have ey := hc y ys hy1
 have hx' := hx1.same hw hx3
 have hy' := hy1.same hw hy3
 obtain ⟨ax, nx, cx⟩ := x
 obtain ⟨ay, ny, cy⟩ := y
 obtain ⟨h1, h2⟩ := hx'
 obtain ⟨h3, h4⟩ := hy'
 simp only at h1 h2 h3 h4
 subst h1 h3
 simp only [ex, ey]
 refine (qI xs ys ax ay cx cy w' h2 h4 (by unfold maxLen; omega) (by unfold maxLen; omega)).mono ?_
 rintro e w2 ⟨rfl, rfl⟩
 exact ⟨rfl, Kp.refl w'⟩
def RowsAt (S : Nat -> Prop) (w : World) (b : Nat) (iv : Value) (arity : Nat) (LL : List (List ByteArray)) : Prop :=
 ∃ con zs, (∀ x ss, ReadsAs w x ss -> con x = ss) /\ SetAtRow Tryz.prog S w b (.func (Fn.func 120) #[] #[]) iv [.int .i64 arity] 138 (oY S w) (fun x y => aD (con x) (con y)) zs /\ zs.map con = LL
theorem xB (s : ByteArray) (w : World) : Calls Tryz.prog 102 #[.string s] w (Ret (.bool (decide (1 ≤ s.size /\ s.size ≤ 4096))) w) := by
 by_cases h1 : 1 ≤ s.size
 ·have q1 : (1 : Int) ≤ (s.size : Int) := by omega
  by_cases h2 : s.size ≤ 4096
  ·have q2 : (s.size : Int) ≤ 4096 := by omega
   have H := qH (And.intro h1 h2)
   go_enter Tryz.func102, Tryz.ntmps102
   go_wp2
   go_ret
   exact Ret.mk (by simp [H.out.1, H.out.2])
  ·have q2 : ¬ (s.size : Int) ≤ 4096 := by omega
   have H := qH h2
   go_enter Tryz.func102, Tryz.ntmps102
   go_wp2
   go_ret
   exact Ret.mk (by simp)
 ·have q1 : ¬ (1 : Int) ≤ (s.size : Int) := by omega
  have H := qH h1
  go_enter Tryz.func102, Tryz.ntmps102
  go_wp2
  go_ret
  exact Ret.mk (by simp)
theorem aAk (s : ByteArray) (w : World) : Calls Tryz.prog 127 #[.string s] w (Ret (.bool (decide (4096 < s.size))) w) := by
 by_cases h : 4096 < s.size
 ·have q : (4096 : Int) < (s.size : Int) := by omega
  have H := qH h
  go_enter Tryz.func127, Tryz.ntmps127
  go_wp2
  go_ret
  exact Ret.mk (by simp [H.out])
 ·have q : ¬ (4096 : Int) < (s.size : Int) := by omega
  have H := qH h
  go_enter Tryz.func127, Tryz.ntmps127
  go_wp2
  go_ret
  exact Ret.mk (by simp)
def bW (ss : List ByteArray) : Bool := ss.all fun s => decide (s.size ≤ 4096)
theorem qJ (ss : List ByteArray) (ao : Option Addr) (n c : Nat) (w : World) (hn : n = ss.length) (hc : CellsAt w ao (strs ss)) (hl : n ≤ 4611686018427387904) :
 Calls Tryz.prog 76 #[.slice ao n c] w (RetN w fun w' v => v = .bool (bW ss)) := by
 have hent : ∀ args w, (callFunc 127 args).run Tryz.prog w = .ok (.enter 127 args) w := enters_of Tryz.func127 (by kernel_rfl) rfl
 have hi := oB (strs ss) ao c 127 #[] #[] (fun i => decide (4096 < (ss[i]?.getD ⟨#[]⟩).size)) w n (by simp [strs, hn]) hc ⟨hent, fun w' _ i u hu => by
  rw [strs, List.getElem?_map] at hu
  cases hs : ss[i]? with
  | none => rw [hs] at hu; cases hu
  | some s =>
   rw [hs] at hu
   cases hu
   refine (aAk s w').mono ?_
   rintro e w2 ⟨rfl, rfl⟩
   exact ⟨by simp [hs], Kp.refl _⟩⟩ hl
 have key : (!(List.range n).any fun i => decide (4096 < (ss[i]?.getD ⟨#[]⟩).size)) = bW ss := by
  rw [Bool.eq_iff_iff]
  simp only [Bool.not_eq_true', List.any_eq_false, List.mem_range, decide_eq_true_eq, bW, List.all_eq_true]
  constructor
  ·intro h s hs
   obtain ⟨i, hi, rfl⟩ := List.mem_iff_getElem.1 hs
   have := h i (by omega)
   simp only [qG hi, Option.getD_some] at this
   omega
  ·intro h i hi
   have hi' : i < ss.length := by omega
   have := h ss[i] (List.getElem_mem _)
   simp only [qG hi', Option.getD_some]
   omega
 have HI := qH (And.intro hi key); clear hi key hent hc hn
 go_enter Tryz.func76, Tryz.ntmps76
 go_wp2_with fail
 refine HI.out.1.mono ?_
 rintro e w1 ⟨v, rfl, hk, rfl⟩
 have HK := qH hk; clear hk
 go_wp2
 go_ret
 exact RetN.mk HK.out (by rw [<- HI.out.2]; rfl)
end Go.Proofs.YtikgpedgmnbcaaaGreatDoor
namespace Go.Proofs.YtikgpedgmnbcaaaGreatDoor
open Go.RowKit
section
variable {S S' : Nat -> Prop} {w w' : World} {b : Nat} {iv : Value} {arity : Nat} {LL : List (List ByteArray)}
theorem RowsAt.move {F : Nat -> Prop} (h : RowsAt S w b iv arity LL) (hk : Kp F w w') (hF : ∀ k, F k -> ¬ bN b iv k) (hS : ∀ k, F k -> ¬ S k) (hsub : ∀ k, S k -> S' k) (hin : ∀ k, S' k -> k < w'.heap.size) (hno : ∀ k, bN b iv k -> ¬ S' k) :
 RowsAt S' w' b iv arity LL := by
 obtain ⟨con, zs, hc, hs, hl⟩ := h
 obtain ⟨con', hc'⟩ := rB w'
 have hs' := hs.kp hk hF hS
 have hsame : Same S w w' := hk.same hs.inS fun k h1 h2 => hS k h2 h1
 have all : ∀ z ∈ zs, oY S' w' z /\ con' z = con z := fun z hz => by
  obtain ⟨ss, h1, h2, h3⟩ := hs.all z hz
  have h1' := h1.same hsame h3
  exact ⟨⟨ss, h1', h2, fun a e hne => hsub _ (h3 a e hne)⟩, by rw [hc' z ss h1', hc z ss h1]⟩
 refine ⟨con', zs, hc', ⟨hs'.blk, hs'.row, hs'.apart, hin, hno, gG hc', fun z hz => (all z hz).1, hs.len⟩, ?_⟩
 rw [<- hl]
 exact List.map_congr_left fun z hz => (all z hz).2
theorem RowsAt.ext (h : RowsAt S w b iv arity LL) (hk : Ext w w') : RowsAt S w' b iv arity LL := by
 have hb := h
 obtain ⟨con, zs, hc, hs, hl⟩ := hb
 exact h.move hk (fun _ x => x.elim) (fun _ x => x.elim) (fun _ h => h) (fun k hk' => Nat.lt_of_lt_of_le (hs.inS k hk') hk.size) hs.notS
theorem RowsAt.blk (h : RowsAt S w b iv arity LL) : Blk w b [.func (Fn.func 120) #[] #[], iv, .int .i64 arity] 138 := by
 obtain ⟨con, zs, hc, hs, hl⟩ := h
 exact hs.blk
theorem rN (w : World) : Calls Tryz.prog 70 #[.pointer none] w (Ret (.pointer none) w) := by
 go_enter Tryz.func70, Tryz.ntmps70
 go_wp2
 go_ret
 exact Ret.mk rfl
theorem gH (h : RowsAt S w b iv arity LL) : Calls Tryz.prog 70 #[.pointer (some ⟨b, 0, none⟩)] w (Ret (.pointer (some ⟨b, 0, none⟩)) w) := by
 have c0 := h.blk.c0
 have hq : ∀ w : World, (binOp .eql 132 (.func (Fn.func 120) #[] #[]) .nilFunc).run Tryz.prog w = .ok (.bool false) w := fun _ => by kernel_rfl
 clear h
 go_enter Tryz.func70, Tryz.ntmps70
 go_wp2
 go_ret
 exact Ret.mk rfl
theorem aAv (w : World) : Calls Tryz.prog 36 #[.pointer none] w (Ret (.int .i64 0) w) := by
 go_enter Tryz.func36, Tryz.ntmps36
 go_wp2_with fail
 refine (rN w).mono ?_
 rintro e w' ⟨rfl, rfl⟩
 go_wp2_with fail
 refine (vY w).mono ?_
 rintro e w' ⟨rfl, rfl⟩
 go_wp2
 go_ret
 exact Ret.mk rfl
theorem rO (h : RowsAt S w b iv arity LL) : Calls Tryz.prog 36 #[.pointer (some ⟨b, 0, none⟩)] w (Ret (.int .i64 (LL.length : Nat)) w) := by
 have H := qH h
 obtain ⟨con, zs, hc, hs, hl⟩ := h
 have HS := qH hs
 have HL := qH (show zs.length = LL.length by rw [<- hl]; simp)
 clear hs hc hl
 go_enter Tryz.func36, Tryz.ntmps36
 go_wp2_with fail
 refine (gH H.out).mono ?_
 rintro e w' ⟨rfl, rfl⟩
 go_wp2_with fail
 refine (oE HS.out).mono ?_
 rintro e w' ⟨rfl, rfl⟩
 go_wp2
 go_ret
 exact Ret.mk (by rw [<- HL.out]; rfl)
theorem aD2 (S : Nat -> Prop) (w : World) (a : Nat) (hS : ∀ k, S k -> k < w.heap.size) :
 RowsAt S (w.alloc (.cells #[.func (Fn.func 120) #[] #[], .slice none 0 0, .int .i64 a] 138)) w.heap.size (.slice none 0 0) a [] := by
 obtain ⟨con, hc⟩ := rB (w.alloc (.cells #[.func (Fn.func 120) #[] #[], .slice none 0 0, .int .i64 a] 138))
 refine ⟨con, [], hc, ⟨Blk.new w [.func (Fn.func 120) #[] #[], .slice none 0 0, .int .i64 a] 138, Row.nil _ _ _ _, by simp [Value.ownBlock], fun k hk => by rw [aI]; have := hS k hk; omega, fun k ho hs => ?_, gG hc, by simp, by simp⟩, rfl⟩
 rcases ho with rfl | ho
 ·have := hS _ hs; omega
 ·cases ho
theorem gK (S : Nat -> Prop) (w : World) (a : Nat) (ha : a ≤ 64) (hS : ∀ k, S k -> k < w.heap.size) :
 Calls Tryz.prog 68 #[.int .i64 a] w (RetN w fun w' v => v = .tuple #[.pointer (some ⟨w.heap.size, 0, none⟩), .int .i64 0] /\ RowsAt S w' w.heap.size (.slice none 0 0) a []) := by
 have HR := qH (aD2 S w a hS)
 have q1 : ¬ (a : Int) < 0 := by omega
 have q2 : ¬ (64 : Int) < (a : Int) := by omega
 clear hS
 go_enter Tryz.func68, Tryz.ntmps68
 go_wp2
 go_ret2
 exact RetN.mk ((Kp.refl w).alloc _) ⟨rfl, HR.out⟩
end
end Go.Proofs.YtikgpedgmnbcaaaGreatDoor
namespace Go.Proofs.YtikgpedgmnbcaaaGreatDoor
open Go.RowKit
def RowIn (w : World) (x : eZ) (ss : List ByteArray) : Prop := ReadsAs w x ss /\ ss.length ≤ 8796093021952 /\ ∀ a, x.1 = some a -> x.2.1 ≠ 0 -> a.block < w.heap.size
def gC (x : eZ) (F : Nat -> Prop) : Prop := ∀ a, x.1 = some a -> x.2.1 ≠ 0 -> ¬ F a.block
def gY (S : Nat -> Prop) (x : eZ) : Nat -> Prop := fun k => S k \/ ∃ a, x.1 = some a /\ x.2.1 ≠ 0 /\ a.block = k
section
variable {S : Nat -> Prop} {w w' : World} {b : Nat} {iv : Value} {arity : Nat} {LL : List (List ByteArray)}
theorem RowsAt.inS (h : RowsAt S w b iv arity LL) : ∀ k, S k -> k < w.heap.size := by
 obtain ⟨con, zs, hc, hs, hl⟩ := h
 exact hs.inS
theorem RowsAt.notS (h : RowsAt S w b iv arity LL) : ∀ k, bN b iv k -> ¬ S k := by
 obtain ⟨con, zs, hc, hs, hl⟩ := h
 exact hs.notS
theorem RowsAt.pool (h : RowsAt S w b iv arity LL) {x : eZ} {ss : List ByteArray} (hx : RowIn w x ss) (ho : gC x (bN b iv)) : RowsAt (gY S x) w b iv arity LL := by
 refine h.move (F := fun _ => False) (Kp.refl w) (fun _ x => x.elim) (fun _ x => x.elim) (fun k hk => .inl hk) (fun k hk => ?_) (fun k hk hs => ?_)
 ·rcases hk with hk | ⟨a, e, hne, rfl⟩
  ·exact h.inS k hk
  ·exact hx.2.2 a e hne
 ·rcases hs with hs | ⟨a, e, hne, rfl⟩
  ·exact h.notS k hk hs
  ·exact ho a e hne hk
theorem RowsAt.open (h : RowsAt S w b iv arity LL) (hst : Strict aD LL) {x : eZ} {ss : List ByteArray} (hx : RowIn w x ss) (ho : gC x (bN b iv)) :
 ∃ con zs, (∀ x ss, ReadsAs w x ss -> con x = ss) /\ SetAtRow Tryz.prog (gY S x) w b (.func (Fn.func 120) #[] #[]) iv [.int .i64 arity] 138 (oY (gY S x) w) (fun x y => aD (con x) (con y)) zs /\ zs.map con = LL /\
  oY (gY S x) w x /\ con x = ss /\ Strict (fun x y => aD (con x) (con y)) zs /\ bA (fun x y => aD (con x) (con y)) zs x = bA aD LL ss /\ below (fun x y => aD (con x) (con y)) zs x = below aD LL ss := by
 obtain ⟨con, zs, hc, hs, hl⟩ := h.pool hx ho
 have ex := hc x ss hx.1
 refine ⟨con, zs, hc, hs, hl, ⟨ss, hx.1, hx.2.1, fun a e hne => .inr ⟨a, e, hne, rfl⟩⟩, ex, ?_, ?_, ?_⟩
 ·rw [<- hl] at hst
  exact List.pairwise_map.1 hst
 ·rw [<- hl, <- ex]; simp [bA, List.any_map, Function.comp_def]
 ·rw [<- hl, <- ex]; simp [below, List.filter_map, Function.comp_def]
theorem mJ (h : RowsAt S w b iv arity LL) (hst : Strict aD LL) {x : eZ} {ss : List ByteArray} (hx : RowIn w x ss) (ho : gC x (bN b iv)) :
 Calls Tryz.prog 77 #[.pointer (some ⟨b, 0, none⟩), .slice x.1 x.2.1 x.2.2] w (RetN w fun w' v => v = .bool (bA aD LL ss)) := by
 have H := qH h
 obtain ⟨con, zs, hc, hs, hl, hd, ex, hz, e1, e2⟩ := h.open hst hx ho
 have HF := qH (oF (jB con) x hd hz hs)
 rw [e1] at HF
 clear h hst hx ho hc hs hl hd ex hz e1 e2
 go_enter Tryz.func77, Tryz.ntmps77
 go_wp2_with fail
 refine (gH H.out).mono ?_
 rintro e w' ⟨rfl, rfl⟩
 go_wp2_with fail
 refine HF.out.mono ?_
 rintro e w1 ⟨v, rfl, hk, rfl⟩
 have HK := qH hk; clear hk
 go_wp2
 go_ret
 exact RetN.mk HK.out rfl
theorem RowsAt.of_set {S' : Nat -> Prop} {w1 w2 : World} {con : eZ -> List ByteArray} {zs : List eZ} (hc : ∀ x ss, ReadsAs w1 x ss -> con x = ss) (hsame : Same S' w1 w2)
 (h : SetAtRow Tryz.prog S' w2 b (.func (Fn.func 120) #[] #[]) iv [.int .i64 arity] 138 (oY S' w1) (fun x y => aD (con x) (con y)) zs) : RowsAt S' w2 b iv arity (zs.map con) := by
 obtain ⟨con', hc'⟩ := rB w2
 have all : ∀ z ∈ zs, oY S' w2 z /\ con' z = con z := fun z hz => by
  have hd := h.all z hz
  obtain ⟨ss, h1, h2, h3⟩ := hd
  have h1' := h1.same hsame h3
  exact ⟨⟨ss, h1', h2, h3⟩, by rw [hc' z ss h1', hc z ss h1]⟩
 exact ⟨con', zs, hc', ⟨h.blk, h.row, h.apart, h.inS, h.notS, gG hc', fun z hz => (all z hz).1, h.len⟩, List.map_congr_left fun z hz => (all z hz).2⟩
def aL (arity : Nat) (LL : List (List ByteArray)) (ss : List ByteArray) : Bool × Nat :=
 if ss.length ≠ arity then (false, 30) else if bW ss = false then (false, 31) else if 65536 ≤ LL.length /\ bA aD LL ss = false then (false, 4) else (!bA aD LL ss, 0)
def aX (arity : Nat) (LL : List (List ByteArray)) (ss : List ByteArray) : List (List ByteArray) := if (aL arity LL ss).2 = 0 then cQ aD LL ss else LL
theorem aF1 (h : RowsAt S w b iv arity LL) (hst : Strict aD LL) {ao : Option Addr} {n cap : Nat} {ss : List ByteArray} {w1 : World} (hk : Ext w w1) (hr : Row w1 9 1 (.slice ao n cap) n (strs ss) (New w)) (hn : n = ss.length) (hl : n ≤ 8796093021952) (hLL : LL.length + 1 ≤ 1048576 * 1048576) :
 Calls Tryz.prog 78 #[.pointer (some ⟨b, 0, none⟩), .slice ao n cap] w1 (RetF (bN b iv) w1 fun w' v => v = .bool (!bA aD LL ss) /\
  ∃ iv', RowsAt (gY S (ao, n, cap)) w' b iv' arity (cQ aD LL ss) /\ ∀ k, iv'.ownBlock = some k -> iv.ownBlock = some k \/ w1.heap.size ≤ k) := by
 have hx : RowIn w1 (ao, n, cap) ss := by
  obtain ⟨ao', cap', e, hc, _⟩ := hr.shape
  cases e
  refine ⟨⟨hn, hc⟩, by omega, fun a e _ => ?_⟩
  have e' : ao = some a := e
  subst e'
  exact hr.lt a.block rfl
 have ho : gC (ao, n, cap) (bN b iv) := fun a e _ ho => by
  have e' : ao = some a := e
  subst e'
  have h1 : w.heap.size ≤ a.block := hr.block a.block rfl
  have h2 : a.block < w.heap.size := by
   obtain ⟨con, zs, hc, hs, hl⟩ := h
   rcases ho with ho | ho
   ·rw [ho]; exact hs.blk.lt
   ·exact hs.row.lt _ ho
  omega
 obtain ⟨con, zs, hc, hs, hlz, hd, ex, hz, e1, e2⟩ := (h.ext hk).open hst hx ho
 have hzl : zs.length = LL.length := by rw [<- hlz]; simp
 refine (vZ (jB con) (ao, n, cap) hd hz hs (by omega)).mono ?_
 rintro e w2 ⟨v, rfl, hk2, rfl, iv', hs2, hiv⟩
 refine RetF.mk hk2 ⟨by rw [e1], iv', ?_, hiv⟩
 have hsame : Same (gY S (ao, n, cap)) w1 w2 := hk2.same hs.inS fun k h1 h2 => hs.notS k h2 h1
 have := RowsAt.of_set hc hsame hs2
 rwa [<- aKc con zs (ao, n, cap), hlz, ex] at this
end
end Go.Proofs.YtikgpedgmnbcaaaGreatDoor
namespace Go.Proofs.YtikgpedgmnbcaaaGreatDoor
open Go.RowKit
section
variable {S : Nat -> Prop} {w w' : World} {b : Nat} {iv : Value} {arity : Nat} {LL : List (List ByteArray)}
def RowsAdded (S : Nat -> Prop) (w : World) (b : Nat) (iv : Value) (arity : Nat) (LL : List (List ByteArray)) (ss : List ByteArray) (w' : World) (v : Value) : Prop :=
 v = .tuple #[.bool (aL arity LL ss).1, .int .i64 ((aL arity LL ss).2 : Nat)] /\
  ∃ S' iv', (∀ k, S k -> S' k) /\ (∀ k, S' k -> S k \/ w.heap.size ≤ k) /\ RowsAt S' w' b iv' arity (aX arity LL ss) /\ ∀ k, iv'.ownBlock = some k -> iv.ownBlock = some k \/ w.heap.size ≤ k
theorem RowsAdded.same (h : RowsAt S w b iv arity LL) {ss : List ByteArray} {w1 : World} (hk : Ext w w1) {v : Value} (hv : v = .tuple #[.bool (aL arity LL ss).1, .int .i64 ((aL arity LL ss).2 : Nat)]) (h0 : aX arity LL ss = LL) : RowsAdded S w b iv arity LL ss w1 v :=
 ⟨hv, S, iv, fun _ h => h, fun _ h => .inl h, by rw [h0]; exact h.ext hk, fun _ h => .inl h⟩
set_option maxHeartbeats 2000000 in
theorem mK (h : RowsAt S w b iv arity LL) (hst : Strict aD LL) {ao : Option Addr} {n cap : Nat} {ss : List ByteArray} (hx : RowIn w (ao, n, cap) ss) (ho : gC (ao, n, cap) (bN b iv)) (hLL : LL.length + 1 ≤ 1048576 * 1048576) :
 Calls Tryz.prog 39 #[.pointer (some ⟨b, 0, none⟩), .slice ao n cap] w (RetF (bN b iv) w (RowsAdded S w b iv arity LL ss)) := by
 have hn : n = ss.length := hx.1.1
 have hcs : CellsAt w ao (strs ss) := hx.1.2
 have hl : ss.length ≤ 8796093021952 := hx.2.1
 have c2 := h.blk.c2
 have HT := qH (qJ ss ao n cap w hn hcs (by omega))
 have HH := qH (fun w1 (hw : Ext w w1) => mJ (h.ext hw) hst (x := (ao, n, cap)) (ss := ss) ⟨⟨hn, hcs.ext hw⟩, hl, fun a e hne => Nat.lt_of_lt_of_le (hx.2.2 a e hne) hw.size⟩ ho)
 have HLN := qH (fun w1 (hw : Ext w w1) => rO (h.ext hw))
 have HS := qH (fun w1 (hw : Ext w w1) => gH (h.ext hw))
 have HCL := qH (fun w1 (hw : Ext w w1) => iF (strs ss) ao cap w1 n (by simp [strs, hn]) (hcs.ext hw) (pB ss) (by omega))
 have HP := qH (fun w0 w1 ao1 cap1 (hw : Ext w w0) (hk : Ext w0 w1) hr => aF1 (w := w0) (w1 := w1) (ao := ao1) (n := n) (cap := cap1) (h.ext hw) hst hk hr hn (by omega) hLL)
 have H := qH h
 have HN := qH hn
 clear h hst hx ho hcs hn
 obtain ⟨m, em⟩ : ∃ m, m = LL.length := ⟨_, rfl⟩
 rw [<- em] at HLN hLL
 have EM := qH em; clear em hLL
 by_cases h1 : n = arity
 ·have q1 : ((n : Int) != (arity : Int)) = false := by simp [h1]
  have H1 := qH h1; clear h1
  cases ht : bW ss with
  | false =>
   have HTX := qH ht
   rw [ht] at HT; clear ht
   go_enter Tryz.func39, Tryz.ntmps39
   go_wp2_with fail
   refine HT.out.mono ?_
   rintro e w1 ⟨v, rfl, hk, rfl⟩
   have HK := qH hk; clear hk
   go_wp2
   go_ret2
   have e0 : aL arity LL ss = (false, 31) := by unfold aL; rw [if_neg (by rw [<- HN.out, H1.out]; simp), if_pos HTX.out]
   exact RetF.mk (Ext.kp HK.out) (RowsAdded.same H.out HK.out (by rw [e0]; rfl) (by unfold aX; rw [e0]; rfl))
  | true =>
   have HTX := qH ht
   rw [ht] at HT; clear ht
   by_cases hf : 65536 ≤ m
   ·have q2 : decide ((65536 : Int) ≤ (m : Int)) = true := by rw [decide_eq_true_iff]; omega
    have HF := qH hf; clear hf
    cases hi : bA aD LL ss with
    | false =>
     have HI := qH hi
     rw [hi] at HH; clear hi
     go_enter Tryz.func39, Tryz.ntmps39
     go_wp2_with fail
     refine HT.out.mono ?_
     rintro e w0 ⟨v, rfl, hk0, rfl⟩
     go_wp2_with fail
     refine (HLN.out w0 hk0).mono ?_
     rintro e w' ⟨rfl, rfl⟩
     go_wp2_with fail
     refine (HH.out w0 hk0).mono ?_
     rintro e w1 ⟨v, rfl, hk01, rfl⟩
     have hk1 := hk0.trans hk01
     clear hk0 hk01
     have HK := qH hk1; clear hk1
     go_wp2
     go_ret2
     have e0 : aL arity LL ss = (false, 4) := by unfold aL; rw [if_neg (by rw [<- HN.out, H1.out]; simp), if_neg (by rw [HTX.out]; simp), if_pos ⟨EM.out ▸ HF.out, HI.out⟩]
     exact RetF.mk (Ext.kp HK.out) (RowsAdded.same H.out HK.out (by rw [e0]; rfl) (by unfold aX; rw [e0]; rfl))
    | true =>
     have HI := qH hi
     rw [hi] at HH; clear hi
     go_enter Tryz.func39, Tryz.ntmps39
     go_wp2_with fail
     refine HT.out.mono ?_
     rintro e w0 ⟨v, rfl, hk0, rfl⟩
     go_wp2_with fail
     refine (HLN.out w0 hk0).mono ?_
     rintro e w' ⟨rfl, rfl⟩
     go_wp2_with fail
     refine (HH.out w0 hk0).mono ?_
     rintro e w1 ⟨v, rfl, hk01, rfl⟩
     have hk1 := hk0.trans hk01
     clear hk0 hk01
     go_wp2_with fail
     refine (HS.out w1 hk1).mono ?_
     rintro e w' ⟨rfl, rfl⟩
     go_wp2_with fail
     refine (HCL.out w1 hk1).mono ?_
     rintro e w2 ⟨v, rfl, hk2, hr2⟩
     obtain ⟨ao2, cap2, ev, _, _⟩ := hr2.shape
     subst ev
     go_wp2_with fail
     refine (HP.out w1 w2 ao2 cap2 hk1 hk2 hr2).mono ?_
     rintro e w3 ⟨v, rfl, hk3, rfl, iv', hrows, hiv⟩
     have HR := qH (And.intro hk3 (And.intro hrows hiv))
     have hb2 := hr2.block
     clear hk3 hrows hiv hr2
     go_wp2
     go_ret2
     have e0 : aL arity LL ss = (!bA aD LL ss, 0) := by unfold aL; rw [if_neg (by rw [<- HN.out, H1.out]; simp), if_neg (by rw [HTX.out]; simp), if_neg (fun h => by rw [HI.out] at h; cases h.2)]
     have z1 := hk1.size
     have z2 := hk2.size
     refine RetF.mk ((Ext.kp (hk1.trans hk2)).trans HR.out.1) ⟨by rw [e0]; rfl, gY S (ao2, n, cap2), iv', fun k h => .inl h, fun k h => ?_, by unfold aX; rw [e0]; exact HR.out.2.1, fun k h => (HR.out.2.2 k h).imp id (fun h => by omega)⟩
     rcases h with h | ⟨a, e, _, rfl⟩
     ·exact .inl h
     ·have e' : ao2 = some a := e
      subst e'
      have := hb2 a.block rfl
      exact .inr (Nat.le_trans z1 this)
   ·have q2 : decide ((65536 : Int) ≤ (m : Int)) = false := by rw [decide_eq_false_iff_not]; omega
    have HF := qH hf; clear hf
    go_enter Tryz.func39, Tryz.ntmps39
    go_wp2_with fail
    refine HT.out.mono ?_
    rintro e w1 ⟨v, rfl, hk1, rfl⟩
    go_wp2_with fail
    refine (HLN.out w1 hk1).mono ?_
    rintro e w' ⟨rfl, rfl⟩
    go_wp2_with fail
    refine (HS.out w1 hk1).mono ?_
    rintro e w' ⟨rfl, rfl⟩
    go_wp2_with fail
    refine (HCL.out w1 hk1).mono ?_
    rintro e w2 ⟨v, rfl, hk2, hr2⟩
    obtain ⟨ao2, cap2, ev, _, _⟩ := hr2.shape
    subst ev
    go_wp2_with fail
    refine (HP.out w1 w2 ao2 cap2 hk1 hk2 hr2).mono ?_
    rintro e w3 ⟨v, rfl, hk3, rfl, iv', hrows, hiv⟩
    have HR := qH (And.intro hk3 (And.intro hrows hiv))
    have hb2 := hr2.block
    clear hk3 hrows hiv hr2
    go_wp2
    go_ret2
    have e0 : aL arity LL ss = (!bA aD LL ss, 0) := by unfold aL; rw [if_neg (by rw [<- HN.out, H1.out]; simp), if_neg (by rw [HTX.out]; simp), if_neg (fun h => HF.out (EM.out ▸ h.1))]
    have z1 := hk1.size
    have z2 := hk2.size
    refine RetF.mk ((Ext.kp (hk1.trans hk2)).trans HR.out.1) ⟨by rw [e0]; rfl, gY S (ao2, n, cap2), iv', fun k h => .inl h, fun k h => ?_, by unfold aX; rw [e0]; exact HR.out.2.1, fun k h => (HR.out.2.2 k h).imp id (fun h => by omega)⟩
    rcases h with h | ⟨a, e, _, rfl⟩
    ·exact .inl h
    ·have e' : ao2 = some a := e
     subst e'
     have := hb2 a.block rfl
     exact .inr (Nat.le_trans z1 this)
 ·have q1 : ((n : Int) != (arity : Int)) = true := by rw [bne_iff_ne]; omega
  have H1 := qH h1; clear h1
  go_enter Tryz.func39, Tryz.ntmps39
  go_wp2
  go_ret2
  have e0 : aL arity LL ss = (false, 30) := by unfold aL; rw [if_pos (by rw [<- HN.out]; exact H1.out)]
  exact RetF.mk (Kp.refl _) (RowsAdded.same H.out (Kp.refl _) (by rw [e0]; rfl) (by unfold aX; rw [e0]; rfl))
end
end Go.Proofs.YtikgpedgmnbcaaaGreatDoor
namespace Go.Proofs.YtikgpedgmnbcaaaGreatDoor
section
abbrev bG := ByteArray × Nat × List (List ByteArray)
abbrev lL := ByteArray × Int × List (List ByteArray) × Unit
abbrev aC := List (List ByteArray)
theorem cZ : OrdLaw aD := jB id
theorem zT : aGg aD := fun _ _ h => gS h
def dG (C : List bG) (s : ByteArray) : Option (Nat × aC) := (C.find? fun p => decide (p.1 = s)).map (·.2)
def sM (C : List bG) (s : ByteArray) (v : Nat × aC) : List bG := if (dG C s).isSome then C.map fun p => if p.1 = s then (p.1, v) else p else C ++ [(s, v)]
def bH (C : List bG) : Nat := (C.map fun p => p.2.2.length).sum
def cB (s : ByteArray) : Bool := decide (1 ≤ s.size /\ s.size ≤ 4096)
def eA (C : List bG) (s : ByteArray) (a : Int) : Nat := if cB s = false then 32 else if a < 0 \/ 64 < a then 2 else match dG C s with | some v => if (v.1 : Int) = a then 0 else 30 | none => 0
def gR (C : List bG) (s : ByteArray) (a : Int) : List bG := if eA C s a = 0 /\ dG C s = none then C ++ [(s, a.toNat, [])] else C
def bL (C : List bG) (s : ByteArray) : aC := match dG C s with | some v => v.2 | none => []
def rG (C : List bG) (s : ByteArray) (row : List ByteArray) : Bool := match dG C s with | some v => decide (v.1 = row.length) | none => decide (row.length ≤ 64)
def eY (C : List bG) (s : ByteArray) (row : List ByteArray) : Bool × Nat :=
 if cB s = false then (false, 32) else
 if rG C s row = false then (false, 30) else
 if bW row = false then (false, 31) else
 if 262144 ≤ bH C /\ bA aD (bL C s) row = false then (false, 4) else
 if 65536 ≤ (bL C s).length /\ bA aD (bL C s) row = false then (false, 4) else (!bA aD (bL C s) row, 0)
def rJ (C : List bG) (s : ByteArray) (row : List ByteArray) : List bG := if (eY C s row).2 = 0 then sM C s (row.length, cQ aD (bL C s) row) else C
def fN (C : List bG) (s : ByteArray) : aC -> List bG × Nat
 | [] => (C, 0)
 | r :: rs => if (eY C s r).2 = 0 then fN (rJ C s r) s rs else (C, (eY C s r).2)
def gP (C : List bG) : List lL -> List bG × Nat
 | [] => (C, 0)
 | r :: rs => if eA C r.1 r.2.1 = 0 then (if (fN (gR C r.1 r.2.1) r.1 r.2.2.1).2 = 0 then gP (fN (gR C r.1 r.2.1) r.1 r.2.2.1).1 rs else fN (gR C r.1 r.2.1) r.1 r.2.2.1) else (C, eA C r.1 r.2.1)
structure CntOk (p : bG) : Prop where
 name : cB p.1 = true
 ar : p.2.1 ≤ 64
 strict : Strict aD p.2.2
 len : ∀ r ∈ p.2.2, r.length = p.2.1
 txt : ∀ r ∈ p.2.2, bW r = true
 few : p.2.2.length ≤ 65536
structure BaseOk (C : List bG) : Prop where
 nodup : (C.map (·.1)).Nodup
 all : ∀ p ∈ C, CntOk p
 few : bH C ≤ 262144
theorem iY {C : List bG} (h : (C.map (·.1)).Nodup) {s : ByteArray} {v : Nat × aC} : dG C s = some v ↔ (s, v) ∈ C := by
 unfold dG
 induction C with
 | nil => simp
 | cons p C ih =>
  rw [List.map_cons, List.nodup_cons] at h
  by_cases e : p.1 = s
  ·rw [List.find?_cons_of_pos (by simp [e])]
   subst e
   simp only [Option.map_some, Option.some.injEq, List.mem_cons]
   constructor
   ·rintro rfl; exact .inl rfl
   ·rintro (h1 | h1)
    ·rw [<- h1]
    ·exact absurd (List.mem_map.2 ⟨_, h1, rfl⟩) h.1
  ·rw [List.find?_cons_of_neg (by simp [e]), ih h.2, List.mem_cons]
   constructor
   ·exact .inr
   ·rintro (h1 | h1)
    ·exact absurd (by rw [<- h1]) e
    ·exact h1
theorem xK {C : List bG} {s : ByteArray} : dG C s = none ↔ s ∉ C.map (·.1) := by
 unfold dG
 rw [Option.map_eq_none_iff, List.find?_eq_none]
 constructor
 ·intro h hm
  obtain ⟨p, hp, rfl⟩ := List.mem_map.1 hm
  exact h p hp (by simp)
 ·intro h p hp hd
  exact h (List.mem_map.2 ⟨p, hp, by simpa using hd⟩)
theorem aGq {C : List bG} {s : ByteArray} {v : Nat × aC} : (sM C s v).map (·.1) = if (dG C s).isSome then C.map (·.1) else C.map (·.1) ++ [s] := by
 unfold sM
 split
 ·rw [List.map_map]
  apply List.map_congr_left
  intro p _
  simp only [Function.comp]; split <;> rfl
 ·simp
theorem aGy {C : List bG} (h : (C.map (·.1)).Nodup) (s : ByteArray) (v : Nat × aC) : ((sM C s v).map (·.1)).Nodup := by
 rw [aGq]
 split
 ·exact h
 ·rename_i hn
  have h0 : dG C s = none := by
   cases hg : dG C s with
   | none => rfl
   | some u => rw [hg] at hn; simp at hn
  exact List.nodup_append.2 ⟨h, by simp, fun a ha b hb e => xK.1 h0 (by rw [List.mem_singleton] at hb; rw [<- hb, <- e]; exact ha)⟩
theorem aK0 {C : List bG} {s : ByteArray} {v : Nat × aC} {p : bG} (h : p ∈ sM C s v) : p = (s, v) \/ p ∈ C := by
 unfold sM at h
 split at h
 ·obtain ⟨q, hq, e⟩ := List.mem_map.1 h
  split at e
  ·rename_i e2; left; rw [<- e, e2]
  ·right; rw [<- e]; exact hq
 ·rcases List.mem_append.1 h with h | h
  ·exact .inr h
  ·left; simpa using h
theorem kC {C : List bG} {s : ByteArray} (h : dG C s = none) : bL C s = [] := by unfold bL; rw [h]
theorem jZ {C : List bG} {s : ByteArray} {v : Nat × aC} (h : dG C s = some v) : bL C s = v.2 := by unfold bL; rw [h]
theorem aLf {C : List bG} {s : ByteArray} {row : List ByteArray} (h : (eY C s row).2 = 0) : cB s = true /\ rG C s row = true := by
 unfold eY at h
 split at h
 ·cases h
 ·rename_i h1
  split at h
  ·cases h
  ·rename_i h2
   exact ⟨by simpa using h1, by simpa using h2⟩
theorem aFk {C : List bG} {s : ByteArray} {row : List ByteArray} (h : (eY C s row).2 = 0) : bW row = true /\ (262144 ≤ bH C -> bA aD (bL C s) row = true) /\ (65536 ≤ (bL C s).length -> bA aD (bL C s) row = true) := by
 unfold eY at h
 split at h
 ·cases h
 ·split at h
  ·cases h
  ·split at h
   ·cases h
   ·rename_i h3
    split at h
    ·cases h
    ·rename_i h4
     split at h
     ·cases h
     ·rename_i h5
      refine ⟨by simpa using h3, fun h6 => ?_, fun h6 => ?_⟩
      ·cases hi : bA aD (bL C s) row with
       | true => rfl
       | false => exact absurd ⟨h6, hi⟩ h4
      ·cases hi : bA aD (bL C s) row with
       | true => rfl
       | false => exact absurd ⟨h6, hi⟩ h5
theorem aAu {C : List bG} (h : BaseOk C) (s : ByteArray) : Strict aD (bL C s) := by
 cases hg : dG C s with
 | none => rw [kC hg]; exact fV
 | some v => rw [jZ hg]; exact (h.all _ ((iY h.nodup).1 hg)).strict
theorem wN {C : List bG} (hn : (C.map (·.1)).Nodup) {s : ByteArray} {v : Nat × aC} : bH (sM C s v) + (bL C s).length = bH C + v.2.length := by
 unfold sM
 cases hg : dG C s with
 | none => rw [if_neg (by simp), kC hg]; simp [bH]
 | some u =>
  rw [if_pos (by simp), jZ hg]
  have hm : ∀ (D : List bG), (D.map (·.1)).Nodup -> (s, u) ∈ D -> bH (D.map fun p => if p.1 = s then (p.1, v) else p) + u.2.length = bH D + v.2.length := by
   intro D
   induction D with
   | nil => intro _ h; cases h
   | cons p D ih =>
    intro hnd hin
    rw [List.map_cons, List.nodup_cons] at hnd
    simp only [bH, List.map_cons, List.sum_cons] at ih ⊢
    by_cases e : p.1 = s
    ·have hp : p = (s, u) := by
      rcases List.mem_cons.1 hin with h | h
      ·exact h.symm
      ·exact absurd (List.mem_map.2 ⟨_, h, rfl⟩) (by rw [<- e] at h ⊢; exact hnd.1)
     have hid : (D.map fun q : bG => if q.1 = s then (q.1, v) else q) = D := by
      conv => rhs; rw [<- List.map_id D]
      apply List.map_congr_left
      intro q hq
      have : ¬ q.1 = s := fun e2 => hnd.1 (List.mem_map.2 ⟨q, hq, by rw [e2, e]⟩)
      rw [if_neg this]; rfl
     rw [hid, if_pos e, hp]; dsimp only; omega
    ·have h1 : (s, u) ∈ D := by
      rcases List.mem_cons.1 hin with h | h
      ·exact absurd (by rw [<- h]) e
      ·exact h
     have := ih hnd.2 h1
     rw [if_neg e]; omega
  exact hm C hn ((iY hn).1 hg)
theorem aKw {C : List bG} (h : BaseOk C) (s : ByteArray) (a : Int) : BaseOk (gR C s a) := by
 unfold gR
 split
 ·rename_i hc
  obtain ⟨h1, h2⟩ := hc
  have hn : cB s = true /\ 0 ≤ a /\ a ≤ 64 := by
   unfold eA at h1
   split at h1
   ·cases h1
   ·rename_i e1
    split at h1
    ·cases h1
    ·rename_i e2
     exact ⟨by simpa using e1, by omega, by omega⟩
  refine ⟨?_, fun p hp => ?_, ?_⟩
  ·rw [List.map_append]
   exact List.nodup_append.2 ⟨h.nodup, by simp, fun x hx y hy e => xK.1 h2 (by
    have : y = s := by simpa using hy
    rw [<- this, <- e]; exact hx)⟩
  ·rcases List.mem_append.1 hp with hp | hp
   ·exact h.all p hp
   ·have e : p = (s, a.toNat, []) := by simpa using hp
    subst e
    exact ⟨hn.1, show a.toNat ≤ 64 by omega, fV, fun r hr => (by cases hr), fun r hr => (by cases hr), Nat.zero_le _⟩
  ·have e : bH (C ++ [(s, a.toNat, [])]) = bH C := by simp [bH]
   rw [e]; exact h.few
 ·exact h
theorem aI6 {C : List bG} (h : BaseOk C) (s : ByteArray) (row : List ByteArray) : BaseOk (rJ C s row) := by
 unfold rJ
 split
 ·rename_i h0
  obtain ⟨t1, t2, t3⟩ := aFk h0
  obtain ⟨n1, n4⟩ := aLf h0
  have n2 : ∀ v, dG C s = some v -> v.1 = row.length := fun v hv => by
   unfold rG at n4; rw [hv] at n4; exact of_decide_eq_true n4
  have n3 : row.length ≤ 64 := by
   cases hg : dG C s with
   | none => unfold rG at n4; rw [hg] at n4; exact of_decide_eq_true n4
   | some v =>
    have h1 : v.1 ≤ 64 := (h.all _ ((iY h.nodup).1 hg)).ar
    have := n2 v hg
    omega
  ·have hst := aAu h s
   have hlen : ∀ r ∈ bL C s, r.length = row.length /\ bW r = true := fun r hr => by
    cases hg : dG C s with
    | none => rw [kC hg] at hr; cases hr
    | some v =>
     rw [jZ hg] at hr
     have hp := h.all _ ((iY h.nodup).1 hg)
     exact ⟨(hp.len r hr).trans (n2 v hg), hp.txt r hr⟩
   have hfew : (bL C s).length ≤ 65536 := by
    cases hg : dG C s with
    | none => rw [kC hg]; exact Nat.zero_le _
    | some v => rw [jZ hg]; exact (h.all _ ((iY h.nodup).1 hg)).few
   have hl := nI (c := aD) (bL C s) row
   refine ⟨aGy h.nodup _ _, fun p hp => ?_, ?_⟩
   ·rcases aK0 hp with rfl | hp
    ·refine ⟨n1, n3, hst.add cZ row, fun r hr => ?_, fun r hr => ?_, ?_⟩
     ·rcases (mQ (c := aD)).1 hr with hr | ⟨rfl, _⟩
      ·exact (hlen r hr).1
      ·rfl
     ·rcases (mQ (c := aD)).1 hr with hr | ⟨rfl, _⟩
      ·exact (hlen r hr).2
      ·exact t1
     ·show (cQ aD (bL C s) row).length ≤ 65536
      rw [hl]
      split
      ·omega
      ·rename_i hi
       have : ¬ 65536 ≤ (bL C s).length := fun k => hi (t3 k)
       omega
    ·exact h.all p hp
   ·have := wN h.nodup (s := s) (v := (row.length, cQ aD (bL C s) row))
    have hf := h.few
    rw [hl] at this
    split at this
    ·omega
    ·rename_i hi
     have : ¬ 262144 ≤ bH C := fun k => hi (t2 k)
     omega
 ·exact h
structure InC (C D : List bG) : Prop where
 ar : ∀ s v, dG C s = some v -> ∃ LL, dG D s = some (v.1, LL)
 rows : ∀ s r, r ∈ bL C s -> r ∈ bL D s
def cP (W : aC) (i n : Nat) : Bool := n == 0 || decide ((W.getD (n - 1) []).take i ≠ (W.getD n []).take i)
def aW (W : aC) (d i n : Nat) : List Nat := if i < d then (List.range n).filter fun k => cP W (i + 1) k else List.range n
theorem lY (W : aC) {d i n : Nat} (hi : i < d) : aW W d i (n + 1) = aW W d i n ++ if cP W (i + 1) n then [n] else [] := by
 unfold aW
 rw [if_pos hi, if_pos hi, List.range_succ, List.filter_append]
 congr 1
 simp only [List.filter_cons, List.filter_nil]
theorem lZ (W : aC) {d i n : Nat} (hi : ¬ i < d) : aW W d i n = List.range n := if_neg hi
theorem cW (W : aC) (d i n : Nat) : (aW W d i n).length ≤ n := by
 unfold aW
 split
 ·exact Nat.le_trans (List.length_filter_le _ _) (by rw [List.length_range]; exact Nat.le_refl _)
 ·rw [List.length_range]; exact Nat.le_refl _
def bJ (W : aC) (d i n : Nat) : List ByteArray := (aW W d i n).map fun k => (W.getD k []).getD i ByteArray.empty
def aO (W : aC) (d i n : Nat) : Nat := (aW W d i n).length
def bT (W : aC) (d i n : Nat) : List Int := (aW W d i n).map fun k => (aO W d (i + 1) k : Int)
theorem eJ (W : aC) (d i n : Nat) : (bJ W d i n).length = aO W d i n := by unfold bJ aO; rw [List.length_map]
theorem gO (W : aC) (d i n : Nat) : (bT W d i n).length = aO W d i n := by unfold bT aO; rw [List.length_map]
theorem aA5 (W : aC) (i : Nat) : cP W i 0 = true := rfl
theorem dW {W : aC} {i n : Nat} : cP W i n = true ↔ n = 0 \/ (W.getD (n - 1) []).take i ≠ (W.getD n []).take i := by
 unfold cP
 rw [Bool.or_eq_true, decide_eq_true_iff, beq_iff_eq]
theorem bC {α : Type} {l : List α} {i : Nat} {x d : α} (h : l[i]? = some x) : l.getD i d = x := by rw [List.getD_eq_getElem?_getD, h]; rfl
theorem aD9 {W : aC} {i n : Nat} {x y : List ByteArray} (hn : 0 < n) (hx : W[n - 1]? = some x) (hy : W[n]? = some y) (h1 : i < x.length) (h2 : i < y.length) : cP W (i + 1) n = (cP W i n || decide (x[i] ≠ y[i])) := by
 rw [Bool.eq_iff_iff, Bool.or_eq_true, decide_eq_true_iff, dW, dW, bC hx, bC hy]
 have ex : x.take (i + 1) = x.take i ++ [x[i]] := by rw [List.take_add_one, qG h1]; rfl
 have ey : y.take (i + 1) = y.take i ++ [y[i]] := by rw [List.take_add_one, qG h2]; rfl
 rw [ex, ey]
 have hl : (x.take i).length = (y.take i).length := by rw [List.length_take, List.length_take]; omega
 refine ⟨fun h => ?_, fun h => .inr fun e => ?_⟩
 ·by_cases h3 : x.take i = y.take i
  ·refine .inr fun h4 => ?_
   rcases h with h | h
   ·omega
   ·exact h (by rw [h3, h4])
  ·exact .inl (.inr h3)
 ·obtain ⟨e1, e2⟩ := List.append_inj e hl
  rcases h with (h | h) | h
  ·omega
  ·exact h e1
  ·exact h (by simpa using e2)
structure WaysOk (W : aC) (d : Nat) : Prop where
 len : ∀ r ∈ W, r.length = d
 rise : Strict aD W
theorem jS : ∀ (j : Nat) {x y : List ByteArray}, x.length = y.length -> aD x y ≤ 0 -> aD (x.take j) (y.take j) ≤ 0
 | 0, _, _, _, _ => by simp [aD]
 | j + 1, [], [], _, _ => by simp [aD]
 | j + 1, [], _ :: _, h, _ => by simp at h
 | j + 1, _ :: _, [], h, _ => by simp at h
 | j + 1, a :: x, b :: y, hl, h => by
  simp only [List.take_succ_cons]
  unfold aD at h ⊢
  split at h
  ·rename_i h1
   rw [if_pos h1]; exact h
  ·rename_i h1
   rw [if_neg h1]
   exact jS j (by simpa using hl) h
theorem sC : ∀ (q : List ByteArray) (a b : ByteArray), aD (q ++ [a]) (q ++ [b]) = bD a.toList b.toList
 | [], a, b => by
  show (if bD a.toList b.toList ≠ 0 then bD a.toList b.toList else aD [] []) = _
  split
  ·rfl
  ·rename_i h
   have : bD a.toList b.toList = 0 := Classical.not_not.1 h
   rw [this]; rfl
 | c :: q, a, b => by
  show (if bD c.toList c.toList ≠ 0 then bD c.toList c.toList else aD (q ++ [a]) (q ++ [b])) = _
  rw [if_neg (by rw [dX]; simp)]
  exact sC q a b
theorem WaysOk.le {W : aC} {d : Nat} (h : WaysOk W d) {m n : Nat} {x y : List ByteArray} (hx : W[m]? = some x) (hy : W[n]? = some y) (hmn : m ≤ n) : aD x y ≤ 0 := by
 rcases Nat.lt_or_eq_of_le hmn with h1 | h1
 ·obtain ⟨l1, e1⟩ := List.getElem?_eq_some_iff.1 hx
  obtain ⟨l2, e2⟩ := List.getElem?_eq_some_iff.1 hy
  have := List.pairwise_iff_getElem.1 h.rise m n l1 l2 h1
  rw [e1, e2] at this; omega
 ·subst h1
  rw [hx] at hy; cases hy
  rw [nC]; omega
theorem WaysOk.between {W : aC} {d : Nat} (h : WaysOk W d) {m k n j : Nat} {x y z : List ByteArray} (hx : W[m]? = some x) (hy : W[k]? = some y) (hz : W[n]? = some z) (h1 : m ≤ k) (h2 : k ≤ n) (he : x.take j = z.take j) : y.take j = x.take j := by
 have lx := h.len x (List.mem_of_getElem? hx)
 have ly := h.len y (List.mem_of_getElem? hy)
 have lz := h.len z (List.mem_of_getElem? hz)
 have a1 := jS j (lx.trans ly.symm) (h.le hx hy h1)
 have a2 := jS j (ly.trans lz.symm) (h.le hy hz h2)
 rw [<- he] at a2
 have a3 := nB (x.take j) (y.take j)
 exact (gS (xs := x.take j) (ys := y.take j) (by omega)).symm
structure Iv (W : aC) (q : List ByteArray) (lo hi : Nat) : Prop where
 le : lo < hi
 few : hi ≤ W.length
 iff : ∀ n x, W[n]? = some x -> (x.take q.length = q ↔ lo ≤ n /\ n < hi)
theorem kZ {W : aC} {d i n k : Nat} (hi : i < d) : k ∈ aW W d i n ↔ k < n /\ cP W (i + 1) k = true := by
 unfold aW
 rw [if_pos hi, List.mem_filter, List.mem_range]
theorem fA (W : aC) (d i n : Nat) : (aW W d i n).Pairwise (· < ·) := by
 unfold aW
 split
 ·exact List.Pairwise.filter _ List.pairwise_lt_range
 ·exact List.pairwise_lt_range
theorem lX (W : aC) (d i : Nat) {m n : Nat} (h : m ≤ n) : ∃ r, aW W d i n = aW W d i m ++ r /\ ∀ k ∈ r, m ≤ k := by
 induction n with
 | zero => exact ⟨[], by rw [show m = 0 by omega]; simp, by simp⟩
 | succ n ih =>
  by_cases e : m = n + 1
  ·subst e; exact ⟨[], by simp, by simp⟩
  ·obtain ⟨r, h1, h2⟩ := ih (by omega)
   by_cases hi : i < d
   ·rw [lY W hi, h1]
    refine ⟨r ++ (if cP W (i + 1) n then [n] else []), by rw [List.append_assoc], fun k hk => ?_⟩
    rcases List.mem_append.1 hk with hk | hk
    ·exact h2 k hk
    ·split at hk
     ·rw [List.mem_singleton] at hk; omega
     ·simp at hk
   ·rw [lZ W hi] at h1 ⊢
    rw [lZ W hi] at *
    rw [List.range_succ, h1]
    refine ⟨r ++ [n], by rw [List.append_assoc], fun k hk => ?_⟩
    rcases List.mem_append.1 hk with hk | hk
    ·exact h2 k hk
    ·rw [List.mem_singleton] at hk; omega
theorem kY {W : aC} {d i n k s : Nat} (h : (aW W d i n)[k]? = some s) : aO W d i s = k /\ s < n := by
 have hk := (List.getElem?_eq_some_iff.1 h).1
 have hs : s < n := by
  have hm := List.mem_of_getElem? h
  unfold aW at hm
  split at hm
  ·exact List.mem_range.1 (List.mem_filter.1 hm).1
  ·exact List.mem_range.1 hm
 obtain ⟨r, h1, h2⟩ := lX W d i (Nat.le_of_lt hs)
 refine ⟨?_, hs⟩
 unfold aO
 have hp := fA W d i n
 rcases Nat.lt_trichotomy (aW W d i s).length k with h3 | h3 | h3
 ·-- the element at the border is s or above, yet below s
  have hl : (aW W d i s).length < (aW W d i n).length := by omega
  have h4 := List.pairwise_iff_getElem.1 hp _ k hl hk h3
  rw [(List.getElem?_eq_some_iff.1 h).2] at h4
  have h5 : (aW W d i n)[(aW W d i s).length]'hl ∈ r := by
   have : (aW W d i n)[(aW W d i s).length]? = r[0]? := by rw [h1, List.getElem?_append_right (Nat.le_refl _), Nat.sub_self]
   rw [qG hl] at this
   exact List.mem_of_getElem? this.symm
  have := h2 _ h5
  omega
 ·exact h3
 ·rw [h1, List.getElem?_append_left h3] at h
  have hm := List.mem_of_getElem? h
  have : s < s := by
   unfold aW at hm
   split at hm
   ·exact List.mem_range.1 (List.mem_filter.1 hm).1
   ·exact List.mem_range.1 hm
  omega
section
variable {Sol : List ByteArray -> Prop} {v : Nat} {p : List ByteArray}
structure AllB (Sol : List ByteArray -> Prop) (p : List ByteArray) (L : aC) : Prop where
 rise : Strict aD L
 iff : ∀ V, V ∈ L ↔ Sol V /\ V.take p.length = p
structure PartB (Sol : List ByteArray -> Prop) (p : List ByteArray) (D : ByteArray -> Prop) (L : aC) : Prop where
 rise : Strict aD L
 iff : ∀ V, V ∈ L ↔ Sol V /\ V.take p.length = p /\ ∃ x, V[p.length]? = some x /\ D x
theorem AllB.none (h : ∀ V, Sol V -> V.take p.length = p -> False) : AllB Sol p [] :=
 ⟨fV, fun V => ⟨fun h => by simp at h, fun h1 => (h V h1.1 h1.2).elim⟩⟩
theorem AllB.one (hs : Sol p) (hl : ∀ V, Sol V -> V.length = p.length) : AllB Sol p [p] :=
 ⟨List.pairwise_singleton _ _, fun V => ⟨fun h => by
  rw [List.mem_singleton] at h; subst h
  exact ⟨hs, List.take_length⟩, fun ⟨h1, h2⟩ => by
  rw [List.mem_singleton, <- h2, List.take_of_length_le (Nat.le_of_eq (hl V h1))]⟩⟩
theorem AllB.unique {L L' : aC} (h : AllB Sol p L) (h' : AllB Sol p L') : L = L' := Strict.unique cZ h.rise h'.rise fun V => (h.iff V).trans (h'.iff V).symm
theorem PartB.none {D : ByteArray -> Prop} (h : ∀ V, Sol V -> V.take p.length = p -> ∀ x, V[p.length]? = some x -> ¬ D x) : PartB Sol p D [] :=
 ⟨fV, fun V => ⟨fun h => by simp at h, fun ⟨h1, h2, x, h3, h4⟩ => (h V h1 h2 x h3 h4).elim⟩⟩
theorem PartB.all {D : ByteArray -> Prop} {L : aC} (h : PartB Sol p D L) (hd : ∀ V, Sol V -> V.take p.length = p -> ∃ x, V[p.length]? = some x /\ D x) : AllB Sol p L :=
 ⟨h.rise, fun V => (h.iff V).trans ⟨fun ⟨h1, h2, _⟩ => ⟨h1, h2⟩, fun ⟨h1, h2⟩ => ⟨h1, h2, hd V h1 h2⟩⟩⟩
theorem nD : ∀ (q : List ByteArray) (a b : ByteArray) (r s : List ByteArray), bD a.toList b.toList < 0 -> aD (q ++ a :: r) (q ++ b :: s) < 0
 | [], a, b, r, s, h => by
  show (if bD a.toList b.toList ≠ 0 then bD a.toList b.toList else aD r s) < 0
  rw [if_pos (by omega)]; exact h
 | c :: q, a, b, r, s, h => by
  show (if bD c.toList c.toList ≠ 0 then bD c.toList c.toList else aD (q ++ a :: r) (q ++ b :: s)) < 0
  rw [if_neg (by rw [dX]; simp)]
  exact nD q a b r s h
theorem pC {V q : List ByteArray} {x : ByteArray} (h : V.take q.length = q) (hx : V[q.length]? = some x) : ∃ r, V = q ++ x :: r := by
 refine ⟨V.drop (q.length + 1), ?_⟩
 have hl := (List.getElem?_eq_some_iff.1 hx)
 conv => lhs; rw [<- List.take_append_drop q.length V, h, List.drop_eq_getElem_cons hl.1, hl.2]
theorem PartB.next {D : ByteArray -> Prop} {L L' : aC} {x : ByteArray} (h : PartB Sol p D L) (h' : AllB Sol (p ++ [x]) L') (hx : ∀ V, Sol V -> V.take p.length = p -> ∀ y, V[p.length]? = some y -> D y -> bD y.toList x.toList < 0) : PartB Sol p (fun y => D y \/ y = x) (L ++ L') := by
 have key : ∀ V, V ∈ L' ↔ Sol V /\ V.take p.length = p /\ V[p.length]? = some x := fun V => by
  rw [h'.iff V, List.length_append, List.length_singleton]
  refine ⟨fun ⟨h1, h2⟩ => ?_, fun ⟨h1, h2, h3⟩ => ⟨h1, by rw [List.take_add_one, h2, h3]; rfl⟩⟩
  have h3 : V.take p.length = p := by
   have := congrArg (List.take p.length) h2
   rw [List.take_take, List.take_left, show min p.length (p.length + 1) = p.length by omega] at this
   exact this
  refine ⟨h1, h3, ?_⟩
  rw [List.take_add_one, h3] at h2
  have h4 := (List.append_right_inj p).1 h2
  cases h5 : V[p.length]? with
  | none => rw [h5] at h4; simp at h4
  | some y => rw [h5] at h4; simpa using h4
 refine ⟨List.pairwise_append.2 ⟨h.rise, h'.rise, fun a ha b hb => ?_⟩, fun V => ?_⟩
 ·obtain ⟨a1, a2, y, a3, a4⟩ := (h.iff a).1 ha
  obtain ⟨b1, b2, b3⟩ := (key b).1 hb
  obtain ⟨r, rfl⟩ := pC a2 a3
  obtain ⟨s, rfl⟩ := pC b2 b3
  exact nD p y x r s (hx _ a1 a2 y a3 a4)
 ·rw [List.mem_append, h.iff V, key V]
  refine ⟨fun h1 => ?_, fun ⟨h1, h2, y, h3, h4⟩ => ?_⟩
  ·rcases h1 with ⟨h1, h2, y, h3, h4⟩ | ⟨h1, h2, h3⟩
   ·exact ⟨h1, h2, y, h3, .inl h4⟩
   ·exact ⟨h1, h2, x, h3, .inr rfl⟩
  ·rcases h4 with h4 | h4
   ·exact .inl ⟨h1, h2, y, h3, h4⟩
   ·subst h4; exact .inr ⟨h1, h2, h3⟩
structure PartQ (Sol : List ByteArray -> Prop) (p : List ByteArray) (m : Nat) (D : List ByteArray -> Prop) (L : aC) : Prop where
 rise : Strict aD L
 iff : ∀ V, V ∈ L ↔ Sol V /\ V.take p.length = p /\ D (V.take m)
theorem sD : ∀ (m : Nat) {x y : List ByteArray}, m ≤ x.length -> m ≤ y.length -> aD (x.take m) (y.take m) < 0 -> aD x y < 0
 | 0, x, y, _, _, h => by simp [aD] at h
 | m + 1, [], _, h, _, _ => by simp at h
 | m + 1, _ :: _, [], _, h, _ => by simp at h
 | m + 1, a :: x, b :: y, hx, hy, h => by
  simp only [List.take_succ_cons] at h
  unfold aD at h ⊢
  split at h
  ·rename_i h1
   rw [if_pos h1]; exact h
  ·rename_i h1
   rw [if_neg h1]
   exact sD m (by simpa using hx) (by simpa using hy) h
theorem PartQ.none {m : Nat} : PartQ Sol p m (fun _ => False) [] := ⟨fV, fun V => ⟨fun h => by simp at h, fun h => h.2.2.elim⟩⟩
theorem PartQ.next {m : Nat} {D : List ByteArray -> Prop} {L L' : aC} {q : List ByteArray} (h : PartQ Sol p m D L) (hq : q.length = m) (hp : q.take p.length = p) (hm : p.length ≤ m) (hl : ∀ V, Sol V -> m ≤ V.length) (h' : AllB Sol q L') (hx : ∀ y, D y -> aD y q < 0) : PartQ Sol p m (fun y => D y \/ y = q) (L ++ L') := by
 refine ⟨List.pairwise_append.2 ⟨h.rise, h'.rise, fun a ha b hb => ?_⟩, fun V => ?_⟩
 ·obtain ⟨a1, a2, a3⟩ := (h.iff a).1 ha
  obtain ⟨b1, b2⟩ := (h'.iff b).1 hb
  rw [hq] at b2
  exact sD m (hl a a1) (hl b b1) (by rw [b2]; exact hx _ a3)
 ·rw [List.mem_append, h.iff V, h'.iff V, hq]
  refine ⟨fun h1 => ?_, fun ⟨h1, h2, h3⟩ => ?_⟩
  ·rcases h1 with ⟨h1, h2, h3⟩ | ⟨h1, h2⟩
   ·exact ⟨h1, h2, .inl h3⟩
   ·refine ⟨h1, ?_, .inr h2⟩
    have := congrArg (List.take p.length) h2
    rw [List.take_take, hp, show min p.length m = p.length by omega] at this
    exact this
  ·rcases h3 with h3 | h3
   ·exact .inl ⟨h1, h2, h3⟩
   ·exact .inr ⟨h1, h3⟩
theorem PartQ.all {m : Nat} {D : List ByteArray -> Prop} {L : aC} (h : PartQ Sol p m D L) (hd : ∀ V, Sol V -> V.take p.length = p -> D (V.take m)) : AllB Sol p L :=
 ⟨h.rise, fun V => (h.iff V).trans ⟨fun ⟨h1, h2, _⟩ => ⟨h1, h2⟩, fun ⟨h1, h2⟩ => ⟨h1, h2, hd V h1 h2⟩⟩⟩
theorem PartQ.congr {m : Nat} {D D' : List ByteArray -> Prop} {L : aC} (h : PartQ Sol p m D L) (hd : ∀ y, D y ↔ D' y) : PartQ Sol p m D' L := ⟨h.rise, fun V => (h.iff V).trans (by rw [hd])⟩
end
def isV (s : ByteArray) (t : aE) : Bool := decide (t.1 = 1 /\ t.2.1 = s)
def eF (ts : List aE) (s : ByteArray) : Nat := ts.findIdx (isV s)
def aV (N : List ByteArray) (ts : List aE) : List Nat := (List.range N.length).filter fun i => ts.any (isV (N.getD i ByteArray.empty))
def aZ (x : List ByteArray) (i : Nat) : ByteArray := x.getD i ByteArray.empty
def oI (ts : List aE) (x : List ByteArray) : Prop := ∀ (i : Nat) (t : aE), ts[i]? = some t -> (t.1 = 3 -> aZ x i = t.2.1) /\ (t.1 = 1 -> aZ x (eF ts t.2.1) = aZ x i)
def gJ (N : List ByteArray) (ts : List aE) (x : List ByteArray) : List ByteArray := (aV N ts).map fun v => aZ x (eF ts (aZ N v))
def aCa (N V : List ByteArray) (ts : List aE) (x : List ByteArray) : Prop := ∀ (i : Nat) (t : aE), ts[i]? = some t -> (t.1 = 3 -> aZ x i = t.2.1) /\ (t.1 = 1 -> ∃ v : Nat, N[v]? = some t.2.1 /\ V[v]? = some (aZ x i))
theorem aCc {ts : List aE} {s : ByteArray} {i : Nat} {t : aE} (hi : ts[i]? = some t) (ht : t.1 = 1) (hs : t.2.1 = s) : ∃ u, ts[eF ts s]? = some u /\ u.1 = 1 /\ u.2.1 = s := by
 have h : eF ts s < ts.length := List.findIdx_lt_length_of_exists ⟨t, List.mem_of_getElem? hi, by unfold isV; exact decide_eq_true ⟨ht, hs⟩⟩
 have h2 := List.findIdx_getElem (w := h)
 refine ⟨_, qG h, ?_⟩
 unfold isV at h2
 exact of_decide_eq_true h2
theorem dC {N : List ByteArray} {ts : List aE} {v : Nat} : v ∈ aV N ts ↔ v < N.length /\ ∃ (i : Nat) (t : aE), ts[i]? = some t /\ t.1 = 1 /\ t.2.1 = aZ N v := by
 unfold aV
 rw [List.mem_filter, List.mem_range, List.any_eq_true]
 refine and_congr_right fun _ => ⟨fun ⟨t, ht, h⟩ => ?_, fun ⟨i, t, hi, h1, h2⟩ => ⟨t, List.mem_of_getElem? hi, by unfold isV; exact decide_eq_true ⟨h1, h2⟩⟩⟩
 obtain ⟨i, hi⟩ := List.mem_iff_getElem?.1 ht
 unfold isV at h
 have h' := of_decide_eq_true h
 exact ⟨i, t, hi, h'.1, h'.2⟩
theorem wL (N : List ByteArray) (ts : List aE) : (aV N ts).Pairwise (· < ·) := List.Pairwise.filter _ List.pairwise_lt_range
theorem aA1 {N V : List ByteArray} {ts : List aE} (hN : N.Nodup) (hV : V.length = N.length) (hin : ∀ t ∈ ts, t.1 = 1 -> t.2.1 ∈ N) (x : List ByteArray) :
 oI ts x /\ gJ N ts x = (aV N ts).map (aZ V) ↔ aCa N V ts x := by
 have get : ∀ {v : Nat} {s : ByteArray}, N[v]? = some s -> aZ N v = s := fun h => bC h
 have getv : ∀ {v : Nat} {s : ByteArray}, N[v]? = some s -> V[v]? = some (aZ V v) := fun {v s} h => by
  have hv : v < V.length := by rw [hV]; exact (List.getElem?_eq_some_iff.1 h).1
  unfold aZ
  rw [List.getD_eq_getElem?_getD, qG hv]; rfl
 have proj : gJ N ts x = (aV N ts).map (aZ V) ↔ ∀ v ∈ aV N ts, aZ x (eF ts (aZ N v)) = aZ V v := by
  unfold gJ
  exact List.map_inj_left
 rw [proj]
 refine ⟨fun ⟨h1, h2⟩ i t hi => ⟨(h1 i t hi).1, fun ht => ?_⟩, fun h => ⟨fun i t hi => ⟨(h i t hi).1, fun ht => ?_⟩, fun v hv => ?_⟩⟩
 ·obtain ⟨v, hv⟩ := List.mem_iff_getElem?.1 (hin t (List.mem_of_getElem? hi) ht)
  refine ⟨v, hv, ?_⟩
  have hm : v ∈ aV N ts := dC.2 ⟨(List.getElem?_eq_some_iff.1 hv).1, i, t, hi, ht, (get hv).symm⟩
  have h3 := h2 v hm
  rw [get hv, (h1 i t hi).2 ht] at h3
  rw [h3]; exact getv hv
 ·obtain ⟨v, hv, e⟩ := (h i t hi).2 ht
  obtain ⟨u, hu, u1, u2⟩ := aCc hi ht rfl
  obtain ⟨v', hv', e'⟩ := (h _ u hu).2 u1
  rw [u2] at hv'
  have : v = v' := (List.getElem?_inj (List.getElem?_eq_some_iff.1 hv).1 hN).1 (hv.trans hv'.symm)
  subst this
  rw [e] at e'
  exact (Option.some.inj e').symm
 ·obtain ⟨hl, i, t, hi, h1, h2⟩ := dC.1 hv
  obtain ⟨u, hu, u1, u2⟩ := aCc hi h1 h2
  obtain ⟨v', hv', e'⟩ := (h _ u hu).2 u1
  have hv0 : N[v]? = some (aZ N v) := by unfold aZ; rw [List.getD_eq_getElem?_getD, qG hl]; rfl
  rw [u2] at hv'
  have : v = v' := (List.getElem?_inj hl hN).1 (hv0.trans hv'.symm)
  subst this
  rw [getv hv0] at e'
  exact (Option.some.inj e').symm
open Classical in
noncomputable def cV (N : List ByteArray) (ts : List aE) (R : aC) : aC := zC aD ((R.filter fun x => decide (x.length = ts.length /\ oI ts x)).map (gJ N ts))
theorem xN {x : List ByteArray} : ∀ (xs acc : aC), x ∈ xs \/ x ∈ acc -> x ∈ xs.foldl (cQ aD) acc
 | [], acc, h => by
  rcases h with h | h
  ·simp at h
  ·exact h
 | y :: xs, acc, h => by
  refine xN xs (cQ aD acc y) ?_
  by_cases hx : x ∈ xs
  ·exact .inl hx
  ·refine .inr (mQ.2 ?_)
   rcases h with h | h
   ·rcases List.mem_cons.1 h with h | h
    ·subst h
     by_cases hi : bA aD acc x = true
     ·obtain ⟨z, hz, e⟩ := mT.1 hi
      rw [<- gS e]; exact .inl hz
     ·exact .inr ⟨rfl, by simpa using hi⟩
    ·exact absurd h hx
   ·exact .inl h
theorem aBc {xs : aC} {x : List ByteArray} : x ∈ zC aD xs ↔ x ∈ xs := ⟨aBb, fun h => xN xs [] (.inl h)⟩
open Classical in
theorem aFw {N V : List ByteArray} {ts : List aE} (R : aC) (hN : N.Nodup) (hV : V.length = N.length) (hin : ∀ t ∈ ts, t.1 = 1 -> t.2.1 ∈ N) :
 (aV N ts).map (aZ V) ∈ cV N ts R ↔ ∃ x ∈ R, x.length = ts.length /\ aCa N V ts x := by
 unfold cV
 rw [aBc, List.mem_map]
 refine ⟨fun ⟨x, hx, e⟩ => ?_, fun ⟨x, hx, hl, hf⟩ => ?_⟩
 ·obtain ⟨h1, h2⟩ := List.mem_filter.1 hx
  obtain ⟨h3, h4⟩ := of_decide_eq_true h2
  exact ⟨x, h1, h3, (aA1 hN hV hin x).1 ⟨h4, e⟩⟩
 ·obtain ⟨h1, h2⟩ := (aA1 hN hV hin x).2 hf
  exact ⟨x, List.mem_filter.2 ⟨hx, decide_eq_true ⟨hl, h1⟩⟩, h2⟩
theorem tA {N : List ByteArray} {ts : List aE} {R : aC} {x : List ByteArray} (h : x ∈ cV N ts R) : x.length = (aV N ts).length := by
 unfold cV at h
 obtain ⟨y, _, rfl⟩ := List.mem_map.1 (aBb h)
 unfold gJ
 rw [List.length_map]
theorem tN (N : List ByteArray) (ts : List aE) (R : aC) : Strict aD (cV N ts R) := Strict.new cZ _
def lS (N V : List ByteArray) (t : aE) : ByteArray := if t.1 = 1 then aZ V (N.findIdx fun s => decide (s = t.2.1)) else t.2.1
def pN (op : Int) (x y : ByteArray) : Prop := if op = 1 then x = y else if op = 2 then x ≠ y else if op = 3 then Op.bytesLess x.toList y.toList = true else Op.bytesLess y.toList x.toList = false
def jV (N V : List ByteArray) (R : aC) (l : aM) : Prop :=
 if l.1 = 1 then ∃ x ∈ R, x.length = (aB l).length /\ aCa N V (aB l) x
 else if l.1 = 2 then ¬ ∃ x ∈ R, x.length = (aB l).length /\ aCa N V (aB l) x
 else pN (iC l) (lS N V (leftOf l)) (lS N V (aS l))
def cG (ls : List aM) (R : Nat -> aC) (V : List ByteArray) : Prop := V.length = (aA ls).length /\ ∀ (i : Nat) (l : aM), ls[i]? = some l -> jV (aA ls) V (R i) l
def IsBinds (ls : List aM) (R : Nat -> aC) (L : aC) : Prop := AllB (cG ls R) [] L
theorem IsBinds.iff {ls : List aM} {R : Nat -> aC} {L : aC} (h : IsBinds ls R L) (V : List ByteArray) : V ∈ L ↔ cG ls R V := (AllB.iff h V).trans ⟨fun h => h.1, fun h => ⟨h, rfl⟩⟩
end
section
abbrev dB := List ByteArray × List ByteArray
def ofE (e : dB) (s : ByteArray) : Option ByteArray := if kK e.1 s = true then some (aZ e.2 (e.1.findIdx fun x => decide (x = s))) else none
def vG (e : dB) (t : aE) (y : ByteArray) : Option dB :=
 if t.1 = 3 /\ t.2.1 ≠ y then none
 else if t.1 ≠ 1 then some e
 else match ofE e t.2.1 with
  | some s => if s = y then some e else none
  | none => some (e.1 ++ [t.2.1], e.2 ++ [y])
def jN (e : dB) (ts : List aE) (x : List ByteArray) : Nat -> Option dB
 | 0 => some e
 | k + 1 => match jN e ts x k, ts[k]? with
  | some f, some t => vG f t (aZ x k)
  | _, _ => none
structure EnvOk (e : dB) : Prop where
 nodup : e.1.Nodup
 len : e.2.length = e.1.length
theorem aEs {N : List ByteArray} {s : ByteArray} (h : s ∈ N) : N[N.findIdx fun x => decide (x = s)]? = some s := by
 have h1 : (N.findIdx fun x => decide (x = s)) < N.length := List.findIdx_lt_length_of_exists ⟨s, h, decide_eq_true rfl⟩
 have h2 := List.findIdx_getElem (w := h1)
 rw [qG h1]
 exact congrArg some (of_decide_eq_true h2)
theorem aA8 {e : dB} {s y : ByteArray} (he : EnvOk e) : ofE e s = some y ↔ ∃ v : Nat, e.1[v]? = some s /\ e.2[v]? = some y := by
 unfold ofE
 by_cases h : kK e.1 s = true
 ·rw [if_pos h]
  have hi := aEs (cJ.1 h)
  have hl := (List.getElem?_eq_some_iff.1 hi).1
  have hv : e.2[e.1.findIdx fun x => decide (x = s)]? = some (aZ e.2 (e.1.findIdx fun x => decide (x = s))) := by
   unfold aZ
   rw [List.getD_eq_getElem?_getD, qG (by rw [he.len]; exact hl)]; rfl
  refine ⟨fun h1 => ⟨_, hi, by rw [hv]; exact h1⟩, fun ⟨v, h1, h2⟩ => ?_⟩
  have : (e.1.findIdx fun x => decide (x = s)) = v := (List.getElem?_inj hl he.nodup).1 (hi.trans h1.symm)
  rw [this] at hv
  rw [this, <- hv]; exact h2
 ·rw [if_neg h]
  refine ⟨fun h1 => (by cases h1), fun ⟨v, h1, h2⟩ => absurd (cJ.2 (List.mem_of_getElem? h1)) h⟩
theorem aA9 {e : dB} {s : ByteArray} : ofE e s = none ↔ s ∉ e.1 := by
 unfold ofE
 rw [<- cJ]
 split
 ·rename_i h; simp [h]
 ·rename_i h; simp [h]
def xQ (e : dB) (t : aE) (y : ByteArray) : Prop := (t.1 = 3 -> y = t.2.1) /\ (t.1 = 1 -> ∃ v : Nat, e.1[v]? = some t.2.1 /\ e.2[v]? = some y)
structure EnvLe (e f : dB) : Prop where
 names : f.1.take e.1.length = e.1
 vals : f.2.take e.2.length = e.2
theorem EnvLe.refl (e : dB) : EnvLe e e := ⟨List.take_length, List.take_length⟩
theorem lW {l k : List ByteArray} (h : l.take k.length = k) {i : Nat} {x : ByteArray} (hx : k[i]? = some x) : l[i]? = some x := by
 have hi := (List.getElem?_eq_some_iff.1 hx).1
 rw [<- h, List.getElem?_take_of_lt hi] at hx
 exact hx
theorem EnvLe.fit {e f : dB} (h : EnvLe e f) {t : aE} {y : ByteArray} (ht : xQ e t y) : xQ f t y :=
 ⟨ht.1, fun h1 => by obtain ⟨v, a, b⟩ := ht.2 h1; exact ⟨v, lW h.names a, lW h.vals b⟩⟩
theorem iO {a b c : List ByteArray} (h : b.take a.length = a) (h' : c.take b.length = b) : c.take a.length = a := by
 have hl : a.length ≤ b.length := by have := congrArg List.length h; rw [List.length_take] at this; omega
 have h2 : (c.take b.length).take a.length = c.take a.length := by rw [List.take_take]; congr 1; omega
 rw [<- h2, h', h]
theorem EnvLe.trans {e f g : dB} (h : EnvLe e f) (h' : EnvLe f g) : EnvLe e g := ⟨iO h.names h'.names, iO h.vals h'.vals⟩
theorem aB9 {e f : dB} {t : aE} {y : ByteArray} (he : EnvOk e) (h : vG e t y = some f) : EnvOk f /\ EnvLe e f /\ f.1 = bE e.1 t /\ xQ f t y := by
 unfold vG at h
 split at h
 ·cases h
 ·rename_i h1
  have h3 : t.1 = 3 -> y = t.2.1 := fun h3 => Classical.byContradiction fun hn => h1 ⟨h3, fun e => hn e.symm⟩
  split at h
  ·rename_i h2
   cases h
   exact ⟨he, EnvLe.refl _, by unfold bE; rw [if_neg (fun h => h2 h.1)], h3, fun h => absurd h h2⟩
  ·rename_i h2
   have h2' : t.1 = 1 := Classical.not_not.1 h2
   split at h
   ·rename_i s hs
    split at h
    ·rename_i e1
     cases h
     subst e1
     have h4 := (aA8 he).1 hs
     refine ⟨he, EnvLe.refl _, ?_, h3, fun _ => h4⟩
     obtain ⟨v, h5, _⟩ := h4
     unfold bE
     rw [if_neg fun h => by have := cJ.2 (List.mem_of_getElem? h5); rw [this] at h; cases h.2]
    ·cases h
   ·rename_i hs
    cases h
    have h4 := aA9.1 hs
    refine ⟨⟨?_, by simp [he.len]⟩, ⟨List.take_left, List.take_left⟩, ?_, h3, fun _ => ⟨e.1.length, by simp, by rw [<- he.len]; simp⟩⟩
    ·refine List.nodup_append.2 ⟨he.nodup, by simp, fun a ha b hb => ?_⟩
     rw [List.mem_singleton] at hb
     subst hb
     intro e; subst e; exact h4 ha
    ·unfold bE
     rw [if_pos ⟨h2', by rw [<- Bool.not_eq_true, cJ]; exact h4⟩]
theorem aE0 {e g : dB} {t : aE} {y : ByteArray} (he : EnvOk e) (hg : EnvOk g) (hle : EnvLe e g) (hn : g.1.take (bE e.1 t).length = bE e.1 t) (h : xQ g t y) : ∃ f, vG e t y = some f /\ EnvLe f g := by
 unfold vG
 rw [if_neg (fun h1 => h1.2 (h.1 h1.1).symm)]
 by_cases h2 : t.1 ≠ 1
 ·rw [if_pos h2]; exact ⟨e, rfl, hle⟩
 ·rw [if_neg h2]
  have h2' : t.1 = 1 := Classical.not_not.1 h2
  obtain ⟨v, hv, hy⟩ := h.2 h2'
  cases hs : ofE e t.2.1 with
  | some s =>
   obtain ⟨u, hu, hs'⟩ := (aA8 he).1 hs
   have h3 := lW hle.names hu
   have : u = v := (List.getElem?_inj (List.getElem?_eq_some_iff.1 h3).1 hg.nodup).1 (h3.trans hv.symm)
   subst this
   have h4 := lW hle.vals hs'
   rw [hy] at h4
   cases h4
   exact ⟨e, by simp, hle⟩
  | none =>
   refine ⟨_, rfl, ?_⟩
   have h4 := aA9.1 hs
   have ea : bE e.1 t = e.1 ++ [t.2.1] := by unfold bE; rw [if_pos ⟨h2', by rw [<- Bool.not_eq_true, cJ]; exact h4⟩]
   rw [ea] at hn
   refine ⟨hn, ?_⟩
   have h5 : g.1[e.1.length]? = some t.2.1 := lW hn (by simp)
   have : e.1.length = v := (List.getElem?_inj (List.getElem?_eq_some_iff.1 h5).1 hg.nodup).1 (h5.trans hv.symm)
   subst this
   have h6 := hle.vals
   show g.2.take (e.2 ++ [y]).length = e.2 ++ [y]
   rw [List.length_append, List.length_singleton, List.take_add_one, h6, he.len, hy]; rfl
theorem uD (a : List ByteArray) (ts : List aE) (t : aE) : cK a (ts ++ [t]) = bE (cK a ts) t := by unfold cK; rw [List.foldl_append]; rfl
theorem aGe (a : List ByteArray) (t : aE) : (bE a t).take a.length = a := by
 unfold bE
 split
 ·exact List.take_left
 ·exact List.take_length
theorem qP : ∀ (ts : List aE) (a : List ByteArray), (cK a ts).take a.length = a
 | [], a => List.take_length
 | t :: ts, a => iO (aGe a t) (qP ts (bE a t))
theorem aEi (a : List ByteArray) (l : aM) : (bR a l).take a.length = a := by
 unfold bR
 split
 ·exact qP _ _
 ·exact List.take_length
theorem xO : ∀ (ls : List aM) (a : List ByteArray), (ls.foldl bR a).take a.length = a
 | [], a => List.take_length
 | l :: ls, a => iO (aEi a l) (xO ls (bR a l))
theorem lE (ls : List aM) (i : Nat) : (aA ls).take (aA (ls.take i)).length = aA (ls.take i) := by
 have h := xO (ls.drop i) (aA (ls.take i))
 have e : (ls.drop i).foldl bR (aA (ls.take i)) = aA ls := by
  unfold aA
  rw [<- List.foldl_append, List.take_append_drop]
 rw [e] at h; exact h
theorem gL {ls : List aM} {i : Nat} {l : aM} (h : ls[i]? = some l) : aA (ls.take (i + 1)) = bR (aA (ls.take i)) l := by
 rw [List.take_add_one, h]
 unfold aA
 rw [List.foldl_append]; rfl
theorem aIa {a : List ByteArray} (h : a.Nodup) (t : aE) : (bE a t).Nodup := by
 unfold bE
 split
 ·rename_i h1
  refine List.nodup_append.2 ⟨h, by simp, fun x hx y hy => ?_⟩
  rw [List.mem_singleton] at hy
  subst hy
  intro e; subst e
  have := cJ.2 hx
  rw [h1.2] at this; cases this
 ·exact h
theorem pO : ∀ (ts : List aE) {a : List ByteArray}, a.Nodup -> (cK a ts).Nodup
 | [], _, h => h
 | t :: ts, _, h => pO ts (aIa h t)
theorem pP : ∀ (ls : List aM) {a : List ByteArray}, a.Nodup -> (ls.foldl bR a).Nodup
 | [], _, h => h
 | l :: ls, _, h => pP ls (by unfold bR; split; exact pO _ h; exact h)
theorem cU (ls : List aM) : (aA ls).Nodup := pP ls List.nodup_nil
theorem lH {e : dB} {ts : List aE} {x : List ByteArray} (he : EnvOk e) : ∀ {k : Nat} {f : dB}, jN e ts x k = some f -> EnvOk f /\ EnvLe e f /\ f.1 = cK e.1 (ts.take k) /\ ∀ (i : Nat) (t : aE), i < k -> ts[i]? = some t -> xQ f t (aZ x i)
 | 0, f, h => by
  cases h
  exact ⟨he, EnvLe.refl _, by rw [List.take_zero]; rfl, fun i t hi => by omega⟩
 | k + 1, f, h => by
  unfold jN at h
  split at h
  ·rename_i g t hg ht
   obtain ⟨h1, h2, h3, h4⟩ := lH he hg
   obtain ⟨h5, h6, h7, h8⟩ := aB9 h1 h
   refine ⟨h5, h2.trans h6, ?_, fun i u hi hu => ?_⟩
   ·rw [h7, h3, List.take_add_one, ht]
    exact (uD _ _ _).symm
   ·rcases Nat.lt_or_eq_of_le (Nat.le_of_lt_succ hi) with h9 | h9
    ·exact h6.fit (h4 i u h9 hu)
    ·subst h9
     rw [ht] at hu; cases hu
     exact h8
  ·cases h
theorem qV {e g : dB} {ts : List aE} {x : List ByteArray} (he : EnvOk e) (hg : EnvOk g) (hle : EnvLe e g) : ∀ {k : Nat}, k ≤ ts.length -> g.1.take (cK e.1 (ts.take k)).length = cK e.1 (ts.take k) -> (∀ (i : Nat) (t : aE), ts[i]? = some t -> xQ g t (aZ x i)) -> ∃ f, jN e ts x k = some f /\ EnvLe f g
 | 0, _, _, _ => ⟨e, rfl, hle⟩
 | k + 1, hk, hn, h => by
  obtain ⟨t, ht⟩ : ∃ t, ts[k]? = some t := ⟨_, qG (by omega)⟩
  have e1 : ts.take (k + 1) = ts.take k ++ [t] := by rw [List.take_add_one, ht]; rfl
  rw [e1, uD] at hn
  obtain ⟨f, hf, hle2⟩ := qV he hg hle (by omega) (iO (aGe _ _) hn) h
  obtain ⟨h1, h2, h3, h4⟩ := lH he hf
  obtain ⟨f2, hf2, hle3⟩ := aE0 h1 hg hle2 (by rw [h3]; exact hn) (h k t ht)
  refine ⟨f2, ?_, hle3⟩
  unfold jN
  rw [hf, ht]; exact hf2
structure FromOk (ls : List aM) (R : Nat -> aC) (i : Nat) (e : dB) : Prop where
 ok : EnvOk e
 names : e.1 = aA (ls.take i)
 done : ∀ (j : Nat) (l : aM), j < i -> ls[j]? = some l -> l.1 = 1 -> ∃ x ∈ R j, x.length = (aB l).length /\ aCa e.1 e.2 (aB l) x
theorem FromOk.start (ls : List aM) (R : Nat -> aC) : FromOk ls R 0 ([], []) := ⟨⟨List.nodup_nil, rfl⟩, by rw [List.take_zero]; rfl, fun j l hj => by omega⟩
theorem FromOk.skip {ls : List aM} {R : Nat -> aC} {i : Nat} {e : dB} (h : FromOk ls R i e) {l : aM} (hl : ls[i]? = some l) (hk : l.1 ≠ 1) : FromOk ls R (i + 1) e :=
 ⟨h.ok, by rw [h.names, gL hl]; unfold bR; rw [if_neg hk], fun j m hj hm h1 => by
  rcases Nat.lt_or_eq_of_le (Nat.le_of_lt_succ hj) with h2 | h2
  ·exact h.done j m h2 hm h1
  ·subst h2; rw [hl] at hm; cases hm; exact absurd h1 hk⟩
theorem EnvLe.fitA {e f : dB} (h : EnvLe e f) {ts : List aE} {x : List ByteArray} (hx : aCa e.1 e.2 ts x) : aCa f.1 f.2 ts x := fun i t hi => h.fit (hx i t hi)
theorem FromOk.next {ls : List aM} {R : Nat -> aC} {i : Nat} {e f : dB} (h : FromOk ls R i e) {l : aM} (hl : ls[i]? = some l) (hk : l.1 = 1) {x : List ByteArray} (hx : x ∈ R i) (hxl : x.length = (aB l).length) (hf : jN e (aB l) x (aB l).length = some f) : FromOk ls R (i + 1) f /\ EnvLe e f := by
 obtain ⟨h1, h2, h3, h4⟩ := lH h.ok hf
 rw [List.take_length] at h3
 refine ⟨⟨h1, ?_, fun j m hj hm hm1 => ?_⟩, h2⟩
 ·rw [h3, h.names, gL hl]; unfold bR; rw [if_pos hk]
 ·rcases Nat.lt_or_eq_of_le (Nat.le_of_lt_succ hj) with h5 | h5
  ·obtain ⟨y, hy, hyl, hyf⟩ := h.done j m h5 hm hm1
   exact ⟨y, hy, hyl, h2.fitA hyf⟩
  ·subst h5; rw [hl] at hm; cases hm
   exact ⟨x, hx, hxl, fun j t hj2 => h4 j t (List.getElem?_eq_some_iff.1 hj2).1 hj2⟩
theorem FromOk.has {ls : List aM} {R : Nat -> aC} {i : Nat} {e : dB} (h : FromOk ls R i e) {l : aM} (hl : ls[i]? = some l) (hk : l.1 = 1) {V : List ByteArray} (hV : cG ls R V) (hp : V.take e.2.length = e.2) :
 ∃ x ∈ R i, x.length = (aB l).length /\ ∃ f, jN e (aB l) x (aB l).length = some f /\ V.take f.2.length = f.2 := by
 have h1 := hV.2 i l hl
 unfold jV at h1
 rw [if_pos hk] at h1
 obtain ⟨x, hx, hxl, hxf⟩ := h1
 have hg : EnvOk (aA ls, V) := ⟨cU ls, hV.1⟩
 have hle : EnvLe e (aA ls, V) := ⟨by rw [h.names]; exact lE ls i, hp⟩
 obtain ⟨f, hf, hle2⟩ := qV (x := x) h.ok hg hle (Nat.le_refl (aB l).length) (by
  rw [List.take_length, h.names]
  have := lE ls (i + 1)
  rw [gL hl] at this
  unfold bR at this
  rw [if_pos hk] at this
  exact this) hxf
 exact ⟨x, hx, hxl, f, hf, hle2.vals⟩
theorem FromOk.len {ls : List aM} {R : Nat -> aC} {i : Nat} {e : dB} (h : FromOk ls R i e) : e.2.length = (aA (ls.take i)).length := by rw [h.ok.len, h.names]
theorem FromOk.last {ls : List aM} {R : Nat -> aC} {e : dB} (h : FromOk ls R ls.length e) : e.1 = aA ls /\ (cG ls R e.2 ↔ ∀ (i : Nat) (l : aM), ls[i]? = some l -> l.1 ≠ 1 -> jV (aA ls) e.2 (R i) l) /\ ∀ V, cG ls R V -> V.length = e.2.length := by
 have hn : e.1 = aA ls := by rw [h.names, List.take_length]
 have hl : e.2.length = (aA ls).length := by rw [h.ok.len, hn]
 refine ⟨hn, ⟨fun hB i l hi _ => hB.2 i l hi, fun hB => ⟨hl, fun i l hi => ?_⟩⟩, fun V hV => by rw [hV.1, hl]⟩
 by_cases hk : l.1 = 1
 ·unfold jV
  rw [if_pos hk]
  have := h.done i l (List.getElem?_eq_some_iff.1 hi).1 hi hk
  rw [hn] at this; exact this
 ·exact hB i l hi hk
def cN (e : dB) (ts : List aE) (R : aC) : aC := zC aD (R.filterMap fun x => (jN e ts x ts.length).map (·.2))
theorem tL {e : dB} {ts : List aE} {R : aC} {q : List ByteArray} : q ∈ cN e ts R ↔ ∃ x ∈ R, ∃ f, jN e ts x ts.length = some f /\ f.2 = q := by
 unfold cN
 rw [aBc, List.mem_filterMap]
 refine ⟨fun ⟨x, hx, h⟩ => ?_, fun ⟨x, hx, f, hf, e⟩ => ⟨x, hx, by rw [hf, <- e]; rfl⟩⟩
 cases hf : jN e ts x ts.length with
 | none => rw [hf] at h; cases h
 | some f => rw [hf] at h; exact ⟨x, hx, f, hf, Option.some.inj h⟩
theorem aAi (e : dB) (ts : List aE) (R : aC) : Strict aD (cN e ts R) := Strict.new cZ _
section
variable {ls : List aM} {R : Nat -> aC} {i : Nat} {e : dB} {l : aM}
theorem FromOk.each (h : FromOk ls R i e) (hl : ls[i]? = some l) (hk : l.1 = 1) {R' : aC} (hR : ∀ x, x ∈ R' ↔ x ∈ R i /\ x.length = (aB l).length) {q : List ByteArray} (hq : q ∈ cN e (aB l) R') :
 FromOk ls R (i + 1) (aA (ls.take (i + 1)), q) /\ q.take e.2.length = e.2 /\ q.length = (aA (ls.take (i + 1))).length := by
 obtain ⟨x, hx, f, hf, rfl⟩ := tL.1 hq
 obtain ⟨h1, h2⟩ := (hR x).1 hx
 obtain ⟨h3, h4⟩ := h.next hl hk h1 h2 hf
 have e1 : f = (aA (ls.take (i + 1)), f.2) := by rw [<- h3.names]
 rw [<- e1]
 exact ⟨h3, h4.vals, h3.len⟩
theorem FromOk.whole (h : FromOk ls R i e) (hl : ls[i]? = some l) (hk : l.1 = 1) {R' : aC} (hR : ∀ x, x ∈ R' ↔ x ∈ R i /\ x.length = (aB l).length) {V : List ByteArray} (hV : cG ls R V) (hp : V.take e.2.length = e.2) : V.take (aA (ls.take (i + 1))).length ∈ cN e (aB l) R' := by
 obtain ⟨x, hx, hxl, f, hf, hfv⟩ := h.has hl hk hV hp
 obtain ⟨h3, h4⟩ := h.next hl hk hx hxl hf
 have e1 := h3.len
 rw [<- e1, hfv]
 exact tL.2 ⟨x, (hR x).2 ⟨hx, hxl⟩, f, hf, rfl⟩
theorem aH0 {V : List ByteArray} (hV : cG ls R V) (i : Nat) : (aA (ls.take i)).length ≤ V.length := by
 have h := congrArg List.length (lE ls i)
 rw [List.length_take] at h
 rw [hV.1]; omega
theorem aIy (h : FromOk ls R i e) (hl : ls[i]? = some l) (hk : l.1 = 1) {R' : aC} (hR : ∀ x, x ∈ R' ↔ x ∈ R i /\ x.length = (aB l).length) {k : Nat} {q : List ByteArray} (hq : (cN e (aB l) R')[k]? = some q) {L L' : aC}
 (hL : PartQ (cG ls R) e.2 (aA (ls.take (i + 1))).length (fun y => y ∈ (cN e (aB l) R').take k) L) (hL' : AllB (cG ls R) q L') : PartQ (cG ls R) e.2 (aA (ls.take (i + 1))).length (fun y => y ∈ (cN e (aB l) R').take (k + 1)) (L ++ L') := by
 obtain ⟨h1, h2, h3⟩ := h.each hl hk hR (List.mem_of_getElem? hq)
 have hle : e.2.length ≤ (aA (ls.take (i + 1))).length := by
  have := congrArg List.length h2
  rw [List.length_take] at this; omega
 refine (hL.next h3 h2 hle (fun V hV => aH0 hV _) hL' fun y hy => ?_).congr fun y => ?_
 ·obtain ⟨j, hj⟩ := List.mem_iff_getElem?.1 hy
  have hjk : j < k := by
   have := (List.getElem?_eq_some_iff.1 hj).1
   rw [List.length_take] at this; omega
  rw [List.getElem?_take_of_lt hjk] at hj
  obtain ⟨l1, e1⟩ := List.getElem?_eq_some_iff.1 hj
  obtain ⟨l2, e2⟩ := List.getElem?_eq_some_iff.1 hq
  have := List.pairwise_iff_getElem.1 (aAi e (aB l) R') j k l1 l2 hjk
  rw [e1, e2] at this
  exact this
 ·rw [List.take_add_one, hq, List.mem_append]
  simp
theorem aKv (h : FromOk ls R i e) (hl : ls[i]? = some l) (hk : l.1 = 1) {R' : aC} (hR : ∀ x, x ∈ R' ↔ x ∈ R i /\ x.length = (aB l).length) {L : aC}
 (hL : PartQ (cG ls R) e.2 (aA (ls.take (i + 1))).length (fun y => y ∈ cN e (aB l) R') L) : AllB (cG ls R) e.2 L := hL.all fun V hV hp => h.whole hl hk hR hV hp
end
structure CurZ where
 keys : List ByteArray
 lo : Nat
 hi : Nat
structure CurOk (c : CurZ) : Prop where
 le : c.lo ≤ c.hi
 few : c.hi ≤ c.keys.length
 rise : ∀ (k l : Nat) (x y : ByteArray), c.lo ≤ k -> k < l -> l < c.hi -> c.keys[k]? = some x -> c.keys[l]? = some y -> bD x.toList y.toList < 0
def kM (c : CurZ) (p : Nat) (x : ByteArray) : Prop := ∃ k, p ≤ k /\ k < c.hi /\ c.keys[k]? = some x
theorem jC {a b c : ByteArray} (h : bD a.toList b.toList < 0) (h' : bD b.toList c.toList < 0) : bD a.toList c.toList < 0 := by
 rw [eO] at h h' ⊢
 exact eT h h'
theorem wJ {a b c : ByteArray} (h : bD a.toList b.toList < 0) (h' : ¬ bD c.toList b.toList < 0) : bD a.toList c.toList < 0 := by
 rcases jD b.toList c.toList with h2 | h2 | h2
 ·exact jC h (by omega)
 ·rw [<- dP (fC h2)]; exact h
 ·have := fZ b.toList c.toList
  omega
section
variable {Sol : List ByteArray -> Prop} {p : List ByteArray} {Cs : List CurZ}
structure LeapInv (Sol : List ByteArray -> Prop) (p : List ByteArray) (Cs : List CurZ) (pos : Nat -> Nat) (i : Nat) (D : ByteArray -> Prop) (L : aC) : Prop where
 ok : ∀ c ∈ Cs, CurOk c
 here : i < Cs.length
 inn : ∀ j c, Cs[j]? = some c -> c.lo ≤ pos j /\ pos j ≤ c.hi
 told : PartB Sol p D L
 common : ∀ V, Sol V -> V.take p.length = p -> ∃ x, V[p.length]? = some x /\ (D x \/ ∀ (j : Nat) (c : CurZ), Cs[j]? = some c -> kM c (pos j) x)
 below : ∀ c x y, Cs[i]? = some c -> D x -> kM c (pos i) y -> bD x.toList y.toList < 0
theorem LeapInv.start (hok : ∀ c ∈ Cs, CurOk c) (hne : 0 < Cs.length) (hc : ∀ V, Sol V -> V.take p.length = p -> ∃ x, V[p.length]? = some x /\ ∀ (j : Nat) (c : CurZ), Cs[j]? = some c -> kM c c.lo x) : LeapInv Sol p Cs (fun j => (Cs.getD j ⟨[], 0, 0⟩).lo) 0 (fun _ => False) [] := by
 refine ⟨hok, hne, fun j c hj => ?_, PartB.none fun V _ _ x _ h => h, fun V h1 h2 => ?_, fun c x y _ h => h.elim⟩
 ·have e : Cs.getD j ⟨[], 0, 0⟩ = c := by rw [List.getD_eq_getElem?_getD, hj]; rfl
  show _ ≤ (Cs.getD j ⟨[], 0, 0⟩).lo /\ (Cs.getD j ⟨[], 0, 0⟩).lo ≤ _
  rw [e]
  exact ⟨Nat.le_refl _, (hok c (List.mem_of_getElem? hj)).le⟩
 ·obtain ⟨x, hx, h3⟩ := hc V h1 h2
  refine ⟨x, hx, .inr fun j c hj => ?_⟩
  have e : Cs.getD j ⟨[], 0, 0⟩ = c := by rw [List.getD_eq_getElem?_getD, hj]; rfl
  show kM c (Cs.getD j ⟨[], 0, 0⟩).lo x
  rw [e]; exact h3 j c hj
theorem LeapInv.end {pos : Nat -> Nat} {i : Nat} {D : ByteArray -> Prop} {L : aC} (h : LeapInv Sol p Cs pos i D L) {j : Nat} {c : CurZ} (hj : Cs[j]? = some c) (he : pos j = c.hi) : AllB Sol p L := by
 refine h.told.all fun V h1 h2 => ?_
 obtain ⟨x, hx, h3⟩ := h.common V h1 h2
 refine ⟨x, hx, ?_⟩
 rcases h3 with h3 | h3
 ·exact h3
 ·obtain ⟨k, h4, h5, _⟩ := h3 j c hj
  omega
theorem LeapInv.seek {pos : Nat -> Nat} {i : Nat} {D : ByteArray -> Prop} {L : aC} (h : LeapInv Sol p Cs pos i D L) {ci : CurZ} (hi : Cs[i]? = some ci) (hlt : pos i < ci.hi) {key : ByteArray} (hk : ci.keys[pos i]? = some key) {j : Nat} {c : CurZ} (hj : Cs[j]? = some c) {q : Nat} (hq : pos j ≤ q) (hq2 : q ≤ c.hi) (hb : ∀ k x, pos j ≤ k -> k < q -> c.keys[k]? = some x -> bD x.toList key.toList < 0) (hij : j = i -> q = pos i) :
 LeapInv Sol p Cs (fun m => if m = j then q else pos m) i D L := by
 have hp := h.inn j c hj
 refine ⟨h.ok, h.here, fun m d hm => ?_, h.told, fun V h1 h2 => ?_, fun d x y hd hx hy => ?_⟩
 ·show _ ≤ (if m = j then q else pos m) /\ (if m = j then q else pos m) ≤ _
  split
  ·rename_i e; subst e
   rw [hj] at hm; cases hm
   exact ⟨by omega, hq2⟩
  ·exact h.inn m d hm
 ·obtain ⟨x, hx, h3⟩ := h.common V h1 h2
  refine ⟨x, hx, ?_⟩
  rcases h3 with h3 | h3
  ·exact .inl h3
  ·refine .inr fun m d hm => ?_
   show kM d (if m = j then q else pos m) x
   split
   ·rename_i e; subst e
    rw [hj] at hm; cases hm
    obtain ⟨k, h4, h5, h6⟩ := h3 m c hj
    obtain ⟨k', h7, h8, h9⟩ := h3 i ci hi
    refine ⟨k, ?_, h5, h6⟩
    rcases Nat.lt_or_ge k q with h10 | h10
    ·exfalso
     have h11 := hb k x h4 h10 h6
     rcases Nat.lt_or_eq_of_le h7 with h12 | h12
     ·have h13 := (h.ok ci (List.mem_of_getElem? hi)).rise (pos i) k' key x (h.inn i ci hi).1 h12 h8 hk h9
      have := fZ x.toList key.toList
      omega
     ·subst h12
      rw [hk] at h9; cases h9
      rw [dX] at h11; omega
    ·exact h10
   ·exact h3 m d hm
 ·have e : (if i = j then q else pos i) = pos i := by
   split
   ·rename_i e; exact hij e.symm
   ·rfl
  have hy' : kM d (pos i) y := by
   have h0 : kM d (if i = j then q else pos i) y := hy
   rw [e] at h0; exact h0
  exact h.below d x y hd hx hy'
theorem LeapInv.lead {pos : Nat -> Nat} {i : Nat} {D : ByteArray -> Prop} {L : aC} (h : LeapInv Sol p Cs pos i D L) {ci : CurZ} (hi : Cs[i]? = some ci) (hlt : pos i < ci.hi) {key : ByteArray} (hk : ci.keys[pos i]? = some key) {j : Nat} {c : CurZ} (hj : Cs[j]? = some c) (hl2 : pos j < c.hi) {key2 : ByteArray} (hk2 : c.keys[pos j]? = some key2) (hge : ¬ bD key2.toList key.toList < 0) : LeapInv Sol p Cs pos j D L := by
 refine ⟨h.ok, (List.getElem?_eq_some_iff.1 hj).1, h.inn, h.told, h.common, fun d x y hd hx hy => ?_⟩
 rw [hj] at hd; cases hd
 have h1 := h.below ci x key hi hx ⟨pos i, Nat.le_refl _, hlt, hk⟩
 have h2 := wJ h1 hge
 obtain ⟨k, h3, h4, h5⟩ := hy
 rcases Nat.lt_or_eq_of_le h3 with h6 | h6
 ·exact jC h2 ((h.ok c (List.mem_of_getElem? hj)).rise (pos j) k key2 y (h.inn j c hj).1 h6 h4 hk2 h5)
 ·subst h6
  rw [hk2] at h5; cases h5
  exact h2
theorem LeapInv.next {pos : Nat -> Nat} {i : Nat} {D : ByteArray -> Prop} {L L' : aC} (h : LeapInv Sol p Cs pos i D L) {ci : CurZ} (hi : Cs[i]? = some ci) (hlt : pos i < ci.hi) {key : ByteArray} (hk : ci.keys[pos i]? = some key) (h' : AllB Sol (p ++ [key]) L') : LeapInv Sol p Cs (fun m => if m = i then pos i + 1 else pos m) i (fun y => D y \/ y = key) (L ++ L') := by
 refine ⟨h.ok, h.here, fun m d hm => ?_, h.told.next h' fun V h1 h2 y hy hD => h.below ci y key hi hD ⟨pos i, Nat.le_refl _, hlt, hk⟩, fun V h1 h2 => ?_, fun d x y hd hx hy => ?_⟩
 ·show _ ≤ (if m = i then pos i + 1 else pos m) /\ (if m = i then pos i + 1 else pos m) ≤ _
  split
  ·rename_i e; subst e
   rw [hi] at hm; cases hm
   have := (h.inn m ci hi).1
   exact ⟨by omega, hlt⟩
  ·exact h.inn m d hm
 ·obtain ⟨x, hx, h3⟩ := h.common V h1 h2
  refine ⟨x, hx, ?_⟩
  rcases h3 with h3 | h3
  ·exact .inl (.inl h3)
  ·by_cases e : x = key
   ·exact .inl (.inr e)
   ·refine .inr fun m d hm => ?_
    show kM d (if m = i then pos i + 1 else pos m) x
    split
    ·rename_i e2; subst e2
     rw [hi] at hm; cases hm
     obtain ⟨k, h4, h5, h6⟩ := h3 m ci hi
     refine ⟨k, ?_, h5, h6⟩
     rcases Nat.lt_or_eq_of_le h4 with h7 | h7
     ·exact h7
     ·subst h7; rw [hk] at h6; cases h6; exact absurd rfl e
    ·exact h3 m d hm
 ·rw [hi] at hd; cases hd
  have hy' : kM ci (pos i + 1) y := by
   have h0 : kM ci (if i = i then pos i + 1 else pos i) y := hy
   rw [if_pos rfl] at h0; exact h0
  obtain ⟨k, h3, h4, h5⟩ := hy'
  have h6 := (h.ok ci (List.mem_of_getElem? hi)).rise (pos i) k key y (h.inn i ci hi).1 (by omega) h4 hk h5
  rcases hx with hx | hx
  ·exact h.below ci x y hi hx ⟨k, by omega, h4, h5⟩
  ·rw [hx]; exact h6
end
section
variable {W : aC} {d : Nat}
def SpanOf (W : aC) (d : Nat) (q : List ByteArray) (a b : Nat) : Prop := ∃ lo hi, Iv W q lo hi /\ a = aO W d q.length lo /\ b = aO W d q.length hi
theorem aDi (i : Nat) : aO W d i 0 = 0 := by
 have := cW W d i 0
 unfold aO; omega
theorem kO (i : Nat) {m n : Nat} (h : m ≤ n) : aO W d i m ≤ aO W d i n := by
 obtain ⟨r, e, _⟩ := lX W d i h
 unfold aO
 rw [e, List.length_append]; omega
theorem aGp (hne : 0 < W.length) : SpanOf W d [] 0 (aO W d 0 W.length) :=
 ⟨0, W.length, ⟨hne, Nat.le_refl _, fun n x hx => ⟨fun _ => ⟨Nat.zero_le _, (List.getElem?_eq_some_iff.1 hx).1⟩, fun _ => rfl⟩⟩, (aDi 0).symm, rfl⟩
theorem mA {i n k s : Nat} (h : (aW W d i n)[k]? = some s) {m : Nat} (hm : m ≤ n) : k < aO W d i m ↔ s < m := by
 obtain ⟨r, e, hr⟩ := lX W d i hm
 rw [e] at h
 unfold aO
 refine ⟨fun hk => ?_, fun hs => ?_⟩
 ·rw [List.getElem?_append_left hk] at h
  exact (kY h).2
 ·rcases Nat.lt_or_ge k (aW W d i m).length with h1 | h1
  ·exact h1
  ·rw [List.getElem?_append_right h1] at h
   have := hr _ (List.mem_of_getElem? h)
   omega
theorem WaysOk.cell (h : WaysOk W d) {n : Nat} {r : List ByteArray} (hr : W[n]? = some r) {i : Nat} (hi : i < d) : ∃ x, r[i]? = some x /\ r.take (i + 1) = r.take i ++ [x] := by
 have hl : i < r.length := by rw [h.len r (List.mem_of_getElem? hr)]; exact hi
 refine ⟨_, qG hl, ?_⟩
 rw [List.take_add_one, qG hl]; rfl
theorem SpanOf.place (hW : WaysOk W d) {q : List ByteArray} {a b : Nat} (h : SpanOf W d q a b) (hq : q.length < d) {k : Nat} (ha : a ≤ k) (hb : k < b) :
 ∃ s r x, (aW W d q.length W.length)[k]? = some s /\ W[s]? = some r /\ r.take (q.length + 1) = q ++ [x] /\ (bJ W d q.length W.length)[k]? = some x /\ Iv W (q ++ [x]) s ((aW W d q.length W.length).getD (k + 1) W.length) := by
 obtain ⟨lo, hi, hI, rfl, rfl⟩ := h
 have hkS : k < (aW W d q.length W.length).length := Nat.lt_of_lt_of_le hb (kO _ hI.few)
 obtain ⟨s, hs⟩ : ∃ s, (aW W d q.length W.length)[k]? = some s := ⟨_, qG hkS⟩
 have hsn := (kY hs).2
 have h1 : s < hi := (mA hs hI.few).1 hb
 have h2 : ¬ s < lo := fun h => Nat.not_lt.2 ha ((mA hs (Nat.le_trans (Nat.le_of_lt hI.le) hI.few)).2 h)
 obtain ⟨r, hr⟩ : ∃ r, W[s]? = some r := ⟨_, qG hsn⟩
 obtain ⟨x, hx, et⟩ := hW.cell hr hq
 have eq : r.take q.length = q := (hI.iff s r hr).2 ⟨by omega, h1⟩
 rw [eq] at et
 have hst := (kZ hq).1 (List.mem_of_getElem? hs)
 refine ⟨s, r, x, hs, hr, et, ?_, ?_, ?_, ?_⟩
 ·unfold bJ
  rw [List.getElem?_map, hs]
  show some ((W.getD s []).getD q.length ByteArray.empty) = some x
  rw [bC hr, bC hx]
 ·rw [List.getD_eq_getElem?_getD]
  cases h4 : (aW W d q.length W.length)[k + 1]? with
  | none => exact hsn
  | some e =>
   obtain ⟨l1, e1⟩ := List.getElem?_eq_some_iff.1 hs
   obtain ⟨l2, e2⟩ := List.getElem?_eq_some_iff.1 h4
   have := List.pairwise_iff_getElem.1 (fA W d q.length W.length) k (k + 1) l1 l2 (by omega)
   rw [e1, e2] at this
   exact this
 ·rw [List.getD_eq_getElem?_getD]
  cases h4 : (aW W d q.length W.length)[k + 1]? with
  | none => exact Nat.le_refl _
  | some e => exact Nat.le_of_lt (kY h4).2
 ·intro n y hy
  have hn := (List.getElem?_eq_some_iff.1 hy).1
  rw [List.length_append, List.length_singleton, <- et]
  refine ⟨fun he => ⟨?_, ?_⟩, fun ⟨h3, h4⟩ => ?_⟩
  ·rcases Nat.lt_or_ge n s with h3 | h3
   ·exfalso
    rcases dW.1 hst.2 with h4 | h4
    ·omega
    ·obtain ⟨z, hz⟩ : ∃ z, W[s - 1]? = some z := ⟨_, qG (by omega)⟩
     rw [bC hz, bC hr] at h4
     exact h4 ((hW.between hy hz hr (by omega) (by omega) he).trans he)
   ·exact h3
  ·rcases Nat.lt_or_ge n ((aW W d q.length W.length).getD (k + 1) W.length) with h3 | h3
   ·exact h3
   ·exfalso
    rw [List.getD_eq_getElem?_getD] at h3
    cases h4 : (aW W d q.length W.length)[k + 1]? with
    | none =>
     rw [h4] at h3
     have h5 : W.length ≤ n := h3
     omega
    | some e =>
     rw [h4] at h3
     have h5 : e ≤ n := h3
     have h6 := (kZ hq).1 (List.mem_of_getElem? h4)
     obtain ⟨l1, e1⟩ := List.getElem?_eq_some_iff.1 hs
     obtain ⟨l2, e2⟩ := List.getElem?_eq_some_iff.1 h4
     have h7 := List.pairwise_iff_getElem.1 (fA W d q.length W.length) k (k + 1) l1 l2 (by omega)
     rw [e1, e2] at h7
     obtain ⟨z, hz⟩ : ∃ z, W[e - 1]? = some z := ⟨_, qG (by omega)⟩
     obtain ⟨u, hu⟩ : ∃ u, W[e]? = some u := ⟨_, qG (by omega)⟩
     rcases dW.1 h6.2 with h8 | h8
     ·omega
     ·rw [bC hz, bC hu] at h8
      exact h8 ((hW.between hr hz hy (by omega) (by omega) he.symm).trans (hW.between hr hu hy (by omega) h5 he.symm).symm)
  ·-- no start lies between
   have key : ∀ m, s ≤ m -> m ≤ n -> ∀ z, W[m]? = some z -> z.take (q.length + 1) = r.take (q.length + 1) := by
    intro m
    induction m with
    | zero =>
     intro h5 _ z hz
     have : s = 0 := by omega
     rw [this] at hr
     rw [hr] at hz; cases hz; rfl
    | succ m ih =>
     intro h5 h6 z hz
     rcases Nat.lt_or_eq_of_le h5 with h7 | h7
     ·obtain ⟨u, hu⟩ : ∃ u, W[m]? = some u := ⟨_, qG (by omega)⟩
      have h8 := ih (by omega) (by omega) u hu
      have h9 : ¬ cP W (q.length + 1) (m + 1) = true := fun h10 => by
       have hm := (kZ (W := W) (n := W.length) hq).2 ⟨(List.getElem?_eq_some_iff.1 hz).1, h10⟩
       obtain ⟨j, hj⟩ := List.mem_iff_getElem?.1 hm
       obtain ⟨l1, e1⟩ := List.getElem?_eq_some_iff.1 hs
       obtain ⟨l2, e2⟩ := List.getElem?_eq_some_iff.1 hj
       have hjk : k < j := by
        rcases Nat.lt_trichotomy k j with h | h | h
        ·exact h
        ·subst h; rw [hs] at hj; cases hj; omega
        ·have := List.pairwise_iff_getElem.1 (fA W d q.length W.length) j k l2 l1 h
         rw [e1, e2] at this; omega
       rw [List.getD_eq_getElem?_getD, qG (by omega : k + 1 < _)] at h4
       have h11 : n < (aW W d q.length W.length)[k + 1] := h4
       rcases Nat.lt_or_eq_of_le (show k + 1 ≤ j from hjk) with h | h
       ·have := List.pairwise_iff_getElem.1 (fA W d q.length W.length) (k + 1) j (by omega) l2 h
        rw [e2] at this; omega
       ·subst h; rw [e2] at h11; omega
      have h12 : u.take (q.length + 1) = z.take (q.length + 1) := by
       refine Classical.byContradiction fun h13 => h9 (dW.2 (.inr ?_))
       rw [Nat.add_sub_cancel, bC hu, bC hz]; exact h13
      rw [<- h12]; exact h8
     ·rw [<- h7] at hz
      rw [hr] at hz; cases hz; rfl
   exact key n h3 (Nat.le_refl _) y hy
theorem SpanOf.all (hW : WaysOk W d) {q : List ByteArray} {a b : Nat} (h : SpanOf W d q a b) (hq : q.length < d) {x : ByteArray} {r : List ByteArray} (hr : r ∈ W) (he : r.take (q.length + 1) = q ++ [x]) :
 ∃ k, a ≤ k /\ k < b /\ (bJ W d q.length W.length)[k]? = some x := by
 have hS := h
 obtain ⟨lo, hi, hI, ea, eb⟩ := h
 obtain ⟨n, hn⟩ := List.mem_iff_getElem?.1 hr
 have hnl := (List.getElem?_eq_some_iff.1 hn).1
 have e1 : r.take q.length = q := by
  have := congrArg (List.take q.length) he
  rw [List.take_take, List.take_left] at this
  rw [show min q.length (q.length + 1) = q.length by omega] at this
  exact this
 obtain ⟨h1, h2⟩ := (hI.iff n r hn).1 e1
 have hlo : cP W (q.length + 1) lo = true := by
  refine dW.2 ?_
  by_cases h0 : lo = 0
  ·exact .inl h0
  ·refine .inr fun h3 => ?_
   obtain ⟨z, hz⟩ : ∃ z, W[lo - 1]? = some z := ⟨_, qG (by omega)⟩
   obtain ⟨u, hu⟩ : ∃ u, W[lo]? = some u := ⟨_, qG (by omega)⟩
   rw [bC hz, bC hu] at h3
   have h4 : z.take q.length = u.take q.length := by
    have := congrArg (List.take q.length) h3
    rw [List.take_take, List.take_take] at this
    rw [show min q.length (q.length + 1) = q.length by omega] at this
    exact this
   have h5 := (hI.iff lo u hu).2 ⟨Nat.le_refl _, hI.le⟩
   have h6 := ((hI.iff (lo - 1) z hz).1 (h4.trans h5)).1
   omega
 have hml : lo ∈ aW W d q.length (n + 1) := (kZ hq).2 ⟨by omega, hlo⟩
 obtain ⟨j, hj⟩ := List.mem_iff_getElem?.1 hml
 have hjl := (List.getElem?_eq_some_iff.1 hj).1
 obtain ⟨k, ek⟩ : ∃ k, aO W d q.length (n + 1) = k + 1 := ⟨aO W d q.length (n + 1) - 1, by unfold aO; omega⟩
 have hka : a ≤ k := by
  have h3 : ¬ j < aO W d q.length lo := fun h => absurd ((mA hj (by omega)).1 h) (by omega)
  have h4 : j < aO W d q.length (n + 1) := hjl
  omega
 have hkb : k < b := by
  have := kO (W := W) (d := d) q.length (show n + 1 ≤ hi from h2)
  omega
 obtain ⟨s, r', x', hs, hr', he', hk', hI'⟩ := hS.place hW hq hka hkb
 refine ⟨k, hka, hkb, ?_⟩
 have hsn : s < n + 1 := (mA hs (by omega)).1 (by omega)
 have hne : n < (aW W d q.length W.length).getD (k + 1) W.length := by
  rw [List.getD_eq_getElem?_getD]
  cases h4 : (aW W d q.length W.length)[k + 1]? with
  | none => exact hnl
  | some e =>
   have h5 : ¬ e < n + 1 := fun h => absurd ((mA h4 (by omega)).2 h) (by omega)
   show n < e
   omega
 have h7 := (hI'.iff n r hn).2 ⟨by omega, hne⟩
 rw [List.length_append, List.length_singleton, he] at h7
 have h8 := (List.append_inj h7 rfl).2
 rw [hk']
 simpa using h8.symm
theorem SpanOf.rise (hW : WaysOk W d) {q : List ByteArray} {a b : Nat} (h : SpanOf W d q a b) (hq : q.length < d) {k l : Nat} (ha : a ≤ k) (hl : k < l) (hb : l < b) {x y : ByteArray} (hx : (bJ W d q.length W.length)[k]? = some x) (hy : (bJ W d q.length W.length)[l]? = some y) : bD x.toList y.toList < 0 := by
 obtain ⟨s, r, x', hs, hr, he, hk, hI⟩ := h.place hW hq ha (by omega)
 obtain ⟨t, u, y', ht, hu, he2, hk2, hI2⟩ := h.place hW hq (show a ≤ l by omega) hb
 rw [hk] at hx; cases hx
 rw [hk2] at hy; cases hy
 obtain ⟨l1, e1⟩ := List.getElem?_eq_some_iff.1 hs
 obtain ⟨l2, e2⟩ := List.getElem?_eq_some_iff.1 ht
 have hst := List.pairwise_iff_getElem.1 (fA W d q.length W.length) k l l1 l2 hl
 rw [e1, e2] at hst
 have h1 := jS (q.length + 1) ((hW.len r (List.mem_of_getElem? hr)).trans (hW.len u (List.mem_of_getElem? hu)).symm) (hW.le hr hu (Nat.le_of_lt hst))
 rw [he, he2, sC] at h1
 have h2 : bD x.toList y.toList ≠ 0 := fun e => by
  have exy : x = y := dP (fC e)
  subst exy
  have h3 := ((hI2.iff s r hr).1 (by rw [List.length_append, List.length_singleton]; exact he)).1
  omega
 omega
theorem SpanOf.down (hW : WaysOk W d) {q : List ByteArray} {a b : Nat} (h : SpanOf W d q a b) (hq : q.length < d) {k : Nat} (ha : a ≤ k) (hb : k < b) {x : ByteArray} (hx : (bJ W d q.length W.length)[k]? = some x) :
 ∃ f t, (bT W d q.length W.length ++ [(aO W d (q.length + 1) W.length : Int)])[k]? = some ((f : Nat) : Int) /\ (bT W d q.length W.length ++ [(aO W d (q.length + 1) W.length : Int)])[k + 1]? = some ((t : Nat) : Int) /\ SpanOf W d (q ++ [x]) f t := by
 obtain ⟨s, r, x', hs, hr, he, hk, hI⟩ := h.place hW hq ha hb
 rw [hk] at hx; cases hx
 refine ⟨aO W d (q.length + 1) s, aO W d (q.length + 1) ((aW W d q.length W.length).getD (k + 1) W.length), ?_, ?_, s, _, hI, by rw [List.length_append, List.length_singleton], by rw [List.length_append, List.length_singleton]⟩
 ·have hkl : k < (bT W d q.length W.length).length := by rw [gO]; exact (List.getElem?_eq_some_iff.1 hs).1
  rw [List.getElem?_append_left hkl]
  unfold bT
  rw [List.getElem?_map, hs]; rfl
 ·rw [List.getD_eq_getElem?_getD]
  cases h4 : (aW W d q.length W.length)[k + 1]? with
  | none =>
   have h5 := List.getElem?_eq_none_iff.1 h4
   have h6 := (List.getElem?_eq_some_iff.1 hs).1
   have h7 : (bT W d q.length W.length).length = k + 1 := by rw [gO]; unfold aO; omega
   rw [List.getElem?_append_right (by omega), h7, Nat.sub_self]; rfl
  | some e =>
   have hkl : k + 1 < (bT W d q.length W.length).length := by rw [gO]; exact (List.getElem?_eq_some_iff.1 h4).1
   rw [List.getElem?_append_left hkl]
   unfold bT
   rw [List.getElem?_map, h4]; rfl
theorem SpanOf.le {q : List ByteArray} {a b : Nat} (h : SpanOf W d q a b) : a ≤ b /\ b ≤ aO W d q.length W.length := by
 obtain ⟨lo, hi, hI, rfl, rfl⟩ := h
 exact ⟨kO _ (Nat.le_of_lt hI.le), kO _ hI.few⟩
theorem SpanOf.some (hW : WaysOk W d) {q : List ByteArray} {a b : Nat} (h : SpanOf W d q a b) (hq : q.length < d) : a < b := by
 have hS := h
 obtain ⟨lo, hi, hI, ea, eb⟩ := h
 obtain ⟨r, hr⟩ : ∃ r, W[lo]? = .some r := ⟨_, qG (Nat.lt_of_lt_of_le hI.le hI.few)⟩
 obtain ⟨x, hx, et⟩ := hW.cell hr hq
 have e := (hI.iff lo r hr).2 ⟨Nat.le_refl _, hI.le⟩
 rw [e] at et
 obtain ⟨k, h1, h2, _⟩ := hS.all hW hq (List.mem_of_getElem? hr) et
 omega
end
section
variable {W : aC} {d : Nat}
theorem qR {i n : Nat} (hi : i < d) {r : List ByteArray} {x : ByteArray} (hr : W[n]? = some r) (hx : r[i]? = some x) : bJ W d i (n + 1) = bJ W d i n ++ if cP W (i + 1) n then [x] else [] := by
 unfold bJ
 rw [lY W hi, List.map_append]
 congr 1
 split
 ·rw [List.map_singleton, bC hr, bC hx]
 ·rfl
theorem qU {i n : Nat} (hi : i < d) : bT W d i (n + 1) = bT W d i n ++ if cP W (i + 1) n then [(aO W d (i + 1) n : Int)] else [] := by
 unfold bT
 rw [lY W hi, List.map_append]
 congr 1
 split
 ·rfl
 ·rfl
theorem oO {n : Nat} : aO W d d n = n := by unfold aO; rw [lZ W (Nat.lt_irrefl d), List.length_range]
theorem aD8 {n : Nat} : cP W 0 n = (n == 0) := by
 unfold cP
 rw [List.take_zero, List.take_zero]
 simp
structure PathOk (W : aC) (d : Nat) (q : List ByteArray) (st : List (Nat × Nat)) : Prop where
 len : st.length = q.length
 at_ : ∀ (j : Nat) (e : Nat × Nat), st[j]? = some e -> ∃ a x, SpanOf W d (q.take j) a e.2 /\ a ≤ e.1 /\ e.1 < e.2 /\ q[j]? = some x /\ (bJ W d j W.length)[e.1]? = some x
 few : q.length ≤ d
theorem PathOk.nil : PathOk W d [] [] := ⟨rfl, fun j e h => by simp at h, Nat.zero_le _⟩
theorem PathOk.push {q : List ByteArray} {st : List (Nat × Nat)} (h : PathOk W d q st) (hq : q.length < d) {a b k : Nat} {x : ByteArray} (hs : SpanOf W d q a b) (ha : a ≤ k) (hb : k < b) (hx : (bJ W d q.length W.length)[k]? = some x) : PathOk W d (q ++ [x]) (st ++ [(k, b)]) := by
 refine ⟨by simp [h.len], fun j e he => ?_, by simp; omega⟩
 rcases Nat.lt_trichotomy j st.length with h1 | h1 | h1
 ·rw [List.getElem?_append_left h1] at he
  obtain ⟨a', x', h2, h3, h4, h5, h6⟩ := h.at_ j e he
  have hj : j < q.length := by rw [<- h.len]; exact h1
  exact ⟨a', x', by rw [List.take_append_of_le_length (by omega)]; exact h2, h3, h4, by rw [List.getElem?_append_left hj]; exact h5, h6⟩
 ·subst h1
  rw [List.getElem?_append_right (Nat.le_refl _), Nat.sub_self] at he
  cases he
  refine ⟨a, x, ?_, ha, hb, ?_, ?_⟩
  ·rw [h.len, List.take_left]; exact hs
  ·rw [h.len, List.getElem?_append_right (Nat.le_refl _), Nat.sub_self]; rfl
  ·rw [h.len]; exact hx
 ·rw [List.getElem?_append_right (by omega)] at he
  have : j - st.length ≠ 0 := by omega
  cases hj : j - st.length with
  | zero => omega
  | succ m => rw [hj] at he; simp at he
theorem PathOk.open (hW : WaysOk W d) (hne : 0 < W.length) {q : List ByteArray} {st : List (Nat × Nat)} (h : PathOk W d q st) (hq : q.length < d) :
 ∃ a b, SpanOf W d q a b /\ a < b /\ ((q = [] /\ a = 0 /\ b = aO W d 0 W.length) \/
  ∃ (m : Nat) (e : Nat × Nat), q.length = m + 1 /\ st[m]? = some e /\ (bT W d m W.length ++ [(aO W d (m + 1) W.length : Int)])[e.1]? = some ((a : Nat) : Int) /\ (bT W d m W.length ++ [(aO W d (m + 1) W.length : Int)])[e.1 + 1]? = some ((b : Nat) : Int)) := by
 cases hl : q.length with
 | zero =>
  have e : q = [] := List.eq_nil_of_length_eq_zero hl
  subst e
  have hs := aGp (W := W) (d := d) hne
  exact ⟨0, _, hs, hs.some hW hq, .inl ⟨rfl, rfl, rfl⟩⟩
 | succ m =>
  obtain ⟨e, he⟩ : ∃ e, st[m]? = some e := ⟨_, qG (by rw [h.len, hl]; omega)⟩
  obtain ⟨a', x, h1, h2, h3, h4, h5⟩ := h.at_ m e he
  have hlen : (q.take m).length = m := by rw [List.length_take]; omega
  have hd := h1.down hW (by rw [hlen]; omega) h2 h3 (x := x) (by rw [hlen]; exact h5)
  rw [hlen] at hd
  obtain ⟨f, t, h6, h7, h8⟩ := hd
  have eq : q.take m ++ [x] = q := by
   have : q.take (m + 1) = q.take m ++ [x] := by rw [List.take_add_one, h4]; rfl
   rw [<- this, <- hl, List.take_length]
  rw [eq] at h8
  exact ⟨f, t, h8, h8.some hW hq, .inr ⟨m, e, rfl, he, h6, h7⟩⟩
end
def jF (N V : List ByteArray) (R : aC) (l : aM) : Prop :=
 if l.1 = 1 then (aV N (aB l)).map (aZ V) ∈ cV N (aB l) R
 else if l.1 = 2 then ¬ (aV N (aB l)).map (aZ V) ∈ cV N (aB l) R
 else pN (iC l) (lS N V (leftOf l)) (lS N V (aS l))
theorem aC6 {N V : List ByteArray} {R : aC} {l : aM} (hN : N.Nodup) (hV : V.length = N.length) (hin : l.1 = 1 \/ l.1 = 2 -> ∀ t ∈ aB l, t.1 = 1 -> t.2.1 ∈ N) : jF N V R l ↔ jV N V R l := by
 unfold jF jV
 by_cases h1 : l.1 = 1
 ·rw [if_pos h1, if_pos h1]; exact aFw R hN hV (hin (.inl h1))
 ·rw [if_neg h1, if_neg h1]
  by_cases h2 : l.1 = 2
  ·rw [if_pos h2, if_pos h2, aFw R hN hV (hin (.inr h2))]
  ·rw [if_neg h2, if_neg h2]
theorem xA : ∀ (ts : List aE) (a : List ByteArray) (t : aE), t ∈ ts -> t.1 = 1 -> t.2.1 ∈ cK a ts
 | [], _, _, h, _ => by simp at h
 | u :: ts, a, t, h, h1 => by
  show t.2.1 ∈ cK (bE a u) ts
  rcases List.mem_cons.1 h with h | h
  ·subst h
   have hm : t.2.1 ∈ bE a t := by
    unfold bE
    split
    ·simp
    ·rename_i h2
     rw [<- cJ]
     cases h3 : kK a t.2.1 with
     | true => rfl
     | false => exact absurd ⟨h1, h3⟩ h2
   have hp := qP ts (bE a t)
   rw [<- hp] at hm
   exact List.mem_of_mem_take hm
  ·exact xA ts (bE a u) t h h1
theorem aEk {ls : List aM} {l : aM} (hl : l ∈ ls) (h1 : l.1 = 1) {t : aE} (ht : t ∈ aB l) (h : t.1 = 1) : t.2.1 ∈ aA ls := by
 obtain ⟨i, hi⟩ := List.mem_iff_getElem?.1 hl
 have e := gL hi
 have hm : t.2.1 ∈ aA (ls.take (i + 1)) := by
  rw [e]; unfold bR; rw [if_pos h1]
  exact xA _ _ _ ht h
 rw [<- lE ls (i + 1)] at hm
 exact List.mem_of_mem_take hm
theorem yS {r : bM} (h : aP r = 0) {l : aM} (hl : l ∈ r.2.1) (hk : l.1 = 1 \/ l.1 = 2) : ∀ t ∈ aB l, t.1 = 1 -> t.2.1 ∈ aA r.2.1 := fun t ht h1 => by
 rcases hk with hk | hk
 ·exact aEk hl hk ht h1
 ·unfold aP at h
  split at h
  ·split at h
   ·rename_i hp hs
    unfold mF at hs
    rw [Bool.and_eq_true] at hs
    have h2 := List.all_eq_true.1 hs.2 l hl
    unfold jK at h2
    rw [if_neg (by omega), if_pos hk] at h2
    have h3 := List.all_eq_true.1 h2 t ht
    unfold dQ at h3
    rw [if_neg (by omega)] at h3
    rcases of_decide_eq_true h3 with h4 | h4 | h4
    ·omega
    ·omega
    ·exact cJ.1 h4
   ·cases h
  ·cases h
theorem vT {r : bM} (h : aP r = 0) {R : Nat -> aC} {V : List ByteArray} : cG r.2.1 R V ↔ V.length = (aA r.2.1).length /\ ∀ (i : Nat) (l : aM), r.2.1[i]? = some l -> jF (aA r.2.1) V (R i) l := by
 unfold cG
 refine and_congr_right fun hV => ⟨fun h1 i l hl => (aC6 (cU _) hV fun hk => yS h (List.mem_of_getElem? hl) hk).2 (h1 i l hl), fun h1 i l hl => (aC6 (cU _) hV fun hk => yS h (List.mem_of_getElem? hl) hk).1 (h1 i l hl)⟩
theorem uE : ∀ (ts : List aE) (a : List ByteArray) (s : ByteArray), s ∈ cK a ts -> s ∈ a \/ ∃ t ∈ ts, t.1 = 1 /\ t.2.1 = s
 | [], a, s, h => .inl h
 | t :: ts, a, s, h => by
  rcases uE ts (bE a t) s h with h1 | ⟨u, hu, h1⟩
  ·unfold bE at h1
   split at h1
   ·rename_i h2
    rcases List.mem_append.1 h1 with h1 | h1
    ·exact .inl h1
    ·rw [List.mem_singleton] at h1
     exact .inr ⟨t, List.mem_cons_self .., h2.1, h1.symm⟩
   ·exact .inl h1
  ·exact .inr ⟨u, List.mem_cons_of_mem _ hu, h1⟩
theorem rV : ∀ (ls : List aM) (a : List ByteArray) (s : ByteArray), s ∈ ls.foldl bR a -> s ∈ a \/ ∃ l ∈ ls, l.1 = 1 /\ ∃ t ∈ aB l, t.1 = 1 /\ t.2.1 = s
 | [], a, s, h => .inl h
 | l :: ls, a, s, h => by
  rcases rV ls (bR a l) s h with h1 | ⟨m, hm, h1⟩
  ·unfold bR at h1
   split at h1
   ·rename_i h2
    rcases uE _ _ _ h1 with h3 | h3
    ·exact .inl h3
    ·exact .inr ⟨l, List.mem_cons_self .., h2, h3⟩
   ·exact .inl h1
  ·exact .inr ⟨m, List.mem_cons_of_mem _ hm, h1⟩
theorem mO {ls : List aM} {v : Nat} (hv : v < (aA ls).length) : ∃ l ∈ ls, l.1 = 1 /\ v ∈ aV (aA ls) (aB l) := by
 have hg : (aA ls)[v]? = some (aZ (aA ls) v) := by unfold aZ; rw [List.getD_eq_getElem?_getD, qG hv]; rfl
 rcases rV ls [] _ (List.mem_of_getElem? hg) with h | ⟨l, hl, h1, t, ht, h2, h3⟩
 ·simp at h
 ·obtain ⟨i, hi⟩ := List.mem_iff_getElem?.1 ht
  exact ⟨l, hl, h1, dC.2 ⟨hv, i, t, hi, h2, h3⟩⟩
theorem aDk {vs : List Nat} (hr : vs.Pairwise (· < ·)) {m v : Nat} (hm : vs[m]? = some v) {p V : List ByteArray} (hp : V.take v = p) (hV : v < V.length) :
 (vs.map (aZ V)).take (m + 1) = (vs.take m).map (aZ p) ++ [aZ V v] := by
 have hml := (List.getElem?_eq_some_iff.1 hm)
 rw [List.take_add_one, List.getElem?_map, hm]
 show (vs.map (aZ V)).take m ++ [aZ V v] = _
 rw [<- List.map_take]
 congr 1
 refine List.map_congr_left fun u hu => ?_
 obtain ⟨j, hj⟩ := List.mem_iff_getElem?.1 hu
 have hjm : j < m := by
  have := (List.getElem?_eq_some_iff.1 hj).1
  rw [List.length_take] at this; omega
 rw [List.getElem?_take_of_lt hjm] at hj
 obtain ⟨l1, e1⟩ := List.getElem?_eq_some_iff.1 hj
 have huv := List.pairwise_iff_getElem.1 hr j m l1 hml.1 hjm
 rw [e1, hml.2] at huv
 unfold aZ
 rw [List.getD_eq_getElem?_getD, List.getD_eq_getElem?_getD, <- hp, List.getElem?_take_of_lt huv]
theorem mP : ∀ (ts : List aE) (a : List ByteArray), (∀ t ∈ ts, t.1 = 1 -> t.2.1 ∈ a) -> cK a ts = a
 | [], _, _ => rfl
 | t :: ts, a, h => by
  have e : bE a t = a := by
   unfold bE
   refine if_neg fun h1 => ?_
   have h2 := cJ.2 (h t (List.mem_cons_self ..) h1.1)
   rw [h2] at h1; cases h1.2
  show cK (bE a t) ts = a
  rw [e]
  exact mP ts a fun u hu => h u (List.mem_cons_of_mem _ hu)
theorem xP {e : dB} (he : EnvOk e) {ts : List aE} {x : List ByteArray} (hin : ∀ t ∈ ts, t.1 = 1 -> t.2.1 ∈ e.1) : (∃ f, jN e ts x ts.length = some f) ↔ aCa e.1 e.2 ts x := by
 refine ⟨fun ⟨f, hf⟩ => ?_, fun h => ?_⟩
 ·obtain ⟨h1, h2, h3, h4⟩ := lH he hf
  rw [List.take_length, mP ts e.1 hin] at h3
  have hl : f.2.length = e.2.length := by rw [h1.len, h3, he.len]
  have h5 : f.2 = e.2 := by
   have := h2.vals
   rw [<- hl, List.take_length] at this; exact this
  have e1 : f = e := Prod.ext h3 h5
  subst e1
  exact fun i t hi => h4 i t (List.getElem?_eq_some_iff.1 hi).1 hi
 ·obtain ⟨f, hf, _⟩ := qV (x := x) he he (EnvLe.refl e) (Nat.le_refl ts.length) (by rw [List.take_length, mP ts e.1 hin, List.take_length]) h
  exact ⟨f, hf⟩
def aGj (e : dB) (t : aE) : ByteArray := if t.1 = 3 then t.2.1 else (ofE e t.2.1).getD ByteArray.empty
theorem aFs {e : dB} {t : aE} (h : t.1 = 1 /\ t.2.1 ∈ e.1 \/ t.1 = 3) : aGj e t = lS e.1 e.2 t := by
 unfold aGj lS
 rcases h with ⟨h1, h2⟩ | h1
 ·rw [if_neg (by omega), if_pos h1]
  unfold ofE
  rw [if_pos (cJ.2 h2)]; rfl
 ·rw [if_pos h1, if_neg (by omega)]
theorem pF {r : bM} (h : aP r = 0) {l : aM} (hl : l ∈ r.2.1) (hk : l.1 = 3) : ∀ t, t = leftOf l \/ t = aS l -> t.1 = 1 /\ t.2.1 ∈ aA r.2.1 \/ t.1 = 3 := fun t ht => by
 unfold aP at h
 split at h
 ·rename_i hp
  split at h
  ·rename_i hs
   unfold eE at hp
   unfold mF at hs
   rw [Bool.and_eq_true] at hp hs
   have h1 := List.all_eq_true.1 hp.2 l hl
   have h2 := List.all_eq_true.1 hs.2 l hl
   unfold kE at h1
   rw [if_neg (by omega), if_pos hk, Bool.and_eq_true] at h1
   unfold jK at h2
   rw [if_pos hk, Bool.and_eq_true] at h2
   have h3 : decide (1 ≤ t.1 /\ t.1 ≤ 3) = true := by
    have h4 := h1.2
    unfold kinds at h4
    rw [List.all_eq_true] at h4
    rcases ht with ht | ht
    ·rw [ht]; exact h4 _ (by simp)
    ·rw [ht]; exact h4 _ (by simp)
   have h5 := of_decide_eq_true h3
   have h6 : dQ (aA r.2.1) false t = true := by
    rcases ht with ht | ht
    ·rw [ht]; exact h2.1
    ·rw [ht]; exact h2.2
   unfold dQ at h6
   split at h6
   ·cases h6
   ·rename_i h7
    rcases of_decide_eq_true h6 with h8 | h8 | h8
    ·exact .inr h8
    ·omega
    ·by_cases h9 : t.1 = 3
     ·exact .inr h9
     ·exact .inl ⟨by omega, cJ.1 h8⟩
  ·cases h
 ·cases h
theorem aG7 {r : bM} (h : aP r = 0) {l : aM} (hl : l ∈ r.2.1) : l.1 = 1 \/ l.1 = 2 \/ (l.1 = 3 /\ 1 ≤ iC l /\ iC l ≤ 4) := by
 unfold aP at h
 split at h
 ·rename_i hp
  unfold eE at hp
  rw [Bool.and_eq_true] at hp
  have h1 := List.all_eq_true.1 hp.2 l hl
  unfold kE at h1
  split at h1
  ·rename_i h2; omega
  ·split at h1
   ·rename_i h3
    rw [Bool.and_eq_true] at h1
    have := of_decide_eq_true h1.1
    exact .inr (.inr ⟨h3, this⟩)
   ·cases h1
 ·cases h
def uX (e : dB) (R : aC) (l : aM) : Prop :=
 if l.1 = 2 then ∀ x ∈ R, jN e (aB l) x (aB l).length = none
 else pN (iC l) (aGj e (leftOf l)) (aGj e (aS l))
theorem uW {r : bM} (h : aP r = 0) {l : aM} (hl : l ∈ r.2.1) (hk : l.1 ≠ 1) {e : dB} (he : EnvOk e) (hn : e.1 = aA r.2.1) {R R' : aC} (hR : ∀ x, x ∈ R' ↔ x ∈ R /\ x.length = (aB l).length) : uX e R' l ↔ jV (aA r.2.1) e.2 R l := by
 unfold uX jV
 rw [if_neg hk]
 by_cases h2 : l.1 = 2
 ·rw [if_pos h2, if_pos h2]
  have hin : ∀ t ∈ aB l, t.1 = 1 -> t.2.1 ∈ e.1 := by rw [hn]; exact yS h hl (.inr h2)
  refine ⟨fun h3 ⟨x, hx, hxl, hf⟩ => ?_, fun h3 x hx => ?_⟩
  ·rw [<- hn] at hf
   obtain ⟨f, hf'⟩ := (xP he hin).2 hf
   rw [h3 x ((hR x).2 ⟨hx, hxl⟩)] at hf'
   cases hf'
  ·cases hf : jN e (aB l) x (aB l).length with
   | none => rfl
   | some f =>
    have h4 := (xP he hin).1 ⟨f, hf⟩
    obtain ⟨h5, h6⟩ := (hR x).1 hx
    rw [hn] at h4
    exact absurd ⟨x, h5, h6, h4⟩ h3
 ·rw [if_neg h2, if_neg h2]
  have h3 : l.1 = 3 := by
   rcases aG7 h hl with h4 | h4 | h4
   ·exact absurd h4 hk
   ·exact absurd h4 h2
   ·exact h4.1
  have hs := pF h hl h3
  rw [<- hn] at hs
  rw [aFs (hs _ (.inl rfl)), aFs (hs _ (.inr rfl)), hn]
def jL (ts : List aE) (R : aC) : aC := R.filter fun x => decide (x.length = ts.length)
theorem kD {ts : List aE} {R : aC} (x : List ByteArray) : x ∈ jL ts R ↔ x ∈ R /\ x.length = ts.length := by
 unfold jL
 rw [List.mem_filter, decide_eq_true_iff]
def opB (op : Int) (x y : ByteArray) : Bool := if op = 1 then decide (x = y) else if op = 2 then decide (x ≠ y) else if op = 3 then Op.bytesLess x.toList y.toList else !Op.bytesLess y.toList x.toList
theorem aF5 {op : Int} {x y : ByteArray} : opB op x y = true ↔ pN op x y := by
 unfold opB pN
 split
 ·exact decide_eq_true_iff
 ·split
  ·exact decide_eq_true_iff
  ·split
   ·exact Iff.rfl
   ·rw [Bool.not_eq_true']
def aEt (e : dB) (R : aC) (l : aM) : Bool := if l.1 = 2 then R.all fun x => (jN e (aB l) x (aB l).length).isNone else opB (iC l) (aGj e (leftOf l)) (aGj e (aS l))
theorem uY {e : dB} {R : aC} {l : aM} : aEt e R l = true ↔ uX e R l := by
 unfold aEt uX
 split
 ·rw [List.all_eq_true]
  exact ⟨fun h x hx => Option.isNone_iff_eq_none.1 (h x hx), fun h x hx => Option.isNone_iff_eq_none.2 (h x hx)⟩
 ·exact aF5
def aBu (e : dB) (R : Nat -> aC) : Nat -> List aM -> Bool
 | _, [] => true
 | i, l :: ls => (if l.1 = 1 then true else aEt e (jL (aB l) (R i)) l) && aBu e R (i + 1) ls
theorem xH {e : dB} {R : Nat -> aC} : ∀ {ls : List aM} {i : Nat}, aBu e R i ls = true ↔ ∀ (j : Nat) (l : aM), ls[j]? = some l -> l.1 ≠ 1 -> uX e (jL (aB l) (R (i + j))) l
 | [], i => ⟨fun _ j l h => by simp at h, fun _ => rfl⟩
 | l :: ls, i => by
  unfold aBu
  rw [Bool.and_eq_true, xH]
  refine ⟨fun ⟨h1, h2⟩ j m hm hk => ?_, fun h => ⟨?_, fun j m hm hk => ?_⟩⟩
  ·cases j with
   | zero =>
    cases hm
    rw [if_neg hk] at h1
    exact uY.1 h1
   | succ j =>
    have := h2 j m (by simpa using hm) hk
    rw [show i + (j + 1) = i + 1 + j by omega]; exact this
  ·split
   ·rfl
   ·rename_i hk
    exact uY.2 (h 0 l rfl hk)
  ·have := h (j + 1) m (by simpa using hm) hk
   rw [show i + (j + 1) = i + 1 + j by omega] at this; exact this
def gE (all : List aM) (R : Nat -> aC) : List aM -> Nat -> dB -> aC
 | [], _, e => if aBu e R 0 all then [e.2] else []
 | l :: rest, i, e => if l.1 = 1 then (cN e (aB l) (jL (aB l) (R i))).flatMap fun q => gE all R rest (i + 1) (cK e.1 (aB l), q) else gE all R rest (i + 1) e
def aLp (r : bM) (R : Nat -> aC) : aC := gE r.2.1 R r.2.1 0 ([], [])
theorem mM {r : bM} (hc : aP r = 0) (R : Nat -> aC) : ∀ (rest : List aM) (i : Nat) (e : dB), r.2.1.drop i = rest -> i ≤ r.2.1.length -> FromOk r.2.1 R i e -> AllB (cG r.2.1 R) e.2 (gE r.2.1 R rest i e)
 | [], i, e, hd, hi, h => by
  have hil : i = r.2.1.length := by
   have := congrArg List.length hd
   rw [List.length_drop] at this
   simp at this; omega
  subst hil
  obtain ⟨hn, hb, hl⟩ := h.last
  unfold gE
  have hiff : aBu e R 0 r.2.1 = true ↔ cG r.2.1 R e.2 := by
   rw [xH, hb]
   refine ⟨fun h1 j l hj hk => ?_, fun h1 j l hj hk => ?_⟩
   ·have h2 := h1 j l hj hk
    rw [Nat.zero_add] at h2
    exact (uW hc (List.mem_of_getElem? hj) hk h.ok hn fun x => kD x).1 h2
   ·rw [Nat.zero_add]
    exact (uW hc (List.mem_of_getElem? hj) hk h.ok hn fun x => kD x).2 (h1 j l hj hk)
  split
  ·rename_i h1
   exact AllB.one (hiff.1 h1) hl
  ·rename_i h1
   refine AllB.none fun V hV hp => h1 (hiff.2 ?_)
   have : V = e.2 := by rw [<- hp, <- hl V hV, List.take_length]
   rw [<- this]; exact hV
 | l :: rest, i, e, hd, hi, h => by
  have hl : r.2.1[i]? = some l := by
   have : (r.2.1.drop i)[0]? = some l := by rw [hd]; rfl
   rw [List.getElem?_drop] at this; exact this
  have hil := (List.getElem?_eq_some_iff.1 hl).1
  have hd2 : r.2.1.drop (i + 1) = rest := by
   have := congrArg (List.drop 1) hd
   rw [List.drop_drop] at this
   exact this
  unfold gE
  split
  ·rename_i hk
   have hnx : cK e.1 (aB l) = aA (r.2.1.take (i + 1)) := by
    rw [h.names, gL hl]; unfold bR; rw [if_pos hk]
   rw [hnx]
   refine aKv h hl hk (R' := jL (aB l) (R i)) (fun x => kD x) ?_
   have key : ∀ k, k ≤ (cN e (aB l) (jL (aB l) (R i))).length -> PartQ (cG r.2.1 R) e.2 (aA (r.2.1.take (i + 1))).length (fun y => y ∈ (cN e (aB l) (jL (aB l) (R i))).take k) (((cN e (aB l) (jL (aB l) (R i))).take k).flatMap fun q => gE r.2.1 R rest (i + 1) (aA (r.2.1.take (i + 1)), q)) := by
    intro k
    induction k with
    | zero => exact fun _ => PartQ.none.congr fun y => by simp
    | succ k ih =>
     intro hk2
     obtain ⟨q, hq⟩ : ∃ q, (cN e (aB l) (jL (aB l) (R i)))[k]? = some q := ⟨_, qG (by omega)⟩
     have hf := (h.each hl hk (fun x => kD x) (List.mem_of_getElem? hq)).1
     have h1 := aIy h hl hk (fun x => kD x) hq (ih (by omega)) (mM hc R rest (i + 1) _ hd2 hil hf)
     have e1 : (cN e (aB l) (jL (aB l) (R i))).take (k + 1) = (cN e (aB l) (jL (aB l) (R i))).take k ++ [q] := by rw [List.take_add_one, hq]; rfl
     have e2 : ∀ (f : List ByteArray -> aC) (a : aC), (a ++ [q]).flatMap f = a.flatMap f ++ f q := fun f a => by simp
     rw [e1, e2, <- e1]
     exact h1
   have h2 := key _ (Nat.le_refl _)
   rw [List.take_length] at h2
   exact h2
  ·rename_i hk
   exact mM hc R rest (i + 1) e hd2 hil (h.skip hl hk)
theorem aC0 {r : bM} (hc : aP r = 0) (R : Nat -> aC) : IsBinds r.2.1 R (aLp r R) := mM hc R r.2.1 0 ([], []) rfl (Nat.zero_le _) (FromOk.start _ _)
end
end Go.Proofs.YtikgpedgmnbcaaaGreatDoor
