/- Texts joined for a claim (DeleteRow, SetOpsRow, SetCopyRow, SetPickRow, SetMeetRow, SetAtRow, IterRow, IterVRow, BinStr, IndexStr, GenStr, RowSet, BaseC, TriePlain, JoinTree, JoinPlain, JoinEnv, JoinEnv2, JoinRef, LeapPlain, TrieSpan, TriePath, JoinSol, JoinRef2, JoinList, JoinHead, AggPlain, AggInj, AggGrp, JoinStep). -/
import Derived.Test.YtikgpedgmnbcaaaGreatDoorAk2
import Derived.Deep.RegionHeld3
import Derived.Deep.RegionWith
import Derived.Test.YtikgpedgmnbcaaaGreatDoorProg
set_option linter.unusedVariables false
set_option linter.unusedSimpArgs false
set_option maxRecDepth 100000
namespace Go.Proofs.YtikgpedgmnbcaaaGreatDoor
section
open Go.RowKit
set_option maxHeartbeats 4000000 in
theorem vJ (xs : List Value) (iv : Value) (M : Nat -> Prop) (n i : Nat) (w : World) (hn : n = xs.length) (hr : Row w 66 1 iv n xs M) (hi : i < n) (hxs : ∀ u ∈ xs, u.oneCell' = true) (hb : n ≤ 4611686018427387904) :
 Calls Tryz.prog 123 #[iv, .int .i64 i, .int .i64 ((i : Int) + 1)] w
  (RetF (fun g => iv.ownBlock = some g) w fun w' v => v.ownBlock = iv.ownBlock /\ Row w' 66 1 v (n - 1) (xs.take i ++ xs.drop (i + 1)) (fun g => iv.ownBlock = some g)) := by
 obtain ⟨h1, ⟨h2, h3⟩ | ⟨g, cap, rest, rfl, hM, hB, hlen, hnc, hcm⟩⟩ := hr
 ·omega
 obtain ⟨n, rfl⟩ : ∃ n', n = n' + 1 := ⟨n - 1, by omega⟩
 have hl1 : (xs.drop (i + 1)).length = n - i := by simp; omega
 have hsrc : CellsAt w.drew (if cap = i + 1 then some ⟨g, 0, none⟩ else some ⟨g, i + 1, none⟩) (xs.drop (i + 1)) := by
  intro j u hu
  have hlt := (List.getElem?_eq_some_iff.1 hu).1
  by_cases hc : cap = i + 1
  ·rw [hl1] at hlt; omega
  ·rw [if_neg hc]
   refine ⟨g, i + 1, rfl, ?_⟩
   rw [hB.drew.cell', List.getElem?_append_left (by rw [hl1] at hlt; omega), <- List.getElem?_drop]; exact hu
 obtain ⟨w1, hrun1, hk1, hB1⟩ := yG (w := w.drew) eT hB.drew (k := i) (cap := cap) (c := cap - (i + 1)) hl1 hsrc (fun u hu => hxs u (List.mem_of_mem_drop hu)) (by omega) (by simp; omega)
 rw [show i + (n - i) = n by omega] at hrun1
 have hlen1 : (splice (xs ++ rest) i (xs.drop (i + 1))).length = cap := by
  have := hlen; simp [splice] at this ⊢; omega
 obtain ⟨w2, hrun2, hk2, hB2⟩ := sT (w := w1) eT rfl (fun w => by kernel_rfl) hB1 (off := n) (n := 1) (c := cap - n) (sp := some ⟨g, n, none⟩) (fun _ => rfl) (by rw [hlen1]; omega)
 have HB2 := qH hB2
 have HK := qH (And.intro hk1 hk2)
 have HN := qH (And.intro hn (And.intro h1 hlen))
 clear hB1 hB2 hk1 hk2 hn h1 hlen hlen1 hsrc hl1 hB hxs hM
 have hne : ((i : Int) == (i : Int) + 1) = false := by simp; omega
 have nc1 : ¬ cap = i := by omega
 have nc2 : ¬ cap = n := by omega
 have hcm' := hcm
 unfold maxLen at hcm'
 have hi1 : ((i : Int) + 1).toNat = i + 1 := by omega
 have hp1 : (0 : Int) ≤ (i : Int) + 1 := by omega
 have hp2 : (i : Int) ≤ (cap : Int) := by omega
 have hp3 : (i : Int) ≤ (n : Int) := by omega
 have hs1 : n + 1 - (i + 1) = n - i := by omega
 have hs2 : n + 1 - n = 1 := by omega
 by_cases hci : cap = i + 1
 ·have hni : n = i := by omega
  subst hni
  subst hci
  simp only [if_pos, Nat.sub_self] at hrun1
  simp only [hs2] at hrun2
  have hp4 : (n : Int) ≤ (n : Int) + 1 := by omega
  have hp5 : n ≤ n + 1 := by omega
  go_enter Tryz.func123, Tryz.ntmps123
  go_wp2
  go_still_tail 6, (by kernel_rfl)
  refine mT rfl _ _ rfl rfl rfl hrun1 ?_
  clear hrun1
  go_wp2
  go_ret
  have hk12 : Kp (fun k => k = g) w w2 := ((Kp.refl w).drew.trans HK.out.1).trans HK.out.2
  obtain ⟨q1, q2, q3⟩ := HN.out
  refine RetF.mk (hk12.mono fun k _ e => by rw [e]; rfl) ⟨rfl, ?_, .inr ⟨g, _, (.slice none 0 0) :: rest, rfl, rfl, HB2.out.congrL ?_, ?_, by omega, hcm⟩⟩
  ·simp; omega
  ·have e1 : xs = xs.take n ++ [xs[n]'(by omega)] ++ xs.drop (n + 1) := by
    rw [List.append_assoc, List.singleton_append, <- List.drop_eq_getElem_cons (by omega), List.take_append_drop]
   have l1 : (xs.take n).length = n := by simp; omega
   have l2 : (xs.drop (n + 1)).length = n - n := by simp; omega
   have e2 : splice (xs ++ rest) n (xs.drop (n + 1)) = xs.take n ++ xs.drop (n + 1) ++ (xs ++ rest).drop n := by
    unfold splice
    rw [List.take_append_of_le_length (by omega), l2, show n + (n - n) = n by omega, List.append_assoc]
   have e3 : (xs ++ rest).drop n = [xs[n]'(by omega)] ++ rest := by
    rw [List.drop_append_of_le_length (by omega), List.drop_eq_getElem_cons (by omega), List.drop_of_length_le (by omega)] <;> rfl
   rw [e2, e3, <- List.append_assoc, iB _ _ _ _ _ (by simp; omega) (by simp)]
   simp
  ·simp at q3 ⊢; omega
 ·simp only [if_neg hci] at hrun1
  go_enter Tryz.func123, Tryz.ntmps123
  go_wp2
  go_still_tail 6, (by kernel_rfl)
  refine mT rfl _ _ rfl rfl rfl hrun1 ?_
  clear hrun1
  go_wp2
  go_ret
  have hk12 : Kp (fun k => k = g) w w2 := ((Kp.refl w).drew.trans HK.out.1).trans HK.out.2
  obtain ⟨q1, q2, q3⟩ := HN.out
  refine RetF.mk (hk12.mono fun k _ e => by rw [e]; rfl) ⟨rfl, ?_, .inr ⟨g, _, (.slice none 0 0) :: rest, rfl, rfl, HB2.out.congrL ?_, ?_, by omega, hcm⟩⟩
  ·simp; omega
  ·have e1 : xs = xs.take i ++ [xs[i]'(by omega)] ++ xs.drop (i + 1) := by
    rw [List.append_assoc, List.singleton_append, <- List.drop_eq_getElem_cons (by omega), List.take_append_drop]
   have l1 : (xs.take i).length = i := by simp; omega
   have l2 : (xs.drop (i + 1)).length = n - i := by simp; omega
   have e2 : splice (xs ++ rest) i (xs.drop (i + 1)) = xs.take i ++ xs.drop (i + 1) ++ (xs ++ rest).drop n := by
    unfold splice
    rw [List.take_append_of_le_length (by omega), l2, show i + (n - i) = n by omega, List.append_assoc]
   have e3 : (xs ++ rest).drop n = [xs[n]'(by omega)] ++ rest := by
    rw [List.drop_append_of_le_length (by omega), List.drop_eq_getElem_cons (by omega), List.drop_of_length_le (by omega)] <;> rfl
   rw [e2, e3, <- List.append_assoc, iB _ _ _ _ _ (by first | (simp; done) | (simp; omega)) (by simp)]
   simp
  ·simp at q3 ⊢; omega
section
variable {S : Nat -> Prop} {w : World} {b : Nat} {ov iv : Value} {tail : List Value} {te : TypeId} {D : Option Addr × Nat × Nat -> Prop} {c : Option Addr × Nat × Nat -> Option Addr × Nat × Nat -> Int} {zs : List (Option Addr × Nat × Nat)}
theorem nJ (O : OrdLaw c) (x : Option Addr × Nat × Nat) (hx : D x) (hs : Strict c zs) (h : SetAtRow Tryz.prog S w b ov iv tail te D c zs) :
 Calls Tryz.prog 128 #[.pointer (some ⟨b, 0, none⟩), (Value.slice (x).1 (x).2.1 (x).2.2)] w (RetF (fun _ => False) w fun w' v => v = .bool (bA c zs x)) := by
 have HF := qH (iL O x hx hs h); clear h
 go_enter Tryz.func128, Tryz.ntmps128
 go_wp2_with fail
 refine HF.out.mono ?_
 rintro e w1 ⟨v, rfl, hk, rfl⟩
 have HK := qH hk; clear hk
 go_wp2
 go_ret
 exact RetF.mk HK.out rfl
set_option maxHeartbeats 1000000 in
theorem vD (O : OrdLaw c) (x : Option Addr × Nat × Nat) (hx : D x) (hs : Strict c zs) (h : SetAtRow Tryz.prog S w b ov iv tail te D c zs) (hl : zs.length + 1 ≤ 1048576 * 1048576) :
 Calls Tryz.prog 78 #[.pointer (some ⟨b, 0, none⟩), (Value.slice (x).1 (x).2.1 (x).2.2)] w
  (RetF (cS b iv) w fun w' v => v = .bool (!bA c zs x) /\ ∃ iv', SetAtRow Tryz.prog S w' b ov iv' tail te D c (dA c zs x) /\ ∀ k, iv'.ownBlock = some k -> iv.ownBlock = some k \/ w.heap.size ≤ k) := by
 have HF := qH (iL O x hx hs h)
 have HH := qH h; clear h
 go_enter Tryz.func78, Tryz.ntmps78
 go_wp2_with fail
 refine HF.out.mono ?_
 rintro e w1 ⟨v, rfl, hk, rfl⟩
 have h1 := HH.out.ext hk
 have HK := qH hk; clear hk
 cases hin : bA c zs x
 ·obtain ⟨c1, c2⟩ := h1.cells
  have H1 := qH h1; clear h1
  go_wp2_with fail
  have hb := below_le (c := c) zs x
  have hbw : b < w1.heap.size := H1.out.blk.lt
  refine (vI (zs.map fun x => (Value.slice (x).1 (x).2.1 (x).2.2)) iv _ zs.length (below c zs x) ((Value.slice (x).1 (x).2.1 (x).2.2)) w1.heap.size 66 _ (by simp) (H1.out.row.alloc _) hb rfl (by intro u hu; obtain ⟨y, _, rfl⟩ := List.mem_map.1 hu; rfl) (Blk.new w1 [(Value.slice (x).1 (x).2.1 (x).2.2)] 66) (fun e => by
   have := H1.out.row
   obtain ⟨q1, ⟨q2, _⟩ | ⟨g, cap, rest, q2, _, q3, _⟩⟩ := this
   ·rw [q2] at e; cases e
   ·rw [q2] at e; have e' : g = w1.heap.size := Option.some.inj e
    have := q3.lt; omega) (by omega)).mono ?_
  rintro e w2 ⟨iv', rfl, hk2, hr⟩
  obtain ⟨ao', cap', eiv, _, _⟩ := hr.shape
  subst eiv
  have hk02 := ((Kp.refl (F := fun k => iv.ownBlock = some k) w1).alloc (.cells #[(Value.slice (x).1 (x).2.1 (x).2.2)] 66)).trans hk2
  have hB2 := H1.out.blk.kp hk02 H1.out.apart
  have f1 := hB2.free 1
  have d1 : w2.cell? ⟨b, 1, none⟩ = some iv := by rw [hB2.cell']; rfl
  have HR := qH (And.intro hk02 (And.intro hB2 hr))
  clear hk02 hB2 hr hk2 c1 c2
  go_wp2
  go_ret
  obtain ⟨hk02, hB2, hr⟩ := HR.out
  have h1 := H1.out
  have hz : dA c zs x = zs.take (below c zs x) ++ x :: zs.drop (below c zs x) := by unfold dA; rw [hin]; rfl
  have hlz : (dA c zs x).length = zs.length + 1 := by rw [pK, hin]; rfl
  have hown : ∀ k, (Value.slice ao' (zs.length + 1) cap').ownBlock = some k -> iv.ownBlock = some k \/ w.heap.size ≤ k := fun k hk => by
   rcases hr.block k hk with hh | hh
   ·exact .inl hh
   ·have := HK.out.size; simp only [aK] at hh; exact .inr (by omega)
  have hownb : (Value.slice ao' (zs.length + 1) cap').ownBlock ≠ some b := fun hk => by
   rcases hr.block b hk with hh | hh
   ·exact h1.apart hh
   ·simp only [aK] at hh; omega
  have hK : Kp (cS b iv) w w2 := ((Ext.kp HK.out).trans (hk02.mono fun k _ hk => .inr hk))
  refine RetF.mk (hK.setCell (fun _ => .inl rfl) _) ⟨by rw [hin]; rfl, .slice ao' (zs.length + 1) cap', ?_, hown⟩
  refine lR hB2 (M := fun _ => True) ?_ hownb (fun k hk => Nat.lt_of_lt_of_le (h1.inS k hk) hk02.size) (fun k hk hS => ?_) (h1.ord.same (hk02.same h1.inS fun k hk hk' => h1.notS k (.inr hk') hk)) (fun y hy => ?_) (by rw [hlz]; exact hl)
  ·rw [hlz, hz]
   have := hr.mono (M' := fun _ => True) fun _ _ => trivial
   simpa using this
  ·rcases hk with hk | hk
   ·exact h1.notS k (.inl hk) hS
   ·rcases hr.block k hk with hh | hh
    ·exact h1.notS k (.inr hh) hS
    ·have := h1.inS k hS; simp only [aK] at hh; omega
  ·rcases mD.1 hy with hy | ⟨rfl, _⟩
   ·exact h1.all y hy
   ·exact hx
 ·have H1 := qH h1; clear h1
  go_wp2
  go_ret
  have hz : dA c zs x = zs := by unfold dA; rw [hin]; rfl
  refine RetF.mk (Ext.kp HK.out) ⟨by rw [hin]; rfl, iv, ?_, fun k hk => .inl hk⟩
  rw [hz]; exact H1.out
set_option maxHeartbeats 1000000 in
theorem sR (O : OrdLaw c) (x : Option Addr × Nat × Nat) (hx : D x) (hs : Strict c zs) (h : SetAtRow Tryz.prog S w b ov iv tail te D c zs) :
 Calls Tryz.prog 73 #[.pointer (some ⟨b, 0, none⟩), (Value.slice (x).1 (x).2.1 (x).2.2)] w
  (RetF (cS b iv) w fun w' v => v = .bool (bA c zs x) /\ ∃ iv', SetAtRow Tryz.prog S w' b ov iv' tail te D c (gU c zs x) /\ iv'.ownBlock = iv.ownBlock) := by
 have HF := qH (iL O x hx hs h)
 have HH := qH h; clear h
 go_enter Tryz.func73, Tryz.ntmps73
 go_wp2_with fail
 refine HF.out.mono ?_
 rintro e w1 ⟨v, rfl, hk, rfl⟩
 have h1 := HH.out.ext hk
 have HK := qH hk; clear hk
 cases hin : bA c zs x
 ·have H1 := qH h1; clear h1
  go_wp2
  go_ret
  have hz : gU c zs x = zs := by unfold gU; rw [hin]; rfl
  refine RetF.mk (Ext.kp HK.out) ⟨by rw [hin]; rfl, iv, ?_, rfl⟩
  rw [hz]; exact H1.out
 ·obtain ⟨c1, c2⟩ := h1.cells
  have H1 := qH h1; clear h1
  have hb : below c zs x < zs.length := by
   obtain ⟨y, hy, _⟩ := (hs.there O x).1 hin
   exact (List.getElem?_eq_some_iff.1 hy).1
  have hlen := H1.out.len
  have hw1 : IntKind.i64.wrap (((below c zs x : Nat) : Int) + 1) = ((below c zs x : Nat) : Int) + 1 := IntWalk.i64_in _ (by omega)
  go_wp2_with fail
  refine (vJ (zs.map fun x => (Value.slice (x).1 (x).2.1 (x).2.2)) iv _ zs.length (below c zs x) w1 (by simp) H1.out.row hb (by intro u hu; obtain ⟨y, _, rfl⟩ := List.mem_map.1 hu; rfl) (by omega)).mono ?_
  rintro e w2 ⟨iv', rfl, hk2, hov, hr⟩
  obtain ⟨ao', cap', eiv, _, _⟩ := hr.shape
  subst eiv
  have hB2 := H1.out.blk.kp hk2 H1.out.apart
  have f1 := hB2.free 1
  have d1 : w2.cell? ⟨b, 1, none⟩ = some iv := by rw [hB2.cell']; rfl
  have HR := qH (And.intro hk2 (And.intro hB2 (And.intro hov hr)))
  clear hB2 hr hk2 hov c1 c2
  go_wp2
  go_ret
  obtain ⟨hk2, hB2, hov, hr⟩ := HR.out
  have h1 := H1.out
  have hz : gU c zs x = zs.take (below c zs x) ++ zs.drop (below c zs x + 1) := by unfold gU; rw [hin]; rfl
  have hlz : (gU c zs x).length = zs.length - 1 := by rw [hz]; simp; omega
  have hK : Kp (cS b iv) w w2 := (Ext.kp HK.out).trans (hk2.mono fun k _ hk => .inr hk)
  refine RetF.mk (hK.setCell (fun _ => .inl rfl) _) ⟨by rw [hin]; rfl, .slice ao' (zs.length - 1) cap', ?_, hov⟩
  refine lR hB2 (M := fun _ => True) ?_ (by rw [hov]; exact h1.apart) (fun k hk => Nat.lt_of_lt_of_le (h1.inS k hk) hk2.size) (fun k hk hS => ?_) (h1.ord.same (hk2.same h1.inS fun k hk hk' => h1.notS k (.inr hk') hk)) (fun y hy => ?_) (by rw [hlz]; omega)
  ·rw [hlz, hz]
   have := hr.mono (M' := fun _ => True) fun _ _ => trivial
   simpa using this
  ·rcases hk with hk | hk
   ·exact h1.notS k (.inl hk) hS
   ·rw [hov] at hk; exact h1.notS k (.inr hk) hS
  ·rw [hz] at hy
   rcases List.mem_append.1 hy with hy | hy
   ·exact h1.all y (List.mem_of_mem_take hy)
   ·exact h1.all y (List.mem_of_mem_drop hy)
end
def PtrSetRow (P : Program) (S : Nat -> Prop) (w : World) (v : Value) (zs : List (Option Addr × Nat × Nat)) : Prop :=
 (v = .pointer none /\ zs = []) \/ ∃ b ov iv tail te D c, v = .pointer (some ⟨b, 0, none⟩) /\ SetAtRow P S w b ov iv tail te D c zs
theorem PtrSetRow.len {P : Program} {S : Nat -> Prop} {w : World} {v : Value} {zs : List (Option Addr × Nat × Nat)} (h : PtrSetRow P S w v zs) : zs.length ≤ 1048576 * 1048576 := by
 rcases h with ⟨_, rfl⟩ | ⟨b, ov, iv, tail, te, D, c, h1, h2⟩
 ·simp
 ·exact h2.len
theorem rL {S : Nat -> Prop} {w : World} {v : Value} {zs : List (Option Addr × Nat × Nat)} (h : PtrSetRow Tryz.prog S w v zs) :
 Calls Tryz.prog 125 #[v] w (RetN w fun w' r => Row w' 66 1 r zs.length (zs.map fun x => (Value.slice (x).1 (x).2.1 (x).2.2)) (New w)) := by
 rcases h with ⟨rfl, rfl⟩ | ⟨b, ov, iv, tail, te, D, c, rfl, h2⟩
 ·refine (rM w).mono ?_
  rintro e w' ⟨rfl, rfl⟩
  exact RetN.mk (Kp.refl _) (Row.nil _ _ _ _)
 ·exact rN h2
section
variable {S : Nat -> Prop} {w : World} {b : Nat} {ov iv : Value} {tail : List Value} {te : TypeId} {D : Option Addr × Nat × Nat -> Prop} {c : Option Addr × Nat × Nat -> Option Addr × Nat × Nat -> Int} {zs : List (Option Addr × Nat × Nat)}
end
section
variable {S : Nat -> Prop} {w : World} {b : Nat} {ov iv : Value} {tail : List Value} {te : TypeId} {D : Option Addr × Nat × Nat -> Prop} {c : Option Addr × Nat × Nat -> Option Addr × Nat × Nat -> Int} {zs : List (Option Addr × Nat × Nat)}
end
section
variable {S : Nat -> Prop} {w : World} {b : Nat} {ov iv : Value} {tail : List Value} {te : TypeId} {D : Option Addr × Nat × Nat -> Prop} {c : Option Addr × Nat × Nat -> Option Addr × Nat × Nat -> Int} {zs : List (Option Addr × Nat × Nat)}
end
section
variable {S : Nat -> Prop} {w : World} {b : Nat} {ov iv : Value} {tail : List Value} {te : TypeId} {D : Option Addr × Nat × Nat -> Prop} {c : Option Addr × Nat × Nat -> Option Addr × Nat × Nat -> Int} {zs : List (Option Addr × Nat × Nat)}
end
end
section
open Go.RowKit Go.Shelf
attribute [local go_sem] Oper.semAt_some
set_option maxHeartbeats 1000000 in
theorem jN (ao : Option Addr) (len cap : Nat) (w : World) :
 Calls Tryz.prog 124 #[.slice ao len cap] w (RetN w fun w' v => v = .func (.func 177) #[] #[.pointer (some ⟨w.heap.size, 0, none⟩)] /\ w' = w.alloc (.cells #[.slice ao len cap] 51)) := by
 go_enter Tryz.func124, Tryz.ntmps124
 go_wp2
 go_ret
 exact RetN.mk ((Kp.refl w).alloc _) ⟨rfl, rfl⟩
def IterRow (w : World) (v : Value) (zs : List (Option Addr × Nat × Nat)) (lo : Nat) : Prop :=
 ∃ Bs ao cap, v = .func (.func 177) #[] #[.pointer (some ⟨Bs, 0, none⟩)] /\ lo ≤ Bs /\ (∀ a, ao = some a -> lo ≤ a.block /\ a.block < w.heap.size) /\ w.cell? ⟨Bs, 0, none⟩ = some (.slice ao zs.length cap) /\ CellsAt w ao (zs.map fun x => (Value.slice (x).1 (x).2.1 (x).2.2)) /\ zs.length ≤ 1048576 * 1048576
set_option maxHeartbeats 1000000 in
theorem sQ {S : Nat -> Prop} {w : World} {v : Value} {zs : List (Option Addr × Nat × Nat)} (h : PtrSetRow Tryz.prog S w v zs) :
 Calls Tryz.prog 74 #[v] w (RetN w fun w' r => IterRow w' r zs w.heap.size) := by
 have hl := h.len
 have HI := qH (rL h); clear h
 go_enter Tryz.func74, Tryz.ntmps74
 go_wp2_with fail
 refine HI.out.mono ?_
 rintro e w1 ⟨v1, rfl, hk, hr⟩
 have hb1 := hr.block
 have hlt := hr.lt
 obtain ⟨ao, cap, ev, hc, _⟩ := hr.shape
 subst ev
 have HK := qH (And.intro hk hc); clear hk hr hc
 go_wp2_with fail
 refine (jN ao zs.length cap w1).mono ?_
 rintro e w2 ⟨v2, rfl, hk2, rfl, ew⟩
 have HK2 := qH (And.intro hk2 ew); clear hk2 ew
 go_wp2
 go_ret
 have hsz := HK.out.1.size
 refine RetN.mk (HK.out.1.trans HK2.out.1) ⟨w1.heap.size, ao, cap, rfl, hsz, fun a e => ?_, ?_, HK.out.2.ext HK2.out.1, hl⟩
 ·subst e
  have h1 := hb1 a.block rfl
  have h2 := hlt a.block rfl
  exact ⟨h1, Nat.lt_of_lt_of_le h2 HK2.out.1.size⟩
 ·rw [HK2.out.2]; exact (Blk.new w1 [Value.slice ao zs.length cap] 51).cell' 0
set_option maxHeartbeats 2000000 in
theorem iH {α : Type} (f : α -> Value) (F : Fence) (n : Nat) (h7 : F.fn 177) (hro : F.round = none) (hn : 1 ≤ n) (S : Nat -> Prop) (l Bs : Nat) (ao : Option Addr) (m cap : Nat) (zs : List α) (hm : m = zs.length) (hreach : m ≤ 1048576 * 1048576) (J Jx : List α -> World -> Prop)
 (hY : ∀ pre x W, J pre W -> pre.length < zs.length -> YieldAt F (n - 1) Tryz.prog l #[f x] W fun e W' =>
  (e = .returned (.bool true) /\ J (pre ++ [x]) W' /\ SameOn S W W') \/ (e = .returned (.bool false) /\ Jx (pre ++ [x]) W'))
 (W : World) (hSB : S Bs) (hSa : ∀ a, ao = some a -> S a.block) (hBs : W.cell? ⟨Bs, 0, none⟩ = some (.slice ao m cap)) (hc : CellsAt W ao (zs.map fun x => f x)) (h0 : J [] W) :
 CallsIn F n Tryz.prog 177 #[.func (.yield l) #[] #[], .pointer (some ⟨Bs, 0, none⟩)] W fun e W' => (∃ v, e = .returned v) /\
  ((∃ ys, ys = zs /\ J ys W') \/ (∃ pre, pre <+: zs /\ Jx pre W')) := by
 have HC := qH hc; have HM := qH hm; clear hc hm
 refine callsIn_of_wp Tryz.func177 rfl h7 ?_ hro
 simp only [Tryz.ntmps177, List.size_toArray, List.length_cons, List.length_nil, Nat.reduceAdd, Nat.reduceSub, Array.replicate_succ, Array.replicate_zero, List.push_toArray, List.append_toArray, List.nil_append, List.cons_append]
 gi_wp2
 gi_loopw [7] (fun i wr => ∃ k : Nat, k ≤ m /\ i = .int .i64 k /\ J (zs.take k) wr /\ SameOn S W wr)
  (fun i _ => m - (intOf i).toNat)
 case atStart => exact ⟨0, Nat.zero_le _, rfl, h0, SameOn.refl _ _⟩
 case round =>
  obtain ⟨k, hk, rfl, hJs, hnx⟩ := hrel
  by_cases hlt : k < m
  ·have hkl : k < zs.length := by rw [<- HM.out]; exact hlt
   obtain ⟨x, hx⟩ : ∃ x, zs[k]? = some x := ⟨_, qG hkl⟩
   obtain ⟨g, o, eao, c3⟩ := HC.out k (f x) (by rw [List.getElem?_map, hx]; rfl)
   have c3' := (hnx.cell (o := o + k) (hSa _ eao)).trans c3
   have et : zs.take (k + 1) = zs.take k ++ [x] := by rw [List.take_add_one, hx]; rfl
   have ET := qH et
   have hy0 := hY _ x wr hJs (by rw [List.length_take]; omega)
   have HX := qH (And.intro hx hkl)
   clear hx hkl et c3
   subst eao
   obtain ⟨fn, tmps, assign, body, hy, hR⟩ := hy0
   gi_wp2
   refine hR.mono ?_
   rintro e W3 (⟨rfl, hJ3, hk3⟩ | ⟨rfl, hJx3⟩)
   ·gi_wp2
    go_roundw
    case rel => exact ⟨k + 1, by omega, by simp, by rw [ET.out]; exact hJ3, hnx.trans hk3⟩
    case measure => first | (simp [intOf]; done) | (simp [intOf]; omega)
   ·gi_wp2
    refine bodyPost_ret (results_none rfl _ _ _) rfl ?_
    exact ⟨⟨_, rfl⟩, .inr ⟨_, by rw [<- ET.out]; exact List.take_prefix _ _, hJx3⟩⟩
  ·obtain rfl : k = m := by omega
   gi_wp2
   go_end0
   exact ⟨⟨_, rfl⟩, .inl ⟨_, by rw [HM.out, List.take_length], hJs⟩⟩
def IterVRow (w : World) (v : Value) {α : Type} (f : α -> Value) (zs : List α) (lo : Nat) : Prop :=
 ∃ Bs ao cap, v = .func (.func 177) #[] #[.pointer (some ⟨Bs, 0, none⟩)] /\ lo ≤ Bs /\ (∀ a, ao = some a -> lo ≤ a.block /\ a.block < w.heap.size) /\ w.cell? ⟨Bs, 0, none⟩ = some (.slice ao zs.length cap) /\ CellsAt w ao (zs.map fun x => f x) /\ zs.length ≤ 1048576 * 1048576
theorem IterVRow.stops {w : World} {v : Value} {α : Type} {f : α -> Value} {zs : List α} {lo : Nat} (h : IterVRow w v f zs lo) (F : Fence) (n : Nat) (h7 : F.fn 177) (hro : F.round = none) (hn : 1 ≤ n) :
 ∃ Bs, v = .func (.func 177) #[] #[.pointer (some ⟨Bs, 0, none⟩)] /\ SeqStopsK F n Tryz.prog 177 #[.pointer (some ⟨Bs, 0, none⟩)] (fun x => #[f x]) (SameOn fun k => lo ≤ k /\ k < w.heap.size) (fun ys => ys = zs) (fun pre => pre <+: zs) zs.length w := by
 obtain ⟨Bs, ao, cap, h1, h2, h3, h4, h5, h6⟩ := h
 refine ⟨Bs, h1, fun l J Jx W hW _ _ hY h0 => ?_⟩
 have hb := World.block_lt_of_cell? _ _ h4
 exact iH f F n h7 hro hn _ l Bs ao zs.length cap zs rfl h6 J Jx hY W ⟨h2, hb⟩ (fun a e => h3 a e) ((Kp.of_below hW).cell h4 id) (h5.ext (Kp.of_below hW)) h0
theorem IterRow.sub {w : World} {v : Value} {zs : List (Option Addr × Nat × Nat)} {lo : Nat} (h : IterRow w v zs lo) : IterVRow w v (fun x : { x // x ∈ zs } => (Value.slice (x.1).1 (x.1).2.1 (x.1).2.2)) zs.attach lo := by
 obtain ⟨Bs, ao, cap, h1, h2, h3, h4, h5, h6⟩ := h
 refine ⟨Bs, ao, cap, h1, h2, h3, by rw [List.length_attach]; exact h4, ?_, by rw [List.length_attach]; exact h6⟩
 have e : (zs.attach.map fun x : { x // x ∈ zs } => (Value.slice (x.1).1 (x.1).2.1 (x.1).2.2)) = zs.map fun x => (Value.slice (x).1 (x).2.1 (x).2.2) := by
  have h : (zs.attach.map fun x : { x // x ∈ zs } => (Value.slice (x.1).1 (x.1).2.1 (x.1).2.2)) = (zs.attach.map Subtype.val).map fun x => (Value.slice (x).1 (x).2.1 (x).2.2) := by rw [List.map_map]; rfl
  rw [h, List.attach_map_subtype_val]
 rw [e]; exact h5
end
section
open Go.RowKit
theorem dX : dB Tryz.prog 66 9 1 16 (.string ⟨#[]⟩) := ⟨by kernel_rfl, by kernel_rfl, rfl, by decide⟩
def rJ (P : Program) (f : FuncId) (first captured : Array Value) (w0 : World) (vs : List Value) (q : Nat -> Bool) : Prop :=
 (∀ args w, (callFunc f args).run P w = .ok (Next.enter f args) w) /\ ∀ w, Ext w0 w -> ∀ i u, vs[i]? = some u -> Calls P f (first.push u ++ captured) w fun e w' => e = .returned (.bool (q i)) /\ Ext w w'
def aHe (n : Nat) (q : Nat -> Bool) (w0 : World) (iv : Value) (w : World) : Prop :=
 ∃ i : Nat, i ≤ n /\ iv = .int .i64 i /\ (∀ j, j < i -> q j = false) /\ Ext w0 w
def aEv (n : Nat) (q : Nat -> Bool) (v : Value) : Prop := (∃ i : Nat, i < n /\ v = .int .i64 i /\ q i = true /\ ∀ j, j < i -> q j = false) \/ (v = .int .i64 (-1) /\ ∀ j, j < n -> q j = false)
set_option maxHeartbeats 2000000 in
theorem pX (vs : List Value) (ao : Option Addr) (c : Nat) (f : FuncId) (first captured : Array Value) (q : Nat -> Bool) (w : World) (n : Nat) (hn : n = vs.length)
 (ha : CellsAt w ao vs) (hcmp : rJ Tryz.prog f first captured w vs q) (hbig : n ≤ 4611686018427387904) :
 Calls Tryz.prog 178 #[.slice ao n c, .func (Fn.func f) first captured] w (RetN w fun w' v => aEv n q v) := by
 have hent := hcmp.1
 have HC := qH hcmp.2; clear hcmp
 have HA := qH ha; clear ha
 have HN := qH hn; clear hn
 go_enter Tryz.func178, Tryz.ntmps178
 go_wp2
 go_loopw [8] (aHe n q w) (fun i _ => n - (intOf i).toNat)
 case atStart => exact ⟨0, Nat.zero_le _, rfl, by simp, Kp.refl _⟩
 case round =>
  obtain ⟨i, hi, rfl, hq, hkp⟩ := hrel
  have HQ := qH hq; clear hq
  by_cases hlt : i < n
  ·have g1 : vs[i]? = some (vs[i]'(by have := HN.out; omega)) := qG _
   obtain ⟨b1, o1, eao, c1⟩ := (HA.out.ext hkp) i _ g1
   have hcall := fun W hW => HC.out W hW i _ g1
   have HCall := qH hcall; clear hcall
   clear g1
   generalize vs[i]'(by have := HN.out; omega) = u at *
   subst eao
   cases hqi : q i
   ·rw [hqi] at HCall
    have HI := qH hqi; clear hqi
    go_wp2_with fail
    refine (HCall.out _ hkp).mono ?_
    rintro e w1 ⟨rfl, hk2⟩
    have hkp2 := hkp.ext hk2
    clear hk2 c1
    go_wp2
    go_roundw
    case rel =>
     refine ⟨i + 1, by omega, by first | rfl | (congr 1; done) | (congr 1; omega), fun j hj => ?_, hkp2⟩
     by_cases e : j = i
     ·subst e; exact HI.out
     ·exact HQ.out j (by omega)
    case measure => first | (simp [intOf]; done) | (simp [intOf]; omega)
   ·rw [hqi] at HCall
    have HI := qH hqi; clear hqi
    go_wp2_with fail
    refine (HCall.out _ hkp).mono ?_
    rintro e w1 ⟨rfl, hk2⟩
    have hkp2 := hkp.ext hk2
    clear hk2 c1
    go_wp2
    go_ret
    exact RetN.mk hkp2 (.inl ⟨i, hlt, rfl, HI.out, HQ.out⟩)
  ·have e : n = i := by omega
   subst e
   clear hlt hi
   go_wp2
   go_ret
   exact RetN.mk hkp (.inr ⟨rfl, HQ.out⟩)
theorem nF (vs : List Value) (ao : Option Addr) (c : Nat) (f : FuncId) (first captured : Array Value) (q : Nat -> Bool) (w : World) (n : Nat) (hn : n = vs.length)
 (ha : CellsAt w ao vs) (hcmp : rJ Tryz.prog f first captured w vs q) (hbig : n ≤ 4611686018427387904) :
 Calls Tryz.prog 126 #[.slice ao n c, .func (Fn.func f) first captured] w (RetN w fun w' v => v = .bool ((List.range n).any q)) := by
 have HI := qH (pX vs ao c f first captured q w n hn ha hcmp hbig); clear ha hcmp hn
 go_enter Tryz.func126, Tryz.ntmps126
 go_wp2_with fail
 refine HI.out.mono ?_
 rintro e w1 ⟨v, rfl, hk, ⟨i, hi, rfl, hq, _⟩ | ⟨rfl, hq⟩⟩
 ·have t : (List.range n).any q = true := List.any_eq_true.2 ⟨i, List.mem_range.2 hi, hq⟩
  have HK := qH (And.intro hk t); clear hk hq t
  go_wp2
  go_ret
  exact RetN.mk HK.out.1 (by rw [HK.out.2]; first | rfl | simp)
 ·have t : (List.range n).any q = false := by
   rw [List.any_eq_false]
   intro i hi
   simp [hq i (List.mem_range.1 hi)]
  have HK := qH (And.intro hk t); clear hk hq t
  go_wp2
  go_ret
  exact RetN.mk HK.out.1 (by rw [HK.out.2]; first | rfl | simp)
theorem gZ (vs : List Value) (ao : Option Addr) (cap : Nat) (w : World) (n : Nat) (hn : n = vs.length) (hc : CellsAt w ao vs) (h1 : ∀ u ∈ vs, u.oneCell' = true) (hm : n * 16 ≤ 140737488355328) :
 Calls Tryz.prog 75 #[.slice ao n cap] w (RetN w fun w' v => Row w' 9 1 v n vs (New w)) := by
 have hq : ∀ w : World, (binOp .eql 66 (.slice ao n cap) (.slice none 0 0)).run Tryz.prog w = .ok (.bool ao.isNone) w := fun w => Lib.run_eql_slice_nil w _ _ _ _ _ _ _ Tryz.underlying66
 have HNN := qH hn; clear hn
 have hl : n ≤ maxLen := by unfold maxLen; omega
 cases ao with
 | none =>
  have hv : vs = [] := by
   cases vs with
   | nil => rfl
   | cons x vs => obtain ⟨b, o, h, _⟩ := hc.off (by simp); cases h
  subst hv
  have h0 : n = 0 := HNN.out
  subst h0
  go_enter Tryz.func75, Tryz.ntmps75
  go_wp2
  go_ret
  exact RetN.mk (Kp.refl _) (Row.nil _ _ _ _)
 | some a =>
  go_enter Tryz.func75, Tryz.ntmps75
  go_wp2_with (first | (at_builtin; refine Halted.out ?_))
  refine Halted.mk (kI dX rfl _ _ rfl ((Kp.refl (F := fun _ => False) w).alloc _) rfl (Row.empty w 9 1 (New w) (Nat.le_refl _)) rfl (hc.alloc _) (by rw [HNN.out, Nat.mul_one]) h1 (by omega) (by omega) ?_)
  intro v1 w1 hr1 hk1 _ _
  have HR := qH hr1; clear hr1
  go_wp2
  go_ret
  exact RetN.mk hk1 (by simpa using HR.out)
end
end Go.Proofs.YtikgpedgmnbcaaaGreatDoor
namespace Go.Proofs.YtikgpedgmnbcaaaGreatDoor
open Go.RowKit
abbrev fQ := Option Addr × Nat × Nat
def ReadsAs (w : World) (x : fQ) (ss : List ByteArray) : Prop := x.2.1 = ss.length /\ CellsAt w x.1 (strs ss)
theorem ReadsAs.unique {w : World} {x : fQ} {a b : List ByteArray} (h : ReadsAs w x a) (h' : ReadsAs w x b) : a = b := by
 obtain ⟨h1, h2⟩ := h
 obtain ⟨h3, h4⟩ := h'
 refine List.ext_getElem (by omega) fun i hi hj => ?_
 obtain ⟨b1, o1, e1, c1⟩ := h2.str hi
 obtain ⟨b2, o2, e2, c2⟩ := h4.str hj
 rw [e1] at e2
 cases e2
 rw [c1] at c2
 simpa using c2
theorem uS (w : World) : ∃ con : fQ -> List ByteArray, ∀ x ss, ReadsAs w x ss -> con x = ss := by
 have h : ∀ x : fQ, ∃ l : List ByteArray, ∀ ss, ReadsAs w x ss -> l = ss := fun x => by
  by_cases hx : ∃ ss, ReadsAs w x ss
  ·obtain ⟨ss, hs⟩ := hx
   exact ⟨ss, fun ss' hs' => hs.unique hs'⟩
  ·exact ⟨[], fun ss hs => absurd ⟨ss, hs⟩ hx⟩
 exact ⟨fun x => Classical.choose (h x), fun x => Classical.choose_spec (h x)⟩
def rV (S : Nat -> Prop) (w : World) (x : fQ) : Prop := ∃ ss, ReadsAs w x ss /\ ss.length ≤ 8796093021952 /\ ∀ a, x.1 = some a -> x.2.1 ≠ 0 -> S a.block
theorem ReadsAs.same {S : Nat -> Prop} {w w' : World} {x : fQ} {ss : List ByteArray} (h : ReadsAs w x ss) (hs : Same S w w') (ha : ∀ a, x.1 = some a -> x.2.1 ≠ 0 -> S a.block) : ReadsAs w' x ss := by
 refine ⟨h.1, fun i u hu => ?_⟩
 have hne : x.2.1 ≠ 0 := by
  have h1 := (List.getElem?_eq_some_iff.1 hu).1
  simp only [strs, List.length_map] at h1
  rw [h.1]; omega
 obtain ⟨b, o, e, c⟩ := h.2 i u hu
 refine ⟨b, o, e, ?_⟩
 rw [World.cell?_of_block (w := w) (hs b (ha _ e hne)).2]; exact c
theorem iT {α : Type} (f : α -> List ByteArray) : OrdLaw (fun x y => aD (f x) (f y)) :=
 ⟨fun x y => by have := mO (f x) (f y); omega, fun x y z h h' => pF h h'⟩
theorem iM {S : Nat -> Prop} {w : World} {con : fQ -> List ByteArray} (hc : ∀ x ss, ReadsAs w x ss -> con x = ss) :
 OrdVRow Tryz.prog S w (.func (Fn.func 120) #[] #[]) (rV S w) (fun x y => aD (con x) (con y)) := by
 refine .inr ⟨_, _, _, rfl, enters_of Tryz.func120 (by kernel_rfl) rfl, fun w' hw x y hx hy => ?_⟩
 obtain ⟨xs, hx1, hx2, hx3⟩ := hx
 obtain ⟨ys, hy1, hy2, hy3⟩ := hy
 have ex := hc x xs hx1
 have ey := hc y ys hy1
 have hx' := hx1.same hw hx3
 have hy' := hy1.same hw hy3
 obtain ⟨ax, nx, cx⟩ := x
 obtain ⟨ay, ny, cy⟩ := y
 obtain ⟨h1, h2⟩ := hx'
 obtain ⟨h3, h4⟩ := hy'
 simp only at h1 h2 h3 h4
 subst h1 h3
 simp only [ex, ey]
 refine (pN xs ys ax ay cx cy w' h2 h4 (by unfold maxLen; omega) (by unfold maxLen; omega)).mono ?_
 rintro e w2 ⟨rfl, rfl⟩
 exact ⟨rfl, Kp.refl w'⟩
def RowsAt (S : Nat -> Prop) (w : World) (b : Nat) (iv : Value) (arity : Nat) (LL : List (List ByteArray)) : Prop :=
 ∃ con zs, (∀ x ss, ReadsAs w x ss -> con x = ss) /\ SetAtRow Tryz.prog S w b (.func (Fn.func 120) #[] #[]) iv [.int .i64 arity] 138 (rV S w) (fun x y => aD (con x) (con y)) zs /\ zs.map con = LL
theorem pU (s : ByteArray) (w : World) : Calls Tryz.prog 102 #[.string s] w (Ret (.bool (decide (1 ≤ s.size /\ s.size ≤ 4096))) w) := by
 by_cases h1 : 1 ≤ s.size
 ·have q1 : (1 : Int) ≤ (s.size : Int) := by omega
  by_cases h2 : s.size ≤ 4096
  ·have q2 : (s.size : Int) ≤ 4096 := by omega
   have H := qH (And.intro h1 h2)
   go_enter Tryz.func102, Tryz.ntmps102
   go_wp2
   go_ret
   exact Ret.mk (by simp [H.out.1, H.out.2])
  ·have q2 : ¬ (s.size : Int) ≤ 4096 := by omega
   have H := qH h2
   go_enter Tryz.func102, Tryz.ntmps102
   go_wp2
   go_ret
   exact Ret.mk (by simp)
 ·have q1 : ¬ (1 : Int) ≤ (s.size : Int) := by omega
  have H := qH h1
  go_enter Tryz.func102, Tryz.ntmps102
  go_wp2
  go_ret
  exact Ret.mk (by simp)
theorem zS (s : ByteArray) (w : World) : Calls Tryz.prog 127 #[.string s] w (Ret (.bool (decide (4096 < s.size))) w) := by
 by_cases h : 4096 < s.size
 ·have q : (4096 : Int) < (s.size : Int) := by omega
  have H := qH h
  go_enter Tryz.func127, Tryz.ntmps127
  go_wp2
  go_ret
  exact Ret.mk (by simp [H.out])
 ·have q : ¬ (4096 : Int) < (s.size : Int) := by omega
  have H := qH h
  go_enter Tryz.func127, Tryz.ntmps127
  go_wp2
  go_ret
  exact Ret.mk (by simp)
def bV (ss : List ByteArray) : Bool := ss.all fun s => decide (s.size ≤ 4096)
theorem pO (ss : List ByteArray) (ao : Option Addr) (n c : Nat) (w : World) (hn : n = ss.length) (hc : CellsAt w ao (strs ss)) (hl : n ≤ 4611686018427387904) :
 Calls Tryz.prog 76 #[.slice ao n c] w (RetN w fun w' v => v = .bool (bV ss)) := by
 have hent : ∀ args w, (callFunc 127 args).run Tryz.prog w = .ok (.enter 127 args) w := enters_of Tryz.func127 (by kernel_rfl) rfl
 have hi := nF (strs ss) ao c 127 #[] #[] (fun i => decide (4096 < (ss[i]?.getD ⟨#[]⟩).size)) w n (by simp [strs, hn]) hc ⟨hent, fun w' _ i u hu => by
  rw [strs, List.getElem?_map] at hu
  cases hs : ss[i]? with
  | none => rw [hs] at hu; cases hu
  | some s =>
   rw [hs] at hu
   cases hu
   refine (zS s w').mono ?_
   rintro e w2 ⟨rfl, rfl⟩
   exact ⟨by simp [hs], Kp.refl _⟩⟩ hl
 have key : (!(List.range n).any fun i => decide (4096 < (ss[i]?.getD ⟨#[]⟩).size)) = bV ss := by
  rw [Bool.eq_iff_iff]
  simp only [Bool.not_eq_true', List.any_eq_false, List.mem_range, decide_eq_true_eq, bV, List.all_eq_true]
  constructor
  ·intro h s hs
   obtain ⟨i, hi, rfl⟩ := List.mem_iff_getElem.1 hs
   have := h i (by omega)
   simp only [qG hi, Option.getD_some] at this
   omega
  ·intro h i hi
   have hi' : i < ss.length := by omega
   have := h ss[i] (List.getElem_mem _)
   simp only [qG hi', Option.getD_some]
   omega
 have HI := qH (And.intro hi key); clear hi key hent hc hn
 go_enter Tryz.func76, Tryz.ntmps76
 go_wp2_with fail
 refine HI.out.1.mono ?_
 rintro e w1 ⟨v, rfl, hk, rfl⟩
 have HK := qH hk; clear hk
 go_wp2
 go_ret
 exact RetN.mk HK.out (by rw [<- HI.out.2]; rfl)
end Go.Proofs.YtikgpedgmnbcaaaGreatDoor
namespace Go.Proofs.YtikgpedgmnbcaaaGreatDoor
open Go.RowKit
section
variable {S S' : Nat -> Prop} {w w' : World} {b : Nat} {iv : Value} {arity : Nat} {LL : List (List ByteArray)}
theorem RowsAt.move {F : Nat -> Prop} (h : RowsAt S w b iv arity LL) (hk : Kp F w w') (hF : ∀ k, F k -> ¬ cS b iv k) (hS : ∀ k, F k -> ¬ S k) (hsub : ∀ k, S k -> S' k) (hin : ∀ k, S' k -> k < w'.heap.size) (hno : ∀ k, cS b iv k -> ¬ S' k) :
 RowsAt S' w' b iv arity LL := by
 obtain ⟨con, zs, hc, hs, hl⟩ := h
 obtain ⟨con', hc'⟩ := uS w'
 have hs' := hs.kp hk hF hS
 have hsame : Same S w w' := hk.same hs.inS fun k h1 h2 => hS k h2 h1
 have all : ∀ z ∈ zs, rV S' w' z /\ con' z = con z := fun z hz => by
  obtain ⟨ss, h1, h2, h3⟩ := hs.all z hz
  have h1' := h1.same hsame h3
  exact ⟨⟨ss, h1', h2, fun a e hne => hsub _ (h3 a e hne)⟩, by rw [hc' z ss h1', hc z ss h1]⟩
 refine ⟨con', zs, hc', ⟨hs'.blk, hs'.row, hs'.apart, hin, hno, iM hc', fun z hz => (all z hz).1, hs.len⟩, ?_⟩
 rw [<- hl]
 exact List.map_congr_left fun z hz => (all z hz).2
theorem RowsAt.ext (h : RowsAt S w b iv arity LL) (hk : Ext w w') : RowsAt S w' b iv arity LL := by
 have hb := h
 obtain ⟨con, zs, hc, hs, hl⟩ := hb
 exact h.move hk (fun _ x => x.elim) (fun _ x => x.elim) (fun _ h => h) (fun k hk' => Nat.lt_of_lt_of_le (hs.inS k hk') hk.size) hs.notS
theorem RowsAt.blk (h : RowsAt S w b iv arity LL) : Blk w b [.func (Fn.func 120) #[] #[], iv, .int .i64 arity] 138 := by
 obtain ⟨con, zs, hc, hs, hl⟩ := h
 exact hs.blk
theorem aAb (w : World) : Calls Tryz.prog 70 #[.pointer none] w (Ret (.pointer none) w) := by
 go_enter Tryz.func70, Tryz.ntmps70
 go_wp2
 go_ret
 exact Ret.mk rfl
theorem gD (h : RowsAt S w b iv arity LL) : Calls Tryz.prog 70 #[.pointer (some ⟨b, 0, none⟩)] w (Ret (.pointer (some ⟨b, 0, none⟩)) w) := by
 have c0 : w.cell? ⟨b, 0, none⟩ = some (.func (Fn.func 120) #[] #[]) := by rw [h.blk.cell']; rfl
 have hq : ∀ w : World, (binOp .eql 132 (.func (Fn.func 120) #[] #[]) .nilFunc).run Tryz.prog w = .ok (.bool false) w := fun _ => by kernel_rfl
 clear h
 go_enter Tryz.func70, Tryz.ntmps70
 go_wp2
 go_ret
 exact Ret.mk rfl
theorem aAc (h : RowsAt S w b iv arity LL) : Calls Tryz.prog 36 #[.pointer (some ⟨b, 0, none⟩)] w (Ret (.int .i64 (LL.length : Nat)) w) := by
 have H := qH h
 obtain ⟨con, zs, hc, hs, hl⟩ := h
 have HS := qH hs
 have HL := qH (show zs.length = LL.length by rw [<- hl]; simp)
 clear hs hc hl
 go_enter Tryz.func36, Tryz.ntmps36
 go_wp2_with fail
 refine (gD H.out).mono ?_
 rintro e w' ⟨rfl, rfl⟩
 go_wp2_with fail
 refine (nI HS.out).mono ?_
 rintro e w' ⟨rfl, rfl⟩
 go_wp2
 go_ret
 exact Ret.mk (by rw [<- HL.out]; rfl)
theorem aC3 (S : Nat -> Prop) (w : World) (a : Nat) (hS : ∀ k, S k -> k < w.heap.size) :
 RowsAt S (w.alloc (.cells #[.func (Fn.func 120) #[] #[], .slice none 0 0, .int .i64 a] 138)) w.heap.size (.slice none 0 0) a [] := by
 obtain ⟨con, hc⟩ := uS (w.alloc (.cells #[.func (Fn.func 120) #[] #[], .slice none 0 0, .int .i64 a] 138))
 refine ⟨con, [], hc, ⟨Blk.new w [.func (Fn.func 120) #[] #[], .slice none 0 0, .int .i64 a] 138, Row.nil _ _ _ _, by simp [Value.ownBlock], fun k hk => by rw [aK]; have := hS k hk; omega, fun k ho hs => ?_, iM hc, by simp, by simp⟩, rfl⟩
 rcases ho with rfl | ho
 ·have := hS _ hs; omega
 ·cases ho
theorem gF (S : Nat -> Prop) (w : World) (a : Nat) (ha : a ≤ 64) (hS : ∀ k, S k -> k < w.heap.size) :
 Calls Tryz.prog 68 #[.int .i64 a] w (RetN w fun w' v => v = .tuple #[.pointer (some ⟨w.heap.size, 0, none⟩), .int .i64 0] /\ RowsAt S w' w.heap.size (.slice none 0 0) a []) := by
 have HR := qH (aC3 S w a hS)
 have q1 : ¬ (a : Int) < 0 := by omega
 have q2 : ¬ (64 : Int) < (a : Int) := by omega
 clear hS
 go_enter Tryz.func68, Tryz.ntmps68
 go_wp2
 go_ret2
 exact RetN.mk ((Kp.refl w).alloc _) ⟨rfl, HR.out⟩
end
end Go.Proofs.YtikgpedgmnbcaaaGreatDoor
namespace Go.Proofs.YtikgpedgmnbcaaaGreatDoor
open Go.RowKit
def RowIn (w : World) (x : fQ) (ss : List ByteArray) : Prop := ReadsAs w x ss /\ ss.length ≤ 8796093021952 /\ ∀ a, x.1 = some a -> x.2.1 ≠ 0 -> a.block < w.heap.size
def fP (x : fQ) (F : Nat -> Prop) : Prop := ∀ a, x.1 = some a -> x.2.1 ≠ 0 -> ¬ F a.block
def gQ (S : Nat -> Prop) (x : fQ) : Nat -> Prop := fun k => S k \/ ∃ a, x.1 = some a /\ x.2.1 ≠ 0 /\ a.block = k
section
variable {S : Nat -> Prop} {w w' : World} {b : Nat} {iv : Value} {arity : Nat} {LL : List (List ByteArray)}
theorem RowsAt.inS (h : RowsAt S w b iv arity LL) : ∀ k, S k -> k < w.heap.size := by
 obtain ⟨con, zs, hc, hs, hl⟩ := h
 exact hs.inS
theorem RowsAt.notS (h : RowsAt S w b iv arity LL) : ∀ k, cS b iv k -> ¬ S k := by
 obtain ⟨con, zs, hc, hs, hl⟩ := h
 exact hs.notS
theorem RowsAt.pool (h : RowsAt S w b iv arity LL) {x : fQ} {ss : List ByteArray} (hx : RowIn w x ss) (ho : fP x (cS b iv)) : RowsAt (gQ S x) w b iv arity LL := by
 refine h.move (F := fun _ => False) (Kp.refl w) (fun _ x => x.elim) (fun _ x => x.elim) (fun k hk => .inl hk) (fun k hk => ?_) (fun k hk hs => ?_)
 ·rcases hk with hk | ⟨a, e, hne, rfl⟩
  ·exact h.inS k hk
  ·exact hx.2.2 a e hne
 ·rcases hs with hs | ⟨a, e, hne, rfl⟩
  ·exact h.notS k hk hs
  ·exact ho a e hne hk
theorem RowsAt.open (h : RowsAt S w b iv arity LL) (hst : Strict aD LL) {x : fQ} {ss : List ByteArray} (hx : RowIn w x ss) (ho : fP x (cS b iv)) :
 ∃ con zs, (∀ x ss, ReadsAs w x ss -> con x = ss) /\ SetAtRow Tryz.prog (gQ S x) w b (.func (Fn.func 120) #[] #[]) iv [.int .i64 arity] 138 (rV (gQ S x) w) (fun x y => aD (con x) (con y)) zs /\ zs.map con = LL /\
  rV (gQ S x) w x /\ con x = ss /\ Strict (fun x y => aD (con x) (con y)) zs /\ bA (fun x y => aD (con x) (con y)) zs x = bA aD LL ss /\ below (fun x y => aD (con x) (con y)) zs x = below aD LL ss := by
 obtain ⟨con, zs, hc, hs, hl⟩ := h.pool hx ho
 have ex := hc x ss hx.1
 refine ⟨con, zs, hc, hs, hl, ⟨ss, hx.1, hx.2.1, fun a e hne => .inr ⟨a, e, hne, rfl⟩⟩, ex, ?_, ?_, ?_⟩
 ·rw [<- hl] at hst
  exact List.pairwise_map.1 hst
 ·rw [<- hl, <- ex]; simp [bA, List.any_map, Function.comp_def]
 ·rw [<- hl, <- ex]; simp [below, List.filter_map, Function.comp_def]
theorem lY (h : RowsAt S w b iv arity LL) (hst : Strict aD LL) {x : fQ} {ss : List ByteArray} (hx : RowIn w x ss) (ho : fP x (cS b iv)) :
 Calls Tryz.prog 77 #[.pointer (some ⟨b, 0, none⟩), .slice x.1 x.2.1 x.2.2] w (RetN w fun w' v => v = .bool (bA aD LL ss)) := by
 have H := qH h
 obtain ⟨con, zs, hc, hs, hl, hd, ex, hz, e1, e2⟩ := h.open hst hx ho
 have HF := qH (nJ (iT con) x hd hz hs)
 rw [e1] at HF
 clear h hst hx ho hc hs hl hd ex hz e1 e2
 go_enter Tryz.func77, Tryz.ntmps77
 go_wp2_with fail
 refine (gD H.out).mono ?_
 rintro e w' ⟨rfl, rfl⟩
 go_wp2_with fail
 refine HF.out.mono ?_
 rintro e w1 ⟨v, rfl, hk, rfl⟩
 have HK := qH hk; clear hk
 go_wp2
 go_ret
 exact RetN.mk HK.out rfl
theorem RowsAt.of_set {S' : Nat -> Prop} {w1 w2 : World} {con : fQ -> List ByteArray} {zs : List fQ} (hc : ∀ x ss, ReadsAs w1 x ss -> con x = ss) (hsame : Same S' w1 w2)
 (h : SetAtRow Tryz.prog S' w2 b (.func (Fn.func 120) #[] #[]) iv [.int .i64 arity] 138 (rV S' w1) (fun x y => aD (con x) (con y)) zs) : RowsAt S' w2 b iv arity (zs.map con) := by
 obtain ⟨con', hc'⟩ := uS w2
 have all : ∀ z ∈ zs, rV S' w2 z /\ con' z = con z := fun z hz => by
  have hd := h.all z hz
  obtain ⟨ss, h1, h2, h3⟩ := hd
  have h1' := h1.same hsame h3
  exact ⟨⟨ss, h1', h2, h3⟩, by rw [hc' z ss h1', hc z ss h1]⟩
 exact ⟨con', zs, hc', ⟨h.blk, h.row, h.apart, h.inS, h.notS, iM hc', fun z hz => (all z hz).1, h.len⟩, List.map_congr_left fun z hz => (all z hz).2⟩
def aM (arity : Nat) (LL : List (List ByteArray)) (ss : List ByteArray) : Bool × Nat :=
 if ss.length ≠ arity then (false, 30) else if bV ss = false then (false, 31) else if 65536 ≤ LL.length /\ bA aD LL ss = false then (false, 4) else (!bA aD LL ss, 0)
def aX (arity : Nat) (LL : List (List ByteArray)) (ss : List ByteArray) : List (List ByteArray) := if (aM arity LL ss).2 = 0 then dA aD LL ss else LL
theorem aE4 (h : RowsAt S w b iv arity LL) (hst : Strict aD LL) {ao : Option Addr} {n cap : Nat} {ss : List ByteArray} {w1 : World} (hk : Ext w w1) (hr : Row w1 9 1 (.slice ao n cap) n (strs ss) (New w)) (hn : n = ss.length) (hl : n ≤ 8796093021952) (hLL : LL.length + 1 ≤ 1048576 * 1048576) :
 Calls Tryz.prog 78 #[.pointer (some ⟨b, 0, none⟩), .slice ao n cap] w1 (RetF (cS b iv) w1 fun w' v => v = .bool (!bA aD LL ss) /\
  ∃ iv', RowsAt (gQ S (ao, n, cap)) w' b iv' arity (dA aD LL ss) /\ ∀ k, iv'.ownBlock = some k -> iv.ownBlock = some k \/ w1.heap.size ≤ k) := by
 have hx : RowIn w1 (ao, n, cap) ss := by
  obtain ⟨ao', cap', e, hc, _⟩ := hr.shape
  cases e
  refine ⟨⟨hn, hc⟩, by omega, fun a e _ => ?_⟩
  have e' : ao = some a := e
  subst e'
  exact hr.lt a.block rfl
 have ho : fP (ao, n, cap) (cS b iv) := fun a e _ ho => by
  have e' : ao = some a := e
  subst e'
  have h1 : w.heap.size ≤ a.block := hr.block a.block rfl
  have h2 : a.block < w.heap.size := by
   obtain ⟨con, zs, hc, hs, hl⟩ := h
   rcases ho with ho | ho
   ·rw [ho]; exact hs.blk.lt
   ·exact hs.row.lt _ ho
  omega
 obtain ⟨con, zs, hc, hs, hlz, hd, ex, hz, e1, e2⟩ := (h.ext hk).open hst hx ho
 have hzl : zs.length = LL.length := by rw [<- hlz]; simp
 refine (vD (iT con) (ao, n, cap) hd hz hs (by omega)).mono ?_
 rintro e w2 ⟨v, rfl, hk2, rfl, iv', hs2, hiv⟩
 refine RetF.mk hk2 ⟨by rw [e1], iv', ?_, hiv⟩
 have hsame : Same (gQ S (ao, n, cap)) w1 w2 := hk2.same hs.inS fun k h1 h2 => hs.notS k h2 h1
 have := RowsAt.of_set hc hsame hs2
 rwa [<- aJf con zs (ao, n, cap), hlz, ex] at this
end
end Go.Proofs.YtikgpedgmnbcaaaGreatDoor
namespace Go.Proofs.YtikgpedgmnbcaaaGreatDoor
open Go.RowKit
section
variable {S : Nat -> Prop} {w w' : World} {b : Nat} {iv : Value} {arity : Nat} {LL : List (List ByteArray)}
def RowsAdded (S : Nat -> Prop) (w : World) (b : Nat) (iv : Value) (arity : Nat) (LL : List (List ByteArray)) (ss : List ByteArray) (w' : World) (v : Value) : Prop :=
 v = .tuple #[.bool (aM arity LL ss).1, .int .i64 ((aM arity LL ss).2 : Nat)] /\
  ∃ S' iv', (∀ k, S k -> S' k) /\ (∀ k, S' k -> S k \/ w.heap.size ≤ k) /\ RowsAt S' w' b iv' arity (aX arity LL ss) /\ ∀ k, iv'.ownBlock = some k -> iv.ownBlock = some k \/ w.heap.size ≤ k
theorem RowsAdded.same (h : RowsAt S w b iv arity LL) {ss : List ByteArray} {w1 : World} (hk : Ext w w1) {v : Value} (hv : v = .tuple #[.bool (aM arity LL ss).1, .int .i64 ((aM arity LL ss).2 : Nat)]) (h0 : aX arity LL ss = LL) : RowsAdded S w b iv arity LL ss w1 v :=
 ⟨hv, S, iv, fun _ h => h, fun _ h => .inl h, by rw [h0]; exact h.ext hk, fun _ h => .inl h⟩
set_option maxHeartbeats 2000000 in
theorem lZ (h : RowsAt S w b iv arity LL) (hst : Strict aD LL) {ao : Option Addr} {n cap : Nat} {ss : List ByteArray} (hx : RowIn w (ao, n, cap) ss) (ho : fP (ao, n, cap) (cS b iv)) (hLL : LL.length + 1 ≤ 1048576 * 1048576) :
 Calls Tryz.prog 39 #[.pointer (some ⟨b, 0, none⟩), .slice ao n cap] w (RetF (cS b iv) w (RowsAdded S w b iv arity LL ss)) := by
 have hn : n = ss.length := hx.1.1
 have hcs : CellsAt w ao (strs ss) := hx.1.2
 have hl : ss.length ≤ 8796093021952 := hx.2.1
 have c2 : w.cell? ⟨b, 2, none⟩ = some (.int .i64 arity) := by rw [h.blk.cell']; rfl
 have HT := qH (pO ss ao n cap w hn hcs (by omega))
 have HH := qH (fun w1 (hw : Ext w w1) => lY (h.ext hw) hst (x := (ao, n, cap)) (ss := ss) ⟨⟨hn, hcs.ext hw⟩, hl, fun a e hne => Nat.lt_of_lt_of_le (hx.2.2 a e hne) hw.size⟩ ho)
 have HLN := qH (fun w1 (hw : Ext w w1) => aAc (h.ext hw))
 have HS := qH (fun w1 (hw : Ext w w1) => gD (h.ext hw))
 have HCL := qH (fun w1 (hw : Ext w w1) => gZ (strs ss) ao cap w1 n (by simp [strs, hn]) (hcs.ext hw) (oH ss) (by omega))
 have HP := qH (fun w0 w1 ao1 cap1 (hw : Ext w w0) (hk : Ext w0 w1) hr => aE4 (w := w0) (w1 := w1) (ao := ao1) (n := n) (cap := cap1) (h.ext hw) hst hk hr hn (by omega) hLL)
 have H := qH h
 have HN := qH hn
 clear h hst hx ho hcs hn
 obtain ⟨m, em⟩ : ∃ m, m = LL.length := ⟨_, rfl⟩
 rw [<- em] at HLN hLL
 have EM := qH em; clear em hLL
 by_cases h1 : n = arity
 ·have q1 : ((n : Int) != (arity : Int)) = false := by simp [h1]
  have H1 := qH h1; clear h1
  cases ht : bV ss with
  | false =>
   have HTX := qH ht
   rw [ht] at HT; clear ht
   go_enter Tryz.func39, Tryz.ntmps39
   go_wp2_with fail
   refine HT.out.mono ?_
   rintro e w1 ⟨v, rfl, hk, rfl⟩
   have HK := qH hk; clear hk
   go_wp2
   go_ret2
   have e0 : aM arity LL ss = (false, 31) := by unfold aM; rw [if_neg (by rw [<- HN.out, H1.out]; simp), if_pos HTX.out]
   exact RetF.mk (Ext.kp HK.out) (RowsAdded.same H.out HK.out (by rw [e0]; rfl) (by unfold aX; rw [e0]; rfl))
  | true =>
   have HTX := qH ht
   rw [ht] at HT; clear ht
   by_cases hf : 65536 ≤ m
   ·have q2 : decide ((65536 : Int) ≤ (m : Int)) = true := by rw [decide_eq_true_iff]; omega
    have HF := qH hf; clear hf
    cases hi : bA aD LL ss with
    | false =>
     have HI := qH hi
     rw [hi] at HH; clear hi
     go_enter Tryz.func39, Tryz.ntmps39
     go_wp2_with fail
     refine HT.out.mono ?_
     rintro e w0 ⟨v, rfl, hk0, rfl⟩
     go_wp2_with fail
     refine (HLN.out w0 hk0).mono ?_
     rintro e w' ⟨rfl, rfl⟩
     go_wp2_with fail
     refine (HH.out w0 hk0).mono ?_
     rintro e w1 ⟨v, rfl, hk01, rfl⟩
     have hk1 := hk0.trans hk01
     clear hk0 hk01
     have HK := qH hk1; clear hk1
     go_wp2
     go_ret2
     have e0 : aM arity LL ss = (false, 4) := by unfold aM; rw [if_neg (by rw [<- HN.out, H1.out]; simp), if_neg (by rw [HTX.out]; simp), if_pos ⟨EM.out ▸ HF.out, HI.out⟩]
     exact RetF.mk (Ext.kp HK.out) (RowsAdded.same H.out HK.out (by rw [e0]; rfl) (by unfold aX; rw [e0]; rfl))
    | true =>
     have HI := qH hi
     rw [hi] at HH; clear hi
     go_enter Tryz.func39, Tryz.ntmps39
     go_wp2_with fail
     refine HT.out.mono ?_
     rintro e w0 ⟨v, rfl, hk0, rfl⟩
     go_wp2_with fail
     refine (HLN.out w0 hk0).mono ?_
     rintro e w' ⟨rfl, rfl⟩
     go_wp2_with fail
     refine (HH.out w0 hk0).mono ?_
     rintro e w1 ⟨v, rfl, hk01, rfl⟩
     have hk1 := hk0.trans hk01
     clear hk0 hk01
     go_wp2_with fail
     refine (HS.out w1 hk1).mono ?_
     rintro e w' ⟨rfl, rfl⟩
     go_wp2_with fail
     refine (HCL.out w1 hk1).mono ?_
     rintro e w2 ⟨v, rfl, hk2, hr2⟩
     obtain ⟨ao2, cap2, ev, _, _⟩ := hr2.shape
     subst ev
     go_wp2_with fail
     refine (HP.out w1 w2 ao2 cap2 hk1 hk2 hr2).mono ?_
     rintro e w3 ⟨v, rfl, hk3, rfl, iv', hrows, hiv⟩
     have HR := qH (And.intro hk3 (And.intro hrows hiv))
     have hb2 := hr2.block
     clear hk3 hrows hiv hr2
     go_wp2
     go_ret2
     have e0 : aM arity LL ss = (!bA aD LL ss, 0) := by unfold aM; rw [if_neg (by rw [<- HN.out, H1.out]; simp), if_neg (by rw [HTX.out]; simp), if_neg (fun h => by rw [HI.out] at h; cases h.2)]
     have z1 := hk1.size
     have z2 := hk2.size
     refine RetF.mk ((Ext.kp (hk1.trans hk2)).trans HR.out.1) ⟨by rw [e0]; rfl, gQ S (ao2, n, cap2), iv', fun k h => .inl h, fun k h => ?_, by unfold aX; rw [e0]; exact HR.out.2.1, fun k h => (HR.out.2.2 k h).imp id (fun h => by omega)⟩
     rcases h with h | ⟨a, e, _, rfl⟩
     ·exact .inl h
     ·have e' : ao2 = some a := e
      subst e'
      have := hb2 a.block rfl
      exact .inr (Nat.le_trans z1 this)
   ·have q2 : decide ((65536 : Int) ≤ (m : Int)) = false := by rw [decide_eq_false_iff_not]; omega
    have HF := qH hf; clear hf
    go_enter Tryz.func39, Tryz.ntmps39
    go_wp2_with fail
    refine HT.out.mono ?_
    rintro e w1 ⟨v, rfl, hk1, rfl⟩
    go_wp2_with fail
    refine (HLN.out w1 hk1).mono ?_
    rintro e w' ⟨rfl, rfl⟩
    go_wp2_with fail
    refine (HS.out w1 hk1).mono ?_
    rintro e w' ⟨rfl, rfl⟩
    go_wp2_with fail
    refine (HCL.out w1 hk1).mono ?_
    rintro e w2 ⟨v, rfl, hk2, hr2⟩
    obtain ⟨ao2, cap2, ev, _, _⟩ := hr2.shape
    subst ev
    go_wp2_with fail
    refine (HP.out w1 w2 ao2 cap2 hk1 hk2 hr2).mono ?_
    rintro e w3 ⟨v, rfl, hk3, rfl, iv', hrows, hiv⟩
    have HR := qH (And.intro hk3 (And.intro hrows hiv))
    have hb2 := hr2.block
    clear hk3 hrows hiv hr2
    go_wp2
    go_ret2
    have e0 : aM arity LL ss = (!bA aD LL ss, 0) := by unfold aM; rw [if_neg (by rw [<- HN.out, H1.out]; simp), if_neg (by rw [HTX.out]; simp), if_neg (fun h => HF.out (EM.out ▸ h.1))]
    have z1 := hk1.size
    have z2 := hk2.size
    refine RetF.mk ((Ext.kp (hk1.trans hk2)).trans HR.out.1) ⟨by rw [e0]; rfl, gQ S (ao2, n, cap2), iv', fun k h => .inl h, fun k h => ?_, by unfold aX; rw [e0]; exact HR.out.2.1, fun k h => (HR.out.2.2 k h).imp id (fun h => by omega)⟩
    rcases h with h | ⟨a, e, _, rfl⟩
    ·exact .inl h
    ·have e' : ao2 = some a := e
     subst e'
     have := hb2 a.block rfl
     exact .inr (Nat.le_trans z1 this)
 ·have q1 : ((n : Int) != (arity : Int)) = true := by rw [bne_iff_ne]; omega
  have H1 := qH h1; clear h1
  go_enter Tryz.func39, Tryz.ntmps39
  go_wp2
  go_ret2
  have e0 : aM arity LL ss = (false, 30) := by unfold aM; rw [if_pos (by rw [<- HN.out]; exact H1.out)]
  exact RetF.mk (Kp.refl _) (RowsAdded.same H.out (Kp.refl _) (by rw [e0]; rfl) (by unfold aX; rw [e0]; rfl))
end
end Go.Proofs.YtikgpedgmnbcaaaGreatDoor
namespace Go.Proofs.YtikgpedgmnbcaaaGreatDoor
section
abbrev bJ := ByteArray × Nat × List (List ByteArray)
abbrev nG := ByteArray × Int × List (List ByteArray) × Unit
abbrev aC := List (List ByteArray)
theorem cZ : OrdLaw aD := iT id
theorem zB : aFl aD := fun _ _ h => jK h
def dD (C : List bJ) (s : ByteArray) : Option (Nat × aC) := (C.find? fun p => decide (p.1 = s)).map (·.2)
def oJ (C : List bJ) (s : ByteArray) (v : Nat × aC) : List bJ := if (dD C s).isSome then C.map fun p => if p.1 = s then (p.1, v) else p else C ++ [(s, v)]
def bG (C : List bJ) : Nat := (C.map fun p => p.2.2.length).sum
def bO (s : ByteArray) : Bool := decide (1 ≤ s.size /\ s.size ≤ 4096)
def eA (C : List bJ) (s : ByteArray) (a : Int) : Nat := if bO s = false then 32 else if a < 0 \/ 64 < a then 2 else match dD C s with | some v => if (v.1 : Int) = a then 0 else 30 | none => 0
def gN (C : List bJ) (s : ByteArray) (a : Int) : List bJ := if eA C s a = 0 /\ dD C s = none then C ++ [(s, a.toNat, [])] else C
def cE (C : List bJ) (s : ByteArray) : aC := match dD C s with | some v => v.2 | none => []
def qL (C : List bJ) (s : ByteArray) (row : List ByteArray) : Bool := match dD C s with | some v => decide (v.1 = row.length) | none => decide (row.length ≤ 64)
def eY (C : List bJ) (s : ByteArray) (row : List ByteArray) : Bool × Nat :=
 if bO s = false then (false, 32) else
 if qL C s row = false then (false, 30) else
 if bV row = false then (false, 31) else
 if 262144 ≤ bG C /\ bA aD (cE C s) row = false then (false, 4) else
 if 65536 ≤ (cE C s).length /\ bA aD (cE C s) row = false then (false, 4) else (!bA aD (cE C s) row, 0)
def qN (C : List bJ) (s : ByteArray) (row : List ByteArray) : List bJ := if (eY C s row).2 = 0 then oJ C s (row.length, dA aD (cE C s) row) else C
def fN (C : List bJ) (s : ByteArray) : aC -> List bJ × Nat
 | [] => (C, 0)
 | r :: rs => if (eY C s r).2 = 0 then fN (qN C s r) s rs else (C, (eY C s r).2)
def gT (C : List bJ) : List nG -> List bJ × Nat
 | [] => (C, 0)
 | r :: rs => if eA C r.1 r.2.1 = 0 then (if (fN (gN C r.1 r.2.1) r.1 r.2.2.1).2 = 0 then gT (fN (gN C r.1 r.2.1) r.1 r.2.2.1).1 rs else fN (gN C r.1 r.2.1) r.1 r.2.2.1) else (C, eA C r.1 r.2.1)
structure CntOk (p : bJ) : Prop where
 name : bO p.1 = true
 ar : p.2.1 ≤ 64
 strict : Strict aD p.2.2
 len : ∀ r ∈ p.2.2, r.length = p.2.1
 txt : ∀ r ∈ p.2.2, bV r = true
 few : p.2.2.length ≤ 65536
structure BaseOk (C : List bJ) : Prop where
 nodup : (C.map (·.1)).Nodup
 all : ∀ p ∈ C, CntOk p
 few : bG C ≤ 262144
theorem kD {C : List bJ} (h : (C.map (·.1)).Nodup) {s : ByteArray} {v : Nat × aC} : dD C s = some v ↔ (s, v) ∈ C := by
 unfold dD
 induction C with
 | nil => simp
 | cons p C ih =>
  rw [List.map_cons, List.nodup_cons] at h
  by_cases e : p.1 = s
  ·rw [List.find?_cons_of_pos (by simp [e])]
   subst e
   simp only [Option.map_some, Option.some.injEq, List.mem_cons]
   constructor
   ·rintro rfl; exact .inl rfl
   ·rintro (h1 | h1)
    ·rw [<- h1]
    ·exact absurd (List.mem_map.2 ⟨_, h1, rfl⟩) h.1
  ·rw [List.find?_cons_of_neg (by simp [e]), ih h.2, List.mem_cons]
   constructor
   ·exact .inr
   ·rintro (h1 | h1)
    ·exact absurd (by rw [<- h1]) e
    ·exact h1
theorem wZ {C : List bJ} {s : ByteArray} : dD C s = none ↔ s ∉ C.map (·.1) := by
 unfold dD
 rw [Option.map_eq_none_iff, List.find?_eq_none]
 constructor
 ·intro h hm
  obtain ⟨p, hp, rfl⟩ := List.mem_map.1 hm
  exact h p hp (by simp)
 ·intro h p hp hd
  exact h (List.mem_map.2 ⟨p, hp, by simpa using hd⟩)
theorem aFu {C : List bJ} {s : ByteArray} {v : Nat × aC} : (oJ C s v).map (·.1) = if (dD C s).isSome then C.map (·.1) else C.map (·.1) ++ [s] := by
 unfold oJ
 split
 ·rw [List.map_map]
  apply List.map_congr_left
  intro p _
  simp only [Function.comp]; split <;> rfl
 ·simp
theorem wJ {C : List bJ} (h : (C.map (·.1)).Nodup) (s : ByteArray) (v : Nat × aC) : ((oJ C s v).map (·.1)).Nodup := by
 rw [aFu]
 split
 ·exact h
 ·rename_i hn
  have h0 : dD C s = none := by
   cases hg : dD C s with
   | none => rfl
   | some u => rw [hg] at hn; simp at hn
  exact List.nodup_append.2 ⟨h, by simp, fun a ha b hb e => wZ.1 h0 (by rw [List.mem_singleton] at hb; rw [<- hb, <- e]; exact ha)⟩
theorem aE8 {C : List bJ} {s : ByteArray} {v : Nat × aC} {p : bJ} (h : p ∈ oJ C s v) : p = (s, v) \/ p ∈ C := by
 unfold oJ at h
 split at h
 ·obtain ⟨q, hq, e⟩ := List.mem_map.1 h
  split at e
  ·rename_i e2; left; rw [<- e, e2]
  ·right; rw [<- e]; exact hq
 ·rcases List.mem_append.1 h with h | h
  ·exact .inr h
  ·left; simpa using h
theorem jT {C : List bJ} {s : ByteArray} (h : dD C s = none) : cE C s = [] := by unfold cE; rw [h]
theorem fY {C : List bJ} {s : ByteArray} {v : Nat × aC} (h : dD C s = some v) : cE C s = v.2 := by unfold cE; rw [h]
theorem aKj {C : List bJ} {s : ByteArray} {row : List ByteArray} (h : (eY C s row).2 = 0) : bO s = true /\ qL C s row = true := by
 unfold eY at h
 split at h
 ·cases h
 ·rename_i h1
  split at h
  ·cases h
  ·rename_i h2
   exact ⟨by simpa using h1, by simpa using h2⟩
theorem aEp {C : List bJ} {s : ByteArray} {row : List ByteArray} (h : (eY C s row).2 = 0) : bV row = true /\ (262144 ≤ bG C -> bA aD (cE C s) row = true) /\ (65536 ≤ (cE C s).length -> bA aD (cE C s) row = true) := by
 unfold eY at h
 split at h
 ·cases h
 ·split at h
  ·cases h
  ·split at h
   ·cases h
   ·rename_i h3
    split at h
    ·cases h
    ·rename_i h4
     split at h
     ·cases h
     ·rename_i h5
      refine ⟨by simpa using h3, fun h6 => ?_, fun h6 => ?_⟩
      ·cases hi : bA aD (cE C s) row with
       | true => rfl
       | false => exact absurd ⟨h6, hi⟩ h4
      ·cases hi : bA aD (cE C s) row with
       | true => rfl
       | false => exact absurd ⟨h6, hi⟩ h5
theorem aAa {C : List bJ} (h : BaseOk C) (s : ByteArray) : Strict aD (cE C s) := by
 cases hg : dD C s with
 | none => rw [jT hg]; exact fW
 | some v => rw [fY hg]; exact (h.all _ ((kD h.nodup).1 hg)).strict
theorem jP {C : List bJ} (hn : (C.map (·.1)).Nodup) {s : ByteArray} {v : Nat × aC} : bG (oJ C s v) + (cE C s).length = bG C + v.2.length := by
 unfold oJ
 cases hg : dD C s with
 | none => rw [if_neg (by simp), jT hg]; simp [bG]
 | some u =>
  rw [if_pos (by simp), fY hg]
  have hm : ∀ (D : List bJ), (D.map (·.1)).Nodup -> (s, u) ∈ D -> bG (D.map fun p => if p.1 = s then (p.1, v) else p) + u.2.length = bG D + v.2.length := by
   intro D
   induction D with
   | nil => intro _ h; cases h
   | cons p D ih =>
    intro hnd hin
    rw [List.map_cons, List.nodup_cons] at hnd
    simp only [bG, List.map_cons, List.sum_cons] at ih ⊢
    by_cases e : p.1 = s
    ·have hp : p = (s, u) := by
      rcases List.mem_cons.1 hin with h | h
      ·exact h.symm
      ·exact absurd (List.mem_map.2 ⟨_, h, rfl⟩) (by rw [<- e] at h ⊢; exact hnd.1)
     have hid : (D.map fun q : bJ => if q.1 = s then (q.1, v) else q) = D := by
      conv => rhs; rw [<- List.map_id D]
      apply List.map_congr_left
      intro q hq
      have : ¬ q.1 = s := fun e2 => hnd.1 (List.mem_map.2 ⟨q, hq, by rw [e2, e]⟩)
      rw [if_neg this]; rfl
     rw [hid, if_pos e, hp]; dsimp only; omega
    ·have h1 : (s, u) ∈ D := by
      rcases List.mem_cons.1 hin with h | h
      ·exact absurd (by rw [<- h]) e
      ·exact h
     have := ih hnd.2 h1
     rw [if_neg e]; omega
  exact hm C hn ((kD hn).1 hg)
theorem aJ2 {C : List bJ} (h : BaseOk C) (s : ByteArray) (a : Int) : BaseOk (gN C s a) := by
 unfold gN
 split
 ·rename_i hc
  obtain ⟨h1, h2⟩ := hc
  have hn : bO s = true /\ 0 ≤ a /\ a ≤ 64 := by
   unfold eA at h1
   split at h1
   ·cases h1
   ·rename_i e1
    split at h1
    ·cases h1
    ·rename_i e2
     exact ⟨by simpa using e1, by omega, by omega⟩
  refine ⟨?_, fun p hp => ?_, ?_⟩
  ·rw [List.map_append]
   exact List.nodup_append.2 ⟨h.nodup, by simp, fun x hx y hy e => wZ.1 h2 (by
    have : y = s := by simpa using hy
    rw [<- this, <- e]; exact hx)⟩
  ·rcases List.mem_append.1 hp with hp | hp
   ·exact h.all p hp
   ·have e : p = (s, a.toNat, []) := by simpa using hp
    subst e
    exact ⟨hn.1, show a.toNat ≤ 64 by omega, fW, fun r hr => (by cases hr), fun r hr => (by cases hr), Nat.zero_le _⟩
  ·have e : bG (C ++ [(s, a.toNat, [])]) = bG C := by simp [bG]
   rw [e]; exact h.few
 ·exact h
theorem aH3 {C : List bJ} (h : BaseOk C) (s : ByteArray) (row : List ByteArray) : BaseOk (qN C s row) := by
 unfold qN
 split
 ·rename_i h0
  obtain ⟨t1, t2, t3⟩ := aEp h0
  obtain ⟨n1, n4⟩ := aKj h0
  have n2 : ∀ v, dD C s = some v -> v.1 = row.length := fun v hv => by
   unfold qL at n4; rw [hv] at n4; exact of_decide_eq_true n4
  have n3 : row.length ≤ 64 := by
   cases hg : dD C s with
   | none => unfold qL at n4; rw [hg] at n4; exact of_decide_eq_true n4
   | some v =>
    have h1 : v.1 ≤ 64 := (h.all _ ((kD h.nodup).1 hg)).ar
    have := n2 v hg
    omega
  ·have hst := aAa h s
   have hlen : ∀ r ∈ cE C s, r.length = row.length /\ bV r = true := fun r hr => by
    cases hg : dD C s with
    | none => rw [jT hg] at hr; cases hr
    | some v =>
     rw [fY hg] at hr
     have hp := h.all _ ((kD h.nodup).1 hg)
     exact ⟨(hp.len r hr).trans (n2 v hg), hp.txt r hr⟩
   have hfew : (cE C s).length ≤ 65536 := by
    cases hg : dD C s with
    | none => rw [jT hg]; exact Nat.zero_le _
    | some v => rw [fY hg]; exact (h.all _ ((kD h.nodup).1 hg)).few
   have hl := pK (c := aD) (cE C s) row
   refine ⟨wJ h.nodup _ _, fun p hp => ?_, ?_⟩
   ·rcases aE8 hp with rfl | hp
    ·refine ⟨n1, n3, hst.add cZ row, fun r hr => ?_, fun r hr => ?_, ?_⟩
     ·rcases (mD (c := aD)).1 hr with hr | ⟨rfl, _⟩
      ·exact (hlen r hr).1
      ·rfl
     ·rcases (mD (c := aD)).1 hr with hr | ⟨rfl, _⟩
      ·exact (hlen r hr).2
      ·exact t1
     ·show (dA aD (cE C s) row).length ≤ 65536
      rw [hl]
      split
      ·omega
      ·rename_i hi
       have : ¬ 65536 ≤ (cE C s).length := fun k => hi (t3 k)
       omega
    ·exact h.all p hp
   ·have := jP h.nodup (s := s) (v := (row.length, dA aD (cE C s) row))
    have hf := h.few
    rw [hl] at this
    split at this
    ·omega
    ·rename_i hi
     have : ¬ 262144 ≤ bG C := fun k => hi (t2 k)
     omega
 ·exact h
structure InC (C D : List bJ) : Prop where
 ar : ∀ s v, dD C s = some v -> ∃ LL, dD D s = some (v.1, LL)
 rows : ∀ s r, r ∈ cE C s -> r ∈ cE D s
def cN (W : aC) (i n : Nat) : Bool := n == 0 || decide ((W.getD (n - 1) []).take i ≠ (W.getD n []).take i)
def aW (W : aC) (d i n : Nat) : List Nat := if i < d then (List.range n).filter fun k => cN W (i + 1) k else List.range n
theorem lN (W : aC) {d i n : Nat} (hi : i < d) : aW W d i (n + 1) = aW W d i n ++ if cN W (i + 1) n then [n] else [] := by
 unfold aW
 rw [if_pos hi, if_pos hi, List.range_succ, List.filter_append]
 congr 1
 simp only [List.filter_cons, List.filter_nil]
theorem lO (W : aC) {d i n : Nat} (hi : ¬ i < d) : aW W d i n = List.range n := if_neg hi
theorem cU (W : aC) (d i n : Nat) : (aW W d i n).length ≤ n := by
 unfold aW
 split
 ·exact Nat.le_trans (List.length_filter_le _ _) (by rw [List.length_range]; exact Nat.le_refl _)
 ·rw [List.length_range]; exact Nat.le_refl _
def bK (W : aC) (d i n : Nat) : List ByteArray := (aW W d i n).map fun k => (W.getD k []).getD i ByteArray.empty
def aP (W : aC) (d i n : Nat) : Nat := (aW W d i n).length
def bT (W : aC) (d i n : Nat) : List Int := (aW W d i n).map fun k => (aP W d (i + 1) k : Int)
theorem eJ (W : aC) (d i n : Nat) : (bK W d i n).length = aP W d i n := by unfold bK aP; rw [List.length_map]
theorem gK (W : aC) (d i n : Nat) : (bT W d i n).length = aP W d i n := by unfold bT aP; rw [List.length_map]
theorem aAm (W : aC) (i : Nat) : cN W i 0 = true := rfl
theorem dW {W : aC} {i n : Nat} : cN W i n = true ↔ n = 0 \/ (W.getD (n - 1) []).take i ≠ (W.getD n []).take i := by
 unfold cN
 rw [Bool.or_eq_true, decide_eq_true_iff, beq_iff_eq]
theorem bD {α : Type} {l : List α} {i : Nat} {x d : α} (h : l[i]? = some x) : l.getD i d = x := by rw [List.getD_eq_getElem?_getD, h]; rfl
theorem aDa {W : aC} {i n : Nat} {x y : List ByteArray} (hn : 0 < n) (hx : W[n - 1]? = some x) (hy : W[n]? = some y) (h1 : i < x.length) (h2 : i < y.length) : cN W (i + 1) n = (cN W i n || decide (x[i] ≠ y[i])) := by
 rw [Bool.eq_iff_iff, Bool.or_eq_true, decide_eq_true_iff, dW, dW, bD hx, bD hy]
 have ex : x.take (i + 1) = x.take i ++ [x[i]] := by rw [List.take_add_one, qG h1]; rfl
 have ey : y.take (i + 1) = y.take i ++ [y[i]] := by rw [List.take_add_one, qG h2]; rfl
 rw [ex, ey]
 have hl : (x.take i).length = (y.take i).length := by rw [List.length_take, List.length_take]; omega
 refine ⟨fun h => ?_, fun h => .inr fun e => ?_⟩
 ·by_cases h3 : x.take i = y.take i
  ·refine .inr fun h4 => ?_
   rcases h with h | h
   ·omega
   ·exact h (by rw [h3, h4])
  ·exact .inl (.inr h3)
 ·obtain ⟨e1, e2⟩ := List.append_inj e hl
  rcases h with (h | h) | h
  ·omega
  ·exact h e1
  ·exact h (by simpa using e2)
structure WaysOk (W : aC) (d : Nat) : Prop where
 len : ∀ r ∈ W, r.length = d
 rise : Strict aD W
theorem jL : ∀ (j : Nat) {x y : List ByteArray}, x.length = y.length -> aD x y ≤ 0 -> aD (x.take j) (y.take j) ≤ 0
 | 0, _, _, _, _ => by simp [aD]
 | j + 1, [], [], _, _ => by simp [aD]
 | j + 1, [], _ :: _, h, _ => by simp at h
 | j + 1, _ :: _, [], h, _ => by simp at h
 | j + 1, a :: x, b :: y, hl, h => by
  simp only [List.take_succ_cons]
  unfold aD at h ⊢
  split at h
  ·rename_i h1
   rw [if_pos h1]; exact h
  ·rename_i h1
   rw [if_neg h1]
   exact jL j (by simpa using hl) h
theorem rE : ∀ (q : List ByteArray) (a b : ByteArray), aD (q ++ [a]) (q ++ [b]) = bE a.toList b.toList
 | [], a, b => by
  show (if bE a.toList b.toList ≠ 0 then bE a.toList b.toList else aD [] []) = _
  split
  ·rfl
  ·rename_i h
   have : bE a.toList b.toList = 0 := Classical.not_not.1 h
   rw [this]; rfl
 | c :: q, a, b => by
  show (if bE c.toList c.toList ≠ 0 then bE c.toList c.toList else aD (q ++ [a]) (q ++ [b])) = _
  rw [if_neg (by rw [dY]; simp)]
  exact rE q a b
theorem WaysOk.le {W : aC} {d : Nat} (h : WaysOk W d) {m n : Nat} {x y : List ByteArray} (hx : W[m]? = some x) (hy : W[n]? = some y) (hmn : m ≤ n) : aD x y ≤ 0 := by
 rcases Nat.lt_or_eq_of_le hmn with h1 | h1
 ·obtain ⟨l1, e1⟩ := List.getElem?_eq_some_iff.1 hx
  obtain ⟨l2, e2⟩ := List.getElem?_eq_some_iff.1 hy
  have := List.pairwise_iff_getElem.1 h.rise m n l1 l2 h1
  rw [e1, e2] at this; omega
 ·subst h1
  rw [hx] at hy; cases hy
  rw [rF]; omega
theorem WaysOk.between {W : aC} {d : Nat} (h : WaysOk W d) {m k n j : Nat} {x y z : List ByteArray} (hx : W[m]? = some x) (hy : W[k]? = some y) (hz : W[n]? = some z) (h1 : m ≤ k) (h2 : k ≤ n) (he : x.take j = z.take j) : y.take j = x.take j := by
 have lx := h.len x (List.mem_of_getElem? hx)
 have ly := h.len y (List.mem_of_getElem? hy)
 have lz := h.len z (List.mem_of_getElem? hz)
 have a1 := jL j (lx.trans ly.symm) (h.le hx hy h1)
 have a2 := jL j (ly.trans lz.symm) (h.le hy hz h2)
 rw [<- he] at a2
 have a3 := mO (x.take j) (y.take j)
 exact (jK (xs := x.take j) (ys := y.take j) (by omega)).symm
structure Iv (W : aC) (q : List ByteArray) (lo hi : Nat) : Prop where
 le : lo < hi
 few : hi ≤ W.length
 iff : ∀ n x, W[n]? = some x -> (x.take q.length = q ↔ lo ≤ n /\ n < hi)
theorem kR {W : aC} {d i n k : Nat} (hi : i < d) : k ∈ aW W d i n ↔ k < n /\ cN W (i + 1) k = true := by
 unfold aW
 rw [if_pos hi, List.mem_filter, List.mem_range]
theorem eZ (W : aC) (d i n : Nat) : (aW W d i n).Pairwise (· < ·) := by
 unfold aW
 split
 ·exact List.Pairwise.filter _ List.pairwise_lt_range
 ·exact List.pairwise_lt_range
theorem lM (W : aC) (d i : Nat) {m n : Nat} (h : m ≤ n) : ∃ r, aW W d i n = aW W d i m ++ r /\ ∀ k ∈ r, m ≤ k := by
 induction n with
 | zero => exact ⟨[], by rw [show m = 0 by omega]; simp, by simp⟩
 | succ n ih =>
  by_cases e : m = n + 1
  ·subst e; exact ⟨[], by simp, by simp⟩
  ·obtain ⟨r, h1, h2⟩ := ih (by omega)
   by_cases hi : i < d
   ·rw [lN W hi, h1]
    refine ⟨r ++ (if cN W (i + 1) n then [n] else []), by rw [List.append_assoc], fun k hk => ?_⟩
    rcases List.mem_append.1 hk with hk | hk
    ·exact h2 k hk
    ·split at hk
     ·rw [List.mem_singleton] at hk; omega
     ·simp at hk
   ·rw [lO W hi] at h1 ⊢
    rw [lO W hi] at *
    rw [List.range_succ, h1]
    refine ⟨r ++ [n], by rw [List.append_assoc], fun k hk => ?_⟩
    rcases List.mem_append.1 hk with hk | hk
    ·exact h2 k hk
    ·rw [List.mem_singleton] at hk; omega
theorem kQ {W : aC} {d i n k s : Nat} (h : (aW W d i n)[k]? = some s) : aP W d i s = k /\ s < n := by
 have hk := (List.getElem?_eq_some_iff.1 h).1
 have hs : s < n := by
  have hm := List.mem_of_getElem? h
  unfold aW at hm
  split at hm
  ·exact List.mem_range.1 (List.mem_filter.1 hm).1
  ·exact List.mem_range.1 hm
 obtain ⟨r, h1, h2⟩ := lM W d i (Nat.le_of_lt hs)
 refine ⟨?_, hs⟩
 unfold aP
 have hp := eZ W d i n
 rcases Nat.lt_trichotomy (aW W d i s).length k with h3 | h3 | h3
 ·-- the element at the border is s or above, yet below s
  have hl : (aW W d i s).length < (aW W d i n).length := by omega
  have h4 := List.pairwise_iff_getElem.1 hp _ k hl hk h3
  rw [(List.getElem?_eq_some_iff.1 h).2] at h4
  have h5 : (aW W d i n)[(aW W d i s).length]'hl ∈ r := by
   have : (aW W d i n)[(aW W d i s).length]? = r[0]? := by rw [h1, List.getElem?_append_right (Nat.le_refl _), Nat.sub_self]
   rw [qG hl] at this
   exact List.mem_of_getElem? this.symm
  have := h2 _ h5
  omega
 ·exact h3
 ·rw [h1, List.getElem?_append_left h3] at h
  have hm := List.mem_of_getElem? h
  have : s < s := by
   unfold aW at hm
   split at hm
   ·exact List.mem_range.1 (List.mem_filter.1 hm).1
   ·exact List.mem_range.1 hm
  omega
section
variable {Sol : List ByteArray -> Prop} {v : Nat} {p : List ByteArray}
structure AllB (Sol : List ByteArray -> Prop) (p : List ByteArray) (L : aC) : Prop where
 rise : Strict aD L
 iff : ∀ V, V ∈ L ↔ Sol V /\ V.take p.length = p
structure PartB (Sol : List ByteArray -> Prop) (p : List ByteArray) (D : ByteArray -> Prop) (L : aC) : Prop where
 rise : Strict aD L
 iff : ∀ V, V ∈ L ↔ Sol V /\ V.take p.length = p /\ ∃ x, V[p.length]? = some x /\ D x
theorem AllB.none (h : ∀ V, Sol V -> V.take p.length = p -> False) : AllB Sol p [] :=
 ⟨fW, fun V => ⟨fun h => by simp at h, fun h1 => (h V h1.1 h1.2).elim⟩⟩
theorem AllB.one (hs : Sol p) (hl : ∀ V, Sol V -> V.length = p.length) : AllB Sol p [p] :=
 ⟨List.pairwise_singleton _ _, fun V => ⟨fun h => by
  rw [List.mem_singleton] at h; subst h
  exact ⟨hs, List.take_length⟩, fun ⟨h1, h2⟩ => by
  rw [List.mem_singleton, <- h2, List.take_of_length_le (Nat.le_of_eq (hl V h1))]⟩⟩
theorem AllB.unique {L L' : aC} (h : AllB Sol p L) (h' : AllB Sol p L') : L = L' := Strict.unique cZ h.rise h'.rise fun V => (h.iff V).trans (h'.iff V).symm
theorem PartB.none {D : ByteArray -> Prop} (h : ∀ V, Sol V -> V.take p.length = p -> ∀ x, V[p.length]? = some x -> ¬ D x) : PartB Sol p D [] :=
 ⟨fW, fun V => ⟨fun h => by simp at h, fun ⟨h1, h2, x, h3, h4⟩ => (h V h1 h2 x h3 h4).elim⟩⟩
theorem PartB.all {D : ByteArray -> Prop} {L : aC} (h : PartB Sol p D L) (hd : ∀ V, Sol V -> V.take p.length = p -> ∃ x, V[p.length]? = some x /\ D x) : AllB Sol p L :=
 ⟨h.rise, fun V => (h.iff V).trans ⟨fun ⟨h1, h2, _⟩ => ⟨h1, h2⟩, fun ⟨h1, h2⟩ => ⟨h1, h2, hd V h1 h2⟩⟩⟩
theorem mP : ∀ (q : List ByteArray) (a b : ByteArray) (r s : List ByteArray), bE a.toList b.toList < 0 -> aD (q ++ a :: r) (q ++ b :: s) < 0
 | [], a, b, r, s, h => by
  show (if bE a.toList b.toList ≠ 0 then bE a.toList b.toList else aD r s) < 0
  rw [if_pos (by omega)]; exact h
 | c :: q, a, b, r, s, h => by
  show (if bE c.toList c.toList ≠ 0 then bE c.toList c.toList else aD (q ++ a :: r) (q ++ b :: s)) < 0
  rw [if_neg (by rw [dY]; simp)]
  exact mP q a b r s h
theorem oI {V q : List ByteArray} {x : ByteArray} (h : V.take q.length = q) (hx : V[q.length]? = some x) : ∃ r, V = q ++ x :: r := by
 refine ⟨V.drop (q.length + 1), ?_⟩
 have hl := (List.getElem?_eq_some_iff.1 hx)
 conv => lhs; rw [<- List.take_append_drop q.length V, h, List.drop_eq_getElem_cons hl.1, hl.2]
theorem PartB.next {D : ByteArray -> Prop} {L L' : aC} {x : ByteArray} (h : PartB Sol p D L) (h' : AllB Sol (p ++ [x]) L') (hx : ∀ V, Sol V -> V.take p.length = p -> ∀ y, V[p.length]? = some y -> D y -> bE y.toList x.toList < 0) : PartB Sol p (fun y => D y \/ y = x) (L ++ L') := by
 have key : ∀ V, V ∈ L' ↔ Sol V /\ V.take p.length = p /\ V[p.length]? = some x := fun V => by
  rw [h'.iff V, List.length_append, List.length_singleton]
  refine ⟨fun ⟨h1, h2⟩ => ?_, fun ⟨h1, h2, h3⟩ => ⟨h1, by rw [List.take_add_one, h2, h3]; rfl⟩⟩
  have h3 : V.take p.length = p := by
   have := congrArg (List.take p.length) h2
   rw [List.take_take, List.take_left, show min p.length (p.length + 1) = p.length by omega] at this
   exact this
  refine ⟨h1, h3, ?_⟩
  rw [List.take_add_one, h3] at h2
  have h4 := (List.append_right_inj p).1 h2
  cases h5 : V[p.length]? with
  | none => rw [h5] at h4; simp at h4
  | some y => rw [h5] at h4; simpa using h4
 refine ⟨List.pairwise_append.2 ⟨h.rise, h'.rise, fun a ha b hb => ?_⟩, fun V => ?_⟩
 ·obtain ⟨a1, a2, y, a3, a4⟩ := (h.iff a).1 ha
  obtain ⟨b1, b2, b3⟩ := (key b).1 hb
  obtain ⟨r, rfl⟩ := oI a2 a3
  obtain ⟨s, rfl⟩ := oI b2 b3
  exact mP p y x r s (hx _ a1 a2 y a3 a4)
 ·rw [List.mem_append, h.iff V, key V]
  refine ⟨fun h1 => ?_, fun ⟨h1, h2, y, h3, h4⟩ => ?_⟩
  ·rcases h1 with ⟨h1, h2, y, h3, h4⟩ | ⟨h1, h2, h3⟩
   ·exact ⟨h1, h2, y, h3, .inl h4⟩
   ·exact ⟨h1, h2, x, h3, .inr rfl⟩
  ·rcases h4 with h4 | h4
   ·exact .inl ⟨h1, h2, y, h3, h4⟩
   ·subst h4; exact .inr ⟨h1, h2, h3⟩
structure PartQ (Sol : List ByteArray -> Prop) (p : List ByteArray) (m : Nat) (D : List ByteArray -> Prop) (L : aC) : Prop where
 rise : Strict aD L
 iff : ∀ V, V ∈ L ↔ Sol V /\ V.take p.length = p /\ D (V.take m)
theorem rG : ∀ (m : Nat) {x y : List ByteArray}, m ≤ x.length -> m ≤ y.length -> aD (x.take m) (y.take m) < 0 -> aD x y < 0
 | 0, x, y, _, _, h => by simp [aD] at h
 | m + 1, [], _, h, _, _ => by simp at h
 | m + 1, _ :: _, [], _, h, _ => by simp at h
 | m + 1, a :: x, b :: y, hx, hy, h => by
  simp only [List.take_succ_cons] at h
  unfold aD at h ⊢
  split at h
  ·rename_i h1
   rw [if_pos h1]; exact h
  ·rename_i h1
   rw [if_neg h1]
   exact rG m (by simpa using hx) (by simpa using hy) h
theorem PartQ.none {m : Nat} : PartQ Sol p m (fun _ => False) [] := ⟨fW, fun V => ⟨fun h => by simp at h, fun h => h.2.2.elim⟩⟩
theorem PartQ.next {m : Nat} {D : List ByteArray -> Prop} {L L' : aC} {q : List ByteArray} (h : PartQ Sol p m D L) (hq : q.length = m) (hp : q.take p.length = p) (hm : p.length ≤ m) (hl : ∀ V, Sol V -> m ≤ V.length) (h' : AllB Sol q L') (hx : ∀ y, D y -> aD y q < 0) : PartQ Sol p m (fun y => D y \/ y = q) (L ++ L') := by
 refine ⟨List.pairwise_append.2 ⟨h.rise, h'.rise, fun a ha b hb => ?_⟩, fun V => ?_⟩
 ·obtain ⟨a1, a2, a3⟩ := (h.iff a).1 ha
  obtain ⟨b1, b2⟩ := (h'.iff b).1 hb
  rw [hq] at b2
  exact rG m (hl a a1) (hl b b1) (by rw [b2]; exact hx _ a3)
 ·rw [List.mem_append, h.iff V, h'.iff V, hq]
  refine ⟨fun h1 => ?_, fun ⟨h1, h2, h3⟩ => ?_⟩
  ·rcases h1 with ⟨h1, h2, h3⟩ | ⟨h1, h2⟩
   ·exact ⟨h1, h2, .inl h3⟩
   ·refine ⟨h1, ?_, .inr h2⟩
    have := congrArg (List.take p.length) h2
    rw [List.take_take, hp, show min p.length m = p.length by omega] at this
    exact this
  ·rcases h3 with h3 | h3
   ·exact .inl ⟨h1, h2, h3⟩
   ·exact .inr ⟨h1, h3⟩
theorem PartQ.all {m : Nat} {D : List ByteArray -> Prop} {L : aC} (h : PartQ Sol p m D L) (hd : ∀ V, Sol V -> V.take p.length = p -> D (V.take m)) : AllB Sol p L :=
 ⟨h.rise, fun V => (h.iff V).trans ⟨fun ⟨h1, h2, _⟩ => ⟨h1, h2⟩, fun ⟨h1, h2⟩ => ⟨h1, h2, hd V h1 h2⟩⟩⟩
theorem PartQ.congr {m : Nat} {D D' : List ByteArray -> Prop} {L : aC} (h : PartQ Sol p m D L) (hd : ∀ y, D y ↔ D' y) : PartQ Sol p m D' L := ⟨h.rise, fun V => (h.iff V).trans (by rw [hd])⟩
end
def isV (s : ByteArray) (t : aE) : Bool := decide (t.1 = 1 /\ t.2.1 = s)
def eF (ts : List aE) (s : ByteArray) : Nat := ts.findIdx (isV s)
def aV (N : List ByteArray) (ts : List aE) : List Nat := (List.range N.length).filter fun i => ts.any (isV (N.getD i ByteArray.empty))
def bB (x : List ByteArray) (i : Nat) : ByteArray := x.getD i ByteArray.empty
def nM (ts : List aE) (x : List ByteArray) : Prop := ∀ (i : Nat) (t : aE), ts[i]? = some t -> (t.1 = 3 -> bB x i = t.2.1) /\ (t.1 = 1 -> bB x (eF ts t.2.1) = bB x i)
def gE (N : List ByteArray) (ts : List aE) (x : List ByteArray) : List ByteArray := (aV N ts).map fun v => bB x (eF ts (bB N v))
def aBs (N V : List ByteArray) (ts : List aE) (x : List ByteArray) : Prop := ∀ (i : Nat) (t : aE), ts[i]? = some t -> (t.1 = 3 -> bB x i = t.2.1) /\ (t.1 = 1 -> ∃ v : Nat, N[v]? = some t.2.1 /\ V[v]? = some (bB x i))
theorem aBu {ts : List aE} {s : ByteArray} {i : Nat} {t : aE} (hi : ts[i]? = some t) (ht : t.1 = 1) (hs : t.2.1 = s) : ∃ u, ts[eF ts s]? = some u /\ u.1 = 1 /\ u.2.1 = s := by
 have h : eF ts s < ts.length := List.findIdx_lt_length_of_exists ⟨t, List.mem_of_getElem? hi, by unfold isV; exact decide_eq_true ⟨ht, hs⟩⟩
 have h2 := List.findIdx_getElem (w := h)
 refine ⟨_, qG h, ?_⟩
 unfold isV at h2
 exact of_decide_eq_true h2
theorem dK {N : List ByteArray} {ts : List aE} {v : Nat} : v ∈ aV N ts ↔ v < N.length /\ ∃ (i : Nat) (t : aE), ts[i]? = some t /\ t.1 = 1 /\ t.2.1 = bB N v := by
 unfold aV
 rw [List.mem_filter, List.mem_range, List.any_eq_true]
 refine and_congr_right fun _ => ⟨fun ⟨t, ht, h⟩ => ?_, fun ⟨i, t, hi, h1, h2⟩ => ⟨t, List.mem_of_getElem? hi, by unfold isV; exact decide_eq_true ⟨h1, h2⟩⟩⟩
 obtain ⟨i, hi⟩ := List.mem_iff_getElem?.1 ht
 unfold isV at h
 have h' := of_decide_eq_true h
 exact ⟨i, t, hi, h'.1, h'.2⟩
theorem vO (N : List ByteArray) (ts : List aE) : (aV N ts).Pairwise (· < ·) := List.Pairwise.filter _ List.pairwise_lt_range
theorem aAi {N V : List ByteArray} {ts : List aE} (hN : N.Nodup) (hV : V.length = N.length) (hin : ∀ t ∈ ts, t.1 = 1 -> t.2.1 ∈ N) (x : List ByteArray) :
 nM ts x /\ gE N ts x = (aV N ts).map (bB V) ↔ aBs N V ts x := by
 have get : ∀ {v : Nat} {s : ByteArray}, N[v]? = some s -> bB N v = s := fun h => bD h
 have getv : ∀ {v : Nat} {s : ByteArray}, N[v]? = some s -> V[v]? = some (bB V v) := fun {v s} h => by
  have hv : v < V.length := by rw [hV]; exact (List.getElem?_eq_some_iff.1 h).1
  unfold bB
  rw [List.getD_eq_getElem?_getD, qG hv]; rfl
 have proj : gE N ts x = (aV N ts).map (bB V) ↔ ∀ v ∈ aV N ts, bB x (eF ts (bB N v)) = bB V v := by
  unfold gE
  exact List.map_inj_left
 rw [proj]
 refine ⟨fun ⟨h1, h2⟩ i t hi => ⟨(h1 i t hi).1, fun ht => ?_⟩, fun h => ⟨fun i t hi => ⟨(h i t hi).1, fun ht => ?_⟩, fun v hv => ?_⟩⟩
 ·obtain ⟨v, hv⟩ := List.mem_iff_getElem?.1 (hin t (List.mem_of_getElem? hi) ht)
  refine ⟨v, hv, ?_⟩
  have hm : v ∈ aV N ts := dK.2 ⟨(List.getElem?_eq_some_iff.1 hv).1, i, t, hi, ht, (get hv).symm⟩
  have h3 := h2 v hm
  rw [get hv, (h1 i t hi).2 ht] at h3
  rw [h3]; exact getv hv
 ·obtain ⟨v, hv, e⟩ := (h i t hi).2 ht
  obtain ⟨u, hu, u1, u2⟩ := aBu hi ht rfl
  obtain ⟨v', hv', e'⟩ := (h _ u hu).2 u1
  rw [u2] at hv'
  have : v = v' := (List.getElem?_inj (List.getElem?_eq_some_iff.1 hv).1 hN).1 (hv.trans hv'.symm)
  subst this
  rw [e] at e'
  exact (Option.some.inj e').symm
 ·obtain ⟨hl, i, t, hi, h1, h2⟩ := dK.1 hv
  obtain ⟨u, hu, u1, u2⟩ := aBu hi h1 h2
  obtain ⟨v', hv', e'⟩ := (h _ u hu).2 u1
  have hv0 : N[v]? = some (bB N v) := by unfold bB; rw [List.getD_eq_getElem?_getD, qG hl]; rfl
  rw [u2] at hv'
  have : v = v' := (List.getElem?_inj hl hN).1 (hv0.trans hv'.symm)
  subst this
  rw [getv hv0] at e'
  exact (Option.some.inj e').symm
open Classical in
noncomputable def cT (N : List ByteArray) (ts : List aE) (R : aC) : aC := aDh aD ((R.filter fun x => decide (x.length = ts.length /\ nM ts x)).map (gE N ts))
theorem xC {x : List ByteArray} : ∀ (xs acc : aC), x ∈ xs \/ x ∈ acc -> x ∈ xs.foldl (dA aD) acc
 | [], acc, h => by
  rcases h with h | h
  ·simp at h
  ·exact h
 | y :: xs, acc, h => by
  refine xC xs (dA aD acc y) ?_
  by_cases hx : x ∈ xs
  ·exact .inl hx
  ·refine .inr (mD.2 ?_)
   rcases h with h | h
   ·rcases List.mem_cons.1 h with h | h
    ·subst h
     by_cases hi : bA aD acc x = true
     ·obtain ⟨z, hz, e⟩ := mG.1 hi
      rw [<- jK e]; exact .inl hz
     ·exact .inr ⟨rfl, by simpa using hi⟩
    ·exact absurd h hx
   ·exact .inl h
theorem aAt {xs : aC} {x : List ByteArray} : x ∈ aDh aD xs ↔ x ∈ xs := ⟨aAs, fun h => xC xs [] (.inl h)⟩
open Classical in
theorem aE1 {N V : List ByteArray} {ts : List aE} (R : aC) (hN : N.Nodup) (hV : V.length = N.length) (hin : ∀ t ∈ ts, t.1 = 1 -> t.2.1 ∈ N) :
 (aV N ts).map (bB V) ∈ cT N ts R ↔ ∃ x ∈ R, x.length = ts.length /\ aBs N V ts x := by
 unfold cT
 rw [aAt, List.mem_map]
 refine ⟨fun ⟨x, hx, e⟩ => ?_, fun ⟨x, hx, hl, hf⟩ => ?_⟩
 ·obtain ⟨h1, h2⟩ := List.mem_filter.1 hx
  obtain ⟨h3, h4⟩ := of_decide_eq_true h2
  exact ⟨x, h1, h3, (aAi hN hV hin x).1 ⟨h4, e⟩⟩
 ·obtain ⟨h1, h2⟩ := (aAi hN hV hin x).2 hf
  exact ⟨x, List.mem_filter.2 ⟨hx, decide_eq_true ⟨hl, h1⟩⟩, h2⟩
theorem rY {N : List ByteArray} {ts : List aE} {R : aC} {x : List ByteArray} (h : x ∈ cT N ts R) : x.length = (aV N ts).length := by
 unfold cT at h
 obtain ⟨y, _, rfl⟩ := List.mem_map.1 (aAs h)
 unfold gE
 rw [List.length_map]
theorem sM (N : List ByteArray) (ts : List aE) (R : aC) : Strict aD (cT N ts R) := Strict.new cZ _
def nD (N V : List ByteArray) (t : aE) : ByteArray := if t.1 = 1 then bB V (N.findIdx fun s => decide (s = t.2.1)) else t.2.1
def oQ (op : Int) (x y : ByteArray) : Prop := if op = 1 then x = y else if op = 2 then x ≠ y else if op = 3 then Op.bytesLess x.toList y.toList = true else Op.bytesLess y.toList x.toList = false
def mI (N V : List ByteArray) (R : aC) (l : aO) : Prop :=
 if l.1 = 1 then ∃ x ∈ R, x.length = (aB l).length /\ aBs N V (aB l) x
 else if l.1 = 2 then ¬ ∃ x ∈ R, x.length = (aB l).length /\ aBs N V (aB l) x
 else oQ (iZ l) (nD N V (leftOf l)) (nD N V (aY l))
def cO (ls : List aO) (R : Nat -> aC) (V : List ByteArray) : Prop := V.length = (aA ls).length /\ ∀ (i : Nat) (l : aO), ls[i]? = some l -> mI (aA ls) V (R i) l
def IsBinds (ls : List aO) (R : Nat -> aC) (L : aC) : Prop := AllB (cO ls R) [] L
theorem IsBinds.iff {ls : List aO} {R : Nat -> aC} {L : aC} (h : IsBinds ls R L) (V : List ByteArray) : V ∈ L ↔ cO ls R V := (AllB.iff h V).trans ⟨fun h => h.1, fun h => ⟨h, rfl⟩⟩
end
section
abbrev dE := List ByteArray × List ByteArray
def ofE (e : dE) (s : ByteArray) : Option ByteArray := if kC e.1 s = true then some (bB e.2 (e.1.findIdx fun x => decide (x = s))) else none
def uK (e : dE) (t : aE) (y : ByteArray) : Option dE :=
 if t.1 = 3 /\ t.2.1 ≠ y then none
 else if t.1 ≠ 1 then some e
 else match ofE e t.2.1 with
  | some s => if s = y then some e else none
  | none => some (e.1 ++ [t.2.1], e.2 ++ [y])
def jH (e : dE) (ts : List aE) (x : List ByteArray) : Nat -> Option dE
 | 0 => some e
 | k + 1 => match jH e ts x k, ts[k]? with
  | some f, some t => uK f t (bB x k)
  | _, _ => none
structure EnvOk (e : dE) : Prop where
 nodup : e.1.Nodup
 len : e.2.length = e.1.length
theorem aDt {N : List ByteArray} {s : ByteArray} (h : s ∈ N) : N[N.findIdx fun x => decide (x = s)]? = some s := by
 have h1 : (N.findIdx fun x => decide (x = s)) < N.length := List.findIdx_lt_length_of_exists ⟨s, h, decide_eq_true rfl⟩
 have h2 := List.findIdx_getElem (w := h1)
 rw [qG h1]
 exact congrArg some (of_decide_eq_true h2)
theorem aAp {e : dE} {s y : ByteArray} (he : EnvOk e) : ofE e s = some y ↔ ∃ v : Nat, e.1[v]? = some s /\ e.2[v]? = some y := by
 unfold ofE
 by_cases h : kC e.1 s = true
 ·rw [if_pos h]
  have hi := aDt (cI.1 h)
  have hl := (List.getElem?_eq_some_iff.1 hi).1
  have hv : e.2[e.1.findIdx fun x => decide (x = s)]? = some (bB e.2 (e.1.findIdx fun x => decide (x = s))) := by
   unfold bB
   rw [List.getD_eq_getElem?_getD, qG (by rw [he.len]; exact hl)]; rfl
  refine ⟨fun h1 => ⟨_, hi, by rw [hv]; exact h1⟩, fun ⟨v, h1, h2⟩ => ?_⟩
  have : (e.1.findIdx fun x => decide (x = s)) = v := (List.getElem?_inj hl he.nodup).1 (hi.trans h1.symm)
  rw [this] at hv
  rw [this, <- hv]; exact h2
 ·rw [if_neg h]
  refine ⟨fun h1 => (by cases h1), fun ⟨v, h1, h2⟩ => absurd (cI.2 (List.mem_of_getElem? h1)) h⟩
theorem aAq {e : dE} {s : ByteArray} : ofE e s = none ↔ s ∉ e.1 := by
 unfold ofE
 rw [<- cI]
 split
 ·rename_i h; simp [h]
 ·rename_i h; simp [h]
def xF (e : dE) (t : aE) (y : ByteArray) : Prop := (t.1 = 3 -> y = t.2.1) /\ (t.1 = 1 -> ∃ v : Nat, e.1[v]? = some t.2.1 /\ e.2[v]? = some y)
structure EnvLe (e f : dE) : Prop where
 names : f.1.take e.1.length = e.1
 vals : f.2.take e.2.length = e.2
theorem EnvLe.refl (e : dE) : EnvLe e e := ⟨List.take_length, List.take_length⟩
theorem lL {l k : List ByteArray} (h : l.take k.length = k) {i : Nat} {x : ByteArray} (hx : k[i]? = some x) : l[i]? = some x := by
 have hi := (List.getElem?_eq_some_iff.1 hx).1
 rw [<- h, List.getElem?_take_of_lt hi] at hx
 exact hx
theorem EnvLe.fit {e f : dE} (h : EnvLe e f) {t : aE} {y : ByteArray} (ht : xF e t y) : xF f t y :=
 ⟨ht.1, fun h1 => by obtain ⟨v, a, b⟩ := ht.2 h1; exact ⟨v, lL h.names a, lL h.vals b⟩⟩
theorem iI {a b c : List ByteArray} (h : b.take a.length = a) (h' : c.take b.length = b) : c.take a.length = a := by
 have hl : a.length ≤ b.length := by have := congrArg List.length h; rw [List.length_take] at this; omega
 have h2 : (c.take b.length).take a.length = c.take a.length := by rw [List.take_take]; congr 1; omega
 rw [<- h2, h', h]
theorem EnvLe.trans {e f g : dE} (h : EnvLe e f) (h' : EnvLe f g) : EnvLe e g := ⟨iI h.names h'.names, iI h.vals h'.vals⟩
theorem aBr {e f : dE} {t : aE} {y : ByteArray} (he : EnvOk e) (h : uK e t y = some f) : EnvOk f /\ EnvLe e f /\ f.1 = bI e.1 t /\ xF f t y := by
 unfold uK at h
 split at h
 ·cases h
 ·rename_i h1
  have h3 : t.1 = 3 -> y = t.2.1 := fun h3 => Classical.byContradiction fun hn => h1 ⟨h3, fun e => hn e.symm⟩
  split at h
  ·rename_i h2
   cases h
   exact ⟨he, EnvLe.refl _, by unfold bI; rw [if_neg (fun h => h2 h.1)], h3, fun h => absurd h h2⟩
  ·rename_i h2
   have h2' : t.1 = 1 := Classical.not_not.1 h2
   split at h
   ·rename_i s hs
    split at h
    ·rename_i e1
     cases h
     subst e1
     have h4 := (aAp he).1 hs
     refine ⟨he, EnvLe.refl _, ?_, h3, fun _ => h4⟩
     obtain ⟨v, h5, _⟩ := h4
     unfold bI
     rw [if_neg fun h => by have := cI.2 (List.mem_of_getElem? h5); rw [this] at h; cases h.2]
    ·cases h
   ·rename_i hs
    cases h
    have h4 := aAq.1 hs
    refine ⟨⟨?_, by simp [he.len]⟩, ⟨List.take_left, List.take_left⟩, ?_, h3, fun _ => ⟨e.1.length, by simp, by rw [<- he.len]; simp⟩⟩
    ·refine List.nodup_append.2 ⟨he.nodup, by simp, fun a ha b hb => ?_⟩
     rw [List.mem_singleton] at hb
     subst hb
     intro e; subst e; exact h4 ha
    ·unfold bI
     rw [if_pos ⟨h2', by rw [<- Bool.not_eq_true, cI]; exact h4⟩]
theorem aD1 {e g : dE} {t : aE} {y : ByteArray} (he : EnvOk e) (hg : EnvOk g) (hle : EnvLe e g) (hn : g.1.take (bI e.1 t).length = bI e.1 t) (h : xF g t y) : ∃ f, uK e t y = some f /\ EnvLe f g := by
 unfold uK
 rw [if_neg (fun h1 => h1.2 (h.1 h1.1).symm)]
 by_cases h2 : t.1 ≠ 1
 ·rw [if_pos h2]; exact ⟨e, rfl, hle⟩
 ·rw [if_neg h2]
  have h2' : t.1 = 1 := Classical.not_not.1 h2
  obtain ⟨v, hv, hy⟩ := h.2 h2'
  cases hs : ofE e t.2.1 with
  | some s =>
   obtain ⟨u, hu, hs'⟩ := (aAp he).1 hs
   have h3 := lL hle.names hu
   have : u = v := (List.getElem?_inj (List.getElem?_eq_some_iff.1 h3).1 hg.nodup).1 (h3.trans hv.symm)
   subst this
   have h4 := lL hle.vals hs'
   rw [hy] at h4
   cases h4
   exact ⟨e, by simp, hle⟩
  | none =>
   refine ⟨_, rfl, ?_⟩
   have h4 := aAq.1 hs
   have ea : bI e.1 t = e.1 ++ [t.2.1] := by unfold bI; rw [if_pos ⟨h2', by rw [<- Bool.not_eq_true, cI]; exact h4⟩]
   rw [ea] at hn
   refine ⟨hn, ?_⟩
   have h5 : g.1[e.1.length]? = some t.2.1 := lL hn (by simp)
   have : e.1.length = v := (List.getElem?_inj (List.getElem?_eq_some_iff.1 h5).1 hg.nodup).1 (h5.trans hv.symm)
   subst this
   have h6 := hle.vals
   show g.2.take (e.2 ++ [y]).length = e.2 ++ [y]
   rw [List.length_append, List.length_singleton, List.take_add_one, h6, he.len, hy]; rfl
theorem tD (a : List ByteArray) (ts : List aE) (t : aE) : cW a (ts ++ [t]) = bI (cW a ts) t := by unfold cW; rw [List.foldl_append]; rfl
theorem aFj (a : List ByteArray) (t : aE) : (bI a t).take a.length = a := by
 unfold bI
 split
 ·exact List.take_left
 ·exact List.take_length
theorem pT : ∀ (ts : List aE) (a : List ByteArray), (cW a ts).take a.length = a
 | [], a => List.take_length
 | t :: ts, a => iI (aFj a t) (pT ts (bI a t))
theorem aDj (a : List ByteArray) (l : aO) : (cJ a l).take a.length = a := by
 unfold cJ
 split
 ·exact pT _ _
 ·exact List.take_length
theorem xD : ∀ (ls : List aO) (a : List ByteArray), (ls.foldl cJ a).take a.length = a
 | [], a => List.take_length
 | l :: ls, a => iI (aDj a l) (xD ls (cJ a l))
theorem kZ (ls : List aO) (i : Nat) : (aA ls).take (aA (ls.take i)).length = aA (ls.take i) := by
 have h := xD (ls.drop i) (aA (ls.take i))
 have e : (ls.drop i).foldl cJ (aA (ls.take i)) = aA ls := by
  unfold aA
  rw [<- List.foldl_append, List.take_append_drop]
 rw [e] at h; exact h
theorem gG {ls : List aO} {i : Nat} {l : aO} (h : ls[i]? = some l) : aA (ls.take (i + 1)) = cJ (aA (ls.take i)) l := by
 rw [List.take_add_one, h]
 unfold aA
 rw [List.foldl_append]; rfl
theorem aG8 {a : List ByteArray} (h : a.Nodup) (t : aE) : (bI a t).Nodup := by
 unfold bI
 split
 ·rename_i h1
  refine List.nodup_append.2 ⟨h, by simp, fun x hx y hy => ?_⟩
  rw [List.mem_singleton] at hy
  subst hy
  intro e; subst e
  have := cI.2 hx
  rw [h1.2] at this; cases this
 ·exact h
theorem oS : ∀ (ts : List aE) {a : List ByteArray}, a.Nodup -> (cW a ts).Nodup
 | [], _, h => h
 | t :: ts, _, h => oS ts (aG8 h t)
theorem oT : ∀ (ls : List aO) {a : List ByteArray}, a.Nodup -> (ls.foldl cJ a).Nodup
 | [], _, h => h
 | l :: ls, _, h => oT ls (by unfold cJ; split; exact oS _ h; exact h)
theorem dJ (ls : List aO) : (aA ls).Nodup := oT ls List.nodup_nil
theorem lC {e : dE} {ts : List aE} {x : List ByteArray} (he : EnvOk e) : ∀ {k : Nat} {f : dE}, jH e ts x k = some f -> EnvOk f /\ EnvLe e f /\ f.1 = cW e.1 (ts.take k) /\ ∀ (i : Nat) (t : aE), i < k -> ts[i]? = some t -> xF f t (bB x i)
 | 0, f, h => by
  cases h
  exact ⟨he, EnvLe.refl _, by rw [List.take_zero]; rfl, fun i t hi => by omega⟩
 | k + 1, f, h => by
  unfold jH at h
  split at h
  ·rename_i g t hg ht
   obtain ⟨h1, h2, h3, h4⟩ := lC he hg
   obtain ⟨h5, h6, h7, h8⟩ := aBr h1 h
   refine ⟨h5, h2.trans h6, ?_, fun i u hi hu => ?_⟩
   ·rw [h7, h3, List.take_add_one, ht]
    exact (tD _ _ _).symm
   ·rcases Nat.lt_or_eq_of_le (Nat.le_of_lt_succ hi) with h9 | h9
    ·exact h6.fit (h4 i u h9 hu)
    ·subst h9
     rw [ht] at hu; cases hu
     exact h8
  ·cases h
theorem qA {e g : dE} {ts : List aE} {x : List ByteArray} (he : EnvOk e) (hg : EnvOk g) (hle : EnvLe e g) : ∀ {k : Nat}, k ≤ ts.length -> g.1.take (cW e.1 (ts.take k)).length = cW e.1 (ts.take k) -> (∀ (i : Nat) (t : aE), ts[i]? = some t -> xF g t (bB x i)) -> ∃ f, jH e ts x k = some f /\ EnvLe f g
 | 0, _, _, _ => ⟨e, rfl, hle⟩
 | k + 1, hk, hn, h => by
  obtain ⟨t, ht⟩ : ∃ t, ts[k]? = some t := ⟨_, qG (by omega)⟩
  have e1 : ts.take (k + 1) = ts.take k ++ [t] := by rw [List.take_add_one, ht]; rfl
  rw [e1, tD] at hn
  obtain ⟨f, hf, hle2⟩ := qA he hg hle (by omega) (iI (aFj _ _) hn) h
  obtain ⟨h1, h2, h3, h4⟩ := lC he hf
  obtain ⟨f2, hf2, hle3⟩ := aD1 h1 hg hle2 (by rw [h3]; exact hn) (h k t ht)
  refine ⟨f2, ?_, hle3⟩
  unfold jH
  rw [hf, ht]; exact hf2
structure FromOk (ls : List aO) (R : Nat -> aC) (i : Nat) (e : dE) : Prop where
 ok : EnvOk e
 names : e.1 = aA (ls.take i)
 done : ∀ (j : Nat) (l : aO), j < i -> ls[j]? = some l -> l.1 = 1 -> ∃ x ∈ R j, x.length = (aB l).length /\ aBs e.1 e.2 (aB l) x
theorem FromOk.start (ls : List aO) (R : Nat -> aC) : FromOk ls R 0 ([], []) := ⟨⟨List.nodup_nil, rfl⟩, by rw [List.take_zero]; rfl, fun j l hj => by omega⟩
theorem FromOk.skip {ls : List aO} {R : Nat -> aC} {i : Nat} {e : dE} (h : FromOk ls R i e) {l : aO} (hl : ls[i]? = some l) (hk : l.1 ≠ 1) : FromOk ls R (i + 1) e :=
 ⟨h.ok, by rw [h.names, gG hl]; unfold cJ; rw [if_neg hk], fun j m hj hm h1 => by
  rcases Nat.lt_or_eq_of_le (Nat.le_of_lt_succ hj) with h2 | h2
  ·exact h.done j m h2 hm h1
  ·subst h2; rw [hl] at hm; cases hm; exact absurd h1 hk⟩
theorem EnvLe.fitA {e f : dE} (h : EnvLe e f) {ts : List aE} {x : List ByteArray} (hx : aBs e.1 e.2 ts x) : aBs f.1 f.2 ts x := fun i t hi => h.fit (hx i t hi)
theorem FromOk.next {ls : List aO} {R : Nat -> aC} {i : Nat} {e f : dE} (h : FromOk ls R i e) {l : aO} (hl : ls[i]? = some l) (hk : l.1 = 1) {x : List ByteArray} (hx : x ∈ R i) (hxl : x.length = (aB l).length) (hf : jH e (aB l) x (aB l).length = some f) : FromOk ls R (i + 1) f /\ EnvLe e f := by
 obtain ⟨h1, h2, h3, h4⟩ := lC h.ok hf
 rw [List.take_length] at h3
 refine ⟨⟨h1, ?_, fun j m hj hm hm1 => ?_⟩, h2⟩
 ·rw [h3, h.names, gG hl]; unfold cJ; rw [if_pos hk]
 ·rcases Nat.lt_or_eq_of_le (Nat.le_of_lt_succ hj) with h5 | h5
  ·obtain ⟨y, hy, hyl, hyf⟩ := h.done j m h5 hm hm1
   exact ⟨y, hy, hyl, h2.fitA hyf⟩
  ·subst h5; rw [hl] at hm; cases hm
   exact ⟨x, hx, hxl, fun j t hj2 => h4 j t (List.getElem?_eq_some_iff.1 hj2).1 hj2⟩
theorem FromOk.has {ls : List aO} {R : Nat -> aC} {i : Nat} {e : dE} (h : FromOk ls R i e) {l : aO} (hl : ls[i]? = some l) (hk : l.1 = 1) {V : List ByteArray} (hV : cO ls R V) (hp : V.take e.2.length = e.2) :
 ∃ x ∈ R i, x.length = (aB l).length /\ ∃ f, jH e (aB l) x (aB l).length = some f /\ V.take f.2.length = f.2 := by
 have h1 := hV.2 i l hl
 unfold mI at h1
 rw [if_pos hk] at h1
 obtain ⟨x, hx, hxl, hxf⟩ := h1
 have hg : EnvOk (aA ls, V) := ⟨dJ ls, hV.1⟩
 have hle : EnvLe e (aA ls, V) := ⟨by rw [h.names]; exact kZ ls i, hp⟩
 obtain ⟨f, hf, hle2⟩ := qA (x := x) h.ok hg hle (Nat.le_refl (aB l).length) (by
  rw [List.take_length, h.names]
  have := kZ ls (i + 1)
  rw [gG hl] at this
  unfold cJ at this
  rw [if_pos hk] at this
  exact this) hxf
 exact ⟨x, hx, hxl, f, hf, hle2.vals⟩
theorem FromOk.len {ls : List aO} {R : Nat -> aC} {i : Nat} {e : dE} (h : FromOk ls R i e) : e.2.length = (aA (ls.take i)).length := by rw [h.ok.len, h.names]
theorem FromOk.last {ls : List aO} {R : Nat -> aC} {e : dE} (h : FromOk ls R ls.length e) : e.1 = aA ls /\ (cO ls R e.2 ↔ ∀ (i : Nat) (l : aO), ls[i]? = some l -> l.1 ≠ 1 -> mI (aA ls) e.2 (R i) l) /\ ∀ V, cO ls R V -> V.length = e.2.length := by
 have hn : e.1 = aA ls := by rw [h.names, List.take_length]
 have hl : e.2.length = (aA ls).length := by rw [h.ok.len, hn]
 refine ⟨hn, ⟨fun hB i l hi _ => hB.2 i l hi, fun hB => ⟨hl, fun i l hi => ?_⟩⟩, fun V hV => by rw [hV.1, hl]⟩
 by_cases hk : l.1 = 1
 ·unfold mI
  rw [if_pos hk]
  have := h.done i l (List.getElem?_eq_some_iff.1 hi).1 hi hk
  rw [hn] at this; exact this
 ·exact hB i l hi hk
def dC (e : dE) (ts : List aE) (R : aC) : aC := aDh aD (R.filterMap fun x => (jH e ts x ts.length).map (·.2))
theorem sK {e : dE} {ts : List aE} {R : aC} {q : List ByteArray} : q ∈ dC e ts R ↔ ∃ x ∈ R, ∃ f, jH e ts x ts.length = some f /\ f.2 = q := by
 unfold dC
 rw [aAt, List.mem_filterMap]
 refine ⟨fun ⟨x, hx, h⟩ => ?_, fun ⟨x, hx, f, hf, e⟩ => ⟨x, hx, by rw [hf, <- e]; rfl⟩⟩
 cases hf : jH e ts x ts.length with
 | none => rw [hf] at h; cases h
 | some f => rw [hf] at h; exact ⟨x, hx, f, hf, Option.some.inj h⟩
theorem zP (e : dE) (ts : List aE) (R : aC) : Strict aD (dC e ts R) := Strict.new cZ _
section
variable {ls : List aO} {R : Nat -> aC} {i : Nat} {e : dE} {l : aO}
theorem FromOk.each (h : FromOk ls R i e) (hl : ls[i]? = some l) (hk : l.1 = 1) {R' : aC} (hR : ∀ x, x ∈ R' ↔ x ∈ R i /\ x.length = (aB l).length) {q : List ByteArray} (hq : q ∈ dC e (aB l) R') :
 FromOk ls R (i + 1) (aA (ls.take (i + 1)), q) /\ q.take e.2.length = e.2 /\ q.length = (aA (ls.take (i + 1))).length := by
 obtain ⟨x, hx, f, hf, rfl⟩ := sK.1 hq
 obtain ⟨h1, h2⟩ := (hR x).1 hx
 obtain ⟨h3, h4⟩ := h.next hl hk h1 h2 hf
 have e1 : f = (aA (ls.take (i + 1)), f.2) := by rw [<- h3.names]
 rw [<- e1]
 exact ⟨h3, h4.vals, h3.len⟩
theorem FromOk.whole (h : FromOk ls R i e) (hl : ls[i]? = some l) (hk : l.1 = 1) {R' : aC} (hR : ∀ x, x ∈ R' ↔ x ∈ R i /\ x.length = (aB l).length) {V : List ByteArray} (hV : cO ls R V) (hp : V.take e.2.length = e.2) : V.take (aA (ls.take (i + 1))).length ∈ dC e (aB l) R' := by
 obtain ⟨x, hx, hxl, f, hf, hfv⟩ := h.has hl hk hV hp
 obtain ⟨h3, h4⟩ := h.next hl hk hx hxl hf
 have e1 := h3.len
 rw [<- e1, hfv]
 exact sK.2 ⟨x, (hR x).2 ⟨hx, hxl⟩, f, hf, rfl⟩
theorem aG0 {V : List ByteArray} (hV : cO ls R V) (i : Nat) : (aA (ls.take i)).length ≤ V.length := by
 have h := congrArg List.length (kZ ls i)
 rw [List.length_take] at h
 rw [hV.1]; omega
theorem aHx (h : FromOk ls R i e) (hl : ls[i]? = some l) (hk : l.1 = 1) {R' : aC} (hR : ∀ x, x ∈ R' ↔ x ∈ R i /\ x.length = (aB l).length) {k : Nat} {q : List ByteArray} (hq : (dC e (aB l) R')[k]? = some q) {L L' : aC}
 (hL : PartQ (cO ls R) e.2 (aA (ls.take (i + 1))).length (fun y => y ∈ (dC e (aB l) R').take k) L) (hL' : AllB (cO ls R) q L') : PartQ (cO ls R) e.2 (aA (ls.take (i + 1))).length (fun y => y ∈ (dC e (aB l) R').take (k + 1)) (L ++ L') := by
 obtain ⟨h1, h2, h3⟩ := h.each hl hk hR (List.mem_of_getElem? hq)
 have hle : e.2.length ≤ (aA (ls.take (i + 1))).length := by
  have := congrArg List.length h2
  rw [List.length_take] at this; omega
 refine (hL.next h3 h2 hle (fun V hV => aG0 hV _) hL' fun y hy => ?_).congr fun y => ?_
 ·obtain ⟨j, hj⟩ := List.mem_iff_getElem?.1 hy
  have hjk : j < k := by
   have := (List.getElem?_eq_some_iff.1 hj).1
   rw [List.length_take] at this; omega
  rw [List.getElem?_take_of_lt hjk] at hj
  obtain ⟨l1, e1⟩ := List.getElem?_eq_some_iff.1 hj
  obtain ⟨l2, e2⟩ := List.getElem?_eq_some_iff.1 hq
  have := List.pairwise_iff_getElem.1 (zP e (aB l) R') j k l1 l2 hjk
  rw [e1, e2] at this
  exact this
 ·rw [List.take_add_one, hq, List.mem_append]
  simp
theorem aJ0 (h : FromOk ls R i e) (hl : ls[i]? = some l) (hk : l.1 = 1) {R' : aC} (hR : ∀ x, x ∈ R' ↔ x ∈ R i /\ x.length = (aB l).length) {L : aC}
 (hL : PartQ (cO ls R) e.2 (aA (ls.take (i + 1))).length (fun y => y ∈ dC e (aB l) R') L) : AllB (cO ls R) e.2 L := hL.all fun V hV hp => h.whole hl hk hR hV hp
end
structure CurZ where
 keys : List ByteArray
 lo : Nat
 hi : Nat
structure CurOk (c : CurZ) : Prop where
 le : c.lo ≤ c.hi
 few : c.hi ≤ c.keys.length
 rise : ∀ (k l : Nat) (x y : ByteArray), c.lo ≤ k -> k < l -> l < c.hi -> c.keys[k]? = some x -> c.keys[l]? = some y -> bE x.toList y.toList < 0
def kG (c : CurZ) (p : Nat) (x : ByteArray) : Prop := ∃ k, p ≤ k /\ k < c.hi /\ c.keys[k]? = some x
theorem iU {a b c : ByteArray} (h : bE a.toList b.toList < 0) (h' : bE b.toList c.toList < 0) : bE a.toList c.toList < 0 := by
 rw [eO] at h h' ⊢
 exact eU h h'
theorem vM {a b c : ByteArray} (h : bE a.toList b.toList < 0) (h' : ¬ bE c.toList b.toList < 0) : bE a.toList c.toList < 0 := by
 rcases iV b.toList c.toList with h2 | h2 | h2
 ·exact iU h (by omega)
 ·rw [<- dQ (fB h2)]; exact h
 ·have := fZ b.toList c.toList
  omega
section
variable {Sol : List ByteArray -> Prop} {p : List ByteArray} {Cs : List CurZ}
structure LeapInv (Sol : List ByteArray -> Prop) (p : List ByteArray) (Cs : List CurZ) (pos : Nat -> Nat) (i : Nat) (D : ByteArray -> Prop) (L : aC) : Prop where
 ok : ∀ c ∈ Cs, CurOk c
 here : i < Cs.length
 inn : ∀ j c, Cs[j]? = some c -> c.lo ≤ pos j /\ pos j ≤ c.hi
 told : PartB Sol p D L
 common : ∀ V, Sol V -> V.take p.length = p -> ∃ x, V[p.length]? = some x /\ (D x \/ ∀ (j : Nat) (c : CurZ), Cs[j]? = some c -> kG c (pos j) x)
 below : ∀ c x y, Cs[i]? = some c -> D x -> kG c (pos i) y -> bE x.toList y.toList < 0
theorem LeapInv.start (hok : ∀ c ∈ Cs, CurOk c) (hne : 0 < Cs.length) (hc : ∀ V, Sol V -> V.take p.length = p -> ∃ x, V[p.length]? = some x /\ ∀ (j : Nat) (c : CurZ), Cs[j]? = some c -> kG c c.lo x) : LeapInv Sol p Cs (fun j => (Cs.getD j ⟨[], 0, 0⟩).lo) 0 (fun _ => False) [] := by
 refine ⟨hok, hne, fun j c hj => ?_, PartB.none fun V _ _ x _ h => h, fun V h1 h2 => ?_, fun c x y _ h => h.elim⟩
 ·have e : Cs.getD j ⟨[], 0, 0⟩ = c := by rw [List.getD_eq_getElem?_getD, hj]; rfl
  show _ ≤ (Cs.getD j ⟨[], 0, 0⟩).lo /\ (Cs.getD j ⟨[], 0, 0⟩).lo ≤ _
  rw [e]
  exact ⟨Nat.le_refl _, (hok c (List.mem_of_getElem? hj)).le⟩
 ·obtain ⟨x, hx, h3⟩ := hc V h1 h2
  refine ⟨x, hx, .inr fun j c hj => ?_⟩
  have e : Cs.getD j ⟨[], 0, 0⟩ = c := by rw [List.getD_eq_getElem?_getD, hj]; rfl
  show kG c (Cs.getD j ⟨[], 0, 0⟩).lo x
  rw [e]; exact h3 j c hj
theorem LeapInv.end {pos : Nat -> Nat} {i : Nat} {D : ByteArray -> Prop} {L : aC} (h : LeapInv Sol p Cs pos i D L) {j : Nat} {c : CurZ} (hj : Cs[j]? = some c) (he : pos j = c.hi) : AllB Sol p L := by
 refine h.told.all fun V h1 h2 => ?_
 obtain ⟨x, hx, h3⟩ := h.common V h1 h2
 refine ⟨x, hx, ?_⟩
 rcases h3 with h3 | h3
 ·exact h3
 ·obtain ⟨k, h4, h5, _⟩ := h3 j c hj
  omega
theorem LeapInv.seek {pos : Nat -> Nat} {i : Nat} {D : ByteArray -> Prop} {L : aC} (h : LeapInv Sol p Cs pos i D L) {ci : CurZ} (hi : Cs[i]? = some ci) (hlt : pos i < ci.hi) {key : ByteArray} (hk : ci.keys[pos i]? = some key) {j : Nat} {c : CurZ} (hj : Cs[j]? = some c) {q : Nat} (hq : pos j ≤ q) (hq2 : q ≤ c.hi) (hb : ∀ k x, pos j ≤ k -> k < q -> c.keys[k]? = some x -> bE x.toList key.toList < 0) (hij : j = i -> q = pos i) :
 LeapInv Sol p Cs (fun m => if m = j then q else pos m) i D L := by
 have hp := h.inn j c hj
 refine ⟨h.ok, h.here, fun m d hm => ?_, h.told, fun V h1 h2 => ?_, fun d x y hd hx hy => ?_⟩
 ·show _ ≤ (if m = j then q else pos m) /\ (if m = j then q else pos m) ≤ _
  split
  ·rename_i e; subst e
   rw [hj] at hm; cases hm
   exact ⟨by omega, hq2⟩
  ·exact h.inn m d hm
 ·obtain ⟨x, hx, h3⟩ := h.common V h1 h2
  refine ⟨x, hx, ?_⟩
  rcases h3 with h3 | h3
  ·exact .inl h3
  ·refine .inr fun m d hm => ?_
   show kG d (if m = j then q else pos m) x
   split
   ·rename_i e; subst e
    rw [hj] at hm; cases hm
    obtain ⟨k, h4, h5, h6⟩ := h3 m c hj
    obtain ⟨k', h7, h8, h9⟩ := h3 i ci hi
    refine ⟨k, ?_, h5, h6⟩
    rcases Nat.lt_or_ge k q with h10 | h10
    ·exfalso
     have h11 := hb k x h4 h10 h6
     rcases Nat.lt_or_eq_of_le h7 with h12 | h12
     ·have h13 := (h.ok ci (List.mem_of_getElem? hi)).rise (pos i) k' key x (h.inn i ci hi).1 h12 h8 hk h9
      have := fZ x.toList key.toList
      omega
     ·subst h12
      rw [hk] at h9; cases h9
      rw [dY] at h11; omega
    ·exact h10
   ·exact h3 m d hm
 ·have e : (if i = j then q else pos i) = pos i := by
   split
   ·rename_i e; exact hij e.symm
   ·rfl
  have hy' : kG d (pos i) y := by
   have h0 : kG d (if i = j then q else pos i) y := hy
   rw [e] at h0; exact h0
  exact h.below d x y hd hx hy'
theorem LeapInv.lead {pos : Nat -> Nat} {i : Nat} {D : ByteArray -> Prop} {L : aC} (h : LeapInv Sol p Cs pos i D L) {ci : CurZ} (hi : Cs[i]? = some ci) (hlt : pos i < ci.hi) {key : ByteArray} (hk : ci.keys[pos i]? = some key) {j : Nat} {c : CurZ} (hj : Cs[j]? = some c) (hl2 : pos j < c.hi) {key2 : ByteArray} (hk2 : c.keys[pos j]? = some key2) (hge : ¬ bE key2.toList key.toList < 0) : LeapInv Sol p Cs pos j D L := by
 refine ⟨h.ok, (List.getElem?_eq_some_iff.1 hj).1, h.inn, h.told, h.common, fun d x y hd hx hy => ?_⟩
 rw [hj] at hd; cases hd
 have h1 := h.below ci x key hi hx ⟨pos i, Nat.le_refl _, hlt, hk⟩
 have h2 := vM h1 hge
 obtain ⟨k, h3, h4, h5⟩ := hy
 rcases Nat.lt_or_eq_of_le h3 with h6 | h6
 ·exact iU h2 ((h.ok c (List.mem_of_getElem? hj)).rise (pos j) k key2 y (h.inn j c hj).1 h6 h4 hk2 h5)
 ·subst h6
  rw [hk2] at h5; cases h5
  exact h2
theorem LeapInv.next {pos : Nat -> Nat} {i : Nat} {D : ByteArray -> Prop} {L L' : aC} (h : LeapInv Sol p Cs pos i D L) {ci : CurZ} (hi : Cs[i]? = some ci) (hlt : pos i < ci.hi) {key : ByteArray} (hk : ci.keys[pos i]? = some key) (h' : AllB Sol (p ++ [key]) L') : LeapInv Sol p Cs (fun m => if m = i then pos i + 1 else pos m) i (fun y => D y \/ y = key) (L ++ L') := by
 refine ⟨h.ok, h.here, fun m d hm => ?_, h.told.next h' fun V h1 h2 y hy hD => h.below ci y key hi hD ⟨pos i, Nat.le_refl _, hlt, hk⟩, fun V h1 h2 => ?_, fun d x y hd hx hy => ?_⟩
 ·show _ ≤ (if m = i then pos i + 1 else pos m) /\ (if m = i then pos i + 1 else pos m) ≤ _
  split
  ·rename_i e; subst e
   rw [hi] at hm; cases hm
   have := (h.inn m ci hi).1
   exact ⟨by omega, hlt⟩
  ·exact h.inn m d hm
 ·obtain ⟨x, hx, h3⟩ := h.common V h1 h2
  refine ⟨x, hx, ?_⟩
  rcases h3 with h3 | h3
  ·exact .inl (.inl h3)
  ·by_cases e : x = key
   ·exact .inl (.inr e)
   ·refine .inr fun m d hm => ?_
    show kG d (if m = i then pos i + 1 else pos m) x
    split
    ·rename_i e2; subst e2
     rw [hi] at hm; cases hm
     obtain ⟨k, h4, h5, h6⟩ := h3 m ci hi
     refine ⟨k, ?_, h5, h6⟩
     rcases Nat.lt_or_eq_of_le h4 with h7 | h7
     ·exact h7
     ·subst h7; rw [hk] at h6; cases h6; exact absurd rfl e
    ·exact h3 m d hm
 ·rw [hi] at hd; cases hd
  have hy' : kG ci (pos i + 1) y := by
   have h0 : kG ci (if i = i then pos i + 1 else pos i) y := hy
   rw [if_pos rfl] at h0; exact h0
  obtain ⟨k, h3, h4, h5⟩ := hy'
  have h6 := (h.ok ci (List.mem_of_getElem? hi)).rise (pos i) k key y (h.inn i ci hi).1 (by omega) h4 hk h5
  rcases hx with hx | hx
  ·exact h.below ci x y hi hx ⟨k, by omega, h4, h5⟩
  ·rw [hx]; exact h6
end
section
variable {W : aC} {d : Nat}
def SpanOf (W : aC) (d : Nat) (q : List ByteArray) (a b : Nat) : Prop := ∃ lo hi, Iv W q lo hi /\ a = aP W d q.length lo /\ b = aP W d q.length hi
theorem aCs (i : Nat) : aP W d i 0 = 0 := by
 have := cU W d i 0
 unfold aP; omega
theorem kJ (i : Nat) {m n : Nat} (h : m ≤ n) : aP W d i m ≤ aP W d i n := by
 obtain ⟨r, e, _⟩ := lM W d i h
 unfold aP
 rw [e, List.length_append]; omega
theorem aFt (hne : 0 < W.length) : SpanOf W d [] 0 (aP W d 0 W.length) :=
 ⟨0, W.length, ⟨hne, Nat.le_refl _, fun n x hx => ⟨fun _ => ⟨Nat.zero_le _, (List.getElem?_eq_some_iff.1 hx).1⟩, fun _ => rfl⟩⟩, (aCs 0).symm, rfl⟩
theorem lP {i n k s : Nat} (h : (aW W d i n)[k]? = some s) {m : Nat} (hm : m ≤ n) : k < aP W d i m ↔ s < m := by
 obtain ⟨r, e, hr⟩ := lM W d i hm
 rw [e] at h
 unfold aP
 refine ⟨fun hk => ?_, fun hs => ?_⟩
 ·rw [List.getElem?_append_left hk] at h
  exact (kQ h).2
 ·rcases Nat.lt_or_ge k (aW W d i m).length with h1 | h1
  ·exact h1
  ·rw [List.getElem?_append_right h1] at h
   have := hr _ (List.mem_of_getElem? h)
   omega
theorem WaysOk.cell (h : WaysOk W d) {n : Nat} {r : List ByteArray} (hr : W[n]? = some r) {i : Nat} (hi : i < d) : ∃ x, r[i]? = some x /\ r.take (i + 1) = r.take i ++ [x] := by
 have hl : i < r.length := by rw [h.len r (List.mem_of_getElem? hr)]; exact hi
 refine ⟨_, qG hl, ?_⟩
 rw [List.take_add_one, qG hl]; rfl
theorem SpanOf.place (hW : WaysOk W d) {q : List ByteArray} {a b : Nat} (h : SpanOf W d q a b) (hq : q.length < d) {k : Nat} (ha : a ≤ k) (hb : k < b) :
 ∃ s r x, (aW W d q.length W.length)[k]? = some s /\ W[s]? = some r /\ r.take (q.length + 1) = q ++ [x] /\ (bK W d q.length W.length)[k]? = some x /\ Iv W (q ++ [x]) s ((aW W d q.length W.length).getD (k + 1) W.length) := by
 obtain ⟨lo, hi, hI, rfl, rfl⟩ := h
 have hkS : k < (aW W d q.length W.length).length := Nat.lt_of_lt_of_le hb (kJ _ hI.few)
 obtain ⟨s, hs⟩ : ∃ s, (aW W d q.length W.length)[k]? = some s := ⟨_, qG hkS⟩
 have hsn := (kQ hs).2
 have h1 : s < hi := (lP hs hI.few).1 hb
 have h2 : ¬ s < lo := fun h => Nat.not_lt.2 ha ((lP hs (Nat.le_trans (Nat.le_of_lt hI.le) hI.few)).2 h)
 obtain ⟨r, hr⟩ : ∃ r, W[s]? = some r := ⟨_, qG hsn⟩
 obtain ⟨x, hx, et⟩ := hW.cell hr hq
 have eq : r.take q.length = q := (hI.iff s r hr).2 ⟨by omega, h1⟩
 rw [eq] at et
 have hst := (kR hq).1 (List.mem_of_getElem? hs)
 refine ⟨s, r, x, hs, hr, et, ?_, ?_, ?_, ?_⟩
 ·unfold bK
  rw [List.getElem?_map, hs]
  show some ((W.getD s []).getD q.length ByteArray.empty) = some x
  rw [bD hr, bD hx]
 ·rw [List.getD_eq_getElem?_getD]
  cases h4 : (aW W d q.length W.length)[k + 1]? with
  | none => exact hsn
  | some e =>
   obtain ⟨l1, e1⟩ := List.getElem?_eq_some_iff.1 hs
   obtain ⟨l2, e2⟩ := List.getElem?_eq_some_iff.1 h4
   have := List.pairwise_iff_getElem.1 (eZ W d q.length W.length) k (k + 1) l1 l2 (by omega)
   rw [e1, e2] at this
   exact this
 ·rw [List.getD_eq_getElem?_getD]
  cases h4 : (aW W d q.length W.length)[k + 1]? with
  | none => exact Nat.le_refl _
  | some e => exact Nat.le_of_lt (kQ h4).2
 ·intro n y hy
  have hn := (List.getElem?_eq_some_iff.1 hy).1
  rw [List.length_append, List.length_singleton, <- et]
  refine ⟨fun he => ⟨?_, ?_⟩, fun ⟨h3, h4⟩ => ?_⟩
  ·rcases Nat.lt_or_ge n s with h3 | h3
   ·exfalso
    rcases dW.1 hst.2 with h4 | h4
    ·omega
    ·obtain ⟨z, hz⟩ : ∃ z, W[s - 1]? = some z := ⟨_, qG (by omega)⟩
     rw [bD hz, bD hr] at h4
     exact h4 ((hW.between hy hz hr (by omega) (by omega) he).trans he)
   ·exact h3
  ·rcases Nat.lt_or_ge n ((aW W d q.length W.length).getD (k + 1) W.length) with h3 | h3
   ·exact h3
   ·exfalso
    rw [List.getD_eq_getElem?_getD] at h3
    cases h4 : (aW W d q.length W.length)[k + 1]? with
    | none =>
     rw [h4] at h3
     have h5 : W.length ≤ n := h3
     omega
    | some e =>
     rw [h4] at h3
     have h5 : e ≤ n := h3
     have h6 := (kR hq).1 (List.mem_of_getElem? h4)
     obtain ⟨l1, e1⟩ := List.getElem?_eq_some_iff.1 hs
     obtain ⟨l2, e2⟩ := List.getElem?_eq_some_iff.1 h4
     have h7 := List.pairwise_iff_getElem.1 (eZ W d q.length W.length) k (k + 1) l1 l2 (by omega)
     rw [e1, e2] at h7
     obtain ⟨z, hz⟩ : ∃ z, W[e - 1]? = some z := ⟨_, qG (by omega)⟩
     obtain ⟨u, hu⟩ : ∃ u, W[e]? = some u := ⟨_, qG (by omega)⟩
     rcases dW.1 h6.2 with h8 | h8
     ·omega
     ·rw [bD hz, bD hu] at h8
      exact h8 ((hW.between hr hz hy (by omega) (by omega) he.symm).trans (hW.between hr hu hy (by omega) h5 he.symm).symm)
  ·-- no start lies between
   have key : ∀ m, s ≤ m -> m ≤ n -> ∀ z, W[m]? = some z -> z.take (q.length + 1) = r.take (q.length + 1) := by
    intro m
    induction m with
    | zero =>
     intro h5 _ z hz
     have : s = 0 := by omega
     rw [this] at hr
     rw [hr] at hz; cases hz; rfl
    | succ m ih =>
     intro h5 h6 z hz
     rcases Nat.lt_or_eq_of_le h5 with h7 | h7
     ·obtain ⟨u, hu⟩ : ∃ u, W[m]? = some u := ⟨_, qG (by omega)⟩
      have h8 := ih (by omega) (by omega) u hu
      have h9 : ¬ cN W (q.length + 1) (m + 1) = true := fun h10 => by
       have hm := (kR (W := W) (n := W.length) hq).2 ⟨(List.getElem?_eq_some_iff.1 hz).1, h10⟩
       obtain ⟨j, hj⟩ := List.mem_iff_getElem?.1 hm
       obtain ⟨l1, e1⟩ := List.getElem?_eq_some_iff.1 hs
       obtain ⟨l2, e2⟩ := List.getElem?_eq_some_iff.1 hj
       have hjk : k < j := by
        rcases Nat.lt_trichotomy k j with h | h | h
        ·exact h
        ·subst h; rw [hs] at hj; cases hj; omega
        ·have := List.pairwise_iff_getElem.1 (eZ W d q.length W.length) j k l2 l1 h
         rw [e1, e2] at this; omega
       rw [List.getD_eq_getElem?_getD, qG (by omega : k + 1 < _)] at h4
       have h11 : n < (aW W d q.length W.length)[k + 1] := h4
       rcases Nat.lt_or_eq_of_le (show k + 1 ≤ j from hjk) with h | h
       ·have := List.pairwise_iff_getElem.1 (eZ W d q.length W.length) (k + 1) j (by omega) l2 h
        rw [e2] at this; omega
       ·subst h; rw [e2] at h11; omega
      have h12 : u.take (q.length + 1) = z.take (q.length + 1) := by
       refine Classical.byContradiction fun h13 => h9 (dW.2 (.inr ?_))
       rw [Nat.add_sub_cancel, bD hu, bD hz]; exact h13
      rw [<- h12]; exact h8
     ·rw [<- h7] at hz
      rw [hr] at hz; cases hz; rfl
   exact key n h3 (Nat.le_refl _) y hy
theorem SpanOf.all (hW : WaysOk W d) {q : List ByteArray} {a b : Nat} (h : SpanOf W d q a b) (hq : q.length < d) {x : ByteArray} {r : List ByteArray} (hr : r ∈ W) (he : r.take (q.length + 1) = q ++ [x]) :
 ∃ k, a ≤ k /\ k < b /\ (bK W d q.length W.length)[k]? = some x := by
 have hS := h
 obtain ⟨lo, hi, hI, ea, eb⟩ := h
 obtain ⟨n, hn⟩ := List.mem_iff_getElem?.1 hr
 have hnl := (List.getElem?_eq_some_iff.1 hn).1
 have e1 : r.take q.length = q := by
  have := congrArg (List.take q.length) he
  rw [List.take_take, List.take_left] at this
  rw [show min q.length (q.length + 1) = q.length by omega] at this
  exact this
 obtain ⟨h1, h2⟩ := (hI.iff n r hn).1 e1
 have hlo : cN W (q.length + 1) lo = true := by
  refine dW.2 ?_
  by_cases h0 : lo = 0
  ·exact .inl h0
  ·refine .inr fun h3 => ?_
   obtain ⟨z, hz⟩ : ∃ z, W[lo - 1]? = some z := ⟨_, qG (by omega)⟩
   obtain ⟨u, hu⟩ : ∃ u, W[lo]? = some u := ⟨_, qG (by omega)⟩
   rw [bD hz, bD hu] at h3
   have h4 : z.take q.length = u.take q.length := by
    have := congrArg (List.take q.length) h3
    rw [List.take_take, List.take_take] at this
    rw [show min q.length (q.length + 1) = q.length by omega] at this
    exact this
   have h5 := (hI.iff lo u hu).2 ⟨Nat.le_refl _, hI.le⟩
   have h6 := ((hI.iff (lo - 1) z hz).1 (h4.trans h5)).1
   omega
 have hml : lo ∈ aW W d q.length (n + 1) := (kR hq).2 ⟨by omega, hlo⟩
 obtain ⟨j, hj⟩ := List.mem_iff_getElem?.1 hml
 have hjl := (List.getElem?_eq_some_iff.1 hj).1
 obtain ⟨k, ek⟩ : ∃ k, aP W d q.length (n + 1) = k + 1 := ⟨aP W d q.length (n + 1) - 1, by unfold aP; omega⟩
 have hka : a ≤ k := by
  have h3 : ¬ j < aP W d q.length lo := fun h => absurd ((lP hj (by omega)).1 h) (by omega)
  have h4 : j < aP W d q.length (n + 1) := hjl
  omega
 have hkb : k < b := by
  have := kJ (W := W) (d := d) q.length (show n + 1 ≤ hi from h2)
  omega
 obtain ⟨s, r', x', hs, hr', he', hk', hI'⟩ := hS.place hW hq hka hkb
 refine ⟨k, hka, hkb, ?_⟩
 have hsn : s < n + 1 := (lP hs (by omega)).1 (by omega)
 have hne : n < (aW W d q.length W.length).getD (k + 1) W.length := by
  rw [List.getD_eq_getElem?_getD]
  cases h4 : (aW W d q.length W.length)[k + 1]? with
  | none => exact hnl
  | some e =>
   have h5 : ¬ e < n + 1 := fun h => absurd ((lP h4 (by omega)).2 h) (by omega)
   show n < e
   omega
 have h7 := (hI'.iff n r hn).2 ⟨by omega, hne⟩
 rw [List.length_append, List.length_singleton, he] at h7
 have h8 := (List.append_inj h7 rfl).2
 rw [hk']
 simpa using h8.symm
theorem SpanOf.rise (hW : WaysOk W d) {q : List ByteArray} {a b : Nat} (h : SpanOf W d q a b) (hq : q.length < d) {k l : Nat} (ha : a ≤ k) (hl : k < l) (hb : l < b) {x y : ByteArray} (hx : (bK W d q.length W.length)[k]? = some x) (hy : (bK W d q.length W.length)[l]? = some y) : bE x.toList y.toList < 0 := by
 obtain ⟨s, r, x', hs, hr, he, hk, hI⟩ := h.place hW hq ha (by omega)
 obtain ⟨t, u, y', ht, hu, he2, hk2, hI2⟩ := h.place hW hq (show a ≤ l by omega) hb
 rw [hk] at hx; cases hx
 rw [hk2] at hy; cases hy
 obtain ⟨l1, e1⟩ := List.getElem?_eq_some_iff.1 hs
 obtain ⟨l2, e2⟩ := List.getElem?_eq_some_iff.1 ht
 have hst := List.pairwise_iff_getElem.1 (eZ W d q.length W.length) k l l1 l2 hl
 rw [e1, e2] at hst
 have h1 := jL (q.length + 1) ((hW.len r (List.mem_of_getElem? hr)).trans (hW.len u (List.mem_of_getElem? hu)).symm) (hW.le hr hu (Nat.le_of_lt hst))
 rw [he, he2, rE] at h1
 have h2 : bE x.toList y.toList ≠ 0 := fun e => by
  have exy : x = y := dQ (fB e)
  subst exy
  have h3 := ((hI2.iff s r hr).1 (by rw [List.length_append, List.length_singleton]; exact he)).1
  omega
 omega
theorem SpanOf.down (hW : WaysOk W d) {q : List ByteArray} {a b : Nat} (h : SpanOf W d q a b) (hq : q.length < d) {k : Nat} (ha : a ≤ k) (hb : k < b) {x : ByteArray} (hx : (bK W d q.length W.length)[k]? = some x) :
 ∃ f t, (bT W d q.length W.length ++ [(aP W d (q.length + 1) W.length : Int)])[k]? = some ((f : Nat) : Int) /\ (bT W d q.length W.length ++ [(aP W d (q.length + 1) W.length : Int)])[k + 1]? = some ((t : Nat) : Int) /\ SpanOf W d (q ++ [x]) f t := by
 obtain ⟨s, r, x', hs, hr, he, hk, hI⟩ := h.place hW hq ha hb
 rw [hk] at hx; cases hx
 refine ⟨aP W d (q.length + 1) s, aP W d (q.length + 1) ((aW W d q.length W.length).getD (k + 1) W.length), ?_, ?_, s, _, hI, by rw [List.length_append, List.length_singleton], by rw [List.length_append, List.length_singleton]⟩
 ·have hkl : k < (bT W d q.length W.length).length := by rw [gK]; exact (List.getElem?_eq_some_iff.1 hs).1
  rw [List.getElem?_append_left hkl]
  unfold bT
  rw [List.getElem?_map, hs]; rfl
 ·rw [List.getD_eq_getElem?_getD]
  cases h4 : (aW W d q.length W.length)[k + 1]? with
  | none =>
   have h5 := List.getElem?_eq_none_iff.1 h4
   have h6 := (List.getElem?_eq_some_iff.1 hs).1
   have h7 : (bT W d q.length W.length).length = k + 1 := by rw [gK]; unfold aP; omega
   rw [List.getElem?_append_right (by omega), h7, Nat.sub_self]; rfl
  | some e =>
   have hkl : k + 1 < (bT W d q.length W.length).length := by rw [gK]; exact (List.getElem?_eq_some_iff.1 h4).1
   rw [List.getElem?_append_left hkl]
   unfold bT
   rw [List.getElem?_map, h4]; rfl
theorem SpanOf.le {q : List ByteArray} {a b : Nat} (h : SpanOf W d q a b) : a ≤ b /\ b ≤ aP W d q.length W.length := by
 obtain ⟨lo, hi, hI, rfl, rfl⟩ := h
 exact ⟨kJ _ (Nat.le_of_lt hI.le), kJ _ hI.few⟩
theorem SpanOf.some (hW : WaysOk W d) {q : List ByteArray} {a b : Nat} (h : SpanOf W d q a b) (hq : q.length < d) : a < b := by
 have hS := h
 obtain ⟨lo, hi, hI, ea, eb⟩ := h
 obtain ⟨r, hr⟩ : ∃ r, W[lo]? = .some r := ⟨_, qG (Nat.lt_of_lt_of_le hI.le hI.few)⟩
 obtain ⟨x, hx, et⟩ := hW.cell hr hq
 have e := (hI.iff lo r hr).2 ⟨Nat.le_refl _, hI.le⟩
 rw [e] at et
 obtain ⟨k, h1, h2, _⟩ := hS.all hW hq (List.mem_of_getElem? hr) et
 omega
end
section
variable {W : aC} {d : Nat}
theorem pW {i n : Nat} (hi : i < d) {r : List ByteArray} {x : ByteArray} (hr : W[n]? = some r) (hx : r[i]? = some x) : bK W d i (n + 1) = bK W d i n ++ if cN W (i + 1) n then [x] else [] := by
 unfold bK
 rw [lN W hi, List.map_append]
 congr 1
 split
 ·rw [List.map_singleton, bD hr, bD hx]
 ·rfl
theorem pZ {i n : Nat} (hi : i < d) : bT W d i (n + 1) = bT W d i n ++ if cN W (i + 1) n then [(aP W d (i + 1) n : Int)] else [] := by
 unfold bT
 rw [lN W hi, List.map_append]
 congr 1
 split
 ·rfl
 ·rfl
theorem nU {n : Nat} : aP W d d n = n := by unfold aP; rw [lO W (Nat.lt_irrefl d), List.length_range]
theorem aC9 {n : Nat} : cN W 0 n = (n == 0) := by
 unfold cN
 rw [List.take_zero, List.take_zero]
 simp
structure PathOk (W : aC) (d : Nat) (q : List ByteArray) (st : List (Nat × Nat)) : Prop where
 len : st.length = q.length
 at_ : ∀ (j : Nat) (e : Nat × Nat), st[j]? = some e -> ∃ a x, SpanOf W d (q.take j) a e.2 /\ a ≤ e.1 /\ e.1 < e.2 /\ q[j]? = some x /\ (bK W d j W.length)[e.1]? = some x
 few : q.length ≤ d
theorem PathOk.nil : PathOk W d [] [] := ⟨rfl, fun j e h => by simp at h, Nat.zero_le _⟩
theorem PathOk.push {q : List ByteArray} {st : List (Nat × Nat)} (h : PathOk W d q st) (hq : q.length < d) {a b k : Nat} {x : ByteArray} (hs : SpanOf W d q a b) (ha : a ≤ k) (hb : k < b) (hx : (bK W d q.length W.length)[k]? = some x) : PathOk W d (q ++ [x]) (st ++ [(k, b)]) := by
 refine ⟨by simp [h.len], fun j e he => ?_, by simp; omega⟩
 rcases Nat.lt_trichotomy j st.length with h1 | h1 | h1
 ·rw [List.getElem?_append_left h1] at he
  obtain ⟨a', x', h2, h3, h4, h5, h6⟩ := h.at_ j e he
  have hj : j < q.length := by rw [<- h.len]; exact h1
  exact ⟨a', x', by rw [List.take_append_of_le_length (by omega)]; exact h2, h3, h4, by rw [List.getElem?_append_left hj]; exact h5, h6⟩
 ·subst h1
  rw [List.getElem?_append_right (Nat.le_refl _), Nat.sub_self] at he
  cases he
  refine ⟨a, x, ?_, ha, hb, ?_, ?_⟩
  ·rw [h.len, List.take_left]; exact hs
  ·rw [h.len, List.getElem?_append_right (Nat.le_refl _), Nat.sub_self]; rfl
  ·rw [h.len]; exact hx
 ·rw [List.getElem?_append_right (by omega)] at he
  have : j - st.length ≠ 0 := by omega
  cases hj : j - st.length with
  | zero => omega
  | succ m => rw [hj] at he; simp at he
theorem PathOk.open (hW : WaysOk W d) (hne : 0 < W.length) {q : List ByteArray} {st : List (Nat × Nat)} (h : PathOk W d q st) (hq : q.length < d) :
 ∃ a b, SpanOf W d q a b /\ a < b /\ ((q = [] /\ a = 0 /\ b = aP W d 0 W.length) \/
  ∃ (m : Nat) (e : Nat × Nat), q.length = m + 1 /\ st[m]? = some e /\ (bT W d m W.length ++ [(aP W d (m + 1) W.length : Int)])[e.1]? = some ((a : Nat) : Int) /\ (bT W d m W.length ++ [(aP W d (m + 1) W.length : Int)])[e.1 + 1]? = some ((b : Nat) : Int)) := by
 cases hl : q.length with
 | zero =>
  have e : q = [] := List.eq_nil_of_length_eq_zero hl
  subst e
  have hs := aFt (W := W) (d := d) hne
  exact ⟨0, _, hs, hs.some hW hq, .inl ⟨rfl, rfl, rfl⟩⟩
 | succ m =>
  obtain ⟨e, he⟩ : ∃ e, st[m]? = some e := ⟨_, qG (by rw [h.len, hl]; omega)⟩
  obtain ⟨a', x, h1, h2, h3, h4, h5⟩ := h.at_ m e he
  have hlen : (q.take m).length = m := by rw [List.length_take]; omega
  have hd := h1.down hW (by rw [hlen]; omega) h2 h3 (x := x) (by rw [hlen]; exact h5)
  rw [hlen] at hd
  obtain ⟨f, t, h6, h7, h8⟩ := hd
  have eq : q.take m ++ [x] = q := by
   have : q.take (m + 1) = q.take m ++ [x] := by rw [List.take_add_one, h4]; rfl
   rw [<- this, <- hl, List.take_length]
  rw [eq] at h8
  exact ⟨f, t, h8, h8.some hW hq, .inr ⟨m, e, rfl, he, h6, h7⟩⟩
end
def iX (N V : List ByteArray) (R : aC) (l : aO) : Prop :=
 if l.1 = 1 then (aV N (aB l)).map (bB V) ∈ cT N (aB l) R
 else if l.1 = 2 then ¬ (aV N (aB l)).map (bB V) ∈ cT N (aB l) R
 else oQ (iZ l) (nD N V (leftOf l)) (nD N V (aY l))
theorem aCg {N V : List ByteArray} {R : aC} {l : aO} (hN : N.Nodup) (hV : V.length = N.length) (hin : l.1 = 1 \/ l.1 = 2 -> ∀ t ∈ aB l, t.1 = 1 -> t.2.1 ∈ N) : iX N V R l ↔ mI N V R l := by
 unfold iX mI
 by_cases h1 : l.1 = 1
 ·rw [if_pos h1, if_pos h1]; exact aE1 R hN hV (hin (.inl h1))
 ·rw [if_neg h1, if_neg h1]
  by_cases h2 : l.1 = 2
  ·rw [if_pos h2, if_pos h2, aE1 R hN hV (hin (.inr h2))]
  ·rw [if_neg h2, if_neg h2]
theorem wL : ∀ (ts : List aE) (a : List ByteArray) (t : aE), t ∈ ts -> t.1 = 1 -> t.2.1 ∈ cW a ts
 | [], _, _, h, _ => by simp at h
 | u :: ts, a, t, h, h1 => by
  show t.2.1 ∈ cW (bI a u) ts
  rcases List.mem_cons.1 h with h | h
  ·subst h
   have hm : t.2.1 ∈ bI a t := by
    unfold bI
    split
    ·simp
    ·rename_i h2
     rw [<- cI]
     cases h3 : kC a t.2.1 with
     | true => rfl
     | false => exact absurd ⟨h1, h3⟩ h2
   have hp := pT ts (bI a t)
   rw [<- hp] at hm
   exact List.mem_of_mem_take hm
  ·exact wL ts (bI a u) t h h1
theorem aDl {ls : List aO} {l : aO} (hl : l ∈ ls) (h1 : l.1 = 1) {t : aE} (ht : t ∈ aB l) (h : t.1 = 1) : t.2.1 ∈ aA ls := by
 obtain ⟨i, hi⟩ := List.mem_iff_getElem?.1 hl
 have e := gG hi
 have hm : t.2.1 ∈ aA (ls.take (i + 1)) := by
  rw [e]; unfold cJ; rw [if_pos h1]
  exact wL _ _ _ ht h
 rw [<- kZ ls (i + 1)] at hm
 exact List.mem_of_mem_take hm
theorem yF {r : cK} (h : aS r = 0) {l : aO} (hl : l ∈ r.2.1) (hk : l.1 = 1 \/ l.1 = 2) : ∀ t ∈ aB l, t.1 = 1 -> t.2.1 ∈ aA r.2.1 := fun t ht h1 => by
 rcases hk with hk | hk
 ·exact aDl hl hk ht h1
 ·unfold aS at h
  split at h
  ·split at h
   ·rename_i hp hs
    unfold lT at hs
    rw [Bool.and_eq_true] at hs
    have h2 := List.all_eq_true.1 hs.2 l hl
    unfold jE at h2
    rw [if_neg (by omega), if_pos hk] at h2
    have h3 := List.all_eq_true.1 h2 t ht
    unfold dR at h3
    rw [if_neg (by omega)] at h3
    rcases of_decide_eq_true h3 with h4 | h4 | h4
    ·omega
    ·omega
    ·exact cI.1 h4
   ·cases h
  ·cases h
theorem uX {r : cK} (h : aS r = 0) {R : Nat -> aC} {V : List ByteArray} : cO r.2.1 R V ↔ V.length = (aA r.2.1).length /\ ∀ (i : Nat) (l : aO), r.2.1[i]? = some l -> iX (aA r.2.1) V (R i) l := by
 unfold cO
 refine and_congr_right fun hV => ⟨fun h1 i l hl => (aCg (dJ _) hV fun hk => yF h (List.mem_of_getElem? hl) hk).2 (h1 i l hl), fun h1 i l hl => (aCg (dJ _) hV fun hk => yF h (List.mem_of_getElem? hl) hk).1 (h1 i l hl)⟩
theorem tF : ∀ (ts : List aE) (a : List ByteArray) (s : ByteArray), s ∈ cW a ts -> s ∈ a \/ ∃ t ∈ ts, t.1 = 1 /\ t.2.1 = s
 | [], a, s, h => .inl h
 | t :: ts, a, s, h => by
  rcases tF ts (bI a t) s h with h1 | ⟨u, hu, h1⟩
  ·unfold bI at h1
   split at h1
   ·rename_i h2
    rcases List.mem_append.1 h1 with h1 | h1
    ·exact .inl h1
    ·rw [List.mem_singleton] at h1
     exact .inr ⟨t, List.mem_cons_self .., h2.1, h1.symm⟩
   ·exact .inl h1
  ·exact .inr ⟨u, List.mem_cons_of_mem _ hu, h1⟩
theorem qV : ∀ (ls : List aO) (a : List ByteArray) (s : ByteArray), s ∈ ls.foldl cJ a -> s ∈ a \/ ∃ l ∈ ls, l.1 = 1 /\ ∃ t ∈ aB l, t.1 = 1 /\ t.2.1 = s
 | [], a, s, h => .inl h
 | l :: ls, a, s, h => by
  rcases qV ls (cJ a l) s h with h1 | ⟨m, hm, h1⟩
  ·unfold cJ at h1
   split at h1
   ·rename_i h2
    rcases tF _ _ _ h1 with h3 | h3
    ·exact .inl h3
    ·exact .inr ⟨l, List.mem_cons_self .., h2, h3⟩
   ·exact .inl h1
  ·exact .inr ⟨m, List.mem_cons_of_mem _ hm, h1⟩
theorem tE {ls : List aO} {v : Nat} (hv : v < (aA ls).length) : ∃ l ∈ ls, l.1 = 1 /\ v ∈ aV (aA ls) (aB l) := by
 have hg : (aA ls)[v]? = some (bB (aA ls) v) := by unfold bB; rw [List.getD_eq_getElem?_getD, qG hv]; rfl
 rcases qV ls [] _ (List.mem_of_getElem? hg) with h | ⟨l, hl, h1, t, ht, h2, h3⟩
 ·simp at h
 ·obtain ⟨i, hi⟩ := List.mem_iff_getElem?.1 ht
  exact ⟨l, hl, h1, dK.2 ⟨hv, i, t, hi, h2, h3⟩⟩
theorem aCu {vs : List Nat} (hr : vs.Pairwise (· < ·)) {m v : Nat} (hm : vs[m]? = some v) {p V : List ByteArray} (hp : V.take v = p) (hV : v < V.length) :
 (vs.map (bB V)).take (m + 1) = (vs.take m).map (bB p) ++ [bB V v] := by
 have hml := (List.getElem?_eq_some_iff.1 hm)
 rw [List.take_add_one, List.getElem?_map, hm]
 show (vs.map (bB V)).take m ++ [bB V v] = _
 rw [<- List.map_take]
 congr 1
 refine List.map_congr_left fun u hu => ?_
 obtain ⟨j, hj⟩ := List.mem_iff_getElem?.1 hu
 have hjm : j < m := by
  have := (List.getElem?_eq_some_iff.1 hj).1
  rw [List.length_take] at this; omega
 rw [List.getElem?_take_of_lt hjm] at hj
 obtain ⟨l1, e1⟩ := List.getElem?_eq_some_iff.1 hj
 have huv := List.pairwise_iff_getElem.1 hr j m l1 hml.1 hjm
 rw [e1, hml.2] at huv
 unfold bB
 rw [List.getD_eq_getElem?_getD, List.getD_eq_getElem?_getD, <- hp, List.getElem?_take_of_lt huv]
theorem mC : ∀ (ts : List aE) (a : List ByteArray), (∀ t ∈ ts, t.1 = 1 -> t.2.1 ∈ a) -> cW a ts = a
 | [], _, _ => rfl
 | t :: ts, a, h => by
  have e : bI a t = a := by
   unfold bI
   refine if_neg fun h1 => ?_
   have h2 := cI.2 (h t (List.mem_cons_self ..) h1.1)
   rw [h2] at h1; cases h1.2
  show cW (bI a t) ts = a
  rw [e]
  exact mC ts a fun u hu => h u (List.mem_cons_of_mem _ hu)
theorem xE {e : dE} (he : EnvOk e) {ts : List aE} {x : List ByteArray} (hin : ∀ t ∈ ts, t.1 = 1 -> t.2.1 ∈ e.1) : (∃ f, jH e ts x ts.length = some f) ↔ aBs e.1 e.2 ts x := by
 refine ⟨fun ⟨f, hf⟩ => ?_, fun h => ?_⟩
 ·obtain ⟨h1, h2, h3, h4⟩ := lC he hf
  rw [List.take_length, mC ts e.1 hin] at h3
  have hl : f.2.length = e.2.length := by rw [h1.len, h3, he.len]
  have h5 : f.2 = e.2 := by
   have := h2.vals
   rw [<- hl, List.take_length] at this; exact this
  have e1 : f = e := Prod.ext h3 h5
  subst e1
  exact fun i t hi => h4 i t (List.getElem?_eq_some_iff.1 hi).1 hi
 ·obtain ⟨f, hf, _⟩ := qA (x := x) he he (EnvLe.refl e) (Nat.le_refl ts.length) (by rw [List.take_length, mC ts e.1 hin, List.take_length]) h
  exact ⟨f, hf⟩
def aFn (e : dE) (t : aE) : ByteArray := if t.1 = 3 then t.2.1 else (ofE e t.2.1).getD ByteArray.empty
theorem aEy {e : dE} {t : aE} (h : t.1 = 1 /\ t.2.1 ∈ e.1 \/ t.1 = 3) : aFn e t = nD e.1 e.2 t := by
 unfold aFn nD
 rcases h with ⟨h1, h2⟩ | h1
 ·rw [if_neg (by omega), if_pos h1]
  unfold ofE
  rw [if_pos (cI.2 h2)]; rfl
 ·rw [if_pos h1, if_neg (by omega)]
theorem oK {r : cK} (h : aS r = 0) {l : aO} (hl : l ∈ r.2.1) (hk : l.1 = 3) : ∀ t, t = leftOf l \/ t = aY l -> t.1 = 1 /\ t.2.1 ∈ aA r.2.1 \/ t.1 = 3 := fun t ht => by
 unfold aS at h
 split at h
 ·rename_i hp
  split at h
  ·rename_i hs
   unfold eE at hp
   unfold lT at hs
   rw [Bool.and_eq_true] at hp hs
   have h1 := List.all_eq_true.1 hp.2 l hl
   have h2 := List.all_eq_true.1 hs.2 l hl
   unfold jV at h1
   rw [if_neg (by omega), if_pos hk, Bool.and_eq_true] at h1
   unfold jE at h2
   rw [if_pos hk, Bool.and_eq_true] at h2
   have h3 : decide (1 ≤ t.1 /\ t.1 ≤ 3) = true := by
    have h4 := h1.2
    unfold kinds at h4
    rw [List.all_eq_true] at h4
    rcases ht with ht | ht
    ·rw [ht]; exact h4 _ (by simp)
    ·rw [ht]; exact h4 _ (by simp)
   have h5 := of_decide_eq_true h3
   have h6 : dR (aA r.2.1) false t = true := by
    rcases ht with ht | ht
    ·rw [ht]; exact h2.1
    ·rw [ht]; exact h2.2
   unfold dR at h6
   split at h6
   ·cases h6
   ·rename_i h7
    rcases of_decide_eq_true h6 with h8 | h8 | h8
    ·exact .inr h8
    ·omega
    ·by_cases h9 : t.1 = 3
     ·exact .inr h9
     ·exact .inl ⟨by omega, cI.1 h8⟩
  ·cases h
 ·cases h
theorem aF7 {r : cK} (h : aS r = 0) {l : aO} (hl : l ∈ r.2.1) : l.1 = 1 \/ l.1 = 2 \/ (l.1 = 3 /\ 1 ≤ iZ l /\ iZ l ≤ 4) := by
 unfold aS at h
 split at h
 ·rename_i hp
  unfold eE at hp
  rw [Bool.and_eq_true] at hp
  have h1 := List.all_eq_true.1 hp.2 l hl
  unfold jV at h1
  split at h1
  ·rename_i h2; omega
  ·split at h1
   ·rename_i h3
    rw [Bool.and_eq_true] at h1
    have := of_decide_eq_true h1.1
    exact .inr (.inr ⟨h3, this⟩)
   ·cases h1
 ·cases h
def uB (e : dE) (R : aC) (l : aO) : Prop :=
 if l.1 = 2 then ∀ x ∈ R, jH e (aB l) x (aB l).length = none
 else oQ (iZ l) (aFn e (leftOf l)) (aFn e (aY l))
theorem uA {r : cK} (h : aS r = 0) {l : aO} (hl : l ∈ r.2.1) (hk : l.1 ≠ 1) {e : dE} (he : EnvOk e) (hn : e.1 = aA r.2.1) {R R' : aC} (hR : ∀ x, x ∈ R' ↔ x ∈ R /\ x.length = (aB l).length) : uB e R' l ↔ mI (aA r.2.1) e.2 R l := by
 unfold uB mI
 rw [if_neg hk]
 by_cases h2 : l.1 = 2
 ·rw [if_pos h2, if_pos h2]
  have hin : ∀ t ∈ aB l, t.1 = 1 -> t.2.1 ∈ e.1 := by rw [hn]; exact yF h hl (.inr h2)
  refine ⟨fun h3 ⟨x, hx, hxl, hf⟩ => ?_, fun h3 x hx => ?_⟩
  ·rw [<- hn] at hf
   obtain ⟨f, hf'⟩ := (xE he hin).2 hf
   rw [h3 x ((hR x).2 ⟨hx, hxl⟩)] at hf'
   cases hf'
  ·cases hf : jH e (aB l) x (aB l).length with
   | none => rfl
   | some f =>
    have h4 := (xE he hin).1 ⟨f, hf⟩
    obtain ⟨h5, h6⟩ := (hR x).1 hx
    rw [hn] at h4
    exact absurd ⟨x, h5, h6, h4⟩ h3
 ·rw [if_neg h2, if_neg h2]
  have h3 : l.1 = 3 := by
   rcases aF7 h hl with h4 | h4 | h4
   ·exact absurd h4 hk
   ·exact absurd h4 h2
   ·exact h4.1
  have hs := oK h hl h3
  rw [<- hn] at hs
  rw [aEy (hs _ (.inl rfl)), aEy (hs _ (.inr rfl)), hn]
def lG (ts : List aE) (R : aC) : aC := R.filter fun x => decide (x.length = ts.length)
theorem jU {ts : List aE} {R : aC} (x : List ByteArray) : x ∈ lG ts R ↔ x ∈ R /\ x.length = ts.length := by
 unfold lG
 rw [List.mem_filter, decide_eq_true_iff]
def opB (op : Int) (x y : ByteArray) : Bool := if op = 1 then decide (x = y) else if op = 2 then decide (x ≠ y) else if op = 3 then Op.bytesLess x.toList y.toList else !Op.bytesLess y.toList x.toList
theorem aE7 {op : Int} {x y : ByteArray} : opB op x y = true ↔ oQ op x y := by
 unfold opB oQ
 split
 ·exact decide_eq_true_iff
 ·split
  ·exact decide_eq_true_iff
  ·split
   ·exact Iff.rfl
   ·rw [Bool.not_eq_true']
def aDu (e : dE) (R : aC) (l : aO) : Bool := if l.1 = 2 then R.all fun x => (jH e (aB l) x (aB l).length).isNone else opB (iZ l) (aFn e (leftOf l)) (aFn e (aY l))
theorem uC {e : dE} {R : aC} {l : aO} : aDu e R l = true ↔ uB e R l := by
 unfold aDu uB
 split
 ·rw [List.all_eq_true]
  exact ⟨fun h x hx => Option.isNone_iff_eq_none.1 (h x hx), fun h x hx => Option.isNone_iff_eq_none.2 (h x hx)⟩
 ·exact aE7
def aA8 (e : dE) (R : Nat -> aC) : Nat -> List aO -> Bool
 | _, [] => true
 | i, l :: ls => (if l.1 = 1 then true else aDu e (lG (aB l) (R i)) l) && aA8 e R (i + 1) ls
theorem wS {e : dE} {R : Nat -> aC} : ∀ {ls : List aO} {i : Nat}, aA8 e R i ls = true ↔ ∀ (j : Nat) (l : aO), ls[j]? = some l -> l.1 ≠ 1 -> uB e (lG (aB l) (R (i + j))) l
 | [], i => ⟨fun _ j l h => by simp at h, fun _ => rfl⟩
 | l :: ls, i => by
  unfold aA8
  rw [Bool.and_eq_true, wS]
  refine ⟨fun ⟨h1, h2⟩ j m hm hk => ?_, fun h => ⟨?_, fun j m hm hk => ?_⟩⟩
  ·cases j with
   | zero =>
    cases hm
    rw [if_neg hk] at h1
    exact uC.1 h1
   | succ j =>
    have := h2 j m (by simpa using hm) hk
    rw [show i + (j + 1) = i + 1 + j by omega]; exact this
  ·split
   ·rfl
   ·rename_i hk
    exact uC.2 (h 0 l rfl hk)
  ·have := h (j + 1) m (by simpa using hm) hk
   rw [show i + (j + 1) = i + 1 + j by omega] at this; exact this
def kU (all : List aO) (R : Nat -> aC) : List aO -> Nat -> dE -> aC
 | [], _, e => if aA8 e R 0 all then [e.2] else []
 | l :: rest, i, e => if l.1 = 1 then (dC e (aB l) (lG (aB l) (R i))).flatMap fun q => kU all R rest (i + 1) (cW e.1 (aB l), q) else kU all R rest (i + 1) e
def aKz (r : cK) (R : Nat -> aC) : aC := kU r.2.1 R r.2.1 0 ([], [])
theorem mA {r : cK} (hc : aS r = 0) (R : Nat -> aC) : ∀ (rest : List aO) (i : Nat) (e : dE), r.2.1.drop i = rest -> i ≤ r.2.1.length -> FromOk r.2.1 R i e -> AllB (cO r.2.1 R) e.2 (kU r.2.1 R rest i e)
 | [], i, e, hd, hi, h => by
  have hil : i = r.2.1.length := by
   have := congrArg List.length hd
   rw [List.length_drop] at this
   simp at this; omega
  subst hil
  obtain ⟨hn, hb, hl⟩ := h.last
  unfold kU
  have hiff : aA8 e R 0 r.2.1 = true ↔ cO r.2.1 R e.2 := by
   rw [wS, hb]
   refine ⟨fun h1 j l hj hk => ?_, fun h1 j l hj hk => ?_⟩
   ·have h2 := h1 j l hj hk
    rw [Nat.zero_add] at h2
    exact (uA hc (List.mem_of_getElem? hj) hk h.ok hn fun x => jU x).1 h2
   ·rw [Nat.zero_add]
    exact (uA hc (List.mem_of_getElem? hj) hk h.ok hn fun x => jU x).2 (h1 j l hj hk)
  split
  ·rename_i h1
   exact AllB.one (hiff.1 h1) hl
  ·rename_i h1
   refine AllB.none fun V hV hp => h1 (hiff.2 ?_)
   have : V = e.2 := by rw [<- hp, <- hl V hV, List.take_length]
   rw [<- this]; exact hV
 | l :: rest, i, e, hd, hi, h => by
  have hl : r.2.1[i]? = some l := by
   have : (r.2.1.drop i)[0]? = some l := by rw [hd]; rfl
   rw [List.getElem?_drop] at this; exact this
  have hil := (List.getElem?_eq_some_iff.1 hl).1
  have hd2 : r.2.1.drop (i + 1) = rest := by
   have := congrArg (List.drop 1) hd
   rw [List.drop_drop] at this
   exact this
  unfold kU
  split
  ·rename_i hk
   have hnx : cW e.1 (aB l) = aA (r.2.1.take (i + 1)) := by
    rw [h.names, gG hl]; unfold cJ; rw [if_pos hk]
   rw [hnx]
   refine aJ0 h hl hk (R' := lG (aB l) (R i)) (fun x => jU x) ?_
   have key : ∀ k, k ≤ (dC e (aB l) (lG (aB l) (R i))).length -> PartQ (cO r.2.1 R) e.2 (aA (r.2.1.take (i + 1))).length (fun y => y ∈ (dC e (aB l) (lG (aB l) (R i))).take k) (((dC e (aB l) (lG (aB l) (R i))).take k).flatMap fun q => kU r.2.1 R rest (i + 1) (aA (r.2.1.take (i + 1)), q)) := by
    intro k
    induction k with
    | zero => exact fun _ => PartQ.none.congr fun y => by simp
    | succ k ih =>
     intro hk2
     obtain ⟨q, hq⟩ : ∃ q, (dC e (aB l) (lG (aB l) (R i)))[k]? = some q := ⟨_, qG (by omega)⟩
     have hf := (h.each hl hk (fun x => jU x) (List.mem_of_getElem? hq)).1
     have h1 := aHx h hl hk (fun x => jU x) hq (ih (by omega)) (mA hc R rest (i + 1) _ hd2 hil hf)
     have e1 : (dC e (aB l) (lG (aB l) (R i))).take (k + 1) = (dC e (aB l) (lG (aB l) (R i))).take k ++ [q] := by rw [List.take_add_one, hq]; rfl
     have e2 : ∀ (f : List ByteArray -> aC) (a : aC), (a ++ [q]).flatMap f = a.flatMap f ++ f q := fun f a => by simp
     rw [e1, e2, <- e1]
     exact h1
   have h2 := key _ (Nat.le_refl _)
   rw [List.take_length] at h2
   exact h2
  ·rename_i hk
   exact mA hc R rest (i + 1) e hd2 hil (h.skip hl hk)
theorem aI8 {r : cK} (hc : aS r = 0) (R : Nat -> aC) : IsBinds r.2.1 R (aKz r R) := mA hc R r.2.1 0 ([], []) rfl (Nat.zero_le _) (FromOk.start _ _)
def aZ (N V : List ByteArray) (hs : List aE) : List ByteArray := hs.filterMap fun t => if t.1 = 3 then some t.2.1 else if t.1 = 1 then some (nD N V t) else none
theorem wE {r : cK} (h : aS r = 0) : ∀ t ∈ r.1.2.1, t.1 = 1 /\ t.2.1 ∈ aA r.2.1 \/ t.1 = 3 \/ 4 ≤ t.1 := fun t ht => by
 unfold aS at h
 split at h
 ·rename_i hp
  split at h
  ·rename_i hs
   unfold eE iS at hp
   unfold lT at hs
   rw [Bool.and_eq_true, Bool.and_eq_true, Bool.and_eq_true] at hp
   rw [Bool.and_eq_true] at hs
   have h1 := List.all_eq_true.1 hs.1 t ht
   have h2 := hp.1.1.1
   unfold kinds at h2
   have h3 := of_decide_eq_true (List.all_eq_true.1 h2 t ht)
   unfold dR at h1
   split at h1
   ·cases h1
   ·rename_i h4
    rcases of_decide_eq_true h1 with h5 | h5 | h5
    ·exact .inr (.inl h5)
    ·exact .inr (.inr (by omega))
    ·by_cases h6 : t.1 = 1
     ·exact .inl ⟨h6, cI.1 h5⟩
     ·by_cases h7 : t.1 = 3
      ·exact .inr (.inl h7)
      ·exact .inr (.inr (by omega))
  ·cases h
 ·cases h
abbrev fR := List ByteArray × aC
def cX : List fR -> List ByteArray -> List ByteArray -> List fR
 | [], h, V => [(h, [V])]
 | g :: gs, h, V => if g.1 = h then (g.1, g.2 ++ [V]) :: gs else g :: cX gs h V
def bP (N : List ByteArray) (hs : List aE) (L : aC) : List fR := L.foldl (fun gs V => cX gs (aZ N V hs) V) []
theorem aBf (N : List ByteArray) (hs : List aE) (L : aC) (V : List ByteArray) : bP N hs (L ++ [V]) = cX (bP N hs L) (aZ N V hs) V := by unfold bP; rw [List.foldl_append]; rfl
def fL (gs : List fR) (h : List ByteArray) : Option Nat := gs.findIdx? fun g => decide (g.1 = h)
theorem gJ : ∀ {gs : List fR} {h : List ByteArray} (V : List ByteArray), fL gs h = none -> cX gs h V = gs ++ [(h, [V])]
 | [], h, V, _ => rfl
 | g :: gs, h, V, hk => by
  unfold fL at hk
  rw [List.findIdx?_cons] at hk
  by_cases e : g.1 = h
  ·rw [if_pos (decide_eq_true e)] at hk; cases hk
  ·rw [if_neg (by simpa using e)] at hk
   have h2 : fL gs h = none := by unfold fL; simpa using hk
   unfold cX
   rw [if_neg e, gJ V h2]; rfl
theorem mJ : ∀ {gs : List fR} {h : List ByteArray} {k : Nat} (V : List ByteArray), fL gs h = some k -> ∃ B, gs[k]? = some (h, B) /\ cX gs h V = gs.set k (h, B ++ [V])
 | [], h, k, V, hk => by cases hk
 | g :: gs, h, k, V, hk => by
  unfold fL at hk
  rw [List.findIdx?_cons] at hk
  unfold cX
  by_cases e : g.1 = h
  ·rw [if_pos (decide_eq_true e)] at hk
   cases hk
   rw [if_pos e]
   exact ⟨g.2, by rw [<- e]; rfl, by rw [<- e]; rfl⟩
  ·rw [if_neg (by simpa using e)] at hk
   rw [if_neg e]
   obtain ⟨j, hj, rfl⟩ := Option.map_eq_some_iff.1 hk
   obtain ⟨B, h1, h2⟩ := mJ V (show fL gs h = some j from hj)
   exact ⟨B, by simpa using h1, by rw [h2]; rfl⟩
theorem aDx (gs : List fR) (h V : List ByteArray) : (cX gs h V).length ≤ gs.length + 1 := by
 cases hk : fL gs h with
 | none => rw [gJ V hk]; simp
 | some k => obtain ⟨B, _, h2⟩ := mJ V hk; rw [h2]; simp
theorem uE (N : List ByteArray) (hs : List aE) (L : aC) : (bP N hs L).length ≤ L.length := by
 unfold bP
 have key : ∀ (L : aC) (gs : List fR), (L.foldl (fun gs V => cX gs (aZ N V hs) V) gs).length ≤ gs.length + L.length := fun L => by
  induction L with
  | nil => intro gs; exact Nat.le_refl _
  | cons V L ih => intro gs; have h1 := ih (cX gs (aZ N V hs) V); have h2 := aDx gs (aZ N V hs) V; rw [List.foldl_cons, List.length_cons]; omega
 have := key L []
 simpa using this
def aAr (at_ : Nat) (V : List ByteArray) : Int × Bool := bM (bB V at_).data.toList
def iY (at_ : Nat) (B : aC) : Int := (B.map fun V => (aAr at_ V).1).sum
def lI (kind : Int) (at_ : Nat) : aC -> ByteArray
 | [] => ByteArray.empty
 | V :: B => B.foldl (fun b V => if (kind = 6 /\ Op.bytesLess (bB V at_).toList b.toList = true) \/ (kind = 7 /\ Op.bytesLess b.toList (bB V at_).toList = true) then bB V at_ else b) (bB V at_)
def fS (kind : Int) (at_ : Nat) (B : aC) : ByteArray × Nat :=
 if kind = 4 then (⟨(Lib.itoa B.length).toArray⟩, 0)
 else if kind = 5 then (if -9223372036854775808 ≤ iY at_ B /\ iY at_ B ≤ 9223372036854775807 then (⟨(Lib.itoa (iY at_ B)).toArray⟩, 0) else (ByteArray.empty, 151))
 else (lI kind at_ B, 0)
def takeA (kind : Int) (at_ : Nat) (V : List ByteArray) : Nat := if kind = 5 /\ (aAr at_ V).2 = false then 150 else 0
theorem aE2 : ∀ {a b x y : List UInt8}, (∀ c ∈ a, c ≠ 32) -> (∀ c ∈ b, c ≠ 32) -> a ++ 32 :: x = b ++ 32 :: y -> a = b /\ x = y
 | [], [], x, y, _, _, h => ⟨rfl, by simpa using h⟩
 | [], c :: b, x, y, _, hb, h => by
  have h1 : (32 : UInt8) = c := by injection h
  exact absurd h1.symm (hb c (List.mem_cons_self ..))
 | c :: a, [], x, y, ha, _, h => by
  have h1 : c = 32 := by injection h
  exact absurd h1 (ha c (List.mem_cons_self ..))
 | c :: a, d :: b, x, y, ha, hb, h => by
  injection h with h1 h2
  obtain ⟨h3, h4⟩ := aE2 (fun e he => ha e (List.mem_cons_of_mem _ he)) (fun e he => hb e (List.mem_cons_of_mem _ he)) h2
  exact ⟨by rw [h1, h3], h4⟩
theorem oY (n : Nat) : (∀ c ∈ Lib.itoa (n : Int), c ≠ 32) /\ aHi (Lib.itoa (n : Int)) = n := by
 have e : Lib.itoa (n : Int) = Lib.decDigits n := by
  unfold Lib.itoa
  simp
 have h := yY n
 rw [e]
 refine ⟨fun c hc e2 => ?_, h.1⟩
 have h2 := List.all_eq_true.1 h.2.1 c hc
 subst e2
 exact absurd h2 (by decide)
theorem aA6 : ∀ {r t : List ByteArray}, jA r = jA t -> r = t
 | [], [], _ => rfl
 | [], s :: t, h => by
  have h1 := congrArg List.length h
  have e : jA (s :: t) = Lib.itoa s.size ++ 32 :: s.data.toList ++ jA t := rfl
  rw [e] at h1
  simp [jA] at h1
 | s :: r, [], h => by
  have h1 := congrArg List.length h
  have e : jA (s :: r) = Lib.itoa s.size ++ 32 :: s.data.toList ++ jA r := rfl
  rw [e] at h1
  simp [jA] at h1
 | s :: r, u :: t, h => by
  have e : ∀ (s : ByteArray) r, jA (s :: r) = Lib.itoa s.size ++ 32 :: (s.data.toList ++ jA r) := fun s r => by
   show Lib.itoa s.size ++ 32 :: s.data.toList ++ jA r = _
   simp
  rw [e, e] at h
  obtain ⟨h1, h2⟩ := aE2 (oY s.size).1 (oY u.size).1 h
  have h3 : s.size = u.size := by rw [<- (oY s.size).2, <- (oY u.size).2, h1]
  have h4 : s.data.toList.length = u.data.toList.length := h3
  obtain ⟨h5, h6⟩ := List.append_inj h2 h4
  have h7 : s = u := ByteArray.ext (Array.toList_inj.1 h5)
  rw [h7, aA6 h6]
theorem aIi {r t : List ByteArray} (h : nE r = nE t) : r = t := by
 unfold nE at h
 injection h with h
 exact aA6 (by simpa using h)
def tR : Nat -> List (List ByteArray) -> List (ByteArray × Value)
 | _, [] => []
 | i, h :: ks => (nE h, .int .i64 (i : Nat)) :: tR (i + 1) ks
def oX (gs : List fR) : List (ByteArray × Value) := tR 0 (gs.map (·.1))
theorem tQ : ∀ (ks : List (List ByteArray)) (i : Nat) (h : List ByteArray), tR i (ks ++ [h]) = tR i ks ++ [(nE h, .int .i64 ((i + ks.length : Nat) : Int))]
 | [], i, h => rfl
 | k :: ks, i, h => by
  show (nE k, _) :: tR (i + 1) (ks ++ [h]) = _
  rw [tQ ks (i + 1) h, List.length_cons, show i + 1 + ks.length = i + (ks.length + 1) by omega]
  rfl
theorem wQ : ∀ (ks : List (List ByteArray)) (i : Nat) (h : List ByteArray), rQ (tR i ks) (nE h) = (ks.findIdx? fun g => decide (g = h)).map fun k => (.int .i64 ((i + k : Nat) : Int) : Value)
 | [], i, h => rfl
 | k :: ks, i, h => by
  unfold tR rQ
  rw [List.find?_cons, List.findIdx?_cons]
  by_cases e : k = h
  ·subst e
   simp
  ·have e2 : ¬ nE k = nE h := fun x => e (aIi x)
   have ih := wQ ks (i + 1) h
   unfold rQ at ih
   simp only [e2, e, decide_false]
   rw [ih]
   cases ks.findIdx? fun g => decide (g = h) with
   | none => rfl
   | some j => simp; omega
theorem aA5 (gs : List fR) (h : List ByteArray) : rQ (oX gs) (nE h) = (fL gs h).map fun k => (.int .i64 (k : Nat) : Value) := by
 unfold oX fL
 rw [wQ, List.findIdx?_map]
 simp [Function.comp_def]
theorem aIf {gs : List fR} {h : List ByteArray} (hk : fL gs h = none) (V : List ByteArray) : kV (oX gs) (nE h) (.int .i64 (gs.length : Nat)) = oX (cX gs h V) := by
 unfold kV
 rw [aA5, hk, gJ V hk]
 unfold oX
 rw [List.map_append, List.map_singleton, tQ, List.length_map, Nat.zero_add]
 rfl
end
section
open Go.RowKit
attribute [local go_sem] Oper.semAt_some
structure GrpB where
 g : Nat
 nb : Nat
 bb : Nat
 tb : Nat
 tot : Nat
 kb : Nat
 ab : Nat
def kN (k : Int) : Nat := if k = 4 then 166 else if k = 5 then 168 else 170
def kM (k : Int) : Nat := if k = 4 then 167 else if k = 5 then 169 else 172
def fM (b : Nat) : Value := .pointer (some ⟨b, 0, none⟩)
def mW (k : Int) (b : GrpB) : Array Value := if k = 4 then #[fM b.nb] else if k = 5 then #[fM b.ab, fM b.tb] else #[fM b.ab, fM b.bb, fM b.nb, fM b.kb]
def mV (k : Int) (b : GrpB) : Array Value := if k = 4 then #[fM b.nb] else if k = 5 then #[fM b.tb] else #[fM b.bb]
def vX (k : Int) (b : GrpB) : Value := .func (Fn.func (kN k)) #[] (mW k b)
def vV (k : Int) (b : GrpB) : Value := .func (Fn.func (kM k)) #[] (mV k b)
theorem aHo (k : Int) : ∀ args w, (callFunc (kN k) args).run Tryz.prog w = .ok (Next.enter (kN k) args) w := by
 unfold kN
 split
 ·exact enters_of Tryz.func166 (by kernel_rfl) rfl
 ·split
  ·exact enters_of Tryz.func168 (by kernel_rfl) rfl
  ·exact enters_of Tryz.func170 (by kernel_rfl) rfl
theorem aHl (k : Int) : ∀ args w, (callFunc (kM k) args).run Tryz.prog w = .ok (Next.enter (kM k) args) w := by
 unfold kM
 split
 ·exact enters_of Tryz.func167 (by kernel_rfl) rfl
 ·split
  ·exact enters_of Tryz.func169 (by kernel_rfl) rfl
  ·exact enters_of Tryz.func172 (by kernel_rfl) rfl
def rR (k : Int) (B : aC) : Int := if k = 4 then B.length else if k = 5 then 0 else if B = [] then 0 else 1
def sN (k : Int) (at_ : Nat) (B : aC) : Int := if k = 5 then iY at_ B else 0
def iW (k : Int) (at_ : Nat) (B : aC) : ByteArray := if k = 4 \/ k = 5 then ByteArray.empty else lI k at_ B
structure GroupAt (W : World) (b : GrpB) (k : Int) (at_ : Int) (rv : Value) (B : aC) : Prop where
 blk : Blk W b.g [rv, vX k b, vV k b] 128
 cnt : Blk W b.nb [.int .i64 (rR k B)] 2
 best : Blk W b.bb [.string (iW k at_.toNat B)] 9
 tbox : Blk W b.tb [.pointer (some ⟨b.tot, 0, none⟩)] 24
 tot : TotalAt W b.tot (sN k at_.toNat B)
 kind : Blk W b.kb [.int .i64 k] 3
 plc : Blk W b.ab [.int .i64 at_] 3
def GrpB.own (b : GrpB) : Nat -> Prop := fun k => k = b.g \/ k = b.nb \/ k = b.bb \/ k = b.tb \/ k = b.tot \/ k = b.kb \/ k = b.ab
theorem GroupAt.kp {W W' : World} {F : Nat -> Prop} {b : GrpB} {k at_ : Int} {rv : Value} {B : aC} (h : GroupAt W b k at_ rv B) (hk : Kp F W W') (hF : ∀ k, b.own k -> ¬ F k) : GroupAt W' b k at_ rv B :=
 ⟨h.blk.kp hk (hF _ (.inl rfl)), h.cnt.kp hk (hF _ (.inr (.inl rfl))), h.best.kp hk (hF _ (.inr (.inr (.inl rfl)))), h.tbox.kp hk (hF _ (.inr (.inr (.inr (.inl rfl))))), h.tot.kp hk (hF _ (.inr (.inr (.inr (.inr (.inl rfl)))))), h.kind.kp hk (hF _ (.inr (.inr (.inr (.inr (.inr (.inl rfl))))))), h.plc.kp hk (hF _ (.inr (.inr (.inr (.inr (.inr (.inr rfl))))))) ⟩
theorem GroupAt.ext {W W' : World} {b : GrpB} {k at_ : Int} {rv : Value} {B : aC} (h : GroupAt W b k at_ rv B) (hk : Ext W W') : GroupAt W' b k at_ rv B := h.kp hk fun _ _ => id
theorem GroupAt.lt {W : World} {b : GrpB} {k at_ : Int} {rv : Value} {B : aC} (h : GroupAt W b k at_ rv B) : ∀ k, b.own k -> k < W.heap.size /\ ∃ o : Obj, W.heap[k]? = some o /\ o.isCells = true := fun q hq => by
 rcases hq with rfl | rfl | rfl | rfl | rfl | rfl | rfl
 ·exact ⟨h.blk.lt, _, h.blk, rfl⟩
 ·exact ⟨h.cnt.lt, _, h.cnt, rfl⟩
 ·exact ⟨h.best.lt, _, h.best, rfl⟩
 ·exact ⟨h.tbox.lt, _, h.tbox, rfl⟩
 ·exact ⟨Blk.lt h.tot, _, h.tot, rfl⟩
 ·exact ⟨h.kind.lt, _, h.kind, rfl⟩
 ·exact ⟨h.plc.lt, _, h.plc, rfl⟩
theorem aEh (k : Int) (at_ : Nat) (V : List ByteArray) : ∀ (B : aC), B ≠ [] -> lI k at_ (B ++ [V]) = if (k = 6 /\ Op.bytesLess (bB V at_).toList (lI k at_ B).toList = true) \/ (k = 7 /\ Op.bytesLess (lI k at_ B).toList (bB V at_).toList = true) then bB V at_ else lI k at_ B
 | [], h => absurd rfl h
 | U :: B, _ => by
  unfold lI
  rw [List.cons_append]
  simp only
  rw [List.foldl_append]
  rfl
theorem aFr (at_ : Nat) (B : aC) (V : List ByteArray) : iY at_ (B ++ [V]) = iY at_ B + (aAr at_ V).1 := by unfold iY; simp
end
section
theorem aLi {W : aC} {d : Nat} (hW : WaysOk W d) {q : List ByteArray} {a b : Nat} (h : SpanOf W d q a b) (hq : q.length < d) : CurOk ⟨bK W d q.length W.length, a, b⟩ :=
 ⟨h.le.1, by show b ≤ (bK W d q.length W.length).length; rw [eJ]; exact h.le.2, fun k l x y h1 h2 h3 h4 h5 => h.rise hW hq h1 h2 h3 h4 h5⟩
theorem aEc {W : aC} {d : Nat} (hW : WaysOk W d) {q : List ByteArray} {a b : Nat} (h : SpanOf W d q a b) (hq : q.length < d) {r : List ByteArray} {x : ByteArray} (hr : r ∈ W) (he : r.take (q.length + 1) = q ++ [x]) : kG ⟨bK W d q.length W.length, a, b⟩ a x := by
 obtain ⟨k, h1, h2, h3⟩ := h.all hW hq hr he
 exact ⟨k, h1, h2, h3⟩
def oZ (N : List ByteArray) (t : aE) : Int := if t.1 = 1 /\ kC N t.2.1 = true then ((N.findIdx fun s => decide (s = t.2.1) : Nat) : Int) else -1
def iR (N : List ByteArray) (l : aO) : Int :=
 if l.1 = 2 then match (aV N (aB l)).getLast? with | some v => (v : Int) | none => -1
 else max (oZ N (leftOf l)) (oZ N (aY l))
theorem aBl {V V' : List ByteArray} {k v : Nat} (h : V.take k = V'.take k) (hv : v < k) : bB V v = bB V' v := by
 unfold bB
 rw [List.getD_eq_getElem?_getD, List.getD_eq_getElem?_getD, <- List.getElem?_take_of_lt hv, h, List.getElem?_take_of_lt hv]
theorem zN {N V V' : List ByteArray} {k : Nat} (h : V.take k = V'.take k) {t : aE} (hk : oZ N t < k) (hin : t.1 = 1 -> t.2.1 ∈ N) : nD N V t = nD N V' t := by
 unfold nD
 split
 ·rename_i h1
  refine aBl h ?_
  unfold oZ at hk
  rw [if_pos ⟨h1, cI.2 (hin h1)⟩] at hk
  omega
 ·rfl
theorem aG5 {N V V' : List ByteArray} {R : aC} {l : aO} {k : Nat} (h : V.take k = V'.take k) (h1 : l.1 ≠ 1) (hk : iR N l < k) (hin : l.1 ≠ 2 -> (leftOf l).1 = 1 -> (leftOf l).2.1 ∈ N) (hin2 : l.1 ≠ 2 -> (aY l).1 = 1 -> (aY l).2.1 ∈ N) : iX N V R l ↔ iX N V' R l := by
 unfold iX
 rw [if_neg h1, if_neg h1]
 by_cases h2 : l.1 = 2
 ·rw [if_pos h2, if_pos h2]
  unfold iR at hk
  rw [if_pos h2] at hk
  have e : (aV N (aB l)).map (bB V) = (aV N (aB l)).map (bB V') := by
   refine List.map_congr_left fun v hv => aBl h ?_
   obtain ⟨j, hj⟩ := List.mem_iff_getElem?.1 hv
   have hjl := List.getElem?_eq_some_iff.1 hj
   have hlast : (aV N (aB l)).getLast? = (aV N (aB l))[(aV N (aB l)).length - 1]? := List.getLast?_eq_getElem?
   obtain ⟨u, hu⟩ : ∃ u, (aV N (aB l))[(aV N (aB l)).length - 1]? = some u := ⟨_, qG (by have := hjl.1; omega)⟩
   rw [hlast, hu] at hk
   have hul := List.getElem?_eq_some_iff.1 hu
   have hk' : (u : Int) < k := hk
   rcases Nat.lt_or_ge j ((aV N (aB l)).length - 1) with h3 | h3
   ·have := List.pairwise_iff_getElem.1 (vO N (aB l)) j _ hjl.1 hul.1 h3
    rw [hjl.2, hul.2] at this
    omega
   ·have : j = (aV N (aB l)).length - 1 := by have := hjl.1; omega
    subst this
    rw [hj] at hu; cases hu
    omega
  rw [e]
 ·rw [if_neg h2, if_neg h2]
  unfold iR at hk
  rw [if_neg h2] at hk
  rw [zN h (by omega) (hin h2), zN h (by omega) (hin2 h2)]
theorem aFb {N : List ByteArray} {l : aO} : iR N l < N.length := by
 have hi : ∀ t, oZ N t < N.length := fun t => by
  unfold oZ
  split
  ·rename_i h
   have := (List.getElem?_eq_some_iff.1 (aDt (cI.1 h.2))).1
   omega
  ·omega
 unfold iR
 split
 ·split
  ·rename_i v hv
   have := (dK.1 (List.mem_of_getLast? hv)).1
   omega
  ·omega
 ·have h1 := hi (leftOf l)
  have h2 := hi (aY l)
  omega
end
end Go.Proofs.YtikgpedgmnbcaaaGreatDoor
