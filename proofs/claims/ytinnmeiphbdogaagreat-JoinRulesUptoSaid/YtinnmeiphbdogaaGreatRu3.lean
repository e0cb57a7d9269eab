/- Texts joined for a claim (InsertRow, DeleteRow, SetOpsRow, SetCopyRow, SetPickRow, SetMeetRow, SetAtRow, IterRow, IterVRow, BinStr, IndexStr, GenStr, RowSet, BaseC, TriePlain, JoinTree, JoinPlain, JoinEnv, JoinEnv2, LeapPlain, TrieSpan, TriePath, JoinSol, JoinStep, IndexX, BaseC2, BasePut, RowQ). -/
import Derived.Test.YtinnmeiphbdogaaGreatRu2
import Derived.Deep.RegionHeld3
import Derived.Deep.RegionWith
import Derived.Test.YtinnmeiphbdogaaGreatProg
import Derived.Laws.EntriesVeiled
/- slices.Insert of one element at []string. -/
namespace Go.Proofs.YtinnmeiphbdogaaGreat
open Go.RowKit
set_option linter.unusedVariables false
set_option maxRecDepth 100000 in
set_option maxHeartbeats 4000000 in
theorem insertRow_any (xs : List Value) (iv : Value) (M : Nat -> Prop) (n i : Nat) (x : Value) (vb : Nat) (ve : TypeId) (w : World) (hn : n = xs.length) (hr : Row w 34 1 iv n xs M) (hi : i ≤ n) (hx : x.oneCell' = true) (hxs : ∀ u ∈ xs, u.oneCell' = true)
 (hv : Blk w vb [x] ve) (hne : iv.ownBlock ≠ some vb) (hb : (n + 1) * 24 ≤ 140737488355328) :
 Calls Tryz.prog 163 #[iv, .int .i64 i, .slice (some ⟨vb, 0, none⟩) 1 1] w
  (RetF (fun g => iv.ownBlock = some g) w fun w' v => Row w' 34 1 v (n + 1) (xs.take i ++ x :: xs.drop i) (fun g => iv.ownBlock = some g \/ w.heap.size ≤ g)) := by
 have hsrc : CellsAt w (some ⟨vb, 0, none⟩) [x] := CellsAt.pre (rest := []) hv
 have hl : n + 1 ≤ 9223372036854775807 := by omega
 obtain ⟨ao, cap, rfl, hcells, hcap⟩ := hr.shape
 by_cases hin : i = n
 ·subst hin
  have HNN := Lib.hid hn; clear hn
  have hrM : Row w 34 1 (.slice ao i cap) i xs (fun g => (Value.slice ao i cap).ownBlock = some g \/ w.heap.size ≤ g) := hr.own.mono fun g h => .inl h
  clear hr
  by_cases hci : cap = i
  all_goals
   first | (subst hci) | skip
   go_enter Tryz.func163, Tryz.ntmps163
   go_wp2_with (first | (at_builtin; refine Halted.out ?_))
   refine Halted.mk (wp_app elemRow rfl _ _ rfl (Kp.refl (F := fun g => (Value.slice ao _ _).ownBlock = some g) w) (M := fun g => (Value.slice ao _ _).ownBlock = some g \/ w.heap.size ≤ g) (fun g h h' => by rcases h with h | h; exact h; omega) (fun g h => .inr h) rfl hrM rfl rfl hsrc (by simpa using hx) hb (by unfold maxLen; omega) ?_)
   intro v1 w1 hr1 hk1 _ _
   have HR := Lib.hid hr1; clear hr1 hcells hrM
   go_wp2
   go_ret
   refine RetF.mk hk1 ?_
   have := HNN.out
   rw [List.take_of_length_le (by omega), List.drop_of_length_le (by omega)]
   exact HR.out
 ·have hlt : i < n := by omega
  obtain ⟨h1, ⟨h2, h3⟩ | ⟨g, cap', rest, h2, hM, hB, hlen, hnc, hcm⟩⟩ := hr
  ·omega
  cases h2
  have hgv : g ≠ vb := fun e => hne (by simp [Value.ownBlock, e])
  have hfree := hv.free
  have hov : ∀ (W : World), Blk W vb [x] ve -> (∀ cs, Blk w g cs 34 -> True) -> ∀ off lb cb (kB : Nat) (eB : TypeId), W.shape? g = some (eB, kB) -> kB ≠ 0 ->
   (callFunc 193 #[.slice (some ⟨vb, 0, none⟩) 1 1, .slice (some ⟨g, off, none⟩) lb cb]).run Tryz.prog W = .ok (.value (.bool false)) W := fun W hW _ off lb cb kB eB hs hk => by
   rw [run_callFunc_extern Tryz.func193 (by kernel_rfl) (by kernel_rfl) (by kernel_rfl) (e := Extern.SlicesOverlaps.overlaps #[69, 69] #[4]) (by kernel_rfl),
    Lib.run_overlaps_apart W 69 4 34 Tryz.underlying69 1 (fun w => by kernel_rfl) ⟨vb, 0, none⟩ ⟨g, off, none⟩ 1 1 lb cb (fun e => hgv e.symm) ve eB 1 kB hW.shape hs hk (hW.free 0) (hW.free 1)]
   rfl
  by_cases hroom : n + 1 ≤ cap
  ·have hrest : ∃ y rest', rest = y :: rest' := by
    cases rest with
    | nil => simp at hlen h1; omega
    | cons y r => exact ⟨y, r, rfl⟩
   obtain ⟨y, rest', rfl⟩ := hrest
   have hov1 := fun off lb cb => hov w hv (fun _ _ => trivial) off lb cb _ _ hB.shape (by simp)
   have ncap : ¬ cap = i + 1 := by omega
   have ncap2 : ¬ cap = i := by omega
   have hi1 : ((i : Int) + 1).toNat = i + 1 := by omega
   have hw1 : IntKind.i64.wrap ((i : Int) + 1) = (i : Int) + 1 := IntWalk.i64_in _ (by omega)
   have hp1 : (0 : Int) ≤ (i : Int) + 1 := by omega
   have hp2 : (i : Int) ≤ (n : Int) + 1 := by omega
   have HNN := Lib.hid hn; clear hn
   have HB := Lib.hid hB; clear hB
   have HS := Lib.hid hsrc; clear hsrc
   have HV := Lib.hid hv; clear hv hov hfree
   have HXS := Lib.hid hxs; clear hxs
   have HC := Lib.hid hcells; clear hcells
   have HLN := Lib.hid (And.intro h1 hlen); clear h1 hlen
   have hcm' := hcm
   clear hM hcm hne
   unfold maxLen at hcm'
   go_enter Tryz.func163, Tryz.ntmps163
   go_wp2_with (simp only [hov1])
   go_still_tail 8, (by kernel_rfl)
   refine wp_copyB elemRow rfl _ _ rfl (w := w.drew) (HB.out.drew) (g := g) (off := i + 1) rfl rfl (cs := xs.drop i) (by have := HNN.out; simp [Nat.min_def]; first | omega | (split <;> omega)) (fun _ => rfl) (fun j u hu => ⟨g, i, rfl, by
    have hb := HB.out
    rw [hb.drew.cell']
    rw [List.getElem?_drop] at hu
    rw [List.getElem?_append_left (List.getElem?_eq_some_iff.1 hu).1]; exact hu⟩) (by have := HNN.out; simp; omega) (fun u hu => HXS.out u (List.mem_of_mem_drop hu)) ?_
   intro w2 hk2 hB2
   have hsv := (HS.out.drewN 1).kp hk2 (fun a ha e => by cases ha; exact hgv e.symm)
   obtain ⟨w3, hrun3, hk3, hB3⟩ := run_copyB elemRow (w := w2) hB2 (g := g) (off := i) (dp := some ⟨g, i, none⟩) (dLen := n + 1 - i) (dCap := cap - i) (sp := some ⟨vb, 0, none⟩) (sLen := 1) (sCap := 1) (cs := [x]) (by simp [Nat.min_def]; omega) (fun _ => rfl) hsv (by have := HNN.out; simp [splice]; omega) (by simpa using hx)
   have HK2 := Lib.hid hk2; have HK3 := Lib.hid hk3; have HB3 := Lib.hid hB3
   clear hk2 hk3 hB3 hB2 hsv hw1 hi1 hp1
   go_wp2
   go_ret
   have hk23 : Kp (fun k => k = g) w w3 := (((Kp.refl w).drew).trans (HK2.out)).trans HK3.out
   refine RetF.mk (hk23.mono fun k _ e => by rw [e]; rfl) ⟨?_, .inr ⟨g, cap, rest', rfl, .inl rfl, ?_, ?_, hroom, by unfold maxLen; omega⟩⟩
   ·have := HNN.out; simp; omega
   ·have := splice_ins xs rest' x y i (by have := HNN.out; omega)
    rw [<- this]; exact HB3.out
   ·have := HLN.out.2; have := HNN.out; simp at *; omega
  ·have hcap' : n = cap := by omega
   subst hcap'
   have hk0 : 0 < n + 1 - i := by omega
   obtain ⟨w1, G, hrun1, hG, hGm, hext1, hsz1, hB1⟩ := run_app_zeros (w := w) elemRow rfl Tryz.underlying3 (ao := some ⟨g, 0, none⟩) (n := i) (cap := n) (olds := xs.take i) (fun j u hu => by
    rw [List.getElem?_take] at hu
    split at hu
    ·exact hcells j u hu
    ·cases hu) (by simp; omega) (k := n + 1 - i) hk0 (by omega) (by rw [show i + (n + 1 - i) = n + 1 by omega]; exact hb) (by unfold maxLen; omega)
   rw [show i + (n + 1 - i) = n + 1 by omega] at hrun1 hG
   have rk : (n : Int) + 1 - i = ((n + 1 - i : Nat) : Int) := by omega
   rw [<- rk] at hrun1
   clear rk
   have hv1 := hsrc.ext hext1
   have hgh : g < w.heap.size := hB.lt
   obtain ⟨w2, hrun2, hk2, hB2⟩ := run_copyB elemRow (w := w1) hB1 (off := i) (dp := some ⟨w.heap.size, i, none⟩) (dLen := n + 1 - i) (dCap := G - i) (sp := some ⟨vb, 0, none⟩) (sLen := 1) (sCap := 1) (cs := [x]) (by simp [Nat.min_def]; omega) (fun _ => rfl) hv1 (by simp; omega) (by simpa using hx)
   have hB' : Blk w2 g (xs ++ rest) 34 := (hB.ext hext1).kp hk2 (by omega)
   have HB' := Lib.hid hB'; have HB2 := Lib.hid hB2; have HK2 := Lib.hid hk2; have HE1 := Lib.hid hext1
   have HNN := Lib.hid hn
   have HXS := Lib.hid hxs
   have HLN := Lib.hid (And.intro h1 hlen)
   have ncG : ¬ G = i := by omega
   have ncG1 : ¬ G = i + 1 := by omega
   have nci : ¬ n = i := by omega
   have hi1 : ((i : Int) + 1).toNat = i + 1 := by omega
   have hw1 : IntKind.i64.wrap ((i : Int) + 1) = (i : Int) + 1 := IntWalk.i64_in _ (by omega)
   have hp1 : (0 : Int) ≤ (i : Int) + 1 := by omega
   have hp2 : (i : Int) ≤ (n : Int) + 1 := by omega
   have hp3 : (i : Int) ≤ (n : Int) := by omega
   clear hB hB' hB2 hk2 hext1 hn hxs h1 hlen hv1 hB1 hM hcm hne hv hov hfree hsrc hcells
   unfold maxLen at hGm
   go_enter Tryz.func163, Tryz.ntmps163
   go_wp2_with (first | (at_builtin; refine Halted.out ?_))
   refine Halted.mk (wp_appRun rfl _ _ rfl rfl rfl hrun1 ?_)
   clear hrun1
   go_wp2
   go_still_tail 8, (by kernel_rfl)
   refine wp_copyB elemRow rfl _ _ rfl (w := w2.drew) (HB2.out.drew) (g := w.heap.size) (off := i + 1) rfl rfl (cs := xs.drop i) (by have := HNN.out; first | (simp; omega) | (simp [Nat.min_def]; first | omega | (split <;> omega))) (fun _ => rfl) (fun j u hu => ⟨g, i, rfl, by
    have hb := HB'.out
    rw [hb.drew.cell']
    rw [List.getElem?_drop] at hu
    rw [List.getElem?_append_left (List.getElem?_eq_some_iff.1 hu).1]; exact hu⟩) (by have := HNN.out; simp [splice]; omega) (fun u hu => HXS.out u (List.mem_of_mem_drop hu)) ?_
   intro w3 hk3 hB3
   have HK3 := Lib.hid hk3; have HB3 := Lib.hid hB3
   clear hk3 hB3 hw1 hi1 hp1 hp2 hp3
   go_wp2
   go_ret
   have hext2 : Ext w w2 := HE1.out.trans' HK2.out (fun k hk e => by omega)
   have hext3 : Ext w w3 := (hext2.drew).trans' HK3.out (fun k hk e => by omega)
   refine RetF.mk hext3.kp ⟨?_, .inr ⟨w.heap.size, G, List.replicate (G - (n + 1)) (.slice none 0 0), rfl, .inr (Nat.le_refl _), ?_, ?_, hG, by unfold maxLen; omega⟩⟩
   ·have := HNN.out; simp; omega
   ·have h := splice_ins2 xs x (.slice none 0 0) i G (by have := HNN.out; omega) (by have := HNN.out; omega)
    have := HB3.out
    rw [h] at this
    exact this.congrL (by rw [HNN.out])
   ·have := HNN.out; simp; omega
end Go.Proofs.YtinnmeiphbdogaaGreat

/- slices.Delete of one element at []string. -/
namespace Go.Proofs.YtinnmeiphbdogaaGreat
open Go.RowKit
set_option linter.unusedVariables false
end Go.Proofs.YtinnmeiphbdogaaGreat

/- tuple.Set at []string: Has, Below, At, Add, Drop, Copy. -/
namespace Go.Proofs.YtinnmeiphbdogaaGreat
open Go.RowKit
set_option linter.unusedVariables false
section
variable {S : Nat -> Prop} {w : World} {b : Nat} {ov iv : Value} {tail : List Value} {te : TypeId} {D : Option Addr × Nat × Nat -> Prop} {c : Option Addr × Nat × Nat -> Option Addr × Nat × Nat -> Int} {zs : List (Option Addr × Nat × Nat)}
set_option maxRecDepth 100000 in
theorem setHasRow_any (O : OrdLaw c) (x : Option Addr × Nat × Nat) (hx : D x) (hs : Strict c zs) (h : SetAtRow Tryz.prog S w b ov iv tail te D c zs) :
 Calls Tryz.prog 127 #[.pointer (some ⟨b, 0, none⟩), (Value.slice (x).1 (x).2.1 (x).2.2)] w (RetF (fun _ => False) w fun w' v => v = .bool (isIn c zs x)) := by
 have HF := Lib.hid (setFindRow_any O x hx hs h); clear h
 go_enter Tryz.func127, Tryz.ntmps127
 go_wp2_with fail
 refine HF.out.mono ?_
 rintro e w1 ⟨v, rfl, hk, rfl⟩
 have HK := Lib.hid hk; clear hk
 go_wp2
 go_ret
 exact RetF.mk HK.out rfl
set_option maxRecDepth 100000 in
set_option maxHeartbeats 1000000 in
theorem setAddRow_any (O : OrdLaw c) (x : Option Addr × Nat × Nat) (hx : D x) (hs : Strict c zs) (h : SetAtRow Tryz.prog S w b ov iv tail te D c zs) (hl : zs.length + 1 ≤ 1048576 * 1048576) :
 Calls Tryz.prog 128 #[.pointer (some ⟨b, 0, none⟩), (Value.slice (x).1 (x).2.1 (x).2.2)] w
  (RetF (Owns b iv) w fun w' v => v = .bool (!isIn c zs x) /\ ∃ iv', SetAtRow Tryz.prog S w' b ov iv' tail te D c (addS c zs x) /\ ∀ k, iv'.ownBlock = some k -> iv.ownBlock = some k \/ w.heap.size ≤ k) := by
 have HF := Lib.hid (setFindRow_any O x hx hs h)
 have HH := Lib.hid h; clear h
 go_enter Tryz.func128, Tryz.ntmps128
 go_wp2_with fail
 refine HF.out.mono ?_
 rintro e w1 ⟨v, rfl, hk, rfl⟩
 have h1 := HH.out.ext hk
 have HK := Lib.hid hk; clear hk
 cases hin : isIn c zs x
 ·obtain ⟨c1, c2⟩ := h1.cells
  have H1 := Lib.hid h1; clear h1
  go_wp2_with fail
  have hb := below_le (c := c) zs x
  have hbw : b < w1.heap.size := H1.out.blk.lt
  refine (insertRow_any (zs.map fun x => (Value.slice (x).1 (x).2.1 (x).2.2)) iv _ zs.length (below c zs x) ((Value.slice (x).1 (x).2.1 (x).2.2)) w1.heap.size 34 _ (by simp) (H1.out.row.alloc _) hb rfl (by intro u hu; obtain ⟨y, _, rfl⟩ := List.mem_map.1 hu; rfl) (Blk.new w1 [(Value.slice (x).1 (x).2.1 (x).2.2)] 34) (fun e => by
   have := H1.out.row
   obtain ⟨q1, ⟨q2, _⟩ | ⟨g, cap, rest, q2, _, q3, _⟩⟩ := this
   ·rw [q2] at e; cases e
   ·rw [q2] at e; have e' : g = w1.heap.size := Option.some.inj e
    have := q3.lt; omega) (by omega)).mono ?_
  rintro e w2 ⟨iv', rfl, hk2, hr⟩
  obtain ⟨ao', cap', eiv, _, _⟩ := hr.shape
  subst eiv
  have hk02 := ((Kp.refl (F := fun k => iv.ownBlock = some k) w1).alloc (.cells #[(Value.slice (x).1 (x).2.1 (x).2.2)] 34)).trans hk2
  have hB2 := H1.out.blk.kp hk02 H1.out.apart
  have f1 := hB2.free 1
  have d1 : w2.cell? ⟨b, 1, none⟩ = some iv := by rw [hB2.cell']; rfl
  have HR := Lib.hid (And.intro hk02 (And.intro hB2 hr))
  clear hk02 hB2 hr hk2 c1 c2
  go_wp2
  go_ret
  obtain ⟨hk02, hB2, hr⟩ := HR.out
  have h1 := H1.out
  have hz : addS c zs x = zs.take (below c zs x) ++ x :: zs.drop (below c zs x) := by unfold addS; rw [hin]; rfl
  have hlz : (addS c zs x).length = zs.length + 1 := by rw [addS_len, hin]; rfl
  have hown : ∀ k, (Value.slice ao' (zs.length + 1) cap').ownBlock = some k -> iv.ownBlock = some k \/ w.heap.size ≤ k := fun k hk => by
   rcases hr.block k hk with hh | hh
   ·exact .inl hh
   ·have := HK.out.size; simp only [alloc_size] at hh; exact .inr (by omega)
  have hownb : (Value.slice ao' (zs.length + 1) cap').ownBlock ≠ some b := fun hk => by
   rcases hr.block b hk with hh | hh
   ·exact h1.apart hh
   ·simp only [alloc_size] at hh; omega
  have hK : Kp (Owns b iv) w w2 := ((Ext.kp HK.out).trans (hk02.mono fun k _ hk => .inr hk))
  refine RetF.mk (hK.setCell (fun _ => .inl rfl) _) ⟨by rw [hin]; rfl, .slice ao' (zs.length + 1) cap', ?_, hown⟩
  refine setAtRow_store hB2 (M := fun _ => True) ?_ hownb (fun k hk => Nat.lt_of_lt_of_le (h1.inS k hk) hk02.size) (fun k hk hS => ?_) (h1.ord.same (hk02.same h1.inS fun k hk hk' => h1.notS k (.inr hk') hk)) (fun y hy => ?_) (by rw [hlz]; exact hl)
  ·rw [hlz, hz]
   have := hr.mono (M' := fun _ => True) fun _ _ => trivial
   simpa using this
  ·rcases hk with hk | hk
   ·exact h1.notS k (.inl hk) hS
   ·rcases hr.block k hk with hh | hh
    ·exact h1.notS k (.inr hh) hS
    ·have := h1.inS k hS; simp only [alloc_size] at hh; omega
  ·rcases mem_addS.1 hy with hy | ⟨rfl, _⟩
   ·exact h1.all y hy
   ·exact hx
 ·have H1 := Lib.hid h1; clear h1
  go_wp2
  go_ret
  have hz : addS c zs x = zs := by unfold addS; rw [hin]; rfl
  refine RetF.mk (Ext.kp HK.out) ⟨by rw [hin]; rfl, iv, ?_, fun k hk => .inl hk⟩
  rw [hz]; exact H1.out
end
end Go.Proofs.YtinnmeiphbdogaaGreat

/- tuple.Set at []string: Copy, At, under: what makes sets out of sets. -/
namespace Go.Proofs.YtinnmeiphbdogaaGreat
open Go.RowKit
set_option linter.unusedVariables false
def PtrSetRow (P : Program) (S : Nat -> Prop) (w : World) (v : Value) (zs : List (Option Addr × Nat × Nat)) : Prop :=
 (v = .pointer none /\ zs = []) \/ ∃ b ov iv tail te D c, v = .pointer (some ⟨b, 0, none⟩) /\ SetAtRow P S w b ov iv tail te D c zs
theorem PtrSetRow.len {P : Program} {S : Nat -> Prop} {w : World} {v : Value} {zs : List (Option Addr × Nat × Nat)} (h : PtrSetRow P S w v zs) : zs.length ≤ 1048576 * 1048576 := by
 rcases h with ⟨_, rfl⟩ | ⟨b, ov, iv, tail, te, D, c, h1, h2⟩
 ·simp
 ·exact h2.len
theorem setItemsRow_ptr {S : Nat -> Prop} {w : World} {v : Value} {zs : List (Option Addr × Nat × Nat)} (h : PtrSetRow Tryz.prog S w v zs) :
 Calls Tryz.prog 138 #[v] w (RetN w fun w' r => Row w' 34 1 r zs.length (zs.map fun x => (Value.slice (x).1 (x).2.1 (x).2.2)) (New w)) := by
 rcases h with ⟨rfl, rfl⟩ | ⟨b, ov, iv, tail, te, D, c, rfl, h2⟩
 ·refine (setItemsRow_nil w).mono ?_
  rintro e w' ⟨rfl, rfl⟩
  exact RetN.mk (Kp.refl _) (Row.nil _ _ _ _)
 ·exact setItemsRow_any h2
section
variable {S : Nat -> Prop} {w : World} {b : Nat} {ov iv : Value} {tail : List Value} {te : TypeId} {D : Option Addr × Nat × Nat -> Prop} {c : Option Addr × Nat × Nat -> Option Addr × Nat × Nat -> Int} {zs : List (Option Addr × Nat × Nat)}
end
end Go.Proofs.YtinnmeiphbdogaaGreat

/- tuple.Set at []string: pick, Minus, Meet, Same. -/
namespace Go.Proofs.YtinnmeiphbdogaaGreat
open Go.RowKit
set_option linter.unusedVariables false
section
variable {S : Nat -> Prop} {w : World} {b : Nat} {ov iv : Value} {tail : List Value} {te : TypeId} {D : Option Addr × Nat × Nat -> Prop} {c : Option Addr × Nat × Nat -> Option Addr × Nat × Nat -> Int} {zs : List (Option Addr × Nat × Nat)}
end
end Go.Proofs.YtinnmeiphbdogaaGreat

/- tuple.Set at []string: Minus, Meet, Same, Union. -/
namespace Go.Proofs.YtinnmeiphbdogaaGreat
open Go.RowKit
set_option linter.unusedVariables false
section
variable {S : Nat -> Prop} {w : World} {b : Nat} {ov iv : Value} {tail : List Value} {te : TypeId} {D : Option Addr × Nat × Nat -> Prop} {c : Option Addr × Nat × Nat -> Option Addr × Nat × Nat -> Int} {zs : List (Option Addr × Nat × Nat)}
end
end Go.Proofs.YtinnmeiphbdogaaGreat

/- tuple.Set at []string: At, Each. -/
namespace Go.Proofs.YtinnmeiphbdogaaGreat
open Go.RowKit
set_option linter.unusedVariables false
section
variable {S : Nat -> Prop} {w : World} {b : Nat} {ov iv : Value} {tail : List Value} {te : TypeId} {D : Option Addr × Nat × Nat -> Prop} {c : Option Addr × Nat × Nat -> Option Addr × Nat × Nat -> Int} {zs : List (Option Addr × Nat × Nat)}
end
end Go.Proofs.YtinnmeiphbdogaaGreat

/- slices.Values at [][]string: the iterator keeps its contract; tuple.Set's Each. -/
namespace Go.Proofs.YtinnmeiphbdogaaGreat
open Go.RowKit Go.Shelf
set_option linter.unusedVariables false
attribute [local go_sem] Oper.semAt_some
set_option maxHeartbeats 1000000 in
theorem valuesRow_any (ao : Option Addr) (len cap : Nat) (w : World) :
 Calls Tryz.prog 137 #[.slice ao len cap] w (RetN w fun w' v => v = .func (.func 171) #[] #[.pointer (some ⟨w.heap.size, 0, none⟩)] /\ w' = w.alloc (.cells #[.slice ao len cap] 69)) := by
 go_enter Tryz.func137, Tryz.ntmps137
 go_wp2
 go_ret
 exact RetN.mk ((Kp.refl w).alloc _) ⟨rfl, rfl⟩
def IterRow (w : World) (v : Value) (zs : List (Option Addr × Nat × Nat)) (lo : Nat) : Prop :=
 ∃ Bs ao cap, v = .func (.func 171) #[] #[.pointer (some ⟨Bs, 0, none⟩)] /\ lo ≤ Bs /\ (∀ a, ao = some a -> lo ≤ a.block /\ a.block < w.heap.size) /\ w.cell? ⟨Bs, 0, none⟩ = some (.slice ao zs.length cap) /\ CellsAt w ao (zs.map fun x => (Value.slice (x).1 (x).2.1 (x).2.2)) /\ zs.length ≤ 1048576 * 1048576
set_option maxRecDepth 100000 in
set_option maxHeartbeats 1000000 in
theorem setEachRow_ptr {S : Nat -> Prop} {w : World} {v : Value} {zs : List (Option Addr × Nat × Nat)} (h : PtrSetRow Tryz.prog S w v zs) :
 Calls Tryz.prog 100 #[v] w (RetN w fun w' r => IterRow w' r zs w.heap.size) := by
 have hl := h.len
 have HI := Lib.hid (setItemsRow_ptr h); clear h
 go_enter Tryz.func100, Tryz.ntmps100
 go_wp2_with fail
 refine HI.out.mono ?_
 rintro e w1 ⟨v1, rfl, hk, hr⟩
 have hb1 := hr.block
 have hlt := hr.lt
 obtain ⟨ao, cap, ev, hc, _⟩ := hr.shape
 subst ev
 have HK := Lib.hid (And.intro hk hc); clear hk hr hc
 go_wp2_with fail
 refine (valuesRow_any ao zs.length cap w1).mono ?_
 rintro e w2 ⟨v2, rfl, hk2, rfl, ew⟩
 have HK2 := Lib.hid (And.intro hk2 ew); clear hk2 ew
 go_wp2
 go_ret
 have hsz := HK.out.1.size
 refine RetN.mk (HK.out.1.trans HK2.out.1) ⟨w1.heap.size, ao, cap, rfl, hsz, fun a e => ?_, ?_, HK.out.2.ext HK2.out.1, hl⟩
 ·subst e
  have h1 := hb1 a.block rfl
  have h2 := hlt a.block rfl
  exact ⟨h1, Nat.lt_of_lt_of_le h2 HK2.out.1.size⟩
 ·rw [HK2.out.2]; exact (Blk.new w1 [Value.slice ao zs.length cap] 69).cell' 0
end Go.Proofs.YtinnmeiphbdogaaGreat

/- slices.Values at [][]string, for elements of any type that stand for values: the iterator keeps its contract. -/
namespace Go.Proofs.YtinnmeiphbdogaaGreat
open Go.RowKit Go.Shelf
set_option linter.unusedVariables false
attribute [local go_sem] Oper.semAt_some
set_option maxRecDepth 100000 in
set_option maxHeartbeats 2000000 in
theorem values1VRow_in {α : Type} (f : α -> Value) (F : Fence) (n : Nat) (h7 : F.fn 171) (hro : F.round = none) (hn : 1 ≤ n) (S : Nat -> Prop) (l Bs : Nat) (ao : Option Addr) (m cap : Nat) (zs : List α) (hm : m = zs.length) (hreach : m ≤ 1048576 * 1048576) (J Jx : List α -> World -> Prop)
 (hY : ∀ pre x W, J pre W -> pre.length < zs.length -> YieldAt F (n - 1) Tryz.prog l #[f x] W fun e W' =>
  (e = .returned (.bool true) /\ J (pre ++ [x]) W' /\ SameOn S W W') \/ (e = .returned (.bool false) /\ Jx (pre ++ [x]) W'))
 (W : World) (hSB : S Bs) (hSa : ∀ a, ao = some a -> S a.block) (hBs : W.cell? ⟨Bs, 0, none⟩ = some (.slice ao m cap)) (hc : CellsAt W ao (zs.map fun x => f x)) (h0 : J [] W) :
 CallsIn F n Tryz.prog 171 #[.func (.yield l) #[] #[], .pointer (some ⟨Bs, 0, none⟩)] W fun e W' => (∃ v, e = .returned v) /\
  ((∃ ys, ys = zs /\ J ys W') \/ (∃ pre, pre <+: zs /\ Jx pre W')) := by
 have HC := Lib.hid hc; have HM := Lib.hid hm; clear hc hm
 refine callsIn_of_wp Tryz.func171 rfl h7 ?_ hro
 simp only [Tryz.ntmps171, List.size_toArray, List.length_cons, List.length_nil, Nat.reduceAdd, Nat.reduceSub, Array.replicate_succ, Array.replicate_zero, List.push_toArray, List.append_toArray, List.nil_append, List.cons_append]
 gi_wp2
 gi_loopw [7] (fun i wr => ∃ k : Nat, k ≤ m /\ i = .int .i64 k /\ J (zs.take k) wr /\ SameOn S W wr)
  (fun i _ => m - (intOf i).toNat)
 case atStart => exact ⟨0, Nat.zero_le _, rfl, h0, SameOn.refl _ _⟩
 case round =>
  obtain ⟨k, hk, rfl, hJs, hnx⟩ := hrel
  by_cases hlt : k < m
  ·have hkl : k < zs.length := by rw [<- HM.out]; exact hlt
   obtain ⟨x, hx⟩ : ∃ x, zs[k]? = some x := ⟨_, List.getElem?_eq_getElem hkl⟩
   obtain ⟨g, o, eao, c3⟩ := HC.out k (f x) (by rw [List.getElem?_map, hx]; rfl)
   have c3' := (hnx.cell (o := o + k) (hSa _ eao)).trans c3
   have et : zs.take (k + 1) = zs.take k ++ [x] := by rw [List.take_add_one, hx]; rfl
   have ET := Lib.hid et
   have hy0 := hY _ x wr hJs (by rw [List.length_take]; omega)
   have HX := Lib.hid (And.intro hx hkl)
   clear hx hkl et c3
   subst eao
   obtain ⟨fn, tmps, assign, body, hy, hR⟩ := hy0
   gi_wp2
   refine hR.mono ?_
   rintro e W3 (⟨rfl, hJ3, hk3⟩ | ⟨rfl, hJx3⟩)
   ·gi_wp2
    go_roundw
    case rel => exact ⟨k + 1, by omega, by simp, by rw [ET.out]; exact hJ3, hnx.trans hk3⟩
    case measure => first | (simp [intOf]; done) | (simp [intOf]; omega)
   ·gi_wp2
    refine bodyPost_ret (results_none rfl _ _ _) rfl ?_
    exact ⟨⟨_, rfl⟩, .inr ⟨_, by rw [<- ET.out]; exact List.take_prefix _ _, hJx3⟩⟩
  ·obtain rfl : k = m := by omega
   gi_wp2
   go_end0
   exact ⟨⟨_, rfl⟩, .inl ⟨_, by rw [HM.out, List.take_length], hJs⟩⟩
def IterVRow (w : World) (v : Value) {α : Type} (f : α -> Value) (zs : List α) (lo : Nat) : Prop :=
 ∃ Bs ao cap, v = .func (.func 171) #[] #[.pointer (some ⟨Bs, 0, none⟩)] /\ lo ≤ Bs /\ (∀ a, ao = some a -> lo ≤ a.block /\ a.block < w.heap.size) /\ w.cell? ⟨Bs, 0, none⟩ = some (.slice ao zs.length cap) /\ CellsAt w ao (zs.map fun x => f x) /\ zs.length ≤ 1048576 * 1048576
theorem IterVRow.stops {w : World} {v : Value} {α : Type} {f : α -> Value} {zs : List α} {lo : Nat} (h : IterVRow w v f zs lo) (F : Fence) (n : Nat) (h7 : F.fn 171) (hro : F.round = none) (hn : 1 ≤ n) :
 ∃ Bs, v = .func (.func 171) #[] #[.pointer (some ⟨Bs, 0, none⟩)] /\ SeqStopsK F n Tryz.prog 171 #[.pointer (some ⟨Bs, 0, none⟩)] (fun x => #[f x]) (SameOn fun k => lo ≤ k /\ k < w.heap.size) (fun ys => ys = zs) (fun pre => pre <+: zs) zs.length w := by
 obtain ⟨Bs, ao, cap, h1, h2, h3, h4, h5, h6⟩ := h
 refine ⟨Bs, h1, fun l J Jx W hW _ _ hY h0 => ?_⟩
 have hb := World.block_lt_of_cell? _ _ h4
 exact values1VRow_in f F n h7 hro hn _ l Bs ao zs.length cap zs rfl h6 J Jx hY W ⟨h2, hb⟩ (fun a e => h3 a e) ((Kp.of_below hW).cell h4 id) (h5.ext (Kp.of_below hW)) h0
theorem IterRow.sub {w : World} {v : Value} {zs : List (Option Addr × Nat × Nat)} {lo : Nat} (h : IterRow w v zs lo) : IterVRow w v (fun x : { x // x ∈ zs } => (Value.slice (x.1).1 (x.1).2.1 (x.1).2.2)) zs.attach lo := by
 obtain ⟨Bs, ao, cap, h1, h2, h3, h4, h5, h6⟩ := h
 refine ⟨Bs, ao, cap, h1, h2, h3, by rw [List.length_attach]; exact h4, ?_, by rw [List.length_attach]; exact h6⟩
 have e : (zs.attach.map fun x : { x // x ∈ zs } => (Value.slice (x.1).1 (x.1).2.1 (x.1).2.2)) = zs.map fun x => (Value.slice (x).1 (x).2.1 (x).2.2) := by
  have h : (zs.attach.map fun x : { x // x ∈ zs } => (Value.slice (x.1).1 (x.1).2.1 (x.1).2.2)) = (zs.attach.map Subtype.val).map fun x => (Value.slice (x).1 (x).2.1 (x).2.2) := by rw [List.map_map]; rfl
  rw [h, List.attach_map_subtype_val]
 rw [e]; exact h5
end Go.Proofs.YtinnmeiphbdogaaGreat

/- slices.BinarySearchFunc at string, slices.Clone, slices.EqualFunc. -/
namespace Go.Proofs.YtinnmeiphbdogaaGreat
open Go.RowKit
set_option linter.unusedVariables false
theorem elemStr : ElemT Tryz.prog 34 9 1 16 (.string ⟨#[]⟩) := ⟨by kernel_rfl, by kernel_rfl, rfl, by decide⟩
end Go.Proofs.YtinnmeiphbdogaaGreat

/- slices.IndexFunc, ContainsFunc at string. -/
namespace Go.Proofs.YtinnmeiphbdogaaGreat
open Go.RowKit
set_option linter.unusedVariables false
def TellEachStr (P : Program) (f : FuncId) (first captured : Array Value) (w0 : World) (vs : List Value) (q : Nat -> Bool) : Prop :=
 (∀ args w, (callFunc f args).run P w = .ok (Next.enter f args) w) /\ ∀ w, Ext w0 w -> ∀ i u, vs[i]? = some u -> Calls P f (first.push u ++ captured) w fun e w' => e = .returned (.bool (q i)) /\ Ext w w'
def NoneAtStr (n : Nat) (q : Nat -> Bool) (w0 : World) (iv : Value) (w : World) : Prop :=
 ∃ i : Nat, i ≤ n /\ iv = .int .i64 i /\ (∀ j, j < i -> q j = false) /\ Ext w0 w
def FirstIsStr (n : Nat) (q : Nat -> Bool) (v : Value) : Prop := (∃ i : Nat, i < n /\ v = .int .i64 i /\ q i = true /\ ∀ j, j < i -> q j = false) \/ (v = .int .i64 (-1) /\ ∀ j, j < n -> q j = false)
set_option maxRecDepth 100000 in
set_option maxHeartbeats 2000000 in
theorem indexFuncStr_any (vs : List Value) (ao : Option Addr) (c : Nat) (f : FuncId) (first captured : Array Value) (q : Nat -> Bool) (w : World) (n : Nat) (hn : n = vs.length)
 (ha : CellsAt w ao vs) (hcmp : TellEachStr Tryz.prog f first captured w vs q) (hbig : n ≤ 4611686018427387904) :
 Calls Tryz.prog 161 #[.slice ao n c, .func (Fn.func f) first captured] w (RetN w fun w' v => FirstIsStr n q v) := by
 have hent := hcmp.1
 have HC := Lib.hid hcmp.2; clear hcmp
 have HA := Lib.hid ha; clear ha
 have HN := Lib.hid hn; clear hn
 go_enter Tryz.func161, Tryz.ntmps161
 go_wp2
 go_loopw [8] (NoneAtStr n q w) (fun i _ => n - (intOf i).toNat)
 case atStart => exact ⟨0, Nat.zero_le _, rfl, by simp, Kp.refl _⟩
 case round =>
  obtain ⟨i, hi, rfl, hq, hkp⟩ := hrel
  have HQ := Lib.hid hq; clear hq
  by_cases hlt : i < n
  ·have g1 : vs[i]? = some (vs[i]'(by have := HN.out; omega)) := List.getElem?_eq_getElem _
   obtain ⟨b1, o1, eao, c1⟩ := (HA.out.ext hkp) i _ g1
   have hcall := fun W hW => HC.out W hW i _ g1
   have HCall := Lib.hid hcall; clear hcall
   clear g1
   generalize vs[i]'(by have := HN.out; omega) = u at *
   subst eao
   cases hqi : q i
   ·rw [hqi] at HCall
    have HI := Lib.hid hqi; clear hqi
    go_wp2_with fail
    refine (HCall.out _ hkp).mono ?_
    rintro e w1 ⟨rfl, hk2⟩
    have hkp2 := hkp.ext hk2
    clear hk2 c1
    go_wp2
    go_roundw
    case rel =>
     refine ⟨i + 1, by omega, by first | rfl | (congr 1; done) | (congr 1; omega), fun j hj => ?_, hkp2⟩
     by_cases e : j = i
     ·subst e; exact HI.out
     ·exact HQ.out j (by omega)
    case measure => first | (simp [intOf]; done) | (simp [intOf]; omega)
   ·rw [hqi] at HCall
    have HI := Lib.hid hqi; clear hqi
    go_wp2_with fail
    refine (HCall.out _ hkp).mono ?_
    rintro e w1 ⟨rfl, hk2⟩
    have hkp2 := hkp.ext hk2
    clear hk2 c1
    go_wp2
    go_ret
    exact RetN.mk hkp2 (.inl ⟨i, hlt, rfl, HI.out, HQ.out⟩)
  ·have e : n = i := by omega
   subst e
   clear hlt hi
   go_wp2
   go_ret
   exact RetN.mk hkp (.inr ⟨rfl, HQ.out⟩)
theorem containsFuncStr_any (vs : List Value) (ao : Option Addr) (c : Nat) (f : FuncId) (first captured : Array Value) (q : Nat -> Bool) (w : World) (n : Nat) (hn : n = vs.length)
 (ha : CellsAt w ao vs) (hcmp : TellEachStr Tryz.prog f first captured w vs q) (hbig : n ≤ 4611686018427387904) :
 Calls Tryz.prog 125 #[.slice ao n c, .func (Fn.func f) first captured] w (RetN w fun w' v => v = .bool ((List.range n).any q)) := by
 have HI := Lib.hid (indexFuncStr_any vs ao c f first captured q w n hn ha hcmp hbig); clear ha hcmp hn
 go_enter Tryz.func125, Tryz.ntmps125
 go_wp2_with fail
 refine HI.out.mono ?_
 rintro e w1 ⟨v, rfl, hk, ⟨i, hi, rfl, hq, _⟩ | ⟨rfl, hq⟩⟩
 ·have t : (List.range n).any q = true := List.any_eq_true.2 ⟨i, List.mem_range.2 hi, hq⟩
  have HK := Lib.hid (And.intro hk t); clear hk hq t
  go_wp2
  go_ret
  exact RetN.mk HK.out.1 (by rw [HK.out.2]; first | rfl | simp)
 ·have t : (List.range n).any q = false := by
   rw [List.any_eq_false]
   intro i hi
   simp [hq i (List.mem_range.1 hi)]
  have HK := Lib.hid (And.intro hk t); clear hk hq t
  go_wp2
  go_ret
  exact RetN.mk HK.out.1 (by rw [HK.out.2]; first | rfl | simp)
end Go.Proofs.YtinnmeiphbdogaaGreat

/- slices.Clone, EqualFunc, Grow, Concat at string. -/
namespace Go.Proofs.YtinnmeiphbdogaaGreat
open Go.RowKit
set_option linter.unusedVariables false
theorem cloneStr_any (vs : List Value) (ao : Option Addr) (cap : Nat) (w : World) (n : Nat) (hn : n = vs.length) (hc : CellsAt w ao vs) (h1 : ∀ u ∈ vs, u.oneCell' = true) (hm : n * 16 ≤ 140737488355328) :
 Calls Tryz.prog 101 #[.slice ao n cap] w (RetN w fun w' v => Row w' 9 1 v n vs (New w)) := by
 have hq : ∀ w : World, (binOp .eql 34 (.slice ao n cap) (.slice none 0 0)).run Tryz.prog w = .ok (.bool ao.isNone) w := fun w => Lib.run_eql_slice_nil w _ _ _ _ _ _ _ Tryz.underlying34
 have HNN := Lib.hid hn; clear hn
 have hl : n ≤ maxLen := by unfold maxLen; omega
 cases ao with
 | none =>
  have hv : vs = [] := by
   cases vs with
   | nil => rfl
   | cons x vs => obtain ⟨b, o, h, _⟩ := hc.off (by simp); cases h
  subst hv
  have h0 : n = 0 := HNN.out
  subst h0
  go_enter Tryz.func101, Tryz.ntmps101
  go_wp2
  go_ret
  exact RetN.mk (Kp.refl _) (Row.nil _ _ _ _)
 | some a =>
  go_enter Tryz.func101, Tryz.ntmps101
  go_wp2_with (first | (at_builtin; refine Halted.out ?_))
  refine Halted.mk (wp_appN elemStr rfl _ _ rfl ((Kp.refl (F := fun _ => False) w).alloc _) rfl (Row.empty w 9 1 (New w) (Nat.le_refl _)) rfl (hc.alloc _) (by rw [HNN.out, Nat.mul_one]) h1 (by omega) (by omega) ?_)
  intro v1 w1 hr1 hk1 _ _
  have HR := Lib.hid hr1; clear hr1
  go_wp2
  go_ret
  exact RetN.mk hk1 (by simpa using HR.out)
end Go.Proofs.YtinnmeiphbdogaaGreat

/- tuple.Rows: rows of texts in a set: what a row reads as, their order, set, Len, NewRows, named, texts. -/
namespace Go.Proofs.YtinnmeiphbdogaaGreat
open Go.RowKit
set_option linter.unusedVariables false
abbrev RowZ := Option Addr × Nat × Nat
def ReadsAs (w : World) (x : RowZ) (ss : List ByteArray) : Prop := x.2.1 = ss.length /\ CellsAt w x.1 (strs ss)
theorem ReadsAs.unique {w : World} {x : RowZ} {a b : List ByteArray} (h : ReadsAs w x a) (h' : ReadsAs w x b) : a = b := by
 obtain ⟨h1, h2⟩ := h
 obtain ⟨h3, h4⟩ := h'
 refine List.ext_getElem (by omega) fun i hi hj => ?_
 obtain ⟨b1, o1, e1, c1⟩ := h2.str hi
 obtain ⟨b2, o2, e2, c2⟩ := h4.str hj
 rw [e1] at e2
 cases e2
 rw [c1] at c2
 simpa using c2
theorem con_ex (w : World) : ∃ con : RowZ -> List ByteArray, ∀ x ss, ReadsAs w x ss -> con x = ss := by
 have h : ∀ x : RowZ, ∃ l : List ByteArray, ∀ ss, ReadsAs w x ss -> l = ss := fun x => by
  by_cases hx : ∃ ss, ReadsAs w x ss
  ·obtain ⟨ss, hs⟩ := hx
   exact ⟨ss, fun ss' hs' => hs.unique hs'⟩
  ·exact ⟨[], fun ss hs => absurd ⟨ss, hs⟩ hx⟩
 exact ⟨fun x => Classical.choose (h x), fun x => Classical.choose_spec (h x)⟩
def RowD (S : Nat -> Prop) (w : World) (x : RowZ) : Prop := ∃ ss, ReadsAs w x ss /\ ss.length ≤ 8796093021952 /\ ∀ a, x.1 = some a -> x.2.1 ≠ 0 -> S a.block
theorem ReadsAs.same {S : Nat -> Prop} {w w' : World} {x : RowZ} {ss : List ByteArray} (h : ReadsAs w x ss) (hs : Same S w w') (ha : ∀ a, x.1 = some a -> x.2.1 ≠ 0 -> S a.block) : ReadsAs w' x ss := by
 refine ⟨h.1, fun i u hu => ?_⟩
 have hne : x.2.1 ≠ 0 := by
  have h1 := (List.getElem?_eq_some_iff.1 hu).1
  simp only [strs, List.length_map] at h1
  rw [h.1]; omega
 obtain ⟨b, o, e, c⟩ := h.2 i u hu
 refine ⟨b, o, e, ?_⟩
 rw [World.cell?_of_block (w := w) (hs b (ha _ e hne)).2]; exact c
theorem cmpRow_law {α : Type} (f : α -> List ByteArray) : OrdLaw (fun x y => cmpRow (f x) (f y)) :=
 ⟨fun x y => by have := cmpRow_swap (f x) (f y); omega, fun x y z h h' => cmpRow_trans h h'⟩
theorem rows_ord {S : Nat -> Prop} {w : World} {con : RowZ -> List ByteArray} (hc : ∀ x ss, ReadsAs w x ss -> con x = ss) :
 OrdVRow Tryz.prog S w (.func (Fn.func 124) #[] #[]) (RowD S w) (fun x y => cmpRow (con x) (con y)) := by
 refine .inr ⟨_, _, _, rfl, enters_of Tryz.func124 (by kernel_rfl) rfl, fun w' hw x y hx hy => ?_⟩
 obtain ⟨xs, hx1, hx2, hx3⟩ := hx
 obtain ⟨ys, hy1, hy2, hy3⟩ := hy
 have ex := hc x xs hx1
 have ey := hc y ys hy1
 have hx' := hx1.same hw hx3
 have hy' := hy1.same hw hy3
 obtain ⟨ax, nx, cx⟩ := x
 obtain ⟨ay, ny, cy⟩ := y
 obtain ⟨h1, h2⟩ := hx'
 obtain ⟨h3, h4⟩ := hy'
 simp only at h1 h2 h3 h4
 subst h1 h3
 simp only [ex, ey]
 refine (tupleCompare_any xs ys ax ay cx cy w' h2 h4 (by unfold maxLen; omega) (by unfold maxLen; omega)).mono ?_
 rintro e w2 ⟨rfl, rfl⟩
 exact ⟨rfl, Kp.refl w'⟩
def RowsAt (S : Nat -> Prop) (w : World) (b : Nat) (iv : Value) (arity : Nat) (LL : List (List ByteArray)) : Prop :=
 ∃ con zs, (∀ x ss, ReadsAs w x ss -> con x = ss) /\ SetAtRow Tryz.prog S w b (.func (Fn.func 124) #[] #[]) iv [.int .i64 arity] 135 (RowD S w) (fun x y => cmpRow (con x) (con y)) zs /\ zs.map con = LL
theorem named_any (s : ByteArray) (w : World) : Calls Tryz.prog 84 #[.string s] w (Ret (.bool (decide (1 ≤ s.size /\ s.size ≤ 4096))) w) := by
 by_cases h1 : 1 ≤ s.size
 ·have q1 : (1 : Int) ≤ (s.size : Int) := by omega
  by_cases h2 : s.size ≤ 4096
  ·have q2 : (s.size : Int) ≤ 4096 := by omega
   have H := Lib.hid (And.intro h1 h2)
   go_enter Tryz.func84, Tryz.ntmps84
   go_wp2
   go_ret
   exact Ret.mk (by simp [H.out.1, H.out.2])
  ·have q2 : ¬ (s.size : Int) ≤ 4096 := by omega
   have H := Lib.hid h2
   go_enter Tryz.func84, Tryz.ntmps84
   go_wp2
   go_ret
   exact Ret.mk (by simp)
 ·have q1 : ¬ (1 : Int) ≤ (s.size : Int) := by omega
  have H := Lib.hid h1
  go_enter Tryz.func84, Tryz.ntmps84
  go_wp2
  go_ret
  exact Ret.mk (by simp)
theorem textsFn_any (s : ByteArray) (w : World) : Calls Tryz.prog 126 #[.string s] w (Ret (.bool (decide (4096 < s.size))) w) := by
 by_cases h : 4096 < s.size
 ·have q : (4096 : Int) < (s.size : Int) := by omega
  have H := Lib.hid h
  go_enter Tryz.func126, Tryz.ntmps126
  go_wp2
  go_ret
  exact Ret.mk (by simp [H.out])
 ·have q : ¬ (4096 : Int) < (s.size : Int) := by omega
  have H := Lib.hid h
  go_enter Tryz.func126, Tryz.ntmps126
  go_wp2
  go_ret
  exact Ret.mk (by simp)
def textsC (ss : List ByteArray) : Bool := ss.all fun s => decide (s.size ≤ 4096)
theorem texts_any (ss : List ByteArray) (ao : Option Addr) (n c : Nat) (w : World) (hn : n = ss.length) (hc : CellsAt w ao (strs ss)) (hl : n ≤ 4611686018427387904) :
 Calls Tryz.prog 86 #[.slice ao n c] w (RetN w fun w' v => v = .bool (textsC ss)) := by
 have hent : ∀ args w, (callFunc 126 args).run Tryz.prog w = .ok (.enter 126 args) w := enters_of Tryz.func126 (by kernel_rfl) rfl
 have hi := containsFuncStr_any (strs ss) ao c 126 #[] #[] (fun i => decide (4096 < (ss[i]?.getD ⟨#[]⟩).size)) w n (by simp [strs, hn]) hc ⟨hent, fun w' _ i u hu => by
  rw [strs, List.getElem?_map] at hu
  cases hs : ss[i]? with
  | none => rw [hs] at hu; cases hu
  | some s =>
   rw [hs] at hu
   cases hu
   refine (textsFn_any s w').mono ?_
   rintro e w2 ⟨rfl, rfl⟩
   exact ⟨by simp [hs], Kp.refl _⟩⟩ hl
 have key : (!(List.range n).any fun i => decide (4096 < (ss[i]?.getD ⟨#[]⟩).size)) = textsC ss := by
  rw [Bool.eq_iff_iff]
  simp only [Bool.not_eq_true', List.any_eq_false, List.mem_range, decide_eq_true_eq, textsC, List.all_eq_true]
  constructor
  ·intro h s hs
   obtain ⟨i, hi, rfl⟩ := List.mem_iff_getElem.1 hs
   have := h i (by omega)
   simp only [List.getElem?_eq_getElem hi, Option.getD_some] at this
   omega
  ·intro h i hi
   have hi' : i < ss.length := by omega
   have := h ss[i] (List.getElem_mem _)
   simp only [List.getElem?_eq_getElem hi', Option.getD_some]
   omega
 have HI := Lib.hid (And.intro hi key); clear hi key hent hc hn
 go_enter Tryz.func86, Tryz.ntmps86
 go_wp2_with fail
 refine HI.out.1.mono ?_
 rintro e w1 ⟨v, rfl, hk, rfl⟩
 have HK := Lib.hid hk; clear hk
 go_wp2
 go_ret
 exact RetN.mk HK.out (by rw [<- HI.out.2]; rfl)
end Go.Proofs.YtinnmeiphbdogaaGreat
namespace Go.Proofs.YtinnmeiphbdogaaGreat
open Go.RowKit
set_option linter.unusedVariables false
section
variable {S S' : Nat -> Prop} {w w' : World} {b : Nat} {iv : Value} {arity : Nat} {LL : List (List ByteArray)}
theorem RowsAt.move {F : Nat -> Prop} (h : RowsAt S w b iv arity LL) (hk : Kp F w w') (hF : ∀ k, F k -> ¬ Owns b iv k) (hS : ∀ k, F k -> ¬ S k) (hsub : ∀ k, S k -> S' k) (hin : ∀ k, S' k -> k < w'.heap.size) (hno : ∀ k, Owns b iv k -> ¬ S' k) :
 RowsAt S' w' b iv arity LL := by
 obtain ⟨con, zs, hc, hs, hl⟩ := h
 obtain ⟨con', hc'⟩ := con_ex w'
 have hs' := hs.kp hk hF hS
 have hsame : Same S w w' := hk.same hs.inS fun k h1 h2 => hS k h2 h1
 have all : ∀ z ∈ zs, RowD S' w' z /\ con' z = con z := fun z hz => by
  obtain ⟨ss, h1, h2, h3⟩ := hs.all z hz
  have h1' := h1.same hsame h3
  exact ⟨⟨ss, h1', h2, fun a e hne => hsub _ (h3 a e hne)⟩, by rw [hc' z ss h1', hc z ss h1]⟩
 refine ⟨con', zs, hc', ⟨hs'.blk, hs'.row, hs'.apart, hin, hno, rows_ord hc', fun z hz => (all z hz).1, hs.len⟩, ?_⟩
 rw [<- hl]
 exact List.map_congr_left fun z hz => (all z hz).2
theorem RowsAt.ext (h : RowsAt S w b iv arity LL) (hk : Ext w w') : RowsAt S w' b iv arity LL := by
 have hb := h
 obtain ⟨con, zs, hc, hs, hl⟩ := hb
 exact h.move hk (fun _ x => x.elim) (fun _ x => x.elim) (fun _ h => h) (fun k hk' => Nat.lt_of_lt_of_le (hs.inS k hk') hk.size) hs.notS
theorem RowsAt.blk (h : RowsAt S w b iv arity LL) : Blk w b [.func (Fn.func 124) #[] #[], iv, .int .i64 arity] 135 := by
 obtain ⟨con, zs, hc, hs, hl⟩ := h
 exact hs.blk
theorem rowsSet_nil (w : World) : Calls Tryz.prog 99 #[.pointer none] w (Ret (.pointer none) w) := by
 go_enter Tryz.func99, Tryz.ntmps99
 go_wp2
 go_ret
 exact Ret.mk rfl
theorem rowsSet_any (h : RowsAt S w b iv arity LL) : Calls Tryz.prog 99 #[.pointer (some ⟨b, 0, none⟩)] w (Ret (.pointer (some ⟨b, 0, none⟩)) w) := by
 have c0 : w.cell? ⟨b, 0, none⟩ = some (.func (Fn.func 124) #[] #[]) := by rw [h.blk.cell']; rfl
 have hq : ∀ w : World, (binOp .eql 131 (.func (Fn.func 124) #[] #[]) .nilFunc).run Tryz.prog w = .ok (.bool false) w := fun _ => by kernel_rfl
 clear h
 go_enter Tryz.func99, Tryz.ntmps99
 go_wp2
 go_ret
 exact Ret.mk rfl
theorem rowsLen_any (h : RowsAt S w b iv arity LL) : Calls Tryz.prog 105 #[.pointer (some ⟨b, 0, none⟩)] w (Ret (.int .i64 (LL.length : Nat)) w) := by
 have H := Lib.hid h
 obtain ⟨con, zs, hc, hs, hl⟩ := h
 have HS := Lib.hid hs
 have HL := Lib.hid (show zs.length = LL.length by rw [<- hl]; simp)
 clear hs hc hl
 go_enter Tryz.func105, Tryz.ntmps105
 go_wp2_with fail
 refine (rowsSet_any H.out).mono ?_
 rintro e w' ⟨rfl, rfl⟩
 go_wp2_with fail
 refine (setLenRow_any HS.out).mono ?_
 rintro e w' ⟨rfl, rfl⟩
 go_wp2
 go_ret
 exact Ret.mk (by rw [<- HL.out]; rfl)
theorem rowsAt_new (S : Nat -> Prop) (w : World) (a : Nat) (hS : ∀ k, S k -> k < w.heap.size) :
 RowsAt S (w.alloc (.cells #[.func (Fn.func 124) #[] #[], .slice none 0 0, .int .i64 a] 135)) w.heap.size (.slice none 0 0) a [] := by
 obtain ⟨con, hc⟩ := con_ex (w.alloc (.cells #[.func (Fn.func 124) #[] #[], .slice none 0 0, .int .i64 a] 135))
 refine ⟨con, [], hc, ⟨Blk.new w [.func (Fn.func 124) #[] #[], .slice none 0 0, .int .i64 a] 135, Row.nil _ _ _ _, by simp [Value.ownBlock], fun k hk => by rw [alloc_size]; have := hS k hk; omega, fun k ho hs => ?_, rows_ord hc, by simp, by simp⟩, rfl⟩
 rcases ho with rfl | ho
 ·have := hS _ hs; omega
 ·cases ho
theorem newRows_any (S : Nat -> Prop) (w : World) (a : Nat) (ha : a ≤ 64) (hS : ∀ k, S k -> k < w.heap.size) :
 Calls Tryz.prog 85 #[.int .i64 a] w (RetN w fun w' v => v = .tuple #[.pointer (some ⟨w.heap.size, 0, none⟩), .int .i64 0] /\ RowsAt S w' w.heap.size (.slice none 0 0) a []) := by
 have HR := Lib.hid (rowsAt_new S w a hS)
 have q1 : ¬ (a : Int) < 0 := by omega
 have q2 : ¬ (64 : Int) < (a : Int) := by omega
 clear hS
 go_enter Tryz.func85, Tryz.ntmps85
 go_wp2
 go_ret2
 exact RetN.mk ((Kp.refl w).alloc _) ⟨rfl, HR.out⟩
end
end Go.Proofs.YtinnmeiphbdogaaGreat
namespace Go.Proofs.YtinnmeiphbdogaaGreat
open Go.RowKit
set_option linter.unusedVariables false
def RowIn (w : World) (x : RowZ) (ss : List ByteArray) : Prop := ReadsAs w x ss /\ ss.length ≤ 8796093021952 /\ ∀ a, x.1 = some a -> x.2.1 ≠ 0 -> a.block < w.heap.size
def RowOff (x : RowZ) (F : Nat -> Prop) : Prop := ∀ a, x.1 = some a -> x.2.1 ≠ 0 -> ¬ F a.block
def poolOf (S : Nat -> Prop) (x : RowZ) : Nat -> Prop := fun k => S k \/ ∃ a, x.1 = some a /\ x.2.1 ≠ 0 /\ a.block = k
section
variable {S : Nat -> Prop} {w w' : World} {b : Nat} {iv : Value} {arity : Nat} {LL : List (List ByteArray)}
theorem RowsAt.inS (h : RowsAt S w b iv arity LL) : ∀ k, S k -> k < w.heap.size := by
 obtain ⟨con, zs, hc, hs, hl⟩ := h
 exact hs.inS
theorem RowsAt.notS (h : RowsAt S w b iv arity LL) : ∀ k, Owns b iv k -> ¬ S k := by
 obtain ⟨con, zs, hc, hs, hl⟩ := h
 exact hs.notS
theorem RowsAt.pool (h : RowsAt S w b iv arity LL) {x : RowZ} {ss : List ByteArray} (hx : RowIn w x ss) (ho : RowOff x (Owns b iv)) : RowsAt (poolOf S x) w b iv arity LL := by
 refine h.move (F := fun _ => False) (Kp.refl w) (fun _ x => x.elim) (fun _ x => x.elim) (fun k hk => .inl hk) (fun k hk => ?_) (fun k hk hs => ?_)
 ·rcases hk with hk | ⟨a, e, hne, rfl⟩
  ·exact h.inS k hk
  ·exact hx.2.2 a e hne
 ·rcases hs with hs | ⟨a, e, hne, rfl⟩
  ·exact h.notS k hk hs
  ·exact ho a e hne hk
theorem RowsAt.open (h : RowsAt S w b iv arity LL) (hst : Strict cmpRow LL) {x : RowZ} {ss : List ByteArray} (hx : RowIn w x ss) (ho : RowOff x (Owns b iv)) :
 ∃ con zs, (∀ x ss, ReadsAs w x ss -> con x = ss) /\ SetAtRow Tryz.prog (poolOf S x) w b (.func (Fn.func 124) #[] #[]) iv [.int .i64 arity] 135 (RowD (poolOf S x) w) (fun x y => cmpRow (con x) (con y)) zs /\ zs.map con = LL /\
  RowD (poolOf S x) w x /\ con x = ss /\ Strict (fun x y => cmpRow (con x) (con y)) zs /\ isIn (fun x y => cmpRow (con x) (con y)) zs x = isIn cmpRow LL ss /\ below (fun x y => cmpRow (con x) (con y)) zs x = below cmpRow LL ss := by
 obtain ⟨con, zs, hc, hs, hl⟩ := h.pool hx ho
 have ex := hc x ss hx.1
 refine ⟨con, zs, hc, hs, hl, ⟨ss, hx.1, hx.2.1, fun a e hne => .inr ⟨a, e, hne, rfl⟩⟩, ex, ?_, ?_, ?_⟩
 ·rw [<- hl] at hst
  exact List.pairwise_map.1 hst
 ·rw [<- hl, <- ex]; simp [isIn, List.any_map, Function.comp_def]
 ·rw [<- hl, <- ex]; simp [below, List.filter_map, Function.comp_def]
theorem rowsHas_any (h : RowsAt S w b iv arity LL) (hst : Strict cmpRow LL) {x : RowZ} {ss : List ByteArray} (hx : RowIn w x ss) (ho : RowOff x (Owns b iv)) :
 Calls Tryz.prog 87 #[.pointer (some ⟨b, 0, none⟩), .slice x.1 x.2.1 x.2.2] w (RetN w fun w' v => v = .bool (isIn cmpRow LL ss)) := by
 have H := Lib.hid h
 obtain ⟨con, zs, hc, hs, hl, hd, ex, hz, e1, e2⟩ := h.open hst hx ho
 have HF := Lib.hid (setHasRow_any (cmpRow_law con) x hd hz hs)
 rw [e1] at HF
 clear h hst hx ho hc hs hl hd ex hz e1 e2
 go_enter Tryz.func87, Tryz.ntmps87
 go_wp2_with fail
 refine (rowsSet_any H.out).mono ?_
 rintro e w' ⟨rfl, rfl⟩
 go_wp2_with fail
 refine HF.out.mono ?_
 rintro e w1 ⟨v, rfl, hk, rfl⟩
 have HK := Lib.hid hk; clear hk
 go_wp2
 go_ret
 exact RetN.mk HK.out rfl
theorem RowsAt.of_set {S' : Nat -> Prop} {w1 w2 : World} {con : RowZ -> List ByteArray} {zs : List RowZ} (hc : ∀ x ss, ReadsAs w1 x ss -> con x = ss) (hsame : Same S' w1 w2)
 (h : SetAtRow Tryz.prog S' w2 b (.func (Fn.func 124) #[] #[]) iv [.int .i64 arity] 135 (RowD S' w1) (fun x y => cmpRow (con x) (con y)) zs) : RowsAt S' w2 b iv arity (zs.map con) := by
 obtain ⟨con', hc'⟩ := con_ex w2
 have all : ∀ z ∈ zs, RowD S' w2 z /\ con' z = con z := fun z hz => by
  have hd := h.all z hz
  obtain ⟨ss, h1, h2, h3⟩ := hd
  have h1' := h1.same hsame h3
  exact ⟨⟨ss, h1', h2, h3⟩, by rw [hc' z ss h1', hc z ss h1]⟩
 exact ⟨con', zs, hc', ⟨h.blk, h.row, h.apart, h.inS, h.notS, rows_ord hc', fun z hz => (all z hz).1, h.len⟩, List.map_congr_left fun z hz => (all z hz).2⟩
def rowsAddR (arity : Nat) (LL : List (List ByteArray)) (ss : List ByteArray) : Bool × Nat :=
 if ss.length ≠ arity then (false, 30) else if textsC ss = false then (false, 31) else if 65536 ≤ LL.length /\ isIn cmpRow LL ss = false then (false, 4) else (!isIn cmpRow LL ss, 0)
def rowsAddL (arity : Nat) (LL : List (List ByteArray)) (ss : List ByteArray) : List (List ByteArray) := if (rowsAddR arity LL ss).2 = 0 then addS cmpRow LL ss else LL
theorem rowsPut (h : RowsAt S w b iv arity LL) (hst : Strict cmpRow LL) {ao : Option Addr} {n cap : Nat} {ss : List ByteArray} {w1 : World} (hk : Ext w w1) (hr : Row w1 9 1 (.slice ao n cap) n (strs ss) (New w)) (hn : n = ss.length) (hl : n ≤ 8796093021952) (hLL : LL.length + 1 ≤ 1048576 * 1048576) :
 Calls Tryz.prog 128 #[.pointer (some ⟨b, 0, none⟩), .slice ao n cap] w1 (RetF (Owns b iv) w1 fun w' v => v = .bool (!isIn cmpRow LL ss) /\
  ∃ iv', RowsAt (poolOf S (ao, n, cap)) w' b iv' arity (addS cmpRow LL ss) /\ ∀ k, iv'.ownBlock = some k -> iv.ownBlock = some k \/ w1.heap.size ≤ k) := by
 have hx : RowIn w1 (ao, n, cap) ss := by
  obtain ⟨ao', cap', e, hc, _⟩ := hr.shape
  cases e
  refine ⟨⟨hn, hc⟩, by omega, fun a e _ => ?_⟩
  have e' : ao = some a := e
  subst e'
  exact hr.lt a.block rfl
 have ho : RowOff (ao, n, cap) (Owns b iv) := fun a e _ ho => by
  have e' : ao = some a := e
  subst e'
  have h1 : w.heap.size ≤ a.block := hr.block a.block rfl
  have h2 : a.block < w.heap.size := by
   obtain ⟨con, zs, hc, hs, hl⟩ := h
   rcases ho with ho | ho
   ·rw [ho]; exact hs.blk.lt
   ·exact hs.row.lt _ ho
  omega
 obtain ⟨con, zs, hc, hs, hlz, hd, ex, hz, e1, e2⟩ := (h.ext hk).open hst hx ho
 have hzl : zs.length = LL.length := by rw [<- hlz]; simp
 refine (setAddRow_any (cmpRow_law con) (ao, n, cap) hd hz hs (by omega)).mono ?_
 rintro e w2 ⟨v, rfl, hk2, rfl, iv', hs2, hiv⟩
 refine RetF.mk hk2 ⟨by rw [e1], iv', ?_, hiv⟩
 have hsame : Same (poolOf S (ao, n, cap)) w1 w2 := hk2.same hs.inS fun k h1 h2 => hs.notS k h2 h1
 have := RowsAt.of_set hc hsame hs2
 rwa [<- addS_map con zs (ao, n, cap), hlz, ex] at this
end
end Go.Proofs.YtinnmeiphbdogaaGreat
namespace Go.Proofs.YtinnmeiphbdogaaGreat
open Go.RowKit
set_option linter.unusedVariables false
section
variable {S : Nat -> Prop} {w w' : World} {b : Nat} {iv : Value} {arity : Nat} {LL : List (List ByteArray)}
def RowsAdded (S : Nat -> Prop) (w : World) (b : Nat) (iv : Value) (arity : Nat) (LL : List (List ByteArray)) (ss : List ByteArray) (w' : World) (v : Value) : Prop :=
 v = .tuple #[.bool (rowsAddR arity LL ss).1, .int .i64 ((rowsAddR arity LL ss).2 : Nat)] /\
  ∃ S' iv', (∀ k, S k -> S' k) /\ (∀ k, S' k -> S k \/ w.heap.size ≤ k) /\ RowsAt S' w' b iv' arity (rowsAddL arity LL ss) /\ ∀ k, iv'.ownBlock = some k -> iv.ownBlock = some k \/ w.heap.size ≤ k
theorem RowsAdded.same (h : RowsAt S w b iv arity LL) {ss : List ByteArray} {w1 : World} (hk : Ext w w1) {v : Value} (hv : v = .tuple #[.bool (rowsAddR arity LL ss).1, .int .i64 ((rowsAddR arity LL ss).2 : Nat)]) (h0 : rowsAddL arity LL ss = LL) : RowsAdded S w b iv arity LL ss w1 v :=
 ⟨hv, S, iv, fun _ h => h, fun _ h => .inl h, by rw [h0]; exact h.ext hk, fun _ h => .inl h⟩
set_option maxRecDepth 100000 in
set_option maxHeartbeats 2000000 in
theorem rowsAdd_any (h : RowsAt S w b iv arity LL) (hst : Strict cmpRow LL) {ao : Option Addr} {n cap : Nat} {ss : List ByteArray} (hx : RowIn w (ao, n, cap) ss) (ho : RowOff (ao, n, cap) (Owns b iv)) (hLL : LL.length + 1 ≤ 1048576 * 1048576) :
 Calls Tryz.prog 88 #[.pointer (some ⟨b, 0, none⟩), .slice ao n cap] w (RetF (Owns b iv) w (RowsAdded S w b iv arity LL ss)) := by
 have hn : n = ss.length := hx.1.1
 have hcs : CellsAt w ao (strs ss) := hx.1.2
 have hl : ss.length ≤ 8796093021952 := hx.2.1
 have c2 : w.cell? ⟨b, 2, none⟩ = some (.int .i64 arity) := by rw [h.blk.cell']; rfl
 have HT := Lib.hid (texts_any ss ao n cap w hn hcs (by omega))
 have HH := Lib.hid (fun w1 (hw : Ext w w1) => rowsHas_any (h.ext hw) hst (x := (ao, n, cap)) (ss := ss) ⟨⟨hn, hcs.ext hw⟩, hl, fun a e hne => Nat.lt_of_lt_of_le (hx.2.2 a e hne) hw.size⟩ ho)
 have HLN := Lib.hid (fun w1 (hw : Ext w w1) => rowsLen_any (h.ext hw))
 have HS := Lib.hid (fun w1 (hw : Ext w w1) => rowsSet_any (h.ext hw))
 have HCL := Lib.hid (fun w1 (hw : Ext w w1) => cloneStr_any (strs ss) ao cap w1 n (by simp [strs, hn]) (hcs.ext hw) (strs_one ss) (by omega))
 have HP := Lib.hid (fun w0 w1 ao1 cap1 (hw : Ext w w0) (hk : Ext w0 w1) hr => rowsPut (w := w0) (w1 := w1) (ao := ao1) (n := n) (cap := cap1) (h.ext hw) hst hk hr hn (by omega) hLL)
 have H := Lib.hid h
 have HN := Lib.hid hn
 clear h hst hx ho hcs hn
 obtain ⟨m, em⟩ : ∃ m, m = LL.length := ⟨_, rfl⟩
 rw [<- em] at HLN hLL
 have EM := Lib.hid em; clear em hLL
 by_cases h1 : n = arity
 ·have q1 : ((n : Int) != (arity : Int)) = false := by simp [h1]
  have H1 := Lib.hid h1; clear h1
  cases ht : textsC ss with
  | false =>
   have HTX := Lib.hid ht
   rw [ht] at HT; clear ht
   go_enter Tryz.func88, Tryz.ntmps88
   go_wp2_with fail
   refine HT.out.mono ?_
   rintro e w1 ⟨v, rfl, hk, rfl⟩
   have HK := Lib.hid hk; clear hk
   go_wp2
   go_ret2
   have e0 : rowsAddR arity LL ss = (false, 31) := by unfold rowsAddR; rw [if_neg (by rw [<- HN.out, H1.out]; simp), if_pos HTX.out]
   exact RetF.mk (Ext.kp HK.out) (RowsAdded.same H.out HK.out (by rw [e0]; rfl) (by unfold rowsAddL; rw [e0]; rfl))
  | true =>
   have HTX := Lib.hid ht
   rw [ht] at HT; clear ht
   by_cases hf : 65536 ≤ m
   ·have q2 : decide ((65536 : Int) ≤ (m : Int)) = true := by rw [decide_eq_true_iff]; omega
    have HF := Lib.hid hf; clear hf
    cases hi : isIn cmpRow LL ss with
    | false =>
     have HI := Lib.hid hi
     rw [hi] at HH; clear hi
     go_enter Tryz.func88, Tryz.ntmps88
     go_wp2_with fail
     refine HT.out.mono ?_
     rintro e w0 ⟨v, rfl, hk0, rfl⟩
     go_wp2_with fail
     refine (HLN.out w0 hk0).mono ?_
     rintro e w' ⟨rfl, rfl⟩
     go_wp2_with fail
     refine (HH.out w0 hk0).mono ?_
     rintro e w1 ⟨v, rfl, hk01, rfl⟩
     have hk1 := hk0.trans hk01
     clear hk0 hk01
     have HK := Lib.hid hk1; clear hk1
     go_wp2
     go_ret2
     have e0 : rowsAddR arity LL ss = (false, 4) := by unfold rowsAddR; rw [if_neg (by rw [<- HN.out, H1.out]; simp), if_neg (by rw [HTX.out]; simp), if_pos ⟨EM.out ▸ HF.out, HI.out⟩]
     exact RetF.mk (Ext.kp HK.out) (RowsAdded.same H.out HK.out (by rw [e0]; rfl) (by unfold rowsAddL; rw [e0]; rfl))
    | true =>
     have HI := Lib.hid hi
     rw [hi] at HH; clear hi
     go_enter Tryz.func88, Tryz.ntmps88
     go_wp2_with fail
     refine HT.out.mono ?_
     rintro e w0 ⟨v, rfl, hk0, rfl⟩
     go_wp2_with fail
     refine (HLN.out w0 hk0).mono ?_
     rintro e w' ⟨rfl, rfl⟩
     go_wp2_with fail
     refine (HH.out w0 hk0).mono ?_
     rintro e w1 ⟨v, rfl, hk01, rfl⟩
     have hk1 := hk0.trans hk01
     clear hk0 hk01
     go_wp2_with fail
     refine (HS.out w1 hk1).mono ?_
     rintro e w' ⟨rfl, rfl⟩
     go_wp2_with fail
     refine (HCL.out w1 hk1).mono ?_
     rintro e w2 ⟨v, rfl, hk2, hr2⟩
     obtain ⟨ao2, cap2, ev, _, _⟩ := hr2.shape
     subst ev
     go_wp2_with fail
     refine (HP.out w1 w2 ao2 cap2 hk1 hk2 hr2).mono ?_
     rintro e w3 ⟨v, rfl, hk3, rfl, iv', hrows, hiv⟩
     have HR := Lib.hid (And.intro hk3 (And.intro hrows hiv))
     have hb2 := hr2.block
     clear hk3 hrows hiv hr2
     go_wp2
     go_ret2
     have e0 : rowsAddR arity LL ss = (!isIn cmpRow LL ss, 0) := by unfold rowsAddR; rw [if_neg (by rw [<- HN.out, H1.out]; simp), if_neg (by rw [HTX.out]; simp), if_neg (fun h => by rw [HI.out] at h; cases h.2)]
     have z1 := hk1.size
     have z2 := hk2.size
     refine RetF.mk ((Ext.kp (hk1.trans hk2)).trans HR.out.1) ⟨by rw [e0]; rfl, poolOf S (ao2, n, cap2), iv', fun k h => .inl h, fun k h => ?_, by unfold rowsAddL; rw [e0]; exact HR.out.2.1, fun k h => (HR.out.2.2 k h).imp id (fun h => by omega)⟩
     rcases h with h | ⟨a, e, _, rfl⟩
     ·exact .inl h
     ·have e' : ao2 = some a := e
      subst e'
      have := hb2 a.block rfl
      exact .inr (Nat.le_trans z1 this)
   ·have q2 : decide ((65536 : Int) ≤ (m : Int)) = false := by rw [decide_eq_false_iff_not]; omega
    have HF := Lib.hid hf; clear hf
    go_enter Tryz.func88, Tryz.ntmps88
    go_wp2_with fail
    refine HT.out.mono ?_
    rintro e w1 ⟨v, rfl, hk1, rfl⟩
    go_wp2_with fail
    refine (HLN.out w1 hk1).mono ?_
    rintro e w' ⟨rfl, rfl⟩
    go_wp2_with fail
    refine (HS.out w1 hk1).mono ?_
    rintro e w' ⟨rfl, rfl⟩
    go_wp2_with fail
    refine (HCL.out w1 hk1).mono ?_
    rintro e w2 ⟨v, rfl, hk2, hr2⟩
    obtain ⟨ao2, cap2, ev, _, _⟩ := hr2.shape
    subst ev
    go_wp2_with fail
    refine (HP.out w1 w2 ao2 cap2 hk1 hk2 hr2).mono ?_
    rintro e w3 ⟨v, rfl, hk3, rfl, iv', hrows, hiv⟩
    have HR := Lib.hid (And.intro hk3 (And.intro hrows hiv))
    have hb2 := hr2.block
    clear hk3 hrows hiv hr2
    go_wp2
    go_ret2
    have e0 : rowsAddR arity LL ss = (!isIn cmpRow LL ss, 0) := by unfold rowsAddR; rw [if_neg (by rw [<- HN.out, H1.out]; simp), if_neg (by rw [HTX.out]; simp), if_neg (fun h => HF.out (EM.out ▸ h.1))]
    have z1 := hk1.size
    have z2 := hk2.size
    refine RetF.mk ((Ext.kp (hk1.trans hk2)).trans HR.out.1) ⟨by rw [e0]; rfl, poolOf S (ao2, n, cap2), iv', fun k h => .inl h, fun k h => ?_, by unfold rowsAddL; rw [e0]; exact HR.out.2.1, fun k h => (HR.out.2.2 k h).imp id (fun h => by omega)⟩
    rcases h with h | ⟨a, e, _, rfl⟩
    ·exact .inl h
    ·have e' : ao2 = some a := e
     subst e'
     have := hb2 a.block rfl
     exact .inr (Nat.le_trans z1 this)
 ·have q1 : ((n : Int) != (arity : Int)) = true := by rw [bne_iff_ne]; omega
  have H1 := Lib.hid h1; clear h1
  go_enter Tryz.func88, Tryz.ntmps88
  go_wp2
  go_ret2
  have e0 : rowsAddR arity LL ss = (false, 30) := by unfold rowsAddR; rw [if_pos (by rw [<- HN.out]; exact H1.out)]
  exact RetF.mk (Kp.refl _) (RowsAdded.same H.out (Kp.refl _) (by rw [e0]; rfl) (by unfold rowsAddL; rw [e0]; rfl))
end
end Go.Proofs.YtinnmeiphbdogaaGreat

/- Bases in plain Lean: names, each with its rows: what is declared, what is added, what relations make. No program in sight. -/
namespace Go.Proofs.YtinnmeiphbdogaaGreat
set_option linter.unusedVariables false
abbrev CntZ := ByteArray × Nat × List (List ByteArray)
abbrev RelZ := ByteArray × Int × List (List ByteArray) × Unit
abbrev Rows2 := List (List ByteArray)
theorem cmpRow_ord : OrdLaw cmpRow := cmpRow_law id
theorem cmpRow_tight : Tight cmpRow := fun _ _ h => cmpRow_zero h
def getC (C : List CntZ) (s : ByteArray) : Option (Nat × Rows2) := (C.find? fun p => decide (p.1 = s)).map (·.2)
def setC (C : List CntZ) (s : ByteArray) (v : Nat × Rows2) : List CntZ := if (getC C s).isSome then C.map fun p => if p.1 = s then (p.1, v) else p else C ++ [(s, v)]
def totalC (C : List CntZ) : Nat := (C.map fun p => p.2.2.length).sum
def namedC (s : ByteArray) : Bool := decide (1 ≤ s.size /\ s.size ≤ 4096)
def declR (C : List CntZ) (s : ByteArray) (a : Int) : Nat := if namedC s = false then 32 else if a < 0 \/ 64 < a then 2 else match getC C s with | some v => if (v.1 : Int) = a then 0 else 30 | none => 0
def declC (C : List CntZ) (s : ByteArray) (a : Int) : List CntZ := if declR C s a = 0 /\ getC C s = none then C ++ [(s, a.toNat, [])] else C
def rowsC (C : List CntZ) (s : ByteArray) : Rows2 := match getC C s with | some v => v.2 | none => []
def arOk (C : List CntZ) (s : ByteArray) (row : List ByteArray) : Bool := match getC C s with | some v => decide (v.1 = row.length) | none => decide (row.length ≤ 64)
def addR (C : List CntZ) (s : ByteArray) (row : List ByteArray) : Bool × Nat :=
 if namedC s = false then (false, 32) else
 if arOk C s row = false then (false, 30) else
 if textsC row = false then (false, 31) else
 if 262144 ≤ totalC C /\ isIn cmpRow (rowsC C s) row = false then (false, 4) else
 if 65536 ≤ (rowsC C s).length /\ isIn cmpRow (rowsC C s) row = false then (false, 4) else (!isIn cmpRow (rowsC C s) row, 0)
def addC (C : List CntZ) (s : ByteArray) (row : List ByteArray) : List CntZ := if (addR C s row).2 = 0 then setC C s (row.length, addS cmpRow (rowsC C s) row) else C
def addAll (C : List CntZ) (s : ByteArray) : Rows2 -> List CntZ × Nat
 | [] => (C, 0)
 | r :: rs => if (addR C s r).2 = 0 then addAll (addC C s r) s rs else (C, (addR C s r).2)
def fromC (C : List CntZ) : List RelZ -> List CntZ × Nat
 | [] => (C, 0)
 | r :: rs => if declR C r.1 r.2.1 = 0 then (if (addAll (declC C r.1 r.2.1) r.1 r.2.2.1).2 = 0 then fromC (addAll (declC C r.1 r.2.1) r.1 r.2.2.1).1 rs else addAll (declC C r.1 r.2.1) r.1 r.2.2.1) else (C, declR C r.1 r.2.1)
structure CntOk (p : CntZ) : Prop where
 name : namedC p.1 = true
 ar : p.2.1 ≤ 64
 strict : Strict cmpRow p.2.2
 len : ∀ r ∈ p.2.2, r.length = p.2.1
 txt : ∀ r ∈ p.2.2, textsC r = true
 few : p.2.2.length ≤ 65536
structure BaseOk (C : List CntZ) : Prop where
 nodup : (C.map (·.1)).Nodup
 all : ∀ p ∈ C, CntOk p
 few : totalC C ≤ 262144
theorem getC_mem {C : List CntZ} (h : (C.map (·.1)).Nodup) {s : ByteArray} {v : Nat × Rows2} : getC C s = some v ↔ (s, v) ∈ C := by
 unfold getC
 induction C with
 | nil => simp
 | cons p C ih =>
  rw [List.map_cons, List.nodup_cons] at h
  by_cases e : p.1 = s
  ·rw [List.find?_cons_of_pos (by simp [e])]
   subst e
   simp only [Option.map_some, Option.some.injEq, List.mem_cons]
   constructor
   ·rintro rfl; exact .inl rfl
   ·rintro (h1 | h1)
    ·rw [<- h1]
    ·exact absurd (List.mem_map.2 ⟨_, h1, rfl⟩) h.1
  ·rw [List.find?_cons_of_neg (by simp [e]), ih h.2, List.mem_cons]
   constructor
   ·exact .inr
   ·rintro (h1 | h1)
    ·exact absurd (by rw [<- h1]) e
    ·exact h1
theorem getC_none {C : List CntZ} {s : ByteArray} : getC C s = none ↔ s ∉ C.map (·.1) := by
 unfold getC
 rw [Option.map_eq_none_iff, List.find?_eq_none]
 constructor
 ·intro h hm
  obtain ⟨p, hp, rfl⟩ := List.mem_map.1 hm
  exact h p hp (by simp)
 ·intro h p hp hd
  exact h (List.mem_map.2 ⟨p, hp, by simpa using hd⟩)
theorem set_names {C : List CntZ} {s : ByteArray} {v : Nat × Rows2} : (setC C s v).map (·.1) = if (getC C s).isSome then C.map (·.1) else C.map (·.1) ++ [s] := by
 unfold setC
 split
 ·rw [List.map_map]
  apply List.map_congr_left
  intro p _
  simp only [Function.comp]; split <;> rfl
 ·simp
theorem nodup_set {C : List CntZ} (h : (C.map (·.1)).Nodup) (s : ByteArray) (v : Nat × Rows2) : ((setC C s v).map (·.1)).Nodup := by
 rw [set_names]
 split
 ·exact h
 ·rename_i hn
  have h0 : getC C s = none := by
   cases hg : getC C s with
   | none => rfl
   | some u => rw [hg] at hn; simp at hn
  exact List.nodup_append.2 ⟨h, by simp, fun a ha b hb e => getC_none.1 h0 (by rw [List.mem_singleton] at hb; rw [<- hb, <- e]; exact ha)⟩
theorem mem_set {C : List CntZ} {s : ByteArray} {v : Nat × Rows2} {p : CntZ} (h : p ∈ setC C s v) : p = (s, v) \/ p ∈ C := by
 unfold setC at h
 split at h
 ·obtain ⟨q, hq, e⟩ := List.mem_map.1 h
  split at e
  ·rename_i e2; left; rw [<- e, e2]
  ·right; rw [<- e]; exact hq
 ·rcases List.mem_append.1 h with h | h
  ·exact .inr h
  ·left; simpa using h
theorem rows_none {C : List CntZ} {s : ByteArray} (h : getC C s = none) : rowsC C s = [] := by unfold rowsC; rw [h]
theorem rows_some {C : List CntZ} {s : ByteArray} {v : Nat × Rows2} (h : getC C s = some v) : rowsC C s = v.2 := by unfold rowsC; rw [h]
theorem addR_ok {C : List CntZ} {s : ByteArray} {row : List ByteArray} (h : (addR C s row).2 = 0) : namedC s = true /\ arOk C s row = true := by
 unfold addR at h
 split at h
 ·cases h
 ·rename_i h1
  split at h
  ·cases h
  ·rename_i h2
   exact ⟨by simpa using h1, by simpa using h2⟩
theorem addR_texts {C : List CntZ} {s : ByteArray} {row : List ByteArray} (h : (addR C s row).2 = 0) : textsC row = true /\ (262144 ≤ totalC C -> isIn cmpRow (rowsC C s) row = true) /\ (65536 ≤ (rowsC C s).length -> isIn cmpRow (rowsC C s) row = true) := by
 unfold addR at h
 split at h
 ·cases h
 ·split at h
  ·cases h
  ·split at h
   ·cases h
   ·rename_i h3
    split at h
    ·cases h
    ·rename_i h4
     split at h
     ·cases h
     ·rename_i h5
      refine ⟨by simpa using h3, fun h6 => ?_, fun h6 => ?_⟩
      ·cases hi : isIn cmpRow (rowsC C s) row with
       | true => rfl
       | false => exact absurd ⟨h6, hi⟩ h4
      ·cases hi : isIn cmpRow (rowsC C s) row with
       | true => rfl
       | false => exact absurd ⟨h6, hi⟩ h5
theorem rows_strict {C : List CntZ} (h : BaseOk C) (s : ByteArray) : Strict cmpRow (rowsC C s) := by
 cases hg : getC C s with
 | none => rw [rows_none hg]; exact strict_nil
 | some v => rw [rows_some hg]; exact (h.all _ ((getC_mem h.nodup).1 hg)).strict
theorem total_set {C : List CntZ} (hn : (C.map (·.1)).Nodup) {s : ByteArray} {v : Nat × Rows2} : totalC (setC C s v) + (rowsC C s).length = totalC C + v.2.length := by
 unfold setC
 cases hg : getC C s with
 | none => rw [if_neg (by simp), rows_none hg]; simp [totalC]
 | some u =>
  rw [if_pos (by simp), rows_some hg]
  have hm : ∀ (D : List CntZ), (D.map (·.1)).Nodup -> (s, u) ∈ D -> totalC (D.map fun p => if p.1 = s then (p.1, v) else p) + u.2.length = totalC D + v.2.length := by
   intro D
   induction D with
   | nil => intro _ h; cases h
   | cons p D ih =>
    intro hnd hin
    rw [List.map_cons, List.nodup_cons] at hnd
    simp only [totalC, List.map_cons, List.sum_cons] at ih ⊢
    by_cases e : p.1 = s
    ·have hp : p = (s, u) := by
      rcases List.mem_cons.1 hin with h | h
      ·exact h.symm
      ·exact absurd (List.mem_map.2 ⟨_, h, rfl⟩) (by rw [<- e] at h ⊢; exact hnd.1)
     have hid : (D.map fun q : CntZ => if q.1 = s then (q.1, v) else q) = D := by
      conv => rhs; rw [<- List.map_id D]
      apply List.map_congr_left
      intro q hq
      have : ¬ q.1 = s := fun e2 => hnd.1 (List.mem_map.2 ⟨q, hq, by rw [e2, e]⟩)
      rw [if_neg this]; rfl
     rw [hid, if_pos e, hp]; dsimp only; omega
    ·have h1 : (s, u) ∈ D := by
      rcases List.mem_cons.1 hin with h | h
      ·exact absurd (by rw [<- h]) e
      ·exact h
     have := ih hnd.2 h1
     rw [if_neg e]; omega
  exact hm C hn ((getC_mem hn).1 hg)
theorem ok_decl {C : List CntZ} (h : BaseOk C) (s : ByteArray) (a : Int) : BaseOk (declC C s a) := by
 unfold declC
 split
 ·rename_i hc
  obtain ⟨h1, h2⟩ := hc
  have hn : namedC s = true /\ 0 ≤ a /\ a ≤ 64 := by
   unfold declR at h1
   split at h1
   ·cases h1
   ·rename_i e1
    split at h1
    ·cases h1
    ·rename_i e2
     exact ⟨by simpa using e1, by omega, by omega⟩
  refine ⟨?_, fun p hp => ?_, ?_⟩
  ·rw [List.map_append]
   exact List.nodup_append.2 ⟨h.nodup, by simp, fun x hx y hy e => getC_none.1 h2 (by
    have : y = s := by simpa using hy
    rw [<- this, <- e]; exact hx)⟩
  ·rcases List.mem_append.1 hp with hp | hp
   ·exact h.all p hp
   ·have e : p = (s, a.toNat, []) := by simpa using hp
    subst e
    exact ⟨hn.1, show a.toNat ≤ 64 by omega, strict_nil, fun r hr => (by cases hr), fun r hr => (by cases hr), Nat.zero_le _⟩
  ·have e : totalC (C ++ [(s, a.toNat, [])]) = totalC C := by simp [totalC]
   rw [e]; exact h.few
 ·exact h
theorem ok_add {C : List CntZ} (h : BaseOk C) (s : ByteArray) (row : List ByteArray) : BaseOk (addC C s row) := by
 unfold addC
 split
 ·rename_i h0
  obtain ⟨t1, t2, t3⟩ := addR_texts h0
  obtain ⟨n1, n4⟩ := addR_ok h0
  have n2 : ∀ v, getC C s = some v -> v.1 = row.length := fun v hv => by
   unfold arOk at n4; rw [hv] at n4; exact of_decide_eq_true n4
  have n3 : row.length ≤ 64 := by
   cases hg : getC C s with
   | none => unfold arOk at n4; rw [hg] at n4; exact of_decide_eq_true n4
   | some v =>
    have h1 : v.1 ≤ 64 := (h.all _ ((getC_mem h.nodup).1 hg)).ar
    have := n2 v hg
    omega
  ·have hst := rows_strict h s
   have hlen : ∀ r ∈ rowsC C s, r.length = row.length /\ textsC r = true := fun r hr => by
    cases hg : getC C s with
    | none => rw [rows_none hg] at hr; cases hr
    | some v =>
     rw [rows_some hg] at hr
     have hp := h.all _ ((getC_mem h.nodup).1 hg)
     exact ⟨(hp.len r hr).trans (n2 v hg), hp.txt r hr⟩
   have hfew : (rowsC C s).length ≤ 65536 := by
    cases hg : getC C s with
    | none => rw [rows_none hg]; exact Nat.zero_le _
    | some v => rw [rows_some hg]; exact (h.all _ ((getC_mem h.nodup).1 hg)).few
   have hl := addS_len (c := cmpRow) (rowsC C s) row
   refine ⟨nodup_set h.nodup _ _, fun p hp => ?_, ?_⟩
   ·rcases mem_set hp with rfl | hp
    ·refine ⟨n1, n3, hst.add cmpRow_ord row, fun r hr => ?_, fun r hr => ?_, ?_⟩
     ·rcases (mem_addS (c := cmpRow)).1 hr with hr | ⟨rfl, _⟩
      ·exact (hlen r hr).1
      ·rfl
     ·rcases (mem_addS (c := cmpRow)).1 hr with hr | ⟨rfl, _⟩
      ·exact (hlen r hr).2
      ·exact t1
     ·show (addS cmpRow (rowsC C s) row).length ≤ 65536
      rw [hl]
      split
      ·omega
      ·rename_i hi
       have : ¬ 65536 ≤ (rowsC C s).length := fun k => hi (t3 k)
       omega
    ·exact h.all p hp
   ·have := total_set h.nodup (s := s) (v := (row.length, addS cmpRow (rowsC C s) row))
    have hf := h.few
    rw [hl] at this
    split at this
    ·omega
    ·rename_i hi
     have : ¬ 262144 ≤ totalC C := fun k => hi (t2 k)
     omega
 ·exact h
structure InC (C D : List CntZ) : Prop where
 ar : ∀ s v, getC C s = some v -> ∃ LL, getC D s = some (v.1, LL)
 rows : ∀ s r, r ∈ rowsC C s -> r ∈ rowsC D s
end Go.Proofs.YtinnmeiphbdogaaGreat

/- Tries as levels of starts: plain. -/
namespace Go.Proofs.YtinnmeiphbdogaaGreat
set_option linter.unusedVariables false
def partsW (W : Rows2) (i n : Nat) : Bool := n == 0 || decide ((W.getD (n - 1) []).take i ≠ (W.getD n []).take i)
def startsW (W : Rows2) (d i n : Nat) : List Nat := if i < d then (List.range n).filter fun k => partsW W (i + 1) k else List.range n
theorem starts_succ (W : Rows2) {d i n : Nat} (hi : i < d) : startsW W d i (n + 1) = startsW W d i n ++ if partsW W (i + 1) n then [n] else [] := by
 unfold startsW
 rw [if_pos hi, if_pos hi, List.range_succ, List.filter_append]
 congr 1
 simp only [List.filter_cons, List.filter_nil]
theorem starts_last (W : Rows2) {d i n : Nat} (hi : ¬ i < d) : startsW W d i n = List.range n := if_neg hi
theorem starts_len (W : Rows2) (d i n : Nat) : (startsW W d i n).length ≤ n := by
 unfold startsW
 split
 ·exact Nat.le_trans (List.length_filter_le _ _) (by rw [List.length_range]; exact Nat.le_refl _)
 ·rw [List.length_range]; exact Nat.le_refl _
def keysW (W : Rows2) (d i n : Nat) : List ByteArray := (startsW W d i n).map fun k => (W.getD k []).getD i ByteArray.empty
def widthW (W : Rows2) (d i n : Nat) : Nat := (startsW W d i n).length
def fromW (W : Rows2) (d i n : Nat) : List Int := (startsW W d i n).map fun k => (widthW W d (i + 1) k : Int)
theorem keys_len (W : Rows2) (d i n : Nat) : (keysW W d i n).length = widthW W d i n := by unfold keysW widthW; rw [List.length_map]
theorem from_len (W : Rows2) (d i n : Nat) : (fromW W d i n).length = widthW W d i n := by unfold fromW widthW; rw [List.length_map]
theorem parts_first (W : Rows2) (i : Nat) : partsW W i 0 = true := rfl
theorem parts_iff {W : Rows2} {i n : Nat} : partsW W i n = true ↔ n = 0 \/ (W.getD (n - 1) []).take i ≠ (W.getD n []).take i := by
 unfold partsW
 rw [Bool.or_eq_true, decide_eq_true_iff, beq_iff_eq]
theorem getD_some {α : Type} {l : List α} {i : Nat} {x d : α} (h : l[i]? = some x) : l.getD i d = x := by rw [List.getD_eq_getElem?_getD, h]; rfl
theorem parts_next {W : Rows2} {i n : Nat} {x y : List ByteArray} (hn : 0 < n) (hx : W[n - 1]? = some x) (hy : W[n]? = some y) (h1 : i < x.length) (h2 : i < y.length) : partsW W (i + 1) n = (partsW W i n || decide (x[i] ≠ y[i])) := by
 rw [Bool.eq_iff_iff, Bool.or_eq_true, decide_eq_true_iff, parts_iff, parts_iff, getD_some hx, getD_some hy]
 have ex : x.take (i + 1) = x.take i ++ [x[i]] := by rw [List.take_add_one, List.getElem?_eq_getElem h1]; rfl
 have ey : y.take (i + 1) = y.take i ++ [y[i]] := by rw [List.take_add_one, List.getElem?_eq_getElem h2]; rfl
 rw [ex, ey]
 have hl : (x.take i).length = (y.take i).length := by rw [List.length_take, List.length_take]; omega
 refine ⟨fun h => ?_, fun h => .inr fun e => ?_⟩
 ·by_cases h3 : x.take i = y.take i
  ·refine .inr fun h4 => ?_
   rcases h with h | h
   ·omega
   ·exact h (by rw [h3, h4])
  ·exact .inl (.inr h3)
 ·obtain ⟨e1, e2⟩ := List.append_inj e hl
  rcases h with (h | h) | h
  ·omega
  ·exact h e1
  ·exact h (by simpa using e2)
structure WaysOk (W : Rows2) (d : Nat) : Prop where
 len : ∀ r ∈ W, r.length = d
 rise : Strict cmpRow W
theorem cmpRow_take : ∀ (j : Nat) {x y : List ByteArray}, x.length = y.length -> cmpRow x y ≤ 0 -> cmpRow (x.take j) (y.take j) ≤ 0
 | 0, _, _, _, _ => by simp [cmpRow]
 | j + 1, [], [], _, _ => by simp [cmpRow]
 | j + 1, [], _ :: _, h, _ => by simp at h
 | j + 1, _ :: _, [], h, _ => by simp at h
 | j + 1, a :: x, b :: y, hl, h => by
  simp only [List.take_succ_cons]
  unfold cmpRow at h ⊢
  split at h
  ·rename_i h1
   rw [if_pos h1]; exact h
  ·rename_i h1
   rw [if_neg h1]
   exact cmpRow_take j (by simpa using hl) h
theorem cmpRow_snoc : ∀ (q : List ByteArray) (a b : ByteArray), cmpRow (q ++ [a]) (q ++ [b]) = cmpB a.toList b.toList
 | [], a, b => by
  show (if cmpB a.toList b.toList ≠ 0 then cmpB a.toList b.toList else cmpRow [] []) = _
  split
  ·rfl
  ·rename_i h
   have : cmpB a.toList b.toList = 0 := Classical.not_not.1 h
   rw [this]; rfl
 | c :: q, a, b => by
  show (if cmpB c.toList c.toList ≠ 0 then cmpB c.toList c.toList else cmpRow (q ++ [a]) (q ++ [b])) = _
  rw [if_neg (by rw [cmpB_self]; simp)]
  exact cmpRow_snoc q a b
theorem WaysOk.le {W : Rows2} {d : Nat} (h : WaysOk W d) {m n : Nat} {x y : List ByteArray} (hx : W[m]? = some x) (hy : W[n]? = some y) (hmn : m ≤ n) : cmpRow x y ≤ 0 := by
 rcases Nat.lt_or_eq_of_le hmn with h1 | h1
 ·obtain ⟨l1, e1⟩ := List.getElem?_eq_some_iff.1 hx
  obtain ⟨l2, e2⟩ := List.getElem?_eq_some_iff.1 hy
  have := List.pairwise_iff_getElem.1 h.rise m n l1 l2 h1
  rw [e1, e2] at this; omega
 ·subst h1
  rw [hx] at hy; cases hy
  rw [cmpRow_self]; omega
theorem WaysOk.between {W : Rows2} {d : Nat} (h : WaysOk W d) {m k n j : Nat} {x y z : List ByteArray} (hx : W[m]? = some x) (hy : W[k]? = some y) (hz : W[n]? = some z) (h1 : m ≤ k) (h2 : k ≤ n) (he : x.take j = z.take j) : y.take j = x.take j := by
 have lx := h.len x (List.mem_of_getElem? hx)
 have ly := h.len y (List.mem_of_getElem? hy)
 have lz := h.len z (List.mem_of_getElem? hz)
 have a1 := cmpRow_take j (lx.trans ly.symm) (h.le hx hy h1)
 have a2 := cmpRow_take j (ly.trans lz.symm) (h.le hy hz h2)
 rw [<- he] at a2
 have a3 := cmpRow_swap (x.take j) (y.take j)
 exact (cmpRow_zero (xs := x.take j) (ys := y.take j) (by omega)).symm
structure Iv (W : Rows2) (q : List ByteArray) (lo hi : Nat) : Prop where
 le : lo < hi
 few : hi ≤ W.length
 iff : ∀ n x, W[n]? = some x -> (x.take q.length = q ↔ lo ≤ n /\ n < hi)
theorem starts_mem {W : Rows2} {d i n k : Nat} (hi : i < d) : k ∈ startsW W d i n ↔ k < n /\ partsW W (i + 1) k = true := by
 unfold startsW
 rw [if_pos hi, List.mem_filter, List.mem_range]
theorem starts_rise (W : Rows2) (d i n : Nat) : (startsW W d i n).Pairwise (· < ·) := by
 unfold startsW
 split
 ·exact List.Pairwise.filter _ List.pairwise_lt_range
 ·exact List.pairwise_lt_range
theorem starts_take (W : Rows2) (d i : Nat) {m n : Nat} (h : m ≤ n) : ∃ r, startsW W d i n = startsW W d i m ++ r /\ ∀ k ∈ r, m ≤ k := by
 induction n with
 | zero => exact ⟨[], by rw [show m = 0 by omega]; simp, by simp⟩
 | succ n ih =>
  by_cases e : m = n + 1
  ·subst e; exact ⟨[], by simp, by simp⟩
  ·obtain ⟨r, h1, h2⟩ := ih (by omega)
   by_cases hi : i < d
   ·rw [starts_succ W hi, h1]
    refine ⟨r ++ (if partsW W (i + 1) n then [n] else []), by rw [List.append_assoc], fun k hk => ?_⟩
    rcases List.mem_append.1 hk with hk | hk
    ·exact h2 k hk
    ·split at hk
     ·rw [List.mem_singleton] at hk; omega
     ·simp at hk
   ·rw [starts_last W hi] at h1 ⊢
    rw [starts_last W hi] at *
    rw [List.range_succ, h1]
    refine ⟨r ++ [n], by rw [List.append_assoc], fun k hk => ?_⟩
    rcases List.mem_append.1 hk with hk | hk
    ·exact h2 k hk
    ·rw [List.mem_singleton] at hk; omega
theorem starts_width {W : Rows2} {d i n k s : Nat} (h : (startsW W d i n)[k]? = some s) : widthW W d i s = k /\ s < n := by
 have hk := (List.getElem?_eq_some_iff.1 h).1
 have hs : s < n := by
  have hm := List.mem_of_getElem? h
  unfold startsW at hm
  split at hm
  ·exact List.mem_range.1 (List.mem_filter.1 hm).1
  ·exact List.mem_range.1 hm
 obtain ⟨r, h1, h2⟩ := starts_take W d i (Nat.le_of_lt hs)
 refine ⟨?_, hs⟩
 unfold widthW
 have hp := starts_rise W d i n
 rcases Nat.lt_trichotomy (startsW W d i s).length k with h3 | h3 | h3
 ·-- the element at the border is s or above, yet below s
  have hl : (startsW W d i s).length < (startsW W d i n).length := by omega
  have h4 := List.pairwise_iff_getElem.1 hp _ k hl hk h3
  rw [(List.getElem?_eq_some_iff.1 h).2] at h4
  have h5 : (startsW W d i n)[(startsW W d i s).length]'hl ∈ r := by
   have : (startsW W d i n)[(startsW W d i s).length]? = r[0]? := by rw [h1, List.getElem?_append_right (Nat.le_refl _), Nat.sub_self]
   rw [List.getElem?_eq_getElem hl] at this
   exact List.mem_of_getElem? this.symm
  have := h2 _ h5
  omega
 ·exact h3
 ·rw [h1, List.getElem?_append_left h3] at h
  have hm := List.mem_of_getElem? h
  have : s < s := by
   unfold startsW at hm
   split at hm
   ·exact List.mem_range.1 (List.mem_filter.1 hm).1
   ·exact List.mem_range.1 hm
  omega
end Go.Proofs.YtinnmeiphbdogaaGreat

/- Bindings, found variable by variable: plain. -/
namespace Go.Proofs.YtinnmeiphbdogaaGreat
set_option linter.unusedVariables false
section
variable {Sol : List ByteArray -> Prop} {v : Nat} {p : List ByteArray}
structure AllB (Sol : List ByteArray -> Prop) (p : List ByteArray) (L : Rows2) : Prop where
 rise : Strict cmpRow L
 iff : ∀ V, V ∈ L ↔ Sol V /\ V.take p.length = p
structure PartB (Sol : List ByteArray -> Prop) (p : List ByteArray) (D : ByteArray -> Prop) (L : Rows2) : Prop where
 rise : Strict cmpRow L
 iff : ∀ V, V ∈ L ↔ Sol V /\ V.take p.length = p /\ ∃ x, V[p.length]? = some x /\ D x
theorem AllB.none (h : ∀ V, Sol V -> V.take p.length = p -> False) : AllB Sol p [] :=
 ⟨strict_nil, fun V => ⟨fun h => by simp at h, fun h1 => (h V h1.1 h1.2).elim⟩⟩
theorem AllB.one (hs : Sol p) (hl : ∀ V, Sol V -> V.length = p.length) : AllB Sol p [p] :=
 ⟨List.pairwise_singleton _ _, fun V => ⟨fun h => by
  rw [List.mem_singleton] at h; subst h
  exact ⟨hs, List.take_length⟩, fun ⟨h1, h2⟩ => by
  rw [List.mem_singleton, <- h2, List.take_of_length_le (Nat.le_of_eq (hl V h1))]⟩⟩
theorem AllB.unique {L L' : Rows2} (h : AllB Sol p L) (h' : AllB Sol p L') : L = L' := Strict.unique cmpRow_ord h.rise h'.rise fun V => (h.iff V).trans (h'.iff V).symm
theorem PartB.none {D : ByteArray -> Prop} (h : ∀ V, Sol V -> V.take p.length = p -> ∀ x, V[p.length]? = some x -> ¬ D x) : PartB Sol p D [] :=
 ⟨strict_nil, fun V => ⟨fun h => by simp at h, fun ⟨h1, h2, x, h3, h4⟩ => (h V h1 h2 x h3 h4).elim⟩⟩
theorem PartB.all {D : ByteArray -> Prop} {L : Rows2} (h : PartB Sol p D L) (hd : ∀ V, Sol V -> V.take p.length = p -> ∃ x, V[p.length]? = some x /\ D x) : AllB Sol p L :=
 ⟨h.rise, fun V => (h.iff V).trans ⟨fun ⟨h1, h2, _⟩ => ⟨h1, h2⟩, fun ⟨h1, h2⟩ => ⟨h1, h2, hd V h1 h2⟩⟩⟩
theorem cmpRow_part : ∀ (q : List ByteArray) (a b : ByteArray) (r s : List ByteArray), cmpB a.toList b.toList < 0 -> cmpRow (q ++ a :: r) (q ++ b :: s) < 0
 | [], a, b, r, s, h => by
  show (if cmpB a.toList b.toList ≠ 0 then cmpB a.toList b.toList else cmpRow r s) < 0
  rw [if_pos (by omega)]; exact h
 | c :: q, a, b, r, s, h => by
  show (if cmpB c.toList c.toList ≠ 0 then cmpB c.toList c.toList else cmpRow (q ++ a :: r) (q ++ b :: s)) < 0
  rw [if_neg (by rw [cmpB_self]; simp)]
  exact cmpRow_part q a b r s h
theorem split_at {V q : List ByteArray} {x : ByteArray} (h : V.take q.length = q) (hx : V[q.length]? = some x) : ∃ r, V = q ++ x :: r := by
 refine ⟨V.drop (q.length + 1), ?_⟩
 have hl := (List.getElem?_eq_some_iff.1 hx)
 conv => lhs; rw [<- List.take_append_drop q.length V, h, List.drop_eq_getElem_cons hl.1, hl.2]
theorem PartB.next {D : ByteArray -> Prop} {L L' : Rows2} {x : ByteArray} (h : PartB Sol p D L) (h' : AllB Sol (p ++ [x]) L') (hx : ∀ V, Sol V -> V.take p.length = p -> ∀ y, V[p.length]? = some y -> D y -> cmpB y.toList x.toList < 0) : PartB Sol p (fun y => D y \/ y = x) (L ++ L') := by
 have key : ∀ V, V ∈ L' ↔ Sol V /\ V.take p.length = p /\ V[p.length]? = some x := fun V => by
  rw [h'.iff V, List.length_append, List.length_singleton]
  refine ⟨fun ⟨h1, h2⟩ => ?_, fun ⟨h1, h2, h3⟩ => ⟨h1, by rw [List.take_add_one, h2, h3]; rfl⟩⟩
  have h3 : V.take p.length = p := by
   have := congrArg (List.take p.length) h2
   rw [List.take_take, List.take_left, show min p.length (p.length + 1) = p.length by omega] at this
   exact this
  refine ⟨h1, h3, ?_⟩
  rw [List.take_add_one, h3] at h2
  have h4 := (List.append_right_inj p).1 h2
  cases h5 : V[p.length]? with
  | none => rw [h5] at h4; simp at h4
  | some y => rw [h5] at h4; simpa using h4
 refine ⟨List.pairwise_append.2 ⟨h.rise, h'.rise, fun a ha b hb => ?_⟩, fun V => ?_⟩
 ·obtain ⟨a1, a2, y, a3, a4⟩ := (h.iff a).1 ha
  obtain ⟨b1, b2, b3⟩ := (key b).1 hb
  obtain ⟨r, rfl⟩ := split_at a2 a3
  obtain ⟨s, rfl⟩ := split_at b2 b3
  exact cmpRow_part p y x r s (hx _ a1 a2 y a3 a4)
 ·rw [List.mem_append, h.iff V, key V]
  refine ⟨fun h1 => ?_, fun ⟨h1, h2, y, h3, h4⟩ => ?_⟩
  ·rcases h1 with ⟨h1, h2, y, h3, h4⟩ | ⟨h1, h2, h3⟩
   ·exact ⟨h1, h2, y, h3, .inl h4⟩
   ·exact ⟨h1, h2, x, h3, .inr rfl⟩
  ·rcases h4 with h4 | h4
   ·exact .inl ⟨h1, h2, y, h3, h4⟩
   ·subst h4; exact .inr ⟨h1, h2, h3⟩
structure PartQ (Sol : List ByteArray -> Prop) (p : List ByteArray) (m : Nat) (D : List ByteArray -> Prop) (L : Rows2) : Prop where
 rise : Strict cmpRow L
 iff : ∀ V, V ∈ L ↔ Sol V /\ V.take p.length = p /\ D (V.take m)
theorem cmpRow_long : ∀ (m : Nat) {x y : List ByteArray}, m ≤ x.length -> m ≤ y.length -> cmpRow (x.take m) (y.take m) < 0 -> cmpRow x y < 0
 | 0, x, y, _, _, h => by simp [cmpRow] at h
 | m + 1, [], _, h, _, _ => by simp at h
 | m + 1, _ :: _, [], _, h, _ => by simp at h
 | m + 1, a :: x, b :: y, hx, hy, h => by
  simp only [List.take_succ_cons] at h
  unfold cmpRow at h ⊢
  split at h
  ·rename_i h1
   rw [if_pos h1]; exact h
  ·rename_i h1
   rw [if_neg h1]
   exact cmpRow_long m (by simpa using hx) (by simpa using hy) h
theorem PartQ.none {m : Nat} : PartQ Sol p m (fun _ => False) [] := ⟨strict_nil, fun V => ⟨fun h => by simp at h, fun h => h.2.2.elim⟩⟩
theorem PartQ.next {m : Nat} {D : List ByteArray -> Prop} {L L' : Rows2} {q : List ByteArray} (h : PartQ Sol p m D L) (hq : q.length = m) (hp : q.take p.length = p) (hm : p.length ≤ m) (hl : ∀ V, Sol V -> m ≤ V.length) (h' : AllB Sol q L') (hx : ∀ y, D y -> cmpRow y q < 0) : PartQ Sol p m (fun y => D y \/ y = q) (L ++ L') := by
 refine ⟨List.pairwise_append.2 ⟨h.rise, h'.rise, fun a ha b hb => ?_⟩, fun V => ?_⟩
 ·obtain ⟨a1, a2, a3⟩ := (h.iff a).1 ha
  obtain ⟨b1, b2⟩ := (h'.iff b).1 hb
  rw [hq] at b2
  exact cmpRow_long m (hl a a1) (hl b b1) (by rw [b2]; exact hx _ a3)
 ·rw [List.mem_append, h.iff V, h'.iff V, hq]
  refine ⟨fun h1 => ?_, fun ⟨h1, h2, h3⟩ => ?_⟩
  ·rcases h1 with ⟨h1, h2, h3⟩ | ⟨h1, h2⟩
   ·exact ⟨h1, h2, .inl h3⟩
   ·refine ⟨h1, ?_, .inr h2⟩
    have := congrArg (List.take p.length) h2
    rw [List.take_take, hp, show min p.length m = p.length by omega] at this
    exact this
  ·rcases h3 with h3 | h3
   ·exact .inl ⟨h1, h2, h3⟩
   ·exact .inr ⟨h1, h3⟩
theorem PartQ.all {m : Nat} {D : List ByteArray -> Prop} {L : Rows2} (h : PartQ Sol p m D L) (hd : ∀ V, Sol V -> V.take p.length = p -> D (V.take m)) : AllB Sol p L :=
 ⟨h.rise, fun V => (h.iff V).trans ⟨fun ⟨h1, h2, _⟩ => ⟨h1, h2⟩, fun ⟨h1, h2⟩ => ⟨h1, h2, hd V h1 h2⟩⟩⟩
theorem PartQ.congr {m : Nat} {D D' : List ByteArray -> Prop} {L : Rows2} (h : PartQ Sol p m D L) (hd : ∀ y, D y ↔ D' y) : PartQ Sol p m D' L := ⟨h.rise, fun V => (h.iff V).trans (by rw [hd])⟩
end
end Go.Proofs.YtinnmeiphbdogaaGreat

/- What a join means: plain. -/
namespace Go.Proofs.YtinnmeiphbdogaaGreat
set_option linter.unusedVariables false
def isV (s : ByteArray) (t : TermZ) : Bool := decide (t.1 = 1 /\ t.2.1 = s)
def firstV (ts : List TermZ) (s : ByteArray) : Nat := ts.findIdx (isV s)
def varsA (N : List ByteArray) (ts : List TermZ) : List Nat := (List.range N.length).filter fun i => ts.any (isV (N.getD i ByteArray.empty))
def gotD (x : List ByteArray) (i : Nat) : ByteArray := x.getD i ByteArray.empty
def fitsB (ts : List TermZ) (x : List ByteArray) : Prop := ∀ (i : Nat) (t : TermZ), ts[i]? = some t -> (t.1 = 3 -> gotD x i = t.2.1) /\ (t.1 = 1 -> gotD x (firstV ts t.2.1) = gotD x i)
def projA (N : List ByteArray) (ts : List TermZ) (x : List ByteArray) : List ByteArray := (varsA N ts).map fun v => gotD x (firstV ts (gotD N v))
def fitA (N V : List ByteArray) (ts : List TermZ) (x : List ByteArray) : Prop := ∀ (i : Nat) (t : TermZ), ts[i]? = some t -> (t.1 = 3 -> gotD x i = t.2.1) /\ (t.1 = 1 -> ∃ v : Nat, N[v]? = some t.2.1 /\ V[v]? = some (gotD x i))
theorem first_is {ts : List TermZ} {s : ByteArray} {i : Nat} {t : TermZ} (hi : ts[i]? = some t) (ht : t.1 = 1) (hs : t.2.1 = s) : ∃ u, ts[firstV ts s]? = some u /\ u.1 = 1 /\ u.2.1 = s := by
 have h : firstV ts s < ts.length := List.findIdx_lt_length_of_exists ⟨t, List.mem_of_getElem? hi, by unfold isV; exact decide_eq_true ⟨ht, hs⟩⟩
 have h2 := List.findIdx_getElem (w := h)
 refine ⟨_, List.getElem?_eq_getElem h, ?_⟩
 unfold isV at h2
 exact of_decide_eq_true h2
theorem vars_mem {N : List ByteArray} {ts : List TermZ} {v : Nat} : v ∈ varsA N ts ↔ v < N.length /\ ∃ (i : Nat) (t : TermZ), ts[i]? = some t /\ t.1 = 1 /\ t.2.1 = gotD N v := by
 unfold varsA
 rw [List.mem_filter, List.mem_range, List.any_eq_true]
 refine and_congr_right fun _ => ⟨fun ⟨t, ht, h⟩ => ?_, fun ⟨i, t, hi, h1, h2⟩ => ⟨t, List.mem_of_getElem? hi, by unfold isV; exact decide_eq_true ⟨h1, h2⟩⟩⟩
 obtain ⟨i, hi⟩ := List.mem_iff_getElem?.1 ht
 unfold isV at h
 have h' := of_decide_eq_true h
 exact ⟨i, t, hi, h'.1, h'.2⟩
theorem vars_rise (N : List ByteArray) (ts : List TermZ) : (varsA N ts).Pairwise (· < ·) := List.Pairwise.filter _ List.pairwise_lt_range
theorem proj_iff {N V : List ByteArray} {ts : List TermZ} (hN : N.Nodup) (hV : V.length = N.length) (hin : ∀ t ∈ ts, t.1 = 1 -> t.2.1 ∈ N) (x : List ByteArray) :
 fitsB ts x /\ projA N ts x = (varsA N ts).map (gotD V) ↔ fitA N V ts x := by
 have get : ∀ {v : Nat} {s : ByteArray}, N[v]? = some s -> gotD N v = s := fun h => getD_some h
 have getv : ∀ {v : Nat} {s : ByteArray}, N[v]? = some s -> V[v]? = some (gotD V v) := fun {v s} h => by
  have hv : v < V.length := by rw [hV]; exact (List.getElem?_eq_some_iff.1 h).1
  unfold gotD
  rw [List.getD_eq_getElem?_getD, List.getElem?_eq_getElem hv]; rfl
 have proj : projA N ts x = (varsA N ts).map (gotD V) ↔ ∀ v ∈ varsA N ts, gotD x (firstV ts (gotD N v)) = gotD V v := by
  unfold projA
  exact List.map_inj_left
 rw [proj]
 refine ⟨fun ⟨h1, h2⟩ i t hi => ⟨(h1 i t hi).1, fun ht => ?_⟩, fun h => ⟨fun i t hi => ⟨(h i t hi).1, fun ht => ?_⟩, fun v hv => ?_⟩⟩
 ·obtain ⟨v, hv⟩ := List.mem_iff_getElem?.1 (hin t (List.mem_of_getElem? hi) ht)
  refine ⟨v, hv, ?_⟩
  have hm : v ∈ varsA N ts := vars_mem.2 ⟨(List.getElem?_eq_some_iff.1 hv).1, i, t, hi, ht, (get hv).symm⟩
  have h3 := h2 v hm
  rw [get hv, (h1 i t hi).2 ht] at h3
  rw [h3]; exact getv hv
 ·obtain ⟨v, hv, e⟩ := (h i t hi).2 ht
  obtain ⟨u, hu, u1, u2⟩ := first_is hi ht rfl
  obtain ⟨v', hv', e'⟩ := (h _ u hu).2 u1
  rw [u2] at hv'
  have : v = v' := (List.getElem?_inj (List.getElem?_eq_some_iff.1 hv).1 hN).1 (hv.trans hv'.symm)
  subst this
  rw [e] at e'
  exact (Option.some.inj e').symm
 ·obtain ⟨hl, i, t, hi, h1, h2⟩ := vars_mem.1 hv
  obtain ⟨u, hu, u1, u2⟩ := first_is hi h1 h2
  obtain ⟨v', hv', e'⟩ := (h _ u hu).2 u1
  have hv0 : N[v]? = some (gotD N v) := by unfold gotD; rw [List.getD_eq_getElem?_getD, List.getElem?_eq_getElem hl]; rfl
  rw [u2] at hv'
  have : v = v' := (List.getElem?_inj hl hN).1 (hv0.trans hv'.symm)
  subst this
  rw [getv hv0] at e'
  exact (Option.some.inj e').symm
open Classical in
noncomputable def tabA (N : List ByteArray) (ts : List TermZ) (R : Rows2) : Rows2 := newS cmpRow ((R.filter fun x => decide (x.length = ts.length /\ fitsB ts x)).map (projA N ts))
theorem foldS_has {x : List ByteArray} : ∀ (xs acc : Rows2), x ∈ xs \/ x ∈ acc -> x ∈ xs.foldl (addS cmpRow) acc
 | [], acc, h => by
  rcases h with h | h
  ·simp at h
  ·exact h
 | y :: xs, acc, h => by
  refine foldS_has xs (addS cmpRow acc y) ?_
  by_cases hx : x ∈ xs
  ·exact .inl hx
  ·refine .inr (mem_addS.2 ?_)
   rcases h with h | h
   ·rcases List.mem_cons.1 h with h | h
    ·subst h
     by_cases hi : isIn cmpRow acc x = true
     ·obtain ⟨z, hz, e⟩ := isIn_iff.1 hi
      rw [<- cmpRow_zero e]; exact .inl hz
     ·exact .inr ⟨rfl, by simpa using hi⟩
    ·exact absurd h hx
   ·exact .inl h
theorem newS_has {xs : Rows2} {x : List ByteArray} : x ∈ newS cmpRow xs ↔ x ∈ xs := ⟨newS_mem, fun h => foldS_has xs [] (.inl h)⟩
open Classical in
theorem tab_iff {N V : List ByteArray} {ts : List TermZ} (R : Rows2) (hN : N.Nodup) (hV : V.length = N.length) (hin : ∀ t ∈ ts, t.1 = 1 -> t.2.1 ∈ N) :
 (varsA N ts).map (gotD V) ∈ tabA N ts R ↔ ∃ x ∈ R, x.length = ts.length /\ fitA N V ts x := by
 unfold tabA
 rw [newS_has, List.mem_map]
 refine ⟨fun ⟨x, hx, e⟩ => ?_, fun ⟨x, hx, hl, hf⟩ => ?_⟩
 ·obtain ⟨h1, h2⟩ := List.mem_filter.1 hx
  obtain ⟨h3, h4⟩ := of_decide_eq_true h2
  exact ⟨x, h1, h3, (proj_iff hN hV hin x).1 ⟨h4, e⟩⟩
 ·obtain ⟨h1, h2⟩ := (proj_iff hN hV hin x).2 hf
  exact ⟨x, List.mem_filter.2 ⟨hx, decide_eq_true ⟨hl, h1⟩⟩, h2⟩
theorem tab_len {N : List ByteArray} {ts : List TermZ} {R : Rows2} {x : List ByteArray} (h : x ∈ tabA N ts R) : x.length = (varsA N ts).length := by
 unfold tabA at h
 obtain ⟨y, _, rfl⟩ := List.mem_map.1 (newS_mem h)
 unfold projA
 rw [List.length_map]
theorem tab_rise (N : List ByteArray) (ts : List TermZ) (R : Rows2) : Strict cmpRow (tabA N ts R) := Strict.new cmpRow_ord _
def valT (N V : List ByteArray) (t : TermZ) : ByteArray := if t.1 = 1 then gotD V (N.findIdx fun s => decide (s = t.2.1)) else t.2.1
def opHolds (op : Int) (x y : ByteArray) : Prop := if op = 1 then x = y else if op = 2 then x ≠ y else if op = 3 then Op.bytesLess x.toList y.toList = true else Op.bytesLess y.toList x.toList = false
def holdsL (N V : List ByteArray) (R : Rows2) (l : LitZ) : Prop :=
 if l.1 = 1 then ∃ x ∈ R, x.length = (termsOf l).length /\ fitA N V (termsOf l) x
 else if l.1 = 2 then ¬ ∃ x ∈ R, x.length = (termsOf l).length /\ fitA N V (termsOf l) x
 else opHolds (opOf l) (valT N V (leftOf l)) (valT N V (rightOf l))
def BindOk (ls : List LitZ) (R : Nat -> Rows2) (V : List ByteArray) : Prop := V.length = (namesB ls).length /\ ∀ (i : Nat) (l : LitZ), ls[i]? = some l -> holdsL (namesB ls) V (R i) l
def IsBinds (ls : List LitZ) (R : Nat -> Rows2) (L : Rows2) : Prop := AllB (BindOk ls R) [] L
theorem IsBinds.iff {ls : List LitZ} {R : Nat -> Rows2} {L : Rows2} (h : IsBinds ls R L) (V : List ByteArray) : V ∈ L ↔ BindOk ls R V := (AllB.iff h V).trans ⟨fun h => h.1, fun h => ⟨h, rfl⟩⟩
end Go.Proofs.YtinnmeiphbdogaaGreat

/- What variables are, as the document keeps it: plain. -/
namespace Go.Proofs.YtinnmeiphbdogaaGreat
set_option linter.unusedVariables false
abbrev EnvZ := List ByteArray × List ByteArray
def ofE (e : EnvZ) (s : ByteArray) : Option ByteArray := if hasT e.1 s = true then some (gotD e.2 (e.1.findIdx fun x => decide (x = s))) else none
def fitsTE (e : EnvZ) (t : TermZ) (y : ByteArray) : Option EnvZ :=
 if t.1 = 3 /\ t.2.1 ≠ y then none
 else if t.1 ≠ 1 then some e
 else match ofE e t.2.1 with
  | some s => if s = y then some e else none
  | none => some (e.1 ++ [t.2.1], e.2 ++ [y])
def fitsE (e : EnvZ) (ts : List TermZ) (x : List ByteArray) : Nat -> Option EnvZ
 | 0 => some e
 | k + 1 => match fitsE e ts x k, ts[k]? with
  | some f, some t => fitsTE f t (gotD x k)
  | _, _ => none
structure EnvOk (e : EnvZ) : Prop where
 nodup : e.1.Nodup
 len : e.2.length = e.1.length
theorem idx_of {N : List ByteArray} {s : ByteArray} (h : s ∈ N) : N[N.findIdx fun x => decide (x = s)]? = some s := by
 have h1 : (N.findIdx fun x => decide (x = s)) < N.length := List.findIdx_lt_length_of_exists ⟨s, h, decide_eq_true rfl⟩
 have h2 := List.findIdx_getElem (w := h1)
 rw [List.getElem?_eq_getElem h1]
 exact congrArg some (of_decide_eq_true h2)
theorem ofE_some {e : EnvZ} {s y : ByteArray} (he : EnvOk e) : ofE e s = some y ↔ ∃ v : Nat, e.1[v]? = some s /\ e.2[v]? = some y := by
 unfold ofE
 by_cases h : hasT e.1 s = true
 ·rw [if_pos h]
  have hi := idx_of (hasT_iff.1 h)
  have hl := (List.getElem?_eq_some_iff.1 hi).1
  have hv : e.2[e.1.findIdx fun x => decide (x = s)]? = some (gotD e.2 (e.1.findIdx fun x => decide (x = s))) := by
   unfold gotD
   rw [List.getD_eq_getElem?_getD, List.getElem?_eq_getElem (by rw [he.len]; exact hl)]; rfl
  refine ⟨fun h1 => ⟨_, hi, by rw [hv]; exact h1⟩, fun ⟨v, h1, h2⟩ => ?_⟩
  have : (e.1.findIdx fun x => decide (x = s)) = v := (List.getElem?_inj hl he.nodup).1 (hi.trans h1.symm)
  rw [this] at hv
  rw [this, <- hv]; exact h2
 ·rw [if_neg h]
  refine ⟨fun h1 => (by cases h1), fun ⟨v, h1, h2⟩ => absurd (hasT_iff.2 (List.mem_of_getElem? h1)) h⟩
theorem ofE_none {e : EnvZ} {s : ByteArray} : ofE e s = none ↔ s ∉ e.1 := by
 unfold ofE
 rw [<- hasT_iff]
 split
 ·rename_i h; simp [h]
 ·rename_i h; simp [h]
def fitTA (e : EnvZ) (t : TermZ) (y : ByteArray) : Prop := (t.1 = 3 -> y = t.2.1) /\ (t.1 = 1 -> ∃ v : Nat, e.1[v]? = some t.2.1 /\ e.2[v]? = some y)
structure EnvLe (e f : EnvZ) : Prop where
 names : f.1.take e.1.length = e.1
 vals : f.2.take e.2.length = e.2
theorem EnvLe.refl (e : EnvZ) : EnvLe e e := ⟨List.take_length, List.take_length⟩
theorem take_get {l k : List ByteArray} (h : l.take k.length = k) {i : Nat} {x : ByteArray} (hx : k[i]? = some x) : l[i]? = some x := by
 have hi := (List.getElem?_eq_some_iff.1 hx).1
 rw [<- h, List.getElem?_take_of_lt hi] at hx
 exact hx
theorem EnvLe.fit {e f : EnvZ} (h : EnvLe e f) {t : TermZ} {y : ByteArray} (ht : fitTA e t y) : fitTA f t y :=
 ⟨ht.1, fun h1 => by obtain ⟨v, a, b⟩ := ht.2 h1; exact ⟨v, take_get h.names a, take_get h.vals b⟩⟩
theorem take_trans {a b c : List ByteArray} (h : b.take a.length = a) (h' : c.take b.length = b) : c.take a.length = a := by
 have hl : a.length ≤ b.length := by have := congrArg List.length h; rw [List.length_take] at this; omega
 have h2 : (c.take b.length).take a.length = c.take a.length := by rw [List.take_take]; congr 1; omega
 rw [<- h2, h', h]
theorem EnvLe.trans {e f g : EnvZ} (h : EnvLe e f) (h' : EnvLe f g) : EnvLe e g := ⟨take_trans h.names h'.names, take_trans h.vals h'.vals⟩
theorem fitsTE_some {e f : EnvZ} {t : TermZ} {y : ByteArray} (he : EnvOk e) (h : fitsTE e t y = some f) : EnvOk f /\ EnvLe e f /\ f.1 = addName e.1 t /\ fitTA f t y := by
 unfold fitsTE at h
 split at h
 ·cases h
 ·rename_i h1
  have h3 : t.1 = 3 -> y = t.2.1 := fun h3 => Classical.byContradiction fun hn => h1 ⟨h3, fun e => hn e.symm⟩
  split at h
  ·rename_i h2
   cases h
   exact ⟨he, EnvLe.refl _, by unfold addName; rw [if_neg (fun h => h2 h.1)], h3, fun h => absurd h h2⟩
  ·rename_i h2
   have h2' : t.1 = 1 := Classical.not_not.1 h2
   split at h
   ·rename_i s hs
    split at h
    ·rename_i e1
     cases h
     subst e1
     have h4 := (ofE_some he).1 hs
     refine ⟨he, EnvLe.refl _, ?_, h3, fun _ => h4⟩
     obtain ⟨v, h5, _⟩ := h4
     unfold addName
     rw [if_neg fun h => by have := hasT_iff.2 (List.mem_of_getElem? h5); rw [this] at h; cases h.2]
    ·cases h
   ·rename_i hs
    cases h
    have h4 := ofE_none.1 hs
    refine ⟨⟨?_, by simp [he.len]⟩, ⟨List.take_left, List.take_left⟩, ?_, h3, fun _ => ⟨e.1.length, by simp, by rw [<- he.len]; simp⟩⟩
    ·refine List.nodup_append.2 ⟨he.nodup, by simp, fun a ha b hb => ?_⟩
     rw [List.mem_singleton] at hb
     subst hb
     intro e; subst e; exact h4 ha
    ·unfold addName
     rw [if_pos ⟨h2', by rw [<- Bool.not_eq_true, hasT_iff]; exact h4⟩]
theorem fitsTE_has {e g : EnvZ} {t : TermZ} {y : ByteArray} (he : EnvOk e) (hg : EnvOk g) (hle : EnvLe e g) (hn : g.1.take (addName e.1 t).length = addName e.1 t) (h : fitTA g t y) : ∃ f, fitsTE e t y = some f /\ EnvLe f g := by
 unfold fitsTE
 rw [if_neg (fun h1 => h1.2 (h.1 h1.1).symm)]
 by_cases h2 : t.1 ≠ 1
 ·rw [if_pos h2]; exact ⟨e, rfl, hle⟩
 ·rw [if_neg h2]
  have h2' : t.1 = 1 := Classical.not_not.1 h2
  obtain ⟨v, hv, hy⟩ := h.2 h2'
  cases hs : ofE e t.2.1 with
  | some s =>
   obtain ⟨u, hu, hs'⟩ := (ofE_some he).1 hs
   have h3 := take_get hle.names hu
   have : u = v := (List.getElem?_inj (List.getElem?_eq_some_iff.1 h3).1 hg.nodup).1 (h3.trans hv.symm)
   subst this
   have h4 := take_get hle.vals hs'
   rw [hy] at h4
   cases h4
   exact ⟨e, by simp, hle⟩
  | none =>
   refine ⟨_, rfl, ?_⟩
   have h4 := ofE_none.1 hs
   have ea : addName e.1 t = e.1 ++ [t.2.1] := by unfold addName; rw [if_pos ⟨h2', by rw [<- Bool.not_eq_true, hasT_iff]; exact h4⟩]
   rw [ea] at hn
   refine ⟨hn, ?_⟩
   have h5 : g.1[e.1.length]? = some t.2.1 := take_get hn (by simp)
   have : e.1.length = v := (List.getElem?_inj (List.getElem?_eq_some_iff.1 h5).1 hg.nodup).1 (h5.trans hv.symm)
   subst this
   have h6 := hle.vals
   show g.2.take (e.2 ++ [y]).length = e.2 ++ [y]
   rw [List.length_append, List.length_singleton, List.take_add_one, h6, he.len, hy]; rfl
end Go.Proofs.YtinnmeiphbdogaaGreat

/- The document's way through a rule's literals: plain. -/
namespace Go.Proofs.YtinnmeiphbdogaaGreat
set_option linter.unusedVariables false
theorem names_snoc (a : List ByteArray) (ts : List TermZ) (t : TermZ) : namesT a (ts ++ [t]) = addName (namesT a ts) t := by unfold namesT; rw [List.foldl_append]; rfl
theorem add_pre (a : List ByteArray) (t : TermZ) : (addName a t).take a.length = a := by
 unfold addName
 split
 ·exact List.take_left
 ·exact List.take_length
theorem names_pre : ∀ (ts : List TermZ) (a : List ByteArray), (namesT a ts).take a.length = a
 | [], a => List.take_length
 | t :: ts, a => take_trans (add_pre a t) (names_pre ts (addName a t))
theorem namesL_pre (a : List ByteArray) (l : LitZ) : (namesL a l).take a.length = a := by
 unfold namesL
 split
 ·exact names_pre _ _
 ·exact List.take_length
theorem foldL_pre : ∀ (ls : List LitZ) (a : List ByteArray), (ls.foldl namesL a).take a.length = a
 | [], a => List.take_length
 | l :: ls, a => take_trans (namesL_pre a l) (foldL_pre ls (namesL a l))
theorem namesB_pre (ls : List LitZ) (i : Nat) : (namesB ls).take (namesB (ls.take i)).length = namesB (ls.take i) := by
 have h := foldL_pre (ls.drop i) (namesB (ls.take i))
 have e : (ls.drop i).foldl namesL (namesB (ls.take i)) = namesB ls := by
  unfold namesB
  rw [<- List.foldl_append, List.take_append_drop]
 rw [e] at h; exact h
theorem namesB_next {ls : List LitZ} {i : Nat} {l : LitZ} (h : ls[i]? = some l) : namesB (ls.take (i + 1)) = namesL (namesB (ls.take i)) l := by
 rw [List.take_add_one, h]
 unfold namesB
 rw [List.foldl_append]; rfl
theorem add_nodup {a : List ByteArray} (h : a.Nodup) (t : TermZ) : (addName a t).Nodup := by
 unfold addName
 split
 ·rename_i h1
  refine List.nodup_append.2 ⟨h, by simp, fun x hx y hy => ?_⟩
  rw [List.mem_singleton] at hy
  subst hy
  intro e; subst e
  have := hasT_iff.2 hx
  rw [h1.2] at this; cases this
 ·exact h
theorem namesT_nodup : ∀ (ts : List TermZ) {a : List ByteArray}, a.Nodup -> (namesT a ts).Nodup
 | [], _, h => h
 | t :: ts, _, h => namesT_nodup ts (add_nodup h t)
theorem namesF_nodup : ∀ (ls : List LitZ) {a : List ByteArray}, a.Nodup -> (ls.foldl namesL a).Nodup
 | [], _, h => h
 | l :: ls, _, h => namesF_nodup ls (by unfold namesL; split; exact namesT_nodup _ h; exact h)
theorem namesB_nodup (ls : List LitZ) : (namesB ls).Nodup := namesF_nodup ls List.nodup_nil
theorem fitsE_some {e : EnvZ} {ts : List TermZ} {x : List ByteArray} (he : EnvOk e) : ∀ {k : Nat} {f : EnvZ}, fitsE e ts x k = some f -> EnvOk f /\ EnvLe e f /\ f.1 = namesT e.1 (ts.take k) /\ ∀ (i : Nat) (t : TermZ), i < k -> ts[i]? = some t -> fitTA f t (gotD x i)
 | 0, f, h => by
  cases h
  exact ⟨he, EnvLe.refl _, by rw [List.take_zero]; rfl, fun i t hi => by omega⟩
 | k + 1, f, h => by
  unfold fitsE at h
  split at h
  ·rename_i g t hg ht
   obtain ⟨h1, h2, h3, h4⟩ := fitsE_some he hg
   obtain ⟨h5, h6, h7, h8⟩ := fitsTE_some h1 h
   refine ⟨h5, h2.trans h6, ?_, fun i u hi hu => ?_⟩
   ·rw [h7, h3, List.take_add_one, ht]
    exact (names_snoc _ _ _).symm
   ·rcases Nat.lt_or_eq_of_le (Nat.le_of_lt_succ hi) with h9 | h9
    ·exact h6.fit (h4 i u h9 hu)
    ·subst h9
     rw [ht] at hu; cases hu
     exact h8
  ·cases h
theorem fitsE_has {e g : EnvZ} {ts : List TermZ} {x : List ByteArray} (he : EnvOk e) (hg : EnvOk g) (hle : EnvLe e g) : ∀ {k : Nat}, k ≤ ts.length -> g.1.take (namesT e.1 (ts.take k)).length = namesT e.1 (ts.take k) -> (∀ (i : Nat) (t : TermZ), ts[i]? = some t -> fitTA g t (gotD x i)) -> ∃ f, fitsE e ts x k = some f /\ EnvLe f g
 | 0, _, _, _ => ⟨e, rfl, hle⟩
 | k + 1, hk, hn, h => by
  obtain ⟨t, ht⟩ : ∃ t, ts[k]? = some t := ⟨_, List.getElem?_eq_getElem (by omega)⟩
  have e1 : ts.take (k + 1) = ts.take k ++ [t] := by rw [List.take_add_one, ht]; rfl
  rw [e1, names_snoc] at hn
  obtain ⟨f, hf, hle2⟩ := fitsE_has he hg hle (by omega) (take_trans (add_pre _ _) hn) h
  obtain ⟨h1, h2, h3, h4⟩ := fitsE_some he hf
  obtain ⟨f2, hf2, hle3⟩ := fitsTE_has h1 hg hle2 (by rw [h3]; exact hn) (h k t ht)
  refine ⟨f2, ?_, hle3⟩
  unfold fitsE
  rw [hf, ht]; exact hf2
structure FromOk (ls : List LitZ) (R : Nat -> Rows2) (i : Nat) (e : EnvZ) : Prop where
 ok : EnvOk e
 names : e.1 = namesB (ls.take i)
 done : ∀ (j : Nat) (l : LitZ), j < i -> ls[j]? = some l -> l.1 = 1 -> ∃ x ∈ R j, x.length = (termsOf l).length /\ fitA e.1 e.2 (termsOf l) x
theorem FromOk.start (ls : List LitZ) (R : Nat -> Rows2) : FromOk ls R 0 ([], []) := ⟨⟨List.nodup_nil, rfl⟩, by rw [List.take_zero]; rfl, fun j l hj => by omega⟩
theorem FromOk.skip {ls : List LitZ} {R : Nat -> Rows2} {i : Nat} {e : EnvZ} (h : FromOk ls R i e) {l : LitZ} (hl : ls[i]? = some l) (hk : l.1 ≠ 1) : FromOk ls R (i + 1) e :=
 ⟨h.ok, by rw [h.names, namesB_next hl]; unfold namesL; rw [if_neg hk], fun j m hj hm h1 => by
  rcases Nat.lt_or_eq_of_le (Nat.le_of_lt_succ hj) with h2 | h2
  ·exact h.done j m h2 hm h1
  ·subst h2; rw [hl] at hm; cases hm; exact absurd h1 hk⟩
theorem EnvLe.fitA {e f : EnvZ} (h : EnvLe e f) {ts : List TermZ} {x : List ByteArray} (hx : fitA e.1 e.2 ts x) : fitA f.1 f.2 ts x := fun i t hi => h.fit (hx i t hi)
theorem FromOk.next {ls : List LitZ} {R : Nat -> Rows2} {i : Nat} {e f : EnvZ} (h : FromOk ls R i e) {l : LitZ} (hl : ls[i]? = some l) (hk : l.1 = 1) {x : List ByteArray} (hx : x ∈ R i) (hxl : x.length = (termsOf l).length) (hf : fitsE e (termsOf l) x (termsOf l).length = some f) : FromOk ls R (i + 1) f /\ EnvLe e f := by
 obtain ⟨h1, h2, h3, h4⟩ := fitsE_some h.ok hf
 rw [List.take_length] at h3
 refine ⟨⟨h1, ?_, fun j m hj hm hm1 => ?_⟩, h2⟩
 ·rw [h3, h.names, namesB_next hl]; unfold namesL; rw [if_pos hk]
 ·rcases Nat.lt_or_eq_of_le (Nat.le_of_lt_succ hj) with h5 | h5
  ·obtain ⟨y, hy, hyl, hyf⟩ := h.done j m h5 hm hm1
   exact ⟨y, hy, hyl, h2.fitA hyf⟩
  ·subst h5; rw [hl] at hm; cases hm
   exact ⟨x, hx, hxl, fun j t hj2 => h4 j t (List.getElem?_eq_some_iff.1 hj2).1 hj2⟩
theorem FromOk.has {ls : List LitZ} {R : Nat -> Rows2} {i : Nat} {e : EnvZ} (h : FromOk ls R i e) {l : LitZ} (hl : ls[i]? = some l) (hk : l.1 = 1) {V : List ByteArray} (hV : BindOk ls R V) (hp : V.take e.2.length = e.2) :
 ∃ x ∈ R i, x.length = (termsOf l).length /\ ∃ f, fitsE e (termsOf l) x (termsOf l).length = some f /\ V.take f.2.length = f.2 := by
 have h1 := hV.2 i l hl
 unfold holdsL at h1
 rw [if_pos hk] at h1
 obtain ⟨x, hx, hxl, hxf⟩ := h1
 have hg : EnvOk (namesB ls, V) := ⟨namesB_nodup ls, hV.1⟩
 have hle : EnvLe e (namesB ls, V) := ⟨by rw [h.names]; exact namesB_pre ls i, hp⟩
 obtain ⟨f, hf, hle2⟩ := fitsE_has (x := x) h.ok hg hle (Nat.le_refl (termsOf l).length) (by
  rw [List.take_length, h.names]
  have := namesB_pre ls (i + 1)
  rw [namesB_next hl] at this
  unfold namesL at this
  rw [if_pos hk] at this
  exact this) hxf
 exact ⟨x, hx, hxl, f, hf, hle2.vals⟩
theorem FromOk.len {ls : List LitZ} {R : Nat -> Rows2} {i : Nat} {e : EnvZ} (h : FromOk ls R i e) : e.2.length = (namesB (ls.take i)).length := by rw [h.ok.len, h.names]
theorem FromOk.last {ls : List LitZ} {R : Nat -> Rows2} {e : EnvZ} (h : FromOk ls R ls.length e) : e.1 = namesB ls /\ (BindOk ls R e.2 ↔ ∀ (i : Nat) (l : LitZ), ls[i]? = some l -> l.1 ≠ 1 -> holdsL (namesB ls) e.2 (R i) l) /\ ∀ V, BindOk ls R V -> V.length = e.2.length := by
 have hn : e.1 = namesB ls := by rw [h.names, List.take_length]
 have hl : e.2.length = (namesB ls).length := by rw [h.ok.len, hn]
 refine ⟨hn, ⟨fun hB i l hi _ => hB.2 i l hi, fun hB => ⟨hl, fun i l hi => ?_⟩⟩, fun V hV => by rw [hV.1, hl]⟩
 by_cases hk : l.1 = 1
 ·unfold holdsL
  rw [if_pos hk]
  have := h.done i l (List.getElem?_eq_some_iff.1 hi).1 hi hk
  rw [hn] at this; exact this
 ·exact hB i l hi hk
end Go.Proofs.YtinnmeiphbdogaaGreat

/- Leaping through followers of several tries: plain. -/
namespace Go.Proofs.YtinnmeiphbdogaaGreat
set_option linter.unusedVariables false
structure CurZ where
 keys : List ByteArray
 lo : Nat
 hi : Nat
structure CurOk (c : CurZ) : Prop where
 le : c.lo ≤ c.hi
 few : c.hi ≤ c.keys.length
 rise : ∀ (k l : Nat) (x y : ByteArray), c.lo ≤ k -> k < l -> l < c.hi -> c.keys[k]? = some x -> c.keys[l]? = some y -> cmpB x.toList y.toList < 0
def LeftC (c : CurZ) (p : Nat) (x : ByteArray) : Prop := ∃ k, p ≤ k /\ k < c.hi /\ c.keys[k]? = some x
theorem cmpN_trans {a b c : ByteArray} (h : cmpB a.toList b.toList < 0) (h' : cmpB b.toList c.toList < 0) : cmpB a.toList c.toList < 0 := by
 rw [cmpB_neg] at h h' ⊢
 exact bytesLess_trans h h'
theorem cmpN_le_trans {a b c : ByteArray} (h : cmpB a.toList b.toList < 0) (h' : ¬ cmpB c.toList b.toList < 0) : cmpB a.toList c.toList < 0 := by
 rcases cmpB_cases b.toList c.toList with h2 | h2 | h2
 ·exact cmpN_trans h (by omega)
 ·rw [<- toList_inj (cmpB_zero h2)]; exact h
 ·have := cmpB_swap b.toList c.toList
  omega
section
variable {Sol : List ByteArray -> Prop} {p : List ByteArray} {Cs : List CurZ}
structure LeapInv (Sol : List ByteArray -> Prop) (p : List ByteArray) (Cs : List CurZ) (pos : Nat -> Nat) (i : Nat) (D : ByteArray -> Prop) (L : Rows2) : Prop where
 ok : ∀ c ∈ Cs, CurOk c
 here : i < Cs.length
 inn : ∀ j c, Cs[j]? = some c -> c.lo ≤ pos j /\ pos j ≤ c.hi
 told : PartB Sol p D L
 common : ∀ V, Sol V -> V.take p.length = p -> ∃ x, V[p.length]? = some x /\ (D x \/ ∀ (j : Nat) (c : CurZ), Cs[j]? = some c -> LeftC c (pos j) x)
 below : ∀ c x y, Cs[i]? = some c -> D x -> LeftC c (pos i) y -> cmpB x.toList y.toList < 0
theorem LeapInv.start (hok : ∀ c ∈ Cs, CurOk c) (hne : 0 < Cs.length) (hc : ∀ V, Sol V -> V.take p.length = p -> ∃ x, V[p.length]? = some x /\ ∀ (j : Nat) (c : CurZ), Cs[j]? = some c -> LeftC c c.lo x) : LeapInv Sol p Cs (fun j => (Cs.getD j ⟨[], 0, 0⟩).lo) 0 (fun _ => False) [] := by
 refine ⟨hok, hne, fun j c hj => ?_, PartB.none fun V _ _ x _ h => h, fun V h1 h2 => ?_, fun c x y _ h => h.elim⟩
 ·have e : Cs.getD j ⟨[], 0, 0⟩ = c := by rw [List.getD_eq_getElem?_getD, hj]; rfl
  show _ ≤ (Cs.getD j ⟨[], 0, 0⟩).lo /\ (Cs.getD j ⟨[], 0, 0⟩).lo ≤ _
  rw [e]
  exact ⟨Nat.le_refl _, (hok c (List.mem_of_getElem? hj)).le⟩
 ·obtain ⟨x, hx, h3⟩ := hc V h1 h2
  refine ⟨x, hx, .inr fun j c hj => ?_⟩
  have e : Cs.getD j ⟨[], 0, 0⟩ = c := by rw [List.getD_eq_getElem?_getD, hj]; rfl
  show LeftC c (Cs.getD j ⟨[], 0, 0⟩).lo x
  rw [e]; exact h3 j c hj
theorem LeapInv.end {pos : Nat -> Nat} {i : Nat} {D : ByteArray -> Prop} {L : Rows2} (h : LeapInv Sol p Cs pos i D L) {j : Nat} {c : CurZ} (hj : Cs[j]? = some c) (he : pos j = c.hi) : AllB Sol p L := by
 refine h.told.all fun V h1 h2 => ?_
 obtain ⟨x, hx, h3⟩ := h.common V h1 h2
 refine ⟨x, hx, ?_⟩
 rcases h3 with h3 | h3
 ·exact h3
 ·obtain ⟨k, h4, h5, _⟩ := h3 j c hj
  omega
theorem LeapInv.seek {pos : Nat -> Nat} {i : Nat} {D : ByteArray -> Prop} {L : Rows2} (h : LeapInv Sol p Cs pos i D L) {ci : CurZ} (hi : Cs[i]? = some ci) (hlt : pos i < ci.hi) {key : ByteArray} (hk : ci.keys[pos i]? = some key) {j : Nat} {c : CurZ} (hj : Cs[j]? = some c) {q : Nat} (hq : pos j ≤ q) (hq2 : q ≤ c.hi) (hb : ∀ k x, pos j ≤ k -> k < q -> c.keys[k]? = some x -> cmpB x.toList key.toList < 0) (hij : j = i -> q = pos i) :
 LeapInv Sol p Cs (fun m => if m = j then q else pos m) i D L := by
 have hp := h.inn j c hj
 refine ⟨h.ok, h.here, fun m d hm => ?_, h.told, fun V h1 h2 => ?_, fun d x y hd hx hy => ?_⟩
 ·show _ ≤ (if m = j then q else pos m) /\ (if m = j then q else pos m) ≤ _
  split
  ·rename_i e; subst e
   rw [hj] at hm; cases hm
   exact ⟨by omega, hq2⟩
  ·exact h.inn m d hm
 ·obtain ⟨x, hx, h3⟩ := h.common V h1 h2
  refine ⟨x, hx, ?_⟩
  rcases h3 with h3 | h3
  ·exact .inl h3
  ·refine .inr fun m d hm => ?_
   show LeftC d (if m = j then q else pos m) x
   split
   ·rename_i e; subst e
    rw [hj] at hm; cases hm
    obtain ⟨k, h4, h5, h6⟩ := h3 m c hj
    obtain ⟨k', h7, h8, h9⟩ := h3 i ci hi
    refine ⟨k, ?_, h5, h6⟩
    rcases Nat.lt_or_ge k q with h10 | h10
    ·exfalso
     have h11 := hb k x h4 h10 h6
     rcases Nat.lt_or_eq_of_le h7 with h12 | h12
     ·have h13 := (h.ok ci (List.mem_of_getElem? hi)).rise (pos i) k' key x (h.inn i ci hi).1 h12 h8 hk h9
      have := cmpB_swap x.toList key.toList
      omega
     ·subst h12
      rw [hk] at h9; cases h9
      rw [cmpB_self] at h11; omega
    ·exact h10
   ·exact h3 m d hm
 ·have e : (if i = j then q else pos i) = pos i := by
   split
   ·rename_i e; exact hij e.symm
   ·rfl
  have hy' : LeftC d (pos i) y := by
   have h0 : LeftC d (if i = j then q else pos i) y := hy
   rw [e] at h0; exact h0
  exact h.below d x y hd hx hy'
theorem LeapInv.lead {pos : Nat -> Nat} {i : Nat} {D : ByteArray -> Prop} {L : Rows2} (h : LeapInv Sol p Cs pos i D L) {ci : CurZ} (hi : Cs[i]? = some ci) (hlt : pos i < ci.hi) {key : ByteArray} (hk : ci.keys[pos i]? = some key) {j : Nat} {c : CurZ} (hj : Cs[j]? = some c) (hl2 : pos j < c.hi) {key2 : ByteArray} (hk2 : c.keys[pos j]? = some key2) (hge : ¬ cmpB key2.toList key.toList < 0) : LeapInv Sol p Cs pos j D L := by
 refine ⟨h.ok, (List.getElem?_eq_some_iff.1 hj).1, h.inn, h.told, h.common, fun d x y hd hx hy => ?_⟩
 rw [hj] at hd; cases hd
 have h1 := h.below ci x key hi hx ⟨pos i, Nat.le_refl _, hlt, hk⟩
 have h2 := cmpN_le_trans h1 hge
 obtain ⟨k, h3, h4, h5⟩ := hy
 rcases Nat.lt_or_eq_of_le h3 with h6 | h6
 ·exact cmpN_trans h2 ((h.ok c (List.mem_of_getElem? hj)).rise (pos j) k key2 y (h.inn j c hj).1 h6 h4 hk2 h5)
 ·subst h6
  rw [hk2] at h5; cases h5
  exact h2
theorem LeapInv.next {pos : Nat -> Nat} {i : Nat} {D : ByteArray -> Prop} {L L' : Rows2} (h : LeapInv Sol p Cs pos i D L) {ci : CurZ} (hi : Cs[i]? = some ci) (hlt : pos i < ci.hi) {key : ByteArray} (hk : ci.keys[pos i]? = some key) (h' : AllB Sol (p ++ [key]) L') : LeapInv Sol p Cs (fun m => if m = i then pos i + 1 else pos m) i (fun y => D y \/ y = key) (L ++ L') := by
 refine ⟨h.ok, h.here, fun m d hm => ?_, h.told.next h' fun V h1 h2 y hy hD => h.below ci y key hi hD ⟨pos i, Nat.le_refl _, hlt, hk⟩, fun V h1 h2 => ?_, fun d x y hd hx hy => ?_⟩
 ·show _ ≤ (if m = i then pos i + 1 else pos m) /\ (if m = i then pos i + 1 else pos m) ≤ _
  split
  ·rename_i e; subst e
   rw [hi] at hm; cases hm
   have := (h.inn m ci hi).1
   exact ⟨by omega, hlt⟩
  ·exact h.inn m d hm
 ·obtain ⟨x, hx, h3⟩ := h.common V h1 h2
  refine ⟨x, hx, ?_⟩
  rcases h3 with h3 | h3
  ·exact .inl (.inl h3)
  ·by_cases e : x = key
   ·exact .inl (.inr e)
   ·refine .inr fun m d hm => ?_
    show LeftC d (if m = i then pos i + 1 else pos m) x
    split
    ·rename_i e2; subst e2
     rw [hi] at hm; cases hm
     obtain ⟨k, h4, h5, h6⟩ := h3 m ci hi
     refine ⟨k, ?_, h5, h6⟩
     rcases Nat.lt_or_eq_of_le h4 with h7 | h7
     ·exact h7
     ·subst h7; rw [hk] at h6; cases h6; exact absurd rfl e
    ·exact h3 m d hm
 ·rw [hi] at hd; cases hd
  have hy' : LeftC ci (pos i + 1) y := by
   have h0 : LeftC ci (if i = i then pos i + 1 else pos i) y := hy
   rw [if_pos rfl] at h0; exact h0
  obtain ⟨k, h3, h4, h5⟩ := hy'
  have h6 := (h.ok ci (List.mem_of_getElem? hi)).rise (pos i) k key y (h.inn i ci hi).1 (by omega) h4 hk h5
  rcases hx with hx | hx
  ·exact h.below ci x y hi hx ⟨k, by omega, h4, h5⟩
  ·rw [hx]; exact h6
end
end Go.Proofs.YtinnmeiphbdogaaGreat

/- Tries: the followers of a beginning are places side by side. Plain. -/
namespace Go.Proofs.YtinnmeiphbdogaaGreat
set_option linter.unusedVariables false
section
variable {W : Rows2} {d : Nat}
def SpanOf (W : Rows2) (d : Nat) (q : List ByteArray) (a b : Nat) : Prop := ∃ lo hi, Iv W q lo hi /\ a = widthW W d q.length lo /\ b = widthW W d q.length hi
theorem width_zero (i : Nat) : widthW W d i 0 = 0 := by
 have := starts_len W d i 0
 unfold widthW; omega
theorem width_mono (i : Nat) {m n : Nat} (h : m ≤ n) : widthW W d i m ≤ widthW W d i n := by
 obtain ⟨r, e, _⟩ := starts_take W d i h
 unfold widthW
 rw [e, List.length_append]; omega
theorem span_root (hne : 0 < W.length) : SpanOf W d [] 0 (widthW W d 0 W.length) :=
 ⟨0, W.length, ⟨hne, Nat.le_refl _, fun n x hx => ⟨fun _ => ⟨Nat.zero_le _, (List.getElem?_eq_some_iff.1 hx).1⟩, fun _ => rfl⟩⟩, (width_zero 0).symm, rfl⟩
theorem start_of {i n k s : Nat} (h : (startsW W d i n)[k]? = some s) {m : Nat} (hm : m ≤ n) : k < widthW W d i m ↔ s < m := by
 obtain ⟨r, e, hr⟩ := starts_take W d i hm
 rw [e] at h
 unfold widthW
 refine ⟨fun hk => ?_, fun hs => ?_⟩
 ·rw [List.getElem?_append_left hk] at h
  exact (starts_width h).2
 ·rcases Nat.lt_or_ge k (startsW W d i m).length with h1 | h1
  ·exact h1
  ·rw [List.getElem?_append_right h1] at h
   have := hr _ (List.mem_of_getElem? h)
   omega
theorem WaysOk.cell (h : WaysOk W d) {n : Nat} {r : List ByteArray} (hr : W[n]? = some r) {i : Nat} (hi : i < d) : ∃ x, r[i]? = some x /\ r.take (i + 1) = r.take i ++ [x] := by
 have hl : i < r.length := by rw [h.len r (List.mem_of_getElem? hr)]; exact hi
 refine ⟨_, List.getElem?_eq_getElem hl, ?_⟩
 rw [List.take_add_one, List.getElem?_eq_getElem hl]; rfl
theorem SpanOf.place (hW : WaysOk W d) {q : List ByteArray} {a b : Nat} (h : SpanOf W d q a b) (hq : q.length < d) {k : Nat} (ha : a ≤ k) (hb : k < b) :
 ∃ s r x, (startsW W d q.length W.length)[k]? = some s /\ W[s]? = some r /\ r.take (q.length + 1) = q ++ [x] /\ (keysW W d q.length W.length)[k]? = some x /\ Iv W (q ++ [x]) s ((startsW W d q.length W.length).getD (k + 1) W.length) := by
 obtain ⟨lo, hi, hI, rfl, rfl⟩ := h
 have hkS : k < (startsW W d q.length W.length).length := Nat.lt_of_lt_of_le hb (width_mono _ hI.few)
 obtain ⟨s, hs⟩ : ∃ s, (startsW W d q.length W.length)[k]? = some s := ⟨_, List.getElem?_eq_getElem hkS⟩
 have hsn := (starts_width hs).2
 have h1 : s < hi := (start_of hs hI.few).1 hb
 have h2 : ¬ s < lo := fun h => Nat.not_lt.2 ha ((start_of hs (Nat.le_trans (Nat.le_of_lt hI.le) hI.few)).2 h)
 obtain ⟨r, hr⟩ : ∃ r, W[s]? = some r := ⟨_, List.getElem?_eq_getElem hsn⟩
 obtain ⟨x, hx, et⟩ := hW.cell hr hq
 have eq : r.take q.length = q := (hI.iff s r hr).2 ⟨by omega, h1⟩
 rw [eq] at et
 have hst := (starts_mem hq).1 (List.mem_of_getElem? hs)
 refine ⟨s, r, x, hs, hr, et, ?_, ?_, ?_, ?_⟩
 ·unfold keysW
  rw [List.getElem?_map, hs]
  show some ((W.getD s []).getD q.length ByteArray.empty) = some x
  rw [getD_some hr, getD_some hx]
 ·rw [List.getD_eq_getElem?_getD]
  cases h4 : (startsW W d q.length W.length)[k + 1]? with
  | none => exact hsn
  | some e =>
   obtain ⟨l1, e1⟩ := List.getElem?_eq_some_iff.1 hs
   obtain ⟨l2, e2⟩ := List.getElem?_eq_some_iff.1 h4
   have := List.pairwise_iff_getElem.1 (starts_rise W d q.length W.length) k (k + 1) l1 l2 (by omega)
   rw [e1, e2] at this
   exact this
 ·rw [List.getD_eq_getElem?_getD]
  cases h4 : (startsW W d q.length W.length)[k + 1]? with
  | none => exact Nat.le_refl _
  | some e => exact Nat.le_of_lt (starts_width h4).2
 ·intro n y hy
  have hn := (List.getElem?_eq_some_iff.1 hy).1
  rw [List.length_append, List.length_singleton, <- et]
  refine ⟨fun he => ⟨?_, ?_⟩, fun ⟨h3, h4⟩ => ?_⟩
  ·rcases Nat.lt_or_ge n s with h3 | h3
   ·exfalso
    rcases parts_iff.1 hst.2 with h4 | h4
    ·omega
    ·obtain ⟨z, hz⟩ : ∃ z, W[s - 1]? = some z := ⟨_, List.getElem?_eq_getElem (by omega)⟩
     rw [getD_some hz, getD_some hr] at h4
     exact h4 ((hW.between hy hz hr (by omega) (by omega) he).trans he)
   ·exact h3
  ·rcases Nat.lt_or_ge n ((startsW W d q.length W.length).getD (k + 1) W.length) with h3 | h3
   ·exact h3
   ·exfalso
    rw [List.getD_eq_getElem?_getD] at h3
    cases h4 : (startsW W d q.length W.length)[k + 1]? with
    | none =>
     rw [h4] at h3
     have h5 : W.length ≤ n := h3
     omega
    | some e =>
     rw [h4] at h3
     have h5 : e ≤ n := h3
     have h6 := (starts_mem hq).1 (List.mem_of_getElem? h4)
     obtain ⟨l1, e1⟩ := List.getElem?_eq_some_iff.1 hs
     obtain ⟨l2, e2⟩ := List.getElem?_eq_some_iff.1 h4
     have h7 := List.pairwise_iff_getElem.1 (starts_rise W d q.length W.length) k (k + 1) l1 l2 (by omega)
     rw [e1, e2] at h7
     obtain ⟨z, hz⟩ : ∃ z, W[e - 1]? = some z := ⟨_, List.getElem?_eq_getElem (by omega)⟩
     obtain ⟨u, hu⟩ : ∃ u, W[e]? = some u := ⟨_, List.getElem?_eq_getElem (by omega)⟩
     rcases parts_iff.1 h6.2 with h8 | h8
     ·omega
     ·rw [getD_some hz, getD_some hu] at h8
      exact h8 ((hW.between hr hz hy (by omega) (by omega) he.symm).trans (hW.between hr hu hy (by omega) h5 he.symm).symm)
  ·-- no start lies between
   have key : ∀ m, s ≤ m -> m ≤ n -> ∀ z, W[m]? = some z -> z.take (q.length + 1) = r.take (q.length + 1) := by
    intro m
    induction m with
    | zero =>
     intro h5 _ z hz
     have : s = 0 := by omega
     rw [this] at hr
     rw [hr] at hz; cases hz; rfl
    | succ m ih =>
     intro h5 h6 z hz
     rcases Nat.lt_or_eq_of_le h5 with h7 | h7
     ·obtain ⟨u, hu⟩ : ∃ u, W[m]? = some u := ⟨_, List.getElem?_eq_getElem (by omega)⟩
      have h8 := ih (by omega) (by omega) u hu
      have h9 : ¬ partsW W (q.length + 1) (m + 1) = true := fun h10 => by
       have hm := (starts_mem (W := W) (n := W.length) hq).2 ⟨(List.getElem?_eq_some_iff.1 hz).1, h10⟩
       obtain ⟨j, hj⟩ := List.mem_iff_getElem?.1 hm
       obtain ⟨l1, e1⟩ := List.getElem?_eq_some_iff.1 hs
       obtain ⟨l2, e2⟩ := List.getElem?_eq_some_iff.1 hj
       have hjk : k < j := by
        rcases Nat.lt_trichotomy k j with h | h | h
        ·exact h
        ·subst h; rw [hs] at hj; cases hj; omega
        ·have := List.pairwise_iff_getElem.1 (starts_rise W d q.length W.length) j k l2 l1 h
         rw [e1, e2] at this; omega
       rw [List.getD_eq_getElem?_getD, List.getElem?_eq_getElem (by omega : k + 1 < _)] at h4
       have h11 : n < (startsW W d q.length W.length)[k + 1] := h4
       rcases Nat.lt_or_eq_of_le (show k + 1 ≤ j from hjk) with h | h
       ·have := List.pairwise_iff_getElem.1 (starts_rise W d q.length W.length) (k + 1) j (by omega) l2 h
        rw [e2] at this; omega
       ·subst h; rw [e2] at h11; omega
      have h12 : u.take (q.length + 1) = z.take (q.length + 1) := by
       refine Classical.byContradiction fun h13 => h9 (parts_iff.2 (.inr ?_))
       rw [Nat.add_sub_cancel, getD_some hu, getD_some hz]; exact h13
      rw [<- h12]; exact h8
     ·rw [<- h7] at hz
      rw [hr] at hz; cases hz; rfl
   exact key n h3 (Nat.le_refl _) y hy
theorem SpanOf.all (hW : WaysOk W d) {q : List ByteArray} {a b : Nat} (h : SpanOf W d q a b) (hq : q.length < d) {x : ByteArray} {r : List ByteArray} (hr : r ∈ W) (he : r.take (q.length + 1) = q ++ [x]) :
 ∃ k, a ≤ k /\ k < b /\ (keysW W d q.length W.length)[k]? = some x := by
 have hS := h
 obtain ⟨lo, hi, hI, ea, eb⟩ := h
 obtain ⟨n, hn⟩ := List.mem_iff_getElem?.1 hr
 have hnl := (List.getElem?_eq_some_iff.1 hn).1
 have e1 : r.take q.length = q := by
  have := congrArg (List.take q.length) he
  rw [List.take_take, List.take_left] at this
  rw [show min q.length (q.length + 1) = q.length by omega] at this
  exact this
 obtain ⟨h1, h2⟩ := (hI.iff n r hn).1 e1
 have hlo : partsW W (q.length + 1) lo = true := by
  refine parts_iff.2 ?_
  by_cases h0 : lo = 0
  ·exact .inl h0
  ·refine .inr fun h3 => ?_
   obtain ⟨z, hz⟩ : ∃ z, W[lo - 1]? = some z := ⟨_, List.getElem?_eq_getElem (by omega)⟩
   obtain ⟨u, hu⟩ : ∃ u, W[lo]? = some u := ⟨_, List.getElem?_eq_getElem (by omega)⟩
   rw [getD_some hz, getD_some hu] at h3
   have h4 : z.take q.length = u.take q.length := by
    have := congrArg (List.take q.length) h3
    rw [List.take_take, List.take_take] at this
    rw [show min q.length (q.length + 1) = q.length by omega] at this
    exact this
   have h5 := (hI.iff lo u hu).2 ⟨Nat.le_refl _, hI.le⟩
   have h6 := ((hI.iff (lo - 1) z hz).1 (h4.trans h5)).1
   omega
 have hml : lo ∈ startsW W d q.length (n + 1) := (starts_mem hq).2 ⟨by omega, hlo⟩
 obtain ⟨j, hj⟩ := List.mem_iff_getElem?.1 hml
 have hjl := (List.getElem?_eq_some_iff.1 hj).1
 obtain ⟨k, ek⟩ : ∃ k, widthW W d q.length (n + 1) = k + 1 := ⟨widthW W d q.length (n + 1) - 1, by unfold widthW; omega⟩
 have hka : a ≤ k := by
  have h3 : ¬ j < widthW W d q.length lo := fun h => absurd ((start_of hj (by omega)).1 h) (by omega)
  have h4 : j < widthW W d q.length (n + 1) := hjl
  omega
 have hkb : k < b := by
  have := width_mono (W := W) (d := d) q.length (show n + 1 ≤ hi from h2)
  omega
 obtain ⟨s, r', x', hs, hr', he', hk', hI'⟩ := hS.place hW hq hka hkb
 refine ⟨k, hka, hkb, ?_⟩
 have hsn : s < n + 1 := (start_of hs (by omega)).1 (by omega)
 have hne : n < (startsW W d q.length W.length).getD (k + 1) W.length := by
  rw [List.getD_eq_getElem?_getD]
  cases h4 : (startsW W d q.length W.length)[k + 1]? with
  | none => exact hnl
  | some e =>
   have h5 : ¬ e < n + 1 := fun h => absurd ((start_of h4 (by omega)).2 h) (by omega)
   show n < e
   omega
 have h7 := (hI'.iff n r hn).2 ⟨by omega, hne⟩
 rw [List.length_append, List.length_singleton, he] at h7
 have h8 := (List.append_inj h7 rfl).2
 rw [hk']
 simpa using h8.symm
theorem SpanOf.rise (hW : WaysOk W d) {q : List ByteArray} {a b : Nat} (h : SpanOf W d q a b) (hq : q.length < d) {k l : Nat} (ha : a ≤ k) (hl : k < l) (hb : l < b) {x y : ByteArray} (hx : (keysW W d q.length W.length)[k]? = some x) (hy : (keysW W d q.length W.length)[l]? = some y) : cmpB x.toList y.toList < 0 := by
 obtain ⟨s, r, x', hs, hr, he, hk, hI⟩ := h.place hW hq ha (by omega)
 obtain ⟨t, u, y', ht, hu, he2, hk2, hI2⟩ := h.place hW hq (show a ≤ l by omega) hb
 rw [hk] at hx; cases hx
 rw [hk2] at hy; cases hy
 obtain ⟨l1, e1⟩ := List.getElem?_eq_some_iff.1 hs
 obtain ⟨l2, e2⟩ := List.getElem?_eq_some_iff.1 ht
 have hst := List.pairwise_iff_getElem.1 (starts_rise W d q.length W.length) k l l1 l2 hl
 rw [e1, e2] at hst
 have h1 := cmpRow_take (q.length + 1) ((hW.len r (List.mem_of_getElem? hr)).trans (hW.len u (List.mem_of_getElem? hu)).symm) (hW.le hr hu (Nat.le_of_lt hst))
 rw [he, he2, cmpRow_snoc] at h1
 have h2 : cmpB x.toList y.toList ≠ 0 := fun e => by
  have exy : x = y := toList_inj (cmpB_zero e)
  subst exy
  have h3 := ((hI2.iff s r hr).1 (by rw [List.length_append, List.length_singleton]; exact he)).1
  omega
 omega
theorem SpanOf.down (hW : WaysOk W d) {q : List ByteArray} {a b : Nat} (h : SpanOf W d q a b) (hq : q.length < d) {k : Nat} (ha : a ≤ k) (hb : k < b) {x : ByteArray} (hx : (keysW W d q.length W.length)[k]? = some x) :
 ∃ f t, (fromW W d q.length W.length ++ [(widthW W d (q.length + 1) W.length : Int)])[k]? = some ((f : Nat) : Int) /\ (fromW W d q.length W.length ++ [(widthW W d (q.length + 1) W.length : Int)])[k + 1]? = some ((t : Nat) : Int) /\ SpanOf W d (q ++ [x]) f t := by
 obtain ⟨s, r, x', hs, hr, he, hk, hI⟩ := h.place hW hq ha hb
 rw [hk] at hx; cases hx
 refine ⟨widthW W d (q.length + 1) s, widthW W d (q.length + 1) ((startsW W d q.length W.length).getD (k + 1) W.length), ?_, ?_, s, _, hI, by rw [List.length_append, List.length_singleton], by rw [List.length_append, List.length_singleton]⟩
 ·have hkl : k < (fromW W d q.length W.length).length := by rw [from_len]; exact (List.getElem?_eq_some_iff.1 hs).1
  rw [List.getElem?_append_left hkl]
  unfold fromW
  rw [List.getElem?_map, hs]; rfl
 ·rw [List.getD_eq_getElem?_getD]
  cases h4 : (startsW W d q.length W.length)[k + 1]? with
  | none =>
   have h5 := List.getElem?_eq_none_iff.1 h4
   have h6 := (List.getElem?_eq_some_iff.1 hs).1
   have h7 : (fromW W d q.length W.length).length = k + 1 := by rw [from_len]; unfold widthW; omega
   rw [List.getElem?_append_right (by omega), h7, Nat.sub_self]; rfl
  | some e =>
   have hkl : k + 1 < (fromW W d q.length W.length).length := by rw [from_len]; exact (List.getElem?_eq_some_iff.1 h4).1
   rw [List.getElem?_append_left hkl]
   unfold fromW
   rw [List.getElem?_map, h4]; rfl
theorem SpanOf.le {q : List ByteArray} {a b : Nat} (h : SpanOf W d q a b) : a ≤ b /\ b ≤ widthW W d q.length W.length := by
 obtain ⟨lo, hi, hI, rfl, rfl⟩ := h
 exact ⟨width_mono _ (Nat.le_of_lt hI.le), width_mono _ hI.few⟩
theorem SpanOf.some (hW : WaysOk W d) {q : List ByteArray} {a b : Nat} (h : SpanOf W d q a b) (hq : q.length < d) : a < b := by
 have hS := h
 obtain ⟨lo, hi, hI, ea, eb⟩ := h
 obtain ⟨r, hr⟩ : ∃ r, W[lo]? = .some r := ⟨_, List.getElem?_eq_getElem (Nat.lt_of_lt_of_le hI.le hI.few)⟩
 obtain ⟨x, hx, et⟩ := hW.cell hr hq
 have e := (hI.iff lo r hr).2 ⟨Nat.le_refl _, hI.le⟩
 rw [e] at et
 obtain ⟨k, h1, h2, _⟩ := hS.all hW hq (List.mem_of_getElem? hr) et
 omega
end
end Go.Proofs.YtinnmeiphbdogaaGreat

/- Tries: how levels grow, way by way; where a cursor stands. Plain. -/
namespace Go.Proofs.YtinnmeiphbdogaaGreat
set_option linter.unusedVariables false
section
variable {W : Rows2} {d : Nat}
theorem keys_succ {i n : Nat} (hi : i < d) {r : List ByteArray} {x : ByteArray} (hr : W[n]? = some r) (hx : r[i]? = some x) : keysW W d i (n + 1) = keysW W d i n ++ if partsW W (i + 1) n then [x] else [] := by
 unfold keysW
 rw [starts_succ W hi, List.map_append]
 congr 1
 split
 ·rw [List.map_singleton, getD_some hr, getD_some hx]
 ·rfl
theorem from_succ {i n : Nat} (hi : i < d) : fromW W d i (n + 1) = fromW W d i n ++ if partsW W (i + 1) n then [(widthW W d (i + 1) n : Int)] else [] := by
 unfold fromW
 rw [starts_succ W hi, List.map_append]
 congr 1
 split
 ·rfl
 ·rfl
theorem width_last {n : Nat} : widthW W d d n = n := by unfold widthW; rw [starts_last W (Nat.lt_irrefl d), List.length_range]
theorem parts_zero {n : Nat} : partsW W 0 n = (n == 0) := by
 unfold partsW
 rw [List.take_zero, List.take_zero]
 simp
structure PathOk (W : Rows2) (d : Nat) (q : List ByteArray) (st : List (Nat × Nat)) : Prop where
 len : st.length = q.length
 at_ : ∀ (j : Nat) (e : Nat × Nat), st[j]? = some e -> ∃ a x, SpanOf W d (q.take j) a e.2 /\ a ≤ e.1 /\ e.1 < e.2 /\ q[j]? = some x /\ (keysW W d j W.length)[e.1]? = some x
 few : q.length ≤ d
theorem PathOk.nil : PathOk W d [] [] := ⟨rfl, fun j e h => by simp at h, Nat.zero_le _⟩
theorem PathOk.push {q : List ByteArray} {st : List (Nat × Nat)} (h : PathOk W d q st) (hq : q.length < d) {a b k : Nat} {x : ByteArray} (hs : SpanOf W d q a b) (ha : a ≤ k) (hb : k < b) (hx : (keysW W d q.length W.length)[k]? = some x) : PathOk W d (q ++ [x]) (st ++ [(k, b)]) := by
 refine ⟨by simp [h.len], fun j e he => ?_, by simp; omega⟩
 rcases Nat.lt_trichotomy j st.length with h1 | h1 | h1
 ·rw [List.getElem?_append_left h1] at he
  obtain ⟨a', x', h2, h3, h4, h5, h6⟩ := h.at_ j e he
  have hj : j < q.length := by rw [<- h.len]; exact h1
  exact ⟨a', x', by rw [List.take_append_of_le_length (by omega)]; exact h2, h3, h4, by rw [List.getElem?_append_left hj]; exact h5, h6⟩
 ·subst h1
  rw [List.getElem?_append_right (Nat.le_refl _), Nat.sub_self] at he
  cases he
  refine ⟨a, x, ?_, ha, hb, ?_, ?_⟩
  ·rw [h.len, List.take_left]; exact hs
  ·rw [h.len, List.getElem?_append_right (Nat.le_refl _), Nat.sub_self]; rfl
  ·rw [h.len]; exact hx
 ·rw [List.getElem?_append_right (by omega)] at he
  have : j - st.length ≠ 0 := by omega
  cases hj : j - st.length with
  | zero => omega
  | succ m => rw [hj] at he; simp at he
theorem PathOk.open (hW : WaysOk W d) (hne : 0 < W.length) {q : List ByteArray} {st : List (Nat × Nat)} (h : PathOk W d q st) (hq : q.length < d) :
 ∃ a b, SpanOf W d q a b /\ a < b /\ ((q = [] /\ a = 0 /\ b = widthW W d 0 W.length) \/
  ∃ (m : Nat) (e : Nat × Nat), q.length = m + 1 /\ st[m]? = some e /\ (fromW W d m W.length ++ [(widthW W d (m + 1) W.length : Int)])[e.1]? = some ((a : Nat) : Int) /\ (fromW W d m W.length ++ [(widthW W d (m + 1) W.length : Int)])[e.1 + 1]? = some ((b : Nat) : Int)) := by
 cases hl : q.length with
 | zero =>
  have e : q = [] := List.eq_nil_of_length_eq_zero hl
  subst e
  have hs := span_root (W := W) (d := d) hne
  exact ⟨0, _, hs, hs.some hW hq, .inl ⟨rfl, rfl, rfl⟩⟩
 | succ m =>
  obtain ⟨e, he⟩ : ∃ e, st[m]? = some e := ⟨_, List.getElem?_eq_getElem (by rw [h.len, hl]; omega)⟩
  obtain ⟨a', x, h1, h2, h3, h4, h5⟩ := h.at_ m e he
  have hlen : (q.take m).length = m := by rw [List.length_take]; omega
  have hd := h1.down hW (by rw [hlen]; omega) h2 h3 (x := x) (by rw [hlen]; exact h5)
  rw [hlen] at hd
  obtain ⟨f, t, h6, h7, h8⟩ := hd
  have eq : q.take m ++ [x] = q := by
   have : q.take (m + 1) = q.take m ++ [x] := by rw [List.take_add_one, h4]; rfl
   rw [<- this, <- hl, List.take_length]
  rw [eq] at h8
  exact ⟨f, t, h8, h8.some hW hq, .inr ⟨m, e, rfl, he, h6, h7⟩⟩
end
end Go.Proofs.YtinnmeiphbdogaaGreat

/- The program's tables and tests, and what a rule's bindings are: plain. -/
namespace Go.Proofs.YtinnmeiphbdogaaGreat
set_option linter.unusedVariables false
def asksL (N V : List ByteArray) (R : Rows2) (l : LitZ) : Prop :=
 if l.1 = 1 then (varsA N (termsOf l)).map (gotD V) ∈ tabA N (termsOf l) R
 else if l.1 = 2 then ¬ (varsA N (termsOf l)).map (gotD V) ∈ tabA N (termsOf l) R
 else opHolds (opOf l) (valT N V (leftOf l)) (valT N V (rightOf l))
theorem asks_iff {N V : List ByteArray} {R : Rows2} {l : LitZ} (hN : N.Nodup) (hV : V.length = N.length) (hin : l.1 = 1 \/ l.1 = 2 -> ∀ t ∈ termsOf l, t.1 = 1 -> t.2.1 ∈ N) : asksL N V R l ↔ holdsL N V R l := by
 unfold asksL holdsL
 by_cases h1 : l.1 = 1
 ·rw [if_pos h1, if_pos h1]; exact tab_iff R hN hV (hin (.inl h1))
 ·rw [if_neg h1, if_neg h1]
  by_cases h2 : l.1 = 2
  ·rw [if_pos h2, if_pos h2, tab_iff R hN hV (hin (.inr h2))]
  ·rw [if_neg h2, if_neg h2]
theorem names_has : ∀ (ts : List TermZ) (a : List ByteArray) (t : TermZ), t ∈ ts -> t.1 = 1 -> t.2.1 ∈ namesT a ts
 | [], _, _, h, _ => by simp at h
 | u :: ts, a, t, h, h1 => by
  show t.2.1 ∈ namesT (addName a u) ts
  rcases List.mem_cons.1 h with h | h
  ·subst h
   have hm : t.2.1 ∈ addName a t := by
    unfold addName
    split
    ·simp
    ·rename_i h2
     rw [<- hasT_iff]
     cases h3 : hasT a t.2.1 with
     | true => rfl
     | false => exact absurd ⟨h1, h3⟩ h2
   have hp := names_pre ts (addName a t)
   rw [<- hp] at hm
   exact List.mem_of_mem_take hm
  ·exact names_has ts (addName a u) t h h1
theorem namesB_has {ls : List LitZ} {l : LitZ} (hl : l ∈ ls) (h1 : l.1 = 1) {t : TermZ} (ht : t ∈ termsOf l) (h : t.1 = 1) : t.2.1 ∈ namesB ls := by
 obtain ⟨i, hi⟩ := List.mem_iff_getElem?.1 hl
 have e := namesB_next hi
 have hm : t.2.1 ∈ namesB (ls.take (i + 1)) := by
  rw [e]; unfold namesL; rw [if_pos h1]
  exact names_has _ _ _ ht h
 rw [<- namesB_pre ls (i + 1)] at hm
 exact List.mem_of_mem_take hm
theorem safe_in {r : RuleZ} (h : checkR r = 0) {l : LitZ} (hl : l ∈ r.2.1) (hk : l.1 = 1 \/ l.1 = 2) : ∀ t ∈ termsOf l, t.1 = 1 -> t.2.1 ∈ namesB r.2.1 := fun t ht h1 => by
 rcases hk with hk | hk
 ·exact namesB_has hl hk ht h1
 ·unfold checkR at h
  split at h
  ·split at h
   ·rename_i hp hs
    unfold safeR at hs
    rw [Bool.and_eq_true] at hs
    have h2 := List.all_eq_true.1 hs.2 l hl
    unfold safeL at h2
    rw [if_neg (by omega), if_pos hk] at h2
    have h3 := List.all_eq_true.1 h2 t ht
    unfold safeT at h3
    rw [if_neg (by omega)] at h3
    rcases of_decide_eq_true h3 with h4 | h4 | h4
    ·omega
    ·omega
    ·exact hasT_iff.1 h4
   ·cases h
  ·cases h
theorem bind_iff {r : RuleZ} (h : checkR r = 0) {R : Nat -> Rows2} {V : List ByteArray} : BindOk r.2.1 R V ↔ V.length = (namesB r.2.1).length /\ ∀ (i : Nat) (l : LitZ), r.2.1[i]? = some l -> asksL (namesB r.2.1) V (R i) l := by
 unfold BindOk
 refine and_congr_right fun hV => ⟨fun h1 i l hl => (asks_iff (namesB_nodup _) hV fun hk => safe_in h (List.mem_of_getElem? hl) hk).2 (h1 i l hl), fun h1 i l hl => (asks_iff (namesB_nodup _) hV fun hk => safe_in h (List.mem_of_getElem? hl) hk).1 (h1 i l hl)⟩
theorem names_from : ∀ (ts : List TermZ) (a : List ByteArray) (s : ByteArray), s ∈ namesT a ts -> s ∈ a \/ ∃ t ∈ ts, t.1 = 1 /\ t.2.1 = s
 | [], a, s, h => .inl h
 | t :: ts, a, s, h => by
  rcases names_from ts (addName a t) s h with h1 | ⟨u, hu, h1⟩
  ·unfold addName at h1
   split at h1
   ·rename_i h2
    rcases List.mem_append.1 h1 with h1 | h1
    ·exact .inl h1
    ·rw [List.mem_singleton] at h1
     exact .inr ⟨t, List.mem_cons_self .., h2.1, h1.symm⟩
   ·exact .inl h1
  ·exact .inr ⟨u, List.mem_cons_of_mem _ hu, h1⟩
theorem namesF_from : ∀ (ls : List LitZ) (a : List ByteArray) (s : ByteArray), s ∈ ls.foldl namesL a -> s ∈ a \/ ∃ l ∈ ls, l.1 = 1 /\ ∃ t ∈ termsOf l, t.1 = 1 /\ t.2.1 = s
 | [], a, s, h => .inl h
 | l :: ls, a, s, h => by
  rcases namesF_from ls (namesL a l) s h with h1 | ⟨m, hm, h1⟩
  ·unfold namesL at h1
   split at h1
   ·rename_i h2
    rcases names_from _ _ _ h1 with h3 | h3
    ·exact .inl h3
    ·exact .inr ⟨l, List.mem_cons_self .., h2, h3⟩
   ·exact .inl h1
  ·exact .inr ⟨m, List.mem_cons_of_mem _ hm, h1⟩
theorem names_positive {ls : List LitZ} {v : Nat} (hv : v < (namesB ls).length) : ∃ l ∈ ls, l.1 = 1 /\ v ∈ varsA (namesB ls) (termsOf l) := by
 have hg : (namesB ls)[v]? = some (gotD (namesB ls) v) := by unfold gotD; rw [List.getD_eq_getElem?_getD, List.getElem?_eq_getElem hv]; rfl
 rcases namesF_from ls [] _ (List.mem_of_getElem? hg) with h | ⟨l, hl, h1, t, ht, h2, h3⟩
 ·simp at h
 ·obtain ⟨i, hi⟩ := List.mem_iff_getElem?.1 ht
  exact ⟨l, hl, h1, vars_mem.2 ⟨hv, i, t, hi, h2, h3⟩⟩
theorem vars_split {vs : List Nat} (hr : vs.Pairwise (· < ·)) {m v : Nat} (hm : vs[m]? = some v) {p V : List ByteArray} (hp : V.take v = p) (hV : v < V.length) :
 (vs.map (gotD V)).take (m + 1) = (vs.take m).map (gotD p) ++ [gotD V v] := by
 have hml := (List.getElem?_eq_some_iff.1 hm)
 rw [List.take_add_one, List.getElem?_map, hm]
 show (vs.map (gotD V)).take m ++ [gotD V v] = _
 rw [<- List.map_take]
 congr 1
 refine List.map_congr_left fun u hu => ?_
 obtain ⟨j, hj⟩ := List.mem_iff_getElem?.1 hu
 have hjm : j < m := by
  have := (List.getElem?_eq_some_iff.1 hj).1
  rw [List.length_take] at this; omega
 rw [List.getElem?_take_of_lt hjm] at hj
 obtain ⟨l1, e1⟩ := List.getElem?_eq_some_iff.1 hj
 have huv := List.pairwise_iff_getElem.1 hr j m l1 hml.1 hjm
 rw [e1, hml.2] at huv
 unfold gotD
 rw [List.getD_eq_getElem?_getD, List.getD_eq_getElem?_getD, <- hp, List.getElem?_take_of_lt huv]
end Go.Proofs.YtinnmeiphbdogaaGreat

/- The program's way from variable to variable: plain. -/
namespace Go.Proofs.YtinnmeiphbdogaaGreat
set_option linter.unusedVariables false
theorem cur_ok {W : Rows2} {d : Nat} (hW : WaysOk W d) {q : List ByteArray} {a b : Nat} (h : SpanOf W d q a b) (hq : q.length < d) : CurOk ⟨keysW W d q.length W.length, a, b⟩ :=
 ⟨h.le.1, by show b ≤ (keysW W d q.length W.length).length; rw [keys_len]; exact h.le.2, fun k l x y h1 h2 h3 h4 h5 => h.rise hW hq h1 h2 h3 h4 h5⟩
theorem cur_common {W : Rows2} {d : Nat} (hW : WaysOk W d) {q : List ByteArray} {a b : Nat} (h : SpanOf W d q a b) (hq : q.length < d) {r : List ByteArray} {x : ByteArray} (hr : r ∈ W) (he : r.take (q.length + 1) = q ++ [x]) : LeftC ⟨keysW W d q.length W.length, a, b⟩ a x := by
 obtain ⟨k, h1, h2, h3⟩ := h.all hW hq hr he
 exact ⟨k, h1, h2, h3⟩
def idxT (N : List ByteArray) (t : TermZ) : Int := if t.1 = 1 /\ hasT N t.2.1 = true then ((N.findIdx fun s => decide (s = t.2.1) : Nat) : Int) else -1
def lastL (N : List ByteArray) (l : LitZ) : Int :=
 if l.1 = 2 then match (varsA N (termsOf l)).getLast? with | some v => (v : Int) | none => -1
 else max (idxT N (leftOf l)) (idxT N (rightOf l))
theorem got_take {V V' : List ByteArray} {k v : Nat} (h : V.take k = V'.take k) (hv : v < k) : gotD V v = gotD V' v := by
 unfold gotD
 rw [List.getD_eq_getElem?_getD, List.getD_eq_getElem?_getD, <- List.getElem?_take_of_lt hv, h, List.getElem?_take_of_lt hv]
theorem val_take {N V V' : List ByteArray} {k : Nat} (h : V.take k = V'.take k) {t : TermZ} (hk : idxT N t < k) (hin : t.1 = 1 -> t.2.1 ∈ N) : valT N V t = valT N V' t := by
 unfold valT
 split
 ·rename_i h1
  refine got_take h ?_
  unfold idxT at hk
  rw [if_pos ⟨h1, hasT_iff.2 (hin h1)⟩] at hk
  omega
 ·rfl
theorem asks_take {N V V' : List ByteArray} {R : Rows2} {l : LitZ} {k : Nat} (h : V.take k = V'.take k) (h1 : l.1 ≠ 1) (hk : lastL N l < k) (hin : l.1 ≠ 2 -> (leftOf l).1 = 1 -> (leftOf l).2.1 ∈ N) (hin2 : l.1 ≠ 2 -> (rightOf l).1 = 1 -> (rightOf l).2.1 ∈ N) : asksL N V R l ↔ asksL N V' R l := by
 unfold asksL
 rw [if_neg h1, if_neg h1]
 by_cases h2 : l.1 = 2
 ·rw [if_pos h2, if_pos h2]
  unfold lastL at hk
  rw [if_pos h2] at hk
  have e : (varsA N (termsOf l)).map (gotD V) = (varsA N (termsOf l)).map (gotD V') := by
   refine List.map_congr_left fun v hv => got_take h ?_
   obtain ⟨j, hj⟩ := List.mem_iff_getElem?.1 hv
   have hjl := List.getElem?_eq_some_iff.1 hj
   have hlast : (varsA N (termsOf l)).getLast? = (varsA N (termsOf l))[(varsA N (termsOf l)).length - 1]? := List.getLast?_eq_getElem?
   obtain ⟨u, hu⟩ : ∃ u, (varsA N (termsOf l))[(varsA N (termsOf l)).length - 1]? = some u := ⟨_, List.getElem?_eq_getElem (by have := hjl.1; omega)⟩
   rw [hlast, hu] at hk
   have hul := List.getElem?_eq_some_iff.1 hu
   have hk' : (u : Int) < k := hk
   rcases Nat.lt_or_ge j ((varsA N (termsOf l)).length - 1) with h3 | h3
   ·have := List.pairwise_iff_getElem.1 (vars_rise N (termsOf l)) j _ hjl.1 hul.1 h3
    rw [hjl.2, hul.2] at this
    omega
   ·have : j = (varsA N (termsOf l)).length - 1 := by have := hjl.1; omega
    subst this
    rw [hj] at hu; cases hu
    omega
  rw [e]
 ·rw [if_neg h2, if_neg h2]
  unfold lastL at hk
  rw [if_neg h2] at hk
  rw [val_take h (by omega) (hin h2), val_take h (by omega) (hin2 h2)]
theorem last_lt {N : List ByteArray} {l : LitZ} : lastL N l < N.length := by
 have hi : ∀ t, idxT N t < N.length := fun t => by
  unfold idxT
  split
  ·rename_i h
   have := (List.getElem?_eq_some_iff.1 (idx_of (hasT_iff.1 h.2))).1
   omega
  ·omega
 unfold lastL
 split
 ·split
  ·rename_i v hv
   have := (vars_mem.1 (List.mem_of_getLast? hv)).1
   omega
  ·omega
 ·have h1 := hi (leftOf l)
  have h2 := hi (rightOf l)
  omega
end Go.Proofs.YtinnmeiphbdogaaGreat

/- slices.Index at texts and at terms, to the place. -/
namespace Go.Proofs.YtinnmeiphbdogaaGreat
open Go.RowKit
set_option linter.unusedVariables false
def firstI {α : Type} (q : α -> Bool) (l : List α) : Int := if l.any q = true then ((l.findIdx q : Nat) : Int) else -1
theorem firstI_at {α : Type} {q : α -> Bool} {l : List α} {i : Nat} {u : α} (hno : ∀ (j : Nat) x, j < i -> l[j]? = some x -> q x = false) (hi : l[i]? = some u) (hq : q u = true) : firstI q l = i := by
 unfold firstI
 rw [if_pos (any_true hi hq)]
 have hl := List.getElem?_eq_some_iff.1 hi
 congr 1
 have h1 : l.findIdx q ≤ i := by
  refine Nat.not_lt.1 fun h => ?_
  have := List.not_of_lt_findIdx h
  rw [hl.2, hq] at this
  exact absurd this (by simp)
 rcases Nat.lt_or_eq_of_le h1 with h2 | h2
 ·have h3 : l.findIdx q < l.length := Nat.lt_trans h2 hl.1
  have h4 := List.findIdx_getElem (w := h3)
  rw [hno _ _ h2 (List.getElem?_eq_getElem h3)] at h4
  cases h4
 ·exact h2
theorem firstI_none {α : Type} {q : α -> Bool} {l : List α} (hno : ∀ (j : Nat) x, j < l.length -> l[j]? = some x -> q x = false) : firstI q l = -1 := by
 unfold firstI
 rw [any_false rfl hno]; rfl
set_option maxRecDepth 100000 in
set_option maxHeartbeats 1000000 in
theorem indexSx_any (ss : List ByteArray) (s : ByteArray) (ao : Option Addr) (n cap : Nat) (w : World) (hn : n = ss.length) (h : CellsAt w ao (strs ss)) (hl : n ≤ 4611686018427387904) :
 Calls Tryz.prog 75 #[.slice ao n cap, .string s] w (RetN w fun w' v => v = .int .i64 (firstI (fun x => decide (x = s)) ss)) := by
 have HN := Lib.hid hn; have HE := Lib.hid h; clear hn h
 go_enter Tryz.func75, Tryz.ntmps75
 go_wp2
 go_loopw [8] (fun iv wr => NoneS w ss s n iv wr) (fun iv _ => n - (intOf iv).toNat)
 case atStart => exact ⟨0, Nat.zero_le _, rfl, fun j u h => by omega, Kp.refl w⟩
 case round =>
  obtain ⟨i, hi, rfl, hno, hex⟩ := hrel
  by_cases hlt : i < n
  ·have hlt' : i < ss.length := by rw [<- HN.out]; exact hlt
   obtain ⟨b, off, eao, hc0⟩ := (HE.out.ext hex.out).str hlt'
   subst eao
   have ht : ss[i]? = some ss[i] := List.getElem?_eq_getElem hlt'
   generalize ss[i] = u at *
   by_cases hu : s = u
   ·have HT := Lib.hid (And.intro ht hu)
    clear ht hlt'
    subst hu
    have hb := str_eq s
    go_wp2
    go_ret
    exact RetN.mk hex.out (by rw [firstI_at hno.out HT.out.1 (by simp)]; rfl)
   ·have HT := Lib.hid (And.intro ht hu)
    have hb := str_ne hu
    clear ht hlt' hu
    go_wp2
    go_roundw
    case rel =>
     refine ⟨i + 1, by omega, by first | rfl | (congr 1; done) | (congr 1; omega), fun j u hj hu => ?_, hex⟩
     by_cases e : j = i
     ·subst e; rw [HT.out.1] at hu; cases hu; exact decide_eq_false (fun e => HT.out.2 e.symm)
     ·exact hno.out j u (by omega) hu
    case measure => simp [intOf]; omega
  ·go_wp2
   go_ret
   exact RetN.mk hex.out (by rw [firstI_none fun j u hj => hno.out j u (by have := HN.out; omega)]; rfl)
def isT (k : Int) (s : ByteArray) (t : TermZ) : Bool := decide (t.1 = k /\ t.2.1 = s)
def NoneX (w0 : World) (ts : List TermZ) (q : TermZ -> Bool) (n : Nat) (iv : Value) (w : World) : Prop := ∃ i : Nat, i ≤ n /\ iv = .int .i64 i /\ Hid (∀ (j : Nat) u, j < i -> ts[j]? = some u -> q u = false) /\ Hid (Ext w0 w)
set_option maxRecDepth 100000 in
set_option maxHeartbeats 2000000 in
theorem indexTx_any (ts : List TermZ) (k : Int) (s : ByteArray) (ao : Option Addr) (n cap : Nat) (w : World) (G : Nat -> Prop) (hn : n = ts.length) (h : TermsAt w G ao ts) (hl : n ≤ 1048576) :
 Calls Tryz.prog 150 #[.slice ao n cap, termV k s] w (RetN w fun w' v => v = .int .i64 (firstI (isT k s) ts)) := by
 have HN := Lib.hid hn; have HE := Lib.hid h; clear hn h
 go_enter Tryz.func150, Tryz.ntmps150
 obtain ⟨w1, e1⟩ : ∃ w1, w.alloc (.cells #[.int .i64 k, .string s] 38) = w1 := ⟨_, rfl⟩
 obtain ⟨g0, eg0⟩ : ∃ g, w.heap.size = g := ⟨_, rfl⟩
 have hB : Blk w1 g0 [.int .i64 k, .string s] 38 := by rw [<- e1, <- eg0]; exact Blk.new w _ _
 have hx : Ext w w1 := by rw [<- e1]; exact (Kp.refl w).alloc _
 have H1 := Lib.hid (And.intro hx hB)
 clear hx hB
 go_wp2
 clear e1 eg0
 go_loopw [8] (fun iv wr => NoneX w1 ts (isT k s) n iv wr) (fun iv _ => n - (intOf iv).toNat)
 case atStart => exact ⟨0, Nat.zero_le _, rfl, fun j u h => by omega, Kp.refl w1⟩
 case round =>
  obtain ⟨i, hi, rfl, hno, hex⟩ := hrel
  by_cases hlt : i < n
  ·obtain ⟨t, ht⟩ : ∃ t, ts[i]? = some t := ⟨_, List.getElem?_eq_getElem (by rw [<- HN.out]; exact hlt)⟩
   obtain ⟨b, off, eao, f0, f1, -, -⟩ := term_at ((HE.out.ext H1.out.1).ext hex.out) ht
   subst eao
   have hB := H1.out.2.ext hex.out
   have b0 : wr.cell? ⟨g0, 0, none⟩ = some (.int .i64 k) := by rw [hB.cell']; rfl
   have b1 : wr.cell? ⟨g0, 1, none⟩ = some (.string s) := by rw [hB.cell']; rfl
   obtain ⟨kt, st, ⟨⟩⟩ := t
   simp only at f0 f1
   clear hB
   by_cases hq : kt = k /\ st = s
   ·have HT := Lib.hid (And.intro ht (show isT k s (kt, st, ()) = true from decide_eq_true hq))
    obtain ⟨rfl, rfl⟩ := hq
    have hb := str_eq st
    clear ht
    go_wp2
    go_quiet (fail)
    go_wp2
    go_ret
    exact RetN.mk ((H1.out.1.trans hex.out).drewN _) (by rw [firstI_at hno.out HT.out.1 HT.out.2]; rfl)
   ·have HT := Lib.hid (And.intro ht (show isT k s (kt, st, ()) = false from decide_eq_false hq))
    clear ht
    by_cases h1 : k = kt
    ·subst h1
     have hb := str_ne (a := s) (b := st) (fun e => hq ⟨rfl, e.symm⟩)
     have hb2 : (k == k) = true := by simp
     clear hq
     go_wp2
     go_quiet (fail)
     go_wp2
     go_roundw
     case rel =>
      refine ⟨i + 1, by omega, by first | rfl | (congr 1; done) | (congr 1; omega), fun j u hj hu => ?_, Lib.hid (hex.out.drewN _)⟩
      by_cases e : j = i
      ·subst e; rw [HT.out.1] at hu; cases hu; exact HT.out.2
      ·exact hno.out j u (by omega) hu
     case measure => simp [intOf]; omega
    ·have hb : (k == kt) = false := by simp [h1]
     clear hq h1
     go_wp2
     go_quiet (fail)
     go_wp2
     go_roundw
     case rel =>
      refine ⟨i + 1, by omega, by first | rfl | (congr 1; done) | (congr 1; omega), fun j u hj hu => ?_, Lib.hid (hex.out.drewN _)⟩
      by_cases e : j = i
      ·subst e; rw [HT.out.1] at hu; cases hu; exact HT.out.2
      ·exact hno.out j u (by omega) hu
     case measure => simp [intOf]; omega
  ·go_wp2
   go_ret
   exact RetN.mk (H1.out.1.trans hex.out) (by rw [firstI_none fun j u hj => hno.out j u (by have := HN.out; omega)]; rfl)
set_option maxRecDepth 100000 in
theorem containsTx_any (ts : List TermZ) (k : Int) (s : ByteArray) (ao : Option Addr) (n cap : Nat) (w : World) (G : Nat -> Prop) (hn : n = ts.length) (h : TermsAt w G ao ts) (hl : n ≤ 1048576) :
 Calls Tryz.prog 148 #[.slice ao n cap, termV k s] w (RetN w fun w' v => v = .bool (ts.any (isT k s))) := by
 have HI := Lib.hid (fun W (hW : Ext w W) => indexTx_any ts k s ao n cap W G hn (h.ext hW) hl)
 clear hn h hl
 go_enter Tryz.func148, Tryz.ntmps148
 obtain ⟨w1, e1⟩ : ∃ w1, w.alloc (.cells #[.int .i64 k, .string s] 38) = w1 := ⟨_, rfl⟩
 obtain ⟨g0, eg0⟩ : ∃ g, w.heap.size = g := ⟨_, rfl⟩
 have hB : Blk w1 g0 [.int .i64 k, .string s] 38 := by rw [<- e1, <- eg0]; exact Blk.new w _ _
 have hx : Ext w w1 := by rw [<- e1]; exact (Kp.refl w).alloc _
 have b0 : w1.cell? ⟨g0, 0, none⟩ = some (.int .i64 k) := by rw [hB.cell']; rfl
 have b1 : w1.cell? ⟨g0, 1, none⟩ = some (.string s) := by rw [hB.cell']; rfl
 have H1 := Lib.hid hx
 clear hx hB
 go_wp2_with fail
 refine (HI.out w1 H1.out).mono ?_
 rintro e w2 ⟨v, rfl, hk, rfl⟩
 go_wp2
 go_ret
 refine RetN.mk (H1.out.trans hk) (congrArg Value.bool ?_)
 unfold firstI
 cases h2 : ts.any (isT k s)
 ·simp
 ·simp
end Go.Proofs.YtinnmeiphbdogaaGreat

/- Bases in plain Lean: what relations make, in whatever order; what is told of a base. No program in sight. -/
namespace Go.Proofs.YtinnmeiphbdogaaGreat
set_option linter.unusedVariables false
theorem ok_nil : BaseOk [] := ⟨List.nodup_nil, fun p hp => by simp at hp, Nat.zero_le _⟩
end Go.Proofs.YtinnmeiphbdogaaGreat

/- tuple.Base: put, NewBase, Len. -/
namespace Go.Proofs.YtinnmeiphbdogaaGreat
open Go.RowKit
set_option linter.unusedVariables false
section
variable {w w' : World} {bb r : Nat} {n : Int} {m : List (ByteArray × Value)}
theorem basePut_any (hB : Blk w bb [.map (some r), .int .i64 n] 129) (hm : MapIs w r m) (s : ByteArray) (p : Option Addr) :
 Calls Tryz.prog 89 #[.pointer (some ⟨bb, 0, none⟩), .string s, .pointer p] w (RetF (fun k => k = r) w fun w' v => MapIs w' r (putM m s (.pointer p))) := by
 have c0 : w.cell? ⟨bb, 0, none⟩ = some (.map (some r)) := by rw [hB.cell']; rfl
 obtain ⟨w2, hrun, hm2, hk2⟩ := run_update_str (P := Tryz.prog) Tryz.underlying127 Tryz.underlying9 hm s (.pointer p)
 have hq : ∀ w : World, (binOp .eql 127 (.map (some r)) (.map none)).run Tryz.prog w = .ok (.bool false) w := fun w => by kernel_rfl
 have HM := Lib.hid (And.intro hm2 hk2)
 clear hB hm hm2 hk2
 go_enter Tryz.func89, Tryz.ntmps89
 go_wp2
 go_end0
 exact RetF.mk HM.out.2 HM.out.1
theorem newBase_any (w : World) : Calls Tryz.prog 106 #[] w (RetN w fun w' v => v = .pointer (some ⟨w.heap.size + 1, 0, none⟩) /\ Blk w' (w.heap.size + 1) [.map (some w.heap.size), .int .i64 0] 129 /\ MapIs w' w.heap.size []) := by
 have hmm := @run_makeMap Tryz.prog
 go_enter Tryz.func106, Tryz.ntmps106
 go_wp2
 go_ret
 have hB := Blk.new (w.alloc (.map #[] 0)) [.map (some w.heap.size), .int .i64 0] 129
 rw [alloc_size] at hB
 exact RetN.mk (((Kp.refl w).alloc _).alloc _) ⟨rfl, hB, (MapIs.new w).ext ((Kp.refl _).alloc _)⟩
end
end Go.Proofs.YtinnmeiphbdogaaGreat

/- tuple.Rows whose order may still be nil (a zero value): set lays it; Len, Has, Below, At, Arity, Drop. -/
namespace Go.Proofs.YtinnmeiphbdogaaGreat
open Go.RowKit
set_option linter.unusedVariables false
def RowsQ (z : Prop) (S : Nat -> Prop) (w : World) (b : Nat) (iv : Value) (arity : Nat) (LL : List (List ByteArray)) : Prop :=
 RowsAt S w b iv arity LL \/ (z /\ iv = .slice none 0 0 /\ LL = [] /\ Blk w b [.nilFunc, .slice none 0 0, .int .i64 arity] 135 /\ (∀ k, S k -> k < w.heap.size) /\ ¬ S b)
abbrev FQ (z : Prop) (b : Nat) : Nat -> Prop := fun k => z /\ k = b
theorem FQ.owns {z : Prop} {b : Nat} {iv : Value} : ∀ k, FQ z b k -> Owns b iv k := fun k h => .inl h.2
theorem Kp.fq {b : Nat} {w w' : World} (h : Kp (FQ False b) w w') : Ext w w' := h.mono fun _ _ h => h.1
section
variable {z : Prop} {S : Nat -> Prop} {w w' : World} {b : Nat} {iv : Value} {arity : Nat} {LL : List (List ByteArray)}
theorem RowsAt.q (h : RowsAt S w b iv arity LL) : RowsQ z S w b iv arity LL := .inl h
theorem RowsQ.kp {F : Nat -> Prop} (h : RowsQ z S w b iv arity LL) (hk : Kp F w w') (hF : ∀ k, F k -> ¬ Owns b iv k) (hS : ∀ k, F k -> ¬ S k) : RowsQ z S w' b iv arity LL := by
 rcases h with h | ⟨hz, e, el, hB, h1, h2⟩
 ·exact .inl (h.move hk hF hS (fun _ h => h) (fun k hk' => Nat.lt_of_lt_of_le (h.inS k hk') hk.size) h.notS)
 ·exact .inr ⟨hz, e, el, hB.kp hk (fun hf => hF _ hf (.inl rfl)), fun k hk' => Nat.lt_of_lt_of_le (h1 k hk') hk.size, h2⟩
theorem RowsQ.ext (h : RowsQ z S w b iv arity LL) (hk : Ext w w') : RowsQ z S w' b iv arity LL := h.kp hk (fun _ x => x.elim) (fun _ x => x.elim)
theorem RowsQ.blk' (h : RowsQ z S w b iv arity LL) : ∃ ov, Blk w b [ov, iv, .int .i64 arity] 135 := by
 rcases h with h | ⟨_, e, _, hB, _⟩
 ·exact ⟨_, h.blk⟩
 ·exact ⟨_, by rw [e]; exact hB⟩
theorem RowsQ.lt (h : RowsQ z S w b iv arity LL) : b < w.heap.size := by obtain ⟨ov, h⟩ := h.blk'; exact h.lt
theorem RowsQ.ar (h : RowsQ z S w b iv arity LL) : w.cell? ⟨b, 2, none⟩ = some (.int .i64 arity) := by obtain ⟨ov, h⟩ := h.blk'; rw [h.cell']; rfl
theorem RowsQ.inS (h : RowsQ z S w b iv arity LL) : ∀ k, S k -> k < w.heap.size := by
 rcases h with h | ⟨_, _, _, _, h, _⟩
 ·exact h.inS
 ·exact h
theorem rowsSet_q (h : RowsQ z S w b iv arity LL) :
 Calls Tryz.prog 99 #[.pointer (some ⟨b, 0, none⟩)] w (RetF (FQ z b) w fun w' v => v = .pointer (some ⟨b, 0, none⟩) /\ RowsAt S w' b iv arity LL) := by
 rcases h with h | ⟨hz, rfl, rfl, hB, h1, h2⟩
 ·refine (rowsSet_any h).mono ?_
  rintro e w' ⟨rfl, rfl⟩
  exact RetF.mk (Kp.refl _) ⟨rfl, h⟩
 ·have c0 : w.cell? ⟨b, 0, none⟩ = some .nilFunc := by rw [hB.cell']; rfl
  have f0 := hB.free 0
  have hq : ∀ w : World, (binOp .eql 131 .nilFunc .nilFunc).run Tryz.prog w = .ok (.bool true) w := fun _ => by kernel_rfl
  have HB := Lib.hid (And.intro hB (And.intro h1 h2))
  have HZ := Lib.hid hz
  clear hB h1 h2 hz
  go_enter Tryz.func99, Tryz.ntmps99
  go_wp2
  go_ret
  obtain ⟨hB, h1, h2⟩ := HB.out
  have hset := hB.set 0 (.func (Fn.func 124) #[] #[])
  have hk : Kp (FQ z b) w (w.setCell ⟨b, 0, none⟩ (.func (Fn.func 124) #[] #[])) := Kp.setCell (Kp.refl w) (fun _ => ⟨HZ.out, rfl⟩) _
  obtain ⟨con, hc⟩ := con_ex (w.setCell ⟨b, 0, none⟩ (.func (Fn.func 124) #[] #[]))
  refine RetF.mk hk ⟨rfl, con, [], hc, ⟨hset, Row.nil _ _ _ _, by simp [Value.ownBlock], fun k hk' => Nat.lt_of_lt_of_le (h1 k hk') hk.size, fun k ho hs => ?_, rows_ord hc, by simp, by simp⟩, rfl⟩
  rcases ho with rfl | ho
  ·exact h2 hs
  ·cases ho
theorem rowsLen_q (h : RowsQ z S w b iv arity LL) : Calls Tryz.prog 105 #[.pointer (some ⟨b, 0, none⟩)] w (RetF (FQ z b) w fun w' v => v = .int .i64 (LL.length : Nat) /\ RowsAt S w' b iv arity LL) := by
 have HS := Lib.hid (rowsSet_q h); clear h
 go_enter Tryz.func105, Tryz.ntmps105
 go_wp2_with fail
 refine HS.out.mono ?_
 rintro e w1 ⟨v, rfl, hk, rfl, h1⟩
 have HK := Lib.hid (And.intro hk h1)
 obtain ⟨con, zs, hc, hs, hl⟩ := h1
 have HS1 := Lib.hid hs
 have HL := Lib.hid (show zs.length = LL.length by rw [<- hl]; simp)
 clear hk hs hc hl
 go_wp2_with fail
 refine (setLenRow_any HS1.out).mono ?_
 rintro e w' ⟨rfl, rfl⟩
 go_wp2
 go_ret
 exact RetF.mk HK.out.1 ⟨by rw [<- HL.out]; rfl, HK.out.2⟩
theorem RowIn.kp {F : Nat -> Prop} {x : RowZ} {ss : List ByteArray} (h : RowIn w x ss) (hk : Kp F w w') (ho : RowOff x F) : RowIn w' x ss :=
 ⟨⟨h.1.1, fun i u hu => by
  have hne : x.2.1 ≠ 0 := by
   have h1 := (List.getElem?_eq_some_iff.1 hu).1
   simp only [strs, List.length_map] at h1
   rw [h.1.1]; omega
  obtain ⟨b, o, e, c⟩ := h.1.2 i u hu
  exact ⟨b, o, e, hk.cell c (ho _ e hne)⟩⟩, h.2.1, fun a e hne => Nat.lt_of_lt_of_le (h.2.2 a e hne) hk.size⟩
theorem rowsHas_q (h : RowsQ z S w b iv arity LL) (hst : Strict cmpRow LL) {x : RowZ} {ss : List ByteArray} (hx : RowIn w x ss) (ho : RowOff x (Owns b iv)) :
 Calls Tryz.prog 87 #[.pointer (some ⟨b, 0, none⟩), .slice x.1 x.2.1 x.2.2] w (RetF (FQ z b) w fun w' v => v = .bool (isIn cmpRow LL ss) /\ RowsAt S w' b iv arity LL) := by
 have HS := Lib.hid (rowsSet_q h); clear h
 have HX := Lib.hid (And.intro hst (And.intro hx ho)); clear hst hx ho
 go_enter Tryz.func87, Tryz.ntmps87
 go_wp2_with fail
 refine HS.out.mono ?_
 rintro e w1 ⟨v, rfl, hk, rfl, h1⟩
 have hx1 := HX.out.2.1.kp hk (fun a e hne hf => HX.out.2.2 a e hne (.inl hf.2))
 obtain ⟨con, zs, hc, hs, hl, hd, ex, hz, e1, e2⟩ := h1.open HX.out.1 hx1 HX.out.2.2
 have HF := Lib.hid (setHasRow_any (cmpRow_law con) x hd hz hs)
 rw [e1] at HF
 have HK := Lib.hid (And.intro hk h1)
 clear hc hs hl hd ex hz e1 e2 hk h1 hx1
 go_wp2_with fail
 refine HF.out.mono ?_
 rintro e w2 ⟨v, rfl, hk2, rfl⟩
 have HK2 := Lib.hid hk2; clear hk2
 go_wp2
 go_ret
 exact RetF.mk (HK.out.1.ext HK2.out) ⟨rfl, HK.out.2.ext HK2.out⟩
theorem rowsArity_q (h : RowsQ z S w b iv arity LL) : Calls Tryz.prog 51 #[.pointer (some ⟨b, 0, none⟩)] w (Ret (.int .i64 arity) w) := by
 have c2 := h.ar
 clear h
 go_enter Tryz.func51, Tryz.ntmps51
 go_wp2
 go_ret
 exact Ret.mk rfl
end
end Go.Proofs.YtinnmeiphbdogaaGreat
