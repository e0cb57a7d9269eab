/- Texts joined for a claim (InsertRow, SetOpsRow, SetCopyRow, SetPickRow, SetMeetRow, SetAtRow, IterRow, IterVRow, OwnRow, BinStr, IndexStr, GenStr, RowSet, RowQ, RowQ2, RowQ3, RowOwn, RowAll, RowWith, BaseC, BaseC2, GatherPlain, BasePut, BaseAt). -/
import Derived.Test.YtomeebimmmfmbaaGreatOw6
import Derived.Deep.RegionHeld3
import Derived.Deep.RegionWith
import Derived.Test.YtomeebimmmfmbaaGreatProg
import Derived.Laws.EntriesVeiled
import Derived.Laws.Cover2
/- slices.Insert of one element at []string. -/
namespace Go.Proofs.YtomeebimmmfmbaaGreat
open Go.RowKit
set_option linter.unusedVariables false
set_option maxRecDepth 100000 in
set_option maxHeartbeats 4000000 in
theorem insertRow_any (xs : List Value) (iv : Value) (M : Nat → Prop) (n i : Nat) (x : Value) (vb : Nat) (ve : TypeId) (w : World) (hn : n = xs.length) (hr : Row w 76 1 iv n xs M) (hi : i ≤ n) (hx : x.oneCell' = true) (hxs : ∀ u ∈ xs, u.oneCell' = true)
    (hv : Blk w vb [x] ve) (hne : iv.ownBlock ≠ some vb) (hb : (n + 1) * 24 ≤ 140737488355328) :
    Calls Tryz.prog 149 #[iv, .int .i64 i, .slice (some ⟨vb, 0, none⟩) 1 1] w
      (RetF (fun g => iv.ownBlock = some g) w fun w' v => Row w' 76 1 v (n + 1) (xs.take i ++ x :: xs.drop i) (fun g => iv.ownBlock = some g ∨ w.heap.size ≤ g)) := by
  have hsrc : CellsAt w (some ⟨vb, 0, none⟩) [x] := CellsAt.pre (rest := []) hv
  have hl : n + 1 ≤ 9223372036854775807 := by omega
  obtain ⟨ao, cap, rfl, hcells, hcap⟩ := hr.shape
  by_cases hin : i = n
  · subst hin
    have HNN := Lib.hid hn; clear hn
    have hrM : Row w 76 1 (.slice ao i cap) i xs (fun g => (Value.slice ao i cap).ownBlock = some g ∨ w.heap.size ≤ g) := hr.own.mono fun g h => .inl h
    clear hr
    by_cases hci : cap = i
    all_goals
      first | (subst hci) | skip
      go_enter Tryz.func149, Tryz.ntmps149
      go_wp2_with (first | (at_builtin; refine Halted.out ?_))
      refine Halted.mk (wp_app elemRow rfl _ _ rfl (Kp.refl (F := fun g => (Value.slice ao _ _).ownBlock = some g) w) (M := fun g => (Value.slice ao _ _).ownBlock = some g ∨ w.heap.size ≤ g) (fun g h h' => by rcases h with h | h; exact h; omega) (fun g h => .inr h) rfl hrM rfl rfl hsrc (by simpa using hx) hb (by unfold maxLen; omega) ?_)
      intro v1 w1 hr1 hk1 _ _
      have HR := Lib.hid hr1; clear hr1 hcells hrM
      go_wp2
      go_ret
      refine RetF.mk hk1 ?_
      have := HNN.out
      rw [List.take_of_length_le (by omega), List.drop_of_length_le (by omega)]
      exact HR.out
  · have hlt : i < n := by omega
    obtain ⟨h1, ⟨h2, h3⟩ | ⟨g, cap', rest, h2, hM, hB, hlen, hnc, hcm⟩⟩ := hr
    · omega
    cases h2
    have hgv : g ≠ vb := fun e => hne (by simp [Value.ownBlock, e])
    have hfree := hv.free
    have hov : ∀ (W : World), Blk W vb [x] ve → (∀ cs, Blk w g cs 76 → True) → ∀ off lb cb (kB : Nat) (eB : TypeId), W.shape? g = some (eB, kB) → kB ≠ 0 →
        (callFunc 167 #[.slice (some ⟨vb, 0, none⟩) 1 1, .slice (some ⟨g, off, none⟩) lb cb]).run Tryz.prog W = .ok (.value (.bool false)) W := fun W hW _ off lb cb kB eB hs hk => by
      rw [run_callFunc_extern Tryz.func167 (by kernel_rfl) (by kernel_rfl) (by kernel_rfl) (e := Extern.SlicesOverlaps.overlaps #[69, 69] #[4]) (by kernel_rfl),
        Lib.run_overlaps_apart W 69 4 76 Tryz.underlying69 1 (fun w => by kernel_rfl) ⟨vb, 0, none⟩ ⟨g, off, none⟩ 1 1 lb cb (fun e => hgv e.symm) ve eB 1 kB hW.shape hs hk (hW.free 0) (hW.free 1)]
      rfl
    by_cases hroom : n + 1 ≤ cap
    · have hrest : ∃ y rest', rest = y :: rest' := by
        cases rest with
        | nil => simp at hlen h1; omega
        | cons y r => exact ⟨y, r, rfl⟩
      obtain ⟨y, rest', rfl⟩ := hrest
      have hov1 := fun off lb cb => hov w hv (fun _ _ => trivial) off lb cb _ _ hB.shape (by simp)
      have ncap : ¬ cap = i + 1 := by omega
      have ncap2 : ¬ cap = i := by omega
      have hi1 : ((i : Int) + 1).toNat = i + 1 := by omega
      have hw1 : IntKind.i64.wrap ((i : Int) + 1) = (i : Int) + 1 := IntWalk.i64_in _ (by omega)
      have hp1 : (0 : Int) ≤ (i : Int) + 1 := by omega
      have hp2 : (i : Int) ≤ (n : Int) + 1 := by omega
      have HNN := Lib.hid hn; clear hn
      have HB := Lib.hid hB; clear hB
      have HS := Lib.hid hsrc; clear hsrc
      have HV := Lib.hid hv; clear hv hov hfree
      have HXS := Lib.hid hxs; clear hxs
      have HC := Lib.hid hcells; clear hcells
      have HLN := Lib.hid (And.intro h1 hlen); clear h1 hlen
      have hcm' := hcm
      clear hM hcm hne
      unfold maxLen at hcm'
      go_enter Tryz.func149, Tryz.ntmps149
      go_wp2_with (simp only [hov1])
      go_still_tail 8, (by kernel_rfl)
      refine wp_copyB elemRow rfl _ _ rfl (w := w.drew) (HB.out.drew) (g := g) (off := i + 1) rfl rfl (cs := xs.drop i) (by have := HNN.out; simp [Nat.min_def]; first | omega | (split <;> omega)) (fun _ => rfl) (fun j u hu => ⟨g, i, rfl, by
          have hb := HB.out
          rw [hb.drew.cell']
          rw [List.getElem?_drop] at hu
          rw [List.getElem?_append_left (List.getElem?_eq_some_iff.1 hu).1]; exact hu⟩) (by have := HNN.out; simp; omega) (fun u hu => HXS.out u (List.mem_of_mem_drop hu)) ?_
      intro w2 hk2 hB2
      have hsv := (HS.out.drewN 1).kp hk2 (fun a ha e => by cases ha; exact hgv e.symm)
      obtain ⟨w3, hrun3, hk3, hB3⟩ := run_copyB elemRow (w := w2) hB2 (g := g) (off := i) (dp := some ⟨g, i, none⟩) (dLen := n + 1 - i) (dCap := cap - i) (sp := some ⟨vb, 0, none⟩) (sLen := 1) (sCap := 1) (cs := [x]) (by simp [Nat.min_def]; omega) (fun _ => rfl) hsv (by have := HNN.out; simp [splice]; omega) (by simpa using hx)
      have HK2 := Lib.hid hk2; have HK3 := Lib.hid hk3; have HB3 := Lib.hid hB3
      clear hk2 hk3 hB3 hB2 hsv hw1 hi1 hp1
      go_wp2
      go_ret
      have hk23 : Kp (fun k => k = g) w w3 := (((Kp.refl w).drew).trans (HK2.out)).trans HK3.out
      refine RetF.mk (hk23.mono fun k _ e => by rw [e]; rfl) ⟨?_, .inr ⟨g, cap, rest', rfl, .inl rfl, ?_, ?_, hroom, by unfold maxLen; omega⟩⟩
      · have := HNN.out; simp; omega
      · have := splice_ins xs rest' x y i (by have := HNN.out; omega)
        rw [← this]; exact HB3.out
      · have := HLN.out.2; have := HNN.out; simp at *; omega
    · have hcap' : n = cap := by omega
      subst hcap'
      have hk0 : 0 < n + 1 - i := by omega
      obtain ⟨w1, G, hrun1, hG, hGm, hext1, hsz1, hB1⟩ := run_app_zeros (w := w) elemRow rfl Tryz.underlying3 (ao := some ⟨g, 0, none⟩) (n := i) (cap := n) (olds := xs.take i) (fun j u hu => by
          rw [List.getElem?_take] at hu
          split at hu
          · exact hcells j u hu
          · cases hu) (by simp; omega) (k := n + 1 - i) hk0 (by omega) (by rw [show i + (n + 1 - i) = n + 1 by omega]; exact hb) (by unfold maxLen; omega)
      rw [show i + (n + 1 - i) = n + 1 by omega] at hrun1 hG
      have rk : (n : Int) + 1 - i = ((n + 1 - i : Nat) : Int) := by omega
      rw [← rk] at hrun1
      clear rk
      have hv1 := hsrc.ext hext1
      have hgh : g < w.heap.size := hB.lt
      obtain ⟨w2, hrun2, hk2, hB2⟩ := run_copyB elemRow (w := w1) hB1 (off := i) (dp := some ⟨w.heap.size, i, none⟩) (dLen := n + 1 - i) (dCap := G - i) (sp := some ⟨vb, 0, none⟩) (sLen := 1) (sCap := 1) (cs := [x]) (by simp [Nat.min_def]; omega) (fun _ => rfl) hv1 (by simp; omega) (by simpa using hx)
      have hB' : Blk w2 g (xs ++ rest) 76 := (hB.ext hext1).kp hk2 (by omega)
      have HB' := Lib.hid hB'; have HB2 := Lib.hid hB2; have HK2 := Lib.hid hk2; have HE1 := Lib.hid hext1
      have HNN := Lib.hid hn
      have HXS := Lib.hid hxs
      have HLN := Lib.hid (And.intro h1 hlen)
      have ncG : ¬ G = i := by omega
      have ncG1 : ¬ G = i + 1 := by omega
      have nci : ¬ n = i := by omega
      have hi1 : ((i : Int) + 1).toNat = i + 1 := by omega
      have hw1 : IntKind.i64.wrap ((i : Int) + 1) = (i : Int) + 1 := IntWalk.i64_in _ (by omega)
      have hp1 : (0 : Int) ≤ (i : Int) + 1 := by omega
      have hp2 : (i : Int) ≤ (n : Int) + 1 := by omega
      have hp3 : (i : Int) ≤ (n : Int) := by omega
      clear hB hB' hB2 hk2 hext1 hn hxs h1 hlen hv1 hB1 hM hcm hne hv hov hfree hsrc hcells
      unfold maxLen at hGm
      go_enter Tryz.func149, Tryz.ntmps149
      go_wp2_with (first | (at_builtin; refine Halted.out ?_))
      refine Halted.mk (wp_appRun rfl _ _ rfl rfl rfl hrun1 ?_)
      clear hrun1
      go_wp2
      go_still_tail 8, (by kernel_rfl)
      refine wp_copyB elemRow rfl _ _ rfl (w := w2.drew) (HB2.out.drew) (g := w.heap.size) (off := i + 1) rfl rfl (cs := xs.drop i) (by have := HNN.out; simp [Nat.min_def]; first | omega | (split <;> omega)) (fun _ => rfl) (fun j u hu => ⟨g, i, rfl, by
          have hb := HB'.out
          rw [hb.drew.cell']
          rw [List.getElem?_drop] at hu
          rw [List.getElem?_append_left (List.getElem?_eq_some_iff.1 hu).1]; exact hu⟩) (by have := HNN.out; simp [splice]; omega) (fun u hu => HXS.out u (List.mem_of_mem_drop hu)) ?_
      intro w3 hk3 hB3
      have HK3 := Lib.hid hk3; have HB3 := Lib.hid hB3
      clear hk3 hB3 hw1 hi1 hp1 hp2 hp3
      go_wp2
      go_ret
      have hext2 : Ext w w2 := HE1.out.trans' HK2.out (fun k hk e => by omega)
      have hext3 : Ext w w3 := (hext2.drew).trans' HK3.out (fun k hk e => by omega)
      refine RetF.mk hext3.kp ⟨?_, .inr ⟨w.heap.size, G, List.replicate (G - (n + 1)) (.slice none 0 0), rfl, .inr (Nat.le_refl _), ?_, ?_, hG, by unfold maxLen; omega⟩⟩
      · have := HNN.out; simp; omega
      · have h := splice_ins2 xs x (.slice none 0 0) i G (by have := HNN.out; omega) (by have := HNN.out; omega)
        have := HB3.out
        rw [h] at this
        exact this.congrL (by rw [HNN.out])
      · have := HNN.out; simp; omega
end Go.Proofs.YtomeebimmmfmbaaGreat

/- tuple.Set at []string: Has, Below, At, Add, Drop, Copy. -/
namespace Go.Proofs.YtomeebimmmfmbaaGreat
open Go.RowKit
set_option linter.unusedVariables false
section
variable {S : Nat → Prop} {w : World} {b : Nat} {ov iv : Value} {tail : List Value} {te : TypeId} {D : Option Addr × Nat × Nat → Prop} {c : Option Addr × Nat × Nat → Option Addr × Nat × Nat → Int} {zs : List (Option Addr × Nat × Nat)}
set_option maxRecDepth 100000 in
theorem setHasRow_any (O : OrdLaw c) (x : Option Addr × Nat × Nat) (hx : D x) (hs : Strict c zs) (h : SetAtRow Tryz.prog S w b ov iv tail te D c zs) :
    Calls Tryz.prog 127 #[.pointer (some ⟨b, 0, none⟩), (Value.slice (x).1 (x).2.1 (x).2.2)] w (RetF (fun _ => False) w fun w' v => v = .bool (isIn c zs x)) := by
  have HF := Lib.hid (setFindRow_any O x hx hs h); clear h
  go_enter Tryz.func127, Tryz.ntmps127
  go_wp2_with fail
  refine HF.out.mono ?_
  rintro e w1 ⟨v, rfl, hk, rfl⟩
  have HK := Lib.hid hk; clear hk
  go_wp2
  go_ret
  exact RetF.mk HK.out rfl
set_option maxRecDepth 100000 in
set_option maxHeartbeats 1000000 in
theorem setAddRow_any (O : OrdLaw c) (x : Option Addr × Nat × Nat) (hx : D x) (hs : Strict c zs) (h : SetAtRow Tryz.prog S w b ov iv tail te D c zs) (hl : zs.length + 1 ≤ 1048576 * 1048576) :
    Calls Tryz.prog 128 #[.pointer (some ⟨b, 0, none⟩), (Value.slice (x).1 (x).2.1 (x).2.2)] w
      (RetF (Owns b iv) w fun w' v => v = .bool (!isIn c zs x) ∧ ∃ iv', SetAtRow Tryz.prog S w' b ov iv' tail te D c (addS c zs x) ∧ ∀ k, iv'.ownBlock = some k → iv.ownBlock = some k ∨ w.heap.size ≤ k) := by
  have HF := Lib.hid (setFindRow_any O x hx hs h)
  have HH := Lib.hid h; clear h
  go_enter Tryz.func128, Tryz.ntmps128
  go_wp2_with fail
  refine HF.out.mono ?_
  rintro e w1 ⟨v, rfl, hk, rfl⟩
  have h1 := HH.out.ext hk
  have HK := Lib.hid hk; clear hk
  cases hin : isIn c zs x
  · obtain ⟨c1, c2⟩ := h1.cells
    have H1 := Lib.hid h1; clear h1
    go_wp2_with fail
    have hb := below_le (c := c) zs x
    have hbw : b < w1.heap.size := H1.out.blk.lt
    refine (insertRow_any (zs.map fun x => (Value.slice (x).1 (x).2.1 (x).2.2)) iv _ zs.length (below c zs x) ((Value.slice (x).1 (x).2.1 (x).2.2)) w1.heap.size 76 _ (by simp) (H1.out.row.alloc _) hb rfl (by intro u hu; obtain ⟨y, _, rfl⟩ := List.mem_map.1 hu; rfl) (Blk.new w1 [(Value.slice (x).1 (x).2.1 (x).2.2)] 76) (fun e => by
        have := H1.out.row
        obtain ⟨q1, ⟨q2, _⟩ | ⟨g, cap, rest, q2, _, q3, _⟩⟩ := this
        · rw [q2] at e; cases e
        · rw [q2] at e; have e' : g = w1.heap.size := Option.some.inj e
          have := q3.lt; omega) (by omega)).mono ?_
    rintro e w2 ⟨iv', rfl, hk2, hr⟩
    obtain ⟨ao', cap', eiv, _, _⟩ := hr.shape
    subst eiv
    have hk02 := ((Kp.refl (F := fun k => iv.ownBlock = some k) w1).alloc (.cells #[(Value.slice (x).1 (x).2.1 (x).2.2)] 76)).trans hk2
    have hB2 := H1.out.blk.kp hk02 H1.out.apart
    have f1 := hB2.free 1
    have d1 : w2.cell? ⟨b, 1, none⟩ = some iv := by rw [hB2.cell']; rfl
    have HR := Lib.hid (And.intro hk02 (And.intro hB2 hr))
    clear hk02 hB2 hr hk2 c1 c2
    go_wp2
    go_ret
    obtain ⟨hk02, hB2, hr⟩ := HR.out
    have h1 := H1.out
    have hz : addS c zs x = zs.take (below c zs x) ++ x :: zs.drop (below c zs x) := by unfold addS; rw [hin]; rfl
    have hlz : (addS c zs x).length = zs.length + 1 := by rw [addS_len, hin]; rfl
    have hown : ∀ k, (Value.slice ao' (zs.length + 1) cap').ownBlock = some k → iv.ownBlock = some k ∨ w.heap.size ≤ k := fun k hk => by
      rcases hr.block k hk with hh | hh
      · exact .inl hh
      · have := HK.out.size; simp only [alloc_size] at hh; exact .inr (by omega)
    have hownb : (Value.slice ao' (zs.length + 1) cap').ownBlock ≠ some b := fun hk => by
      rcases hr.block b hk with hh | hh
      · exact h1.apart hh
      · simp only [alloc_size] at hh; omega
    have hK : Kp (Owns b iv) w w2 := ((Ext.kp HK.out).trans (hk02.mono fun k _ hk => .inr hk))
    refine RetF.mk (hK.setCell (fun _ => .inl rfl) _) ⟨by rw [hin]; rfl, .slice ao' (zs.length + 1) cap', ?_, hown⟩
    refine setAtRow_store hB2 (M := fun _ => True) ?_ hownb (fun k hk => Nat.lt_of_lt_of_le (h1.inS k hk) hk02.size) (fun k hk hS => ?_) (h1.ord.same (hk02.same h1.inS fun k hk hk' => h1.notS k (.inr hk') hk)) (fun y hy => ?_) (by rw [hlz]; exact hl)
    · rw [hlz, hz]
      have := hr.mono (M' := fun _ => True) fun _ _ => trivial
      simpa using this
    · rcases hk with hk | hk
      · exact h1.notS k (.inl hk) hS
      · rcases hr.block k hk with hh | hh
        · exact h1.notS k (.inr hh) hS
        · have := h1.inS k hS; simp only [alloc_size] at hh; omega
    · rcases mem_addS.1 hy with hy | ⟨rfl, _⟩
      · exact h1.all y hy
      · exact hx
  · have H1 := Lib.hid h1; clear h1
    go_wp2
    go_ret
    have hz : addS c zs x = zs := by unfold addS; rw [hin]; rfl
    refine RetF.mk (Ext.kp HK.out) ⟨by rw [hin]; rfl, iv, ?_, fun k hk => .inl hk⟩
    rw [hz]; exact H1.out
end
end Go.Proofs.YtomeebimmmfmbaaGreat

/- tuple.Set at []string: Copy, At, under: what makes sets out of sets. -/
namespace Go.Proofs.YtomeebimmmfmbaaGreat
open Go.RowKit
set_option linter.unusedVariables false
def PtrSetRow (P : Program) (S : Nat → Prop) (w : World) (v : Value) (zs : List (Option Addr × Nat × Nat)) : Prop :=
  (v = .pointer none ∧ zs = []) ∨ ∃ b ov iv tail te D c, v = .pointer (some ⟨b, 0, none⟩) ∧ SetAtRow P S w b ov iv tail te D c zs
theorem PtrSetRow.len {P : Program} {S : Nat → Prop} {w : World} {v : Value} {zs : List (Option Addr × Nat × Nat)} (h : PtrSetRow P S w v zs) : zs.length ≤ 1048576 * 1048576 := by
  rcases h with ⟨_, rfl⟩ | ⟨b, ov, iv, tail, te, D, c, h1, h2⟩
  · simp
  · exact h2.len
theorem setItemsRow_ptr {S : Nat → Prop} {w : World} {v : Value} {zs : List (Option Addr × Nat × Nat)} (h : PtrSetRow Tryz.prog S w v zs) :
    Calls Tryz.prog 160 #[v] w (RetN w fun w' r => Row w' 76 1 r zs.length (zs.map fun x => (Value.slice (x).1 (x).2.1 (x).2.2)) (New w)) := by
  rcases h with ⟨rfl, rfl⟩ | ⟨b, ov, iv, tail, te, D, c, rfl, h2⟩
  · refine (setItemsRow_nil w).mono ?_
    rintro e w' ⟨rfl, rfl⟩
    exact RetN.mk (Kp.refl _) (Row.nil _ _ _ _)
  · exact setItemsRow_any h2
section
variable {S : Nat → Prop} {w : World} {b : Nat} {ov iv : Value} {tail : List Value} {te : TypeId} {D : Option Addr × Nat × Nat → Prop} {c : Option Addr × Nat × Nat → Option Addr × Nat × Nat → Int} {zs : List (Option Addr × Nat × Nat)}
end
end Go.Proofs.YtomeebimmmfmbaaGreat

/- tuple.Set at []string: pick, Minus, Meet, Same. -/
namespace Go.Proofs.YtomeebimmmfmbaaGreat
open Go.RowKit
set_option linter.unusedVariables false
section
variable {S : Nat → Prop} {w : World} {b : Nat} {ov iv : Value} {tail : List Value} {te : TypeId} {D : Option Addr × Nat × Nat → Prop} {c : Option Addr × Nat × Nat → Option Addr × Nat × Nat → Int} {zs : List (Option Addr × Nat × Nat)}
end
end Go.Proofs.YtomeebimmmfmbaaGreat

/- tuple.Set at []string: Minus, Meet, Same, Union. -/
namespace Go.Proofs.YtomeebimmmfmbaaGreat
open Go.RowKit
set_option linter.unusedVariables false
section
variable {S : Nat → Prop} {w : World} {b : Nat} {ov iv : Value} {tail : List Value} {te : TypeId} {D : Option Addr × Nat × Nat → Prop} {c : Option Addr × Nat × Nat → Option Addr × Nat × Nat → Int} {zs : List (Option Addr × Nat × Nat)}
end
end Go.Proofs.YtomeebimmmfmbaaGreat

/- tuple.Set at []string: At, Each. -/
namespace Go.Proofs.YtomeebimmmfmbaaGreat
open Go.RowKit
set_option linter.unusedVariables false
section
variable {S : Nat → Prop} {w : World} {b : Nat} {ov iv : Value} {tail : List Value} {te : TypeId} {D : Option Addr × Nat × Nat → Prop} {c : Option Addr × Nat × Nat → Option Addr × Nat × Nat → Int} {zs : List (Option Addr × Nat × Nat)}
end
end Go.Proofs.YtomeebimmmfmbaaGreat

/- slices.Values at [][]string: the iterator keeps its contract; tuple.Set's Each. -/
namespace Go.Proofs.YtomeebimmmfmbaaGreat
open Go.RowKit Go.Shelf
set_option linter.unusedVariables false
attribute [local go_sem] Oper.semAt_some
set_option maxHeartbeats 1000000 in
theorem valuesRow_any (ao : Option Addr) (len cap : Nat) (w : World) :
    Calls Tryz.prog 106 #[.slice ao len cap] w (RetN w fun w' v => v = .func (.func 135) #[] #[.pointer (some ⟨w.heap.size, 0, none⟩)] ∧ w' = w.alloc (.cells #[.slice ao len cap] 69)) := by
  go_enter Tryz.func106, Tryz.ntmps106
  go_wp2
  go_ret
  exact RetN.mk ((Kp.refl w).alloc _) ⟨rfl, rfl⟩
def IterRow (w : World) (v : Value) (zs : List (Option Addr × Nat × Nat)) (lo : Nat) : Prop :=
  ∃ Bs ao cap, v = .func (.func 135) #[] #[.pointer (some ⟨Bs, 0, none⟩)] ∧ lo ≤ Bs ∧ (∀ a, ao = some a → lo ≤ a.block ∧ a.block < w.heap.size) ∧ w.cell? ⟨Bs, 0, none⟩ = some (.slice ao zs.length cap) ∧ CellsAt w ao (zs.map fun x => (Value.slice (x).1 (x).2.1 (x).2.2)) ∧ zs.length ≤ 1048576 * 1048576
set_option maxRecDepth 100000 in
set_option maxHeartbeats 1000000 in
theorem setEachRow_ptr {S : Nat → Prop} {w : World} {v : Value} {zs : List (Option Addr × Nat × Nat)} (h : PtrSetRow Tryz.prog S w v zs) :
    Calls Tryz.prog 136 #[v] w (RetN w fun w' r => IterRow w' r zs w.heap.size) := by
  have hl := h.len
  have HI := Lib.hid (setItemsRow_ptr h); clear h
  go_enter Tryz.func136, Tryz.ntmps136
  go_wp2_with fail
  refine HI.out.mono ?_
  rintro e w1 ⟨v1, rfl, hk, hr⟩
  have hb1 := hr.block
  have hlt := hr.lt
  obtain ⟨ao, cap, ev, hc, _⟩ := hr.shape
  subst ev
  have HK := Lib.hid (And.intro hk hc); clear hk hr hc
  go_wp2_with fail
  refine (valuesRow_any ao zs.length cap w1).mono ?_
  rintro e w2 ⟨v2, rfl, hk2, rfl, ew⟩
  have HK2 := Lib.hid (And.intro hk2 ew); clear hk2 ew
  go_wp2
  go_ret
  have hsz := HK.out.1.size
  refine RetN.mk (HK.out.1.trans HK2.out.1) ⟨w1.heap.size, ao, cap, rfl, hsz, fun a e => ?_, ?_, HK.out.2.ext HK2.out.1, hl⟩
  · subst e
    have h1 := hb1 a.block rfl
    have h2 := hlt a.block rfl
    exact ⟨h1, Nat.lt_of_lt_of_le h2 HK2.out.1.size⟩
  · rw [HK2.out.2]; exact (Blk.new w1 [Value.slice ao zs.length cap] 69).cell' 0
end Go.Proofs.YtomeebimmmfmbaaGreat

/- slices.Values at [][]string, for elements of any type that stand for values: the iterator keeps its contract. -/
namespace Go.Proofs.YtomeebimmmfmbaaGreat
open Go.RowKit Go.Shelf
set_option linter.unusedVariables false
attribute [local go_sem] Oper.semAt_some
set_option maxRecDepth 100000 in
set_option maxHeartbeats 2000000 in
theorem values1VRow_in {α : Type} (f : α → Value) (F : Fence) (n : Nat) (h7 : F.fn 135) (hro : F.round = none) (hn : 1 ≤ n) (S : Nat → Prop) (l Bs : Nat) (ao : Option Addr) (m cap : Nat) (zs : List α) (hm : m = zs.length) (hreach : m ≤ 1048576 * 1048576) (J Jx : List α → World → Prop)
    (hY : ∀ pre x W, J pre W → pre.length < zs.length → YieldAt F (n - 1) Tryz.prog l #[f x] W fun e W' =>
      (e = .returned (.bool true) ∧ J (pre ++ [x]) W' ∧ SameOn S W W') ∨ (e = .returned (.bool false) ∧ Jx (pre ++ [x]) W'))
    (W : World) (hSB : S Bs) (hSa : ∀ a, ao = some a → S a.block) (hBs : W.cell? ⟨Bs, 0, none⟩ = some (.slice ao m cap)) (hc : CellsAt W ao (zs.map fun x => f x)) (h0 : J [] W) :
    CallsIn F n Tryz.prog 135 #[.func (.yield l) #[] #[], .pointer (some ⟨Bs, 0, none⟩)] W fun e W' => (∃ v, e = .returned v) ∧
      ((∃ ys, ys = zs ∧ J ys W') ∨ (∃ pre, pre <+: zs ∧ Jx pre W')) := by
  have HC := Lib.hid hc; have HM := Lib.hid hm; clear hc hm
  refine callsIn_of_wp Tryz.func135 rfl h7 ?_ hro
  simp only [Tryz.ntmps135, List.size_toArray, List.length_cons, List.length_nil, Nat.reduceAdd, Nat.reduceSub, Array.replicate_succ, Array.replicate_zero, List.push_toArray, List.append_toArray, List.nil_append, List.cons_append]
  gi_wp2
  gi_loopw [7] (fun i wr => ∃ k : Nat, k ≤ m ∧ i = .int .i64 k ∧ J (zs.take k) wr ∧ SameOn S W wr)
    (fun i _ => m - (intOf i).toNat)
  case atStart => exact ⟨0, Nat.zero_le _, rfl, h0, SameOn.refl _ _⟩
  case round =>
    obtain ⟨k, hk, rfl, hJs, hnx⟩ := hrel
    by_cases hlt : k < m
    · have hkl : k < zs.length := by rw [← HM.out]; exact hlt
      obtain ⟨x, hx⟩ : ∃ x, zs[k]? = some x := ⟨_, List.getElem?_eq_getElem hkl⟩
      obtain ⟨g, o, eao, c3⟩ := HC.out k (f x) (by rw [List.getElem?_map, hx]; rfl)
      have c3' := (hnx.cell (o := o + k) (hSa _ eao)).trans c3
      have et : zs.take (k + 1) = zs.take k ++ [x] := by rw [List.take_add_one, hx]; rfl
      have ET := Lib.hid et
      have hy0 := hY _ x wr hJs (by rw [List.length_take]; omega)
      have HX := Lib.hid (And.intro hx hkl)
      clear hx hkl et c3
      subst eao
      obtain ⟨fn, tmps, assign, body, hy, hR⟩ := hy0
      gi_wp2
      refine hR.mono ?_
      rintro e W3 (⟨rfl, hJ3, hk3⟩ | ⟨rfl, hJx3⟩)
      · gi_wp2
        go_roundw
        case rel => exact ⟨k + 1, by omega, by simp, by rw [ET.out]; exact hJ3, hnx.trans hk3⟩
        case measure => first | (simp [intOf]; done) | (simp [intOf]; omega)
      · gi_wp2
        refine bodyPost_ret (results_none rfl _ _ _) rfl ?_
        exact ⟨⟨_, rfl⟩, .inr ⟨_, by rw [← ET.out]; exact List.take_prefix _ _, hJx3⟩⟩
    · obtain rfl : k = m := by omega
      gi_wp2
      go_end0
      exact ⟨⟨_, rfl⟩, .inl ⟨_, by rw [HM.out, List.take_length], hJs⟩⟩
def IterVRow (w : World) (v : Value) {α : Type} (f : α → Value) (zs : List α) (lo : Nat) : Prop :=
  ∃ Bs ao cap, v = .func (.func 135) #[] #[.pointer (some ⟨Bs, 0, none⟩)] ∧ lo ≤ Bs ∧ (∀ a, ao = some a → lo ≤ a.block ∧ a.block < w.heap.size) ∧ w.cell? ⟨Bs, 0, none⟩ = some (.slice ao zs.length cap) ∧ CellsAt w ao (zs.map fun x => f x) ∧ zs.length ≤ 1048576 * 1048576
theorem IterVRow.stops {w : World} {v : Value} {α : Type} {f : α → Value} {zs : List α} {lo : Nat} (h : IterVRow w v f zs lo) (F : Fence) (n : Nat) (h7 : F.fn 135) (hro : F.round = none) (hn : 1 ≤ n) :
    ∃ Bs, v = .func (.func 135) #[] #[.pointer (some ⟨Bs, 0, none⟩)] ∧ SeqStopsK F n Tryz.prog 135 #[.pointer (some ⟨Bs, 0, none⟩)] (fun x => #[f x]) (SameOn fun k => lo ≤ k ∧ k < w.heap.size) (fun ys => ys = zs) (fun pre => pre <+: zs) zs.length w := by
  obtain ⟨Bs, ao, cap, h1, h2, h3, h4, h5, h6⟩ := h
  refine ⟨Bs, h1, fun l J Jx W hW _ _ hY h0 => ?_⟩
  have hb := World.block_lt_of_cell? _ _ h4
  exact values1VRow_in f F n h7 hro hn _ l Bs ao zs.length cap zs rfl h6 J Jx hY W ⟨h2, hb⟩ (fun a e => h3 a e) ((Kp.of_below hW).cell h4 id) (h5.ext (Kp.of_below hW)) h0
theorem IterRow.sub {w : World} {v : Value} {zs : List (Option Addr × Nat × Nat)} {lo : Nat} (h : IterRow w v zs lo) : IterVRow w v (fun x : { x // x ∈ zs } => (Value.slice (x.1).1 (x.1).2.1 (x.1).2.2)) zs.attach lo := by
  obtain ⟨Bs, ao, cap, h1, h2, h3, h4, h5, h6⟩ := h
  refine ⟨Bs, ao, cap, h1, h2, h3, by rw [List.length_attach]; exact h4, ?_, by rw [List.length_attach]; exact h6⟩
  have e : (zs.attach.map fun x : { x // x ∈ zs } => (Value.slice (x.1).1 (x.1).2.1 (x.1).2.2)) = zs.map fun x => (Value.slice (x).1 (x).2.1 (x).2.2) := by
    have h : (zs.attach.map fun x : { x // x ∈ zs } => (Value.slice (x.1).1 (x.1).2.1 (x.1).2.2)) = (zs.attach.map Subtype.val).map fun x => (Value.slice (x).1 (x).2.1 (x).2.2) := by rw [List.map_map]; rfl
    rw [h, List.attach_map_subtype_val]
  rw [e]; exact h5
end Go.Proofs.YtomeebimmmfmbaaGreat

/- Rows of one's own that are written: a rule's body without its contents. -/
namespace Go.Proofs.YtomeebimmmfmbaaGreat
open Go.RowKit
set_option linter.unusedVariables false
theorem wp_appP {P : Program} {t e : TypeId} {k bytes : Nat} {z : Value} {w : World} (E : ElemT P t e k bytes z) {ops : Array Oper} {rest : List Oper} {o : Oper} {a : Act} {Q : Exit → Act → World → Prop} (hgd : o.guard = none) (s x : Operand)
    (ho : o.op = .call { callee := .builtin .append, args := #[s, x], argTypes := #[t, t] })
    {v : Value} {n : Nat} {xs : List Value} {M : Nat → Prop} (hs : a.eval s = v) (hr : Row w e k v n xs M)
    {ao : Option Addr} {m c : Nat} {news : List Value} (hx : a.eval x = .slice ao m c) (hsrc : CellsAt w ao news) (hl : news.length = m * k) (h1 : ∀ u ∈ news, u.oneCell' = true)
    (hb : (n + m) * bytes ≤ 140737488355328) (h63 : n + m ≤ maxLen)
    (h : ∀ v' w', Row w' e k v' (n + m) (xs ++ news) (fun g => v.ownBlock = some g ∨ w.heap.size ≤ g) → Kp (fun g => v.ownBlock = some g) w w' → wpList P ops Q rest (a.put o.dst v') w') : wpList P ops Q (o :: rest) a w := by
  refine wpList_plain hgd fun K hK => ?_
  obtain ⟨v', w', hrun, h2, h3, h4⟩ := run_app (P := P) E o.type hr hl hsrc h1 hb h63 (c := c)
  unfold Oper.wp execOp
  simp only [ho, resolve, invoke, builtin, Sem.run_bind, Sem.run_pure, Result.andThen_ok, List.map_toArray, List.map_cons, List.map_nil, hs, hx, hrun]
  exact hK _ _ (h v' w' h2 h3)
theorem draw_appP {P : Program} {t e : TypeId} {k bytes : Nat} {z : Value} (E : ElemT P t e k bytes z) {l : List Oper} {a : Act} {w : World} {Q : Exit → Act → World → Prop} {o : Oper} {K : Act → World → Prop} {El : Prop} (hgd : o.guard = none) (s x : Operand)
    (ho : o.op = .call { callee := .builtin .append, args := #[s, x], argTypes := #[t, t] })
    {v : Value} {n : Nat} {xs : List Value} {M : Nat → Prop} (hs : a.eval s = v) (hr : Row w e k v n xs M)
    {ao : Option Addr} {m c : Nat} {news : List Value} (hx : a.eval x = .slice ao m c) (hsrc : CellsAt w ao news) (hl : news.length = m * k) (h1 : ∀ u ∈ news, u.oneCell' = true)
    (hb : (n + m) * bytes ≤ 140737488355328) (h63 : n + m ≤ maxLen)
    (h : ∀ v' w', Row w' e k v' (n + m) (xs ++ news) (fun g => v.ownBlock = some g ∨ w.heap.size ≤ g) → Kp (fun g => v.ownBlock = some g) w w' → K (a.put o.dst v') w') :
    if Region.wanted o (yielded l.toArray a.tmps) = true then Oper.wp P o a w K Q else El := by
  obtain ⟨v', w', hrun, h2, h3, h4⟩ := run_app (P := P) E o.type hr hl hsrc h1 hb h63 (c := c)
  exact draw_app hgd s x ho hs hx hrun (h v' w' h2 h3)
theorem Row.putO {w : World} {e : TypeId} {k : Nat} {g m c n : Nat} {xs : List Value} {M : Nat → Prop} (h : Row w e k (.slice (some ⟨g, 0, none⟩) m c) n xs M) (i : Nat) (hi : i < xs.length) (v : Value) : Row (w.setCell ⟨g, i, none⟩ v) e k (.slice (some ⟨g, 0, none⟩) m c) n (xs.set i v) M := by
  obtain ⟨h1, ⟨e1, _⟩ | ⟨g', cap, rest, e1, hM, hB, h2, h3⟩⟩ := h
  · cases e1
  · cases e1
    refine ⟨by rw [List.length_set]; exact h1, .inr ⟨g, c, rest, rfl, hM, ?_, by simpa using h2, h3⟩⟩
    have := hB.set i v
    rw [List.set_append_left _ _ hi] at this
    exact this
theorem Row.cellR {w : World} {e : TypeId} {k : Nat} {g m c n : Nat} {xs : List Value} {M : Nat → Prop} (h : Row w e k (.slice (some ⟨g, 0, none⟩) m c) n xs M) {i : Nat} {v : Value} (hi : xs[i]? = some v) : w.cell? ⟨g, i, none⟩ = some v ∧ w.frozen? ⟨g, i, none⟩ = false := by
  obtain ⟨h1, ⟨e1, _⟩ | ⟨g', cap, rest, e1, hM, hB, h2, h3⟩⟩ := h
  · cases e1
  · cases e1
    have hl : i < xs.length := (List.getElem?_eq_some_iff.1 hi).1
    exact ⟨by rw [hB.cell', List.getElem?_append_left hl]; exact hi, hB.free i⟩
theorem Row.lies {w : World} {e : TypeId} {k : Nat} {ao : Option Addr} {m c n : Nat} {xs : List Value} {M : Nat → Prop} (h : Row w e k (.slice ao m c) n xs M) (hn : 0 < n) : ∃ g, ao = some ⟨g, 0, none⟩ ∧ M g ∧ m = n ∧ n ≤ c := by
  obtain ⟨h1, ⟨e1, h0⟩ | ⟨g', cap, rest, e1, hM, hB, h2, h3, _⟩⟩ := h
  · omega
  · cases e1; exact ⟨g', rfl, hM, rfl, h3⟩
theorem Row.kpA {w w' : World} {e : TypeId} {k : Nat} {ao : Option Addr} {m c n : Nat} {xs : List Value} {M F : Nat → Prop} (h : Row w e k (.slice ao m c) n xs M) (hk : Kp F w w') (hF : ∀ a, ao = some a → ¬ F a.block) : Row w' e k (.slice ao m c) n xs M :=
  h.kp' hk fun g hg _ f => by
    obtain ⟨_, ⟨e1, _⟩ | ⟨g', cap, rest, e1, _⟩⟩ := h
    · cases e1; cases hg
    · cases e1; cases hg; exact hF _ rfl f
theorem own_addr {ao : Option Addr} {m c g : Nat} (h : (Value.slice ao m c).ownBlock = some g) : ∃ a, ao = some a ∧ a.block = g := by
  cases ao with
  | none => cases h
  | some a =>
    refine ⟨a, rfl, ?_⟩
    unfold Value.ownBlock at h
    simpa using h
abbrev SlZ := Option Addr × Nat × Nat
def slV (q : SlZ) : Value := .slice q.1 q.2.1 q.2.2
def updF (f : Nat → SlZ) (i : Nat) (q : SlZ) : Nat → SlZ := fun j => if j = i then q else f j
structure BodyW (w : World) (M : Nat → Prop) (ba : Option Addr) (n bc : Nat) (f : Nat → SlZ) : Prop where
  row : ∃ cs, Row w 97 8 (.slice ba n bc) n cs M ∧ ∀ i, i < n → cs[i * 8 + 2]? = some (slV (f i))
  terms : ∀ i, i < n → ∃ xs, Row w 94 2 (slV (f i)) (f i).2.1 xs M
  far : ∀ i j, i < n → j < n → i ≠ j → ∀ a b, (f i).1 = some a → (f j).1 = some b → a.block ≠ b.block
theorem BodyW.kp {w w' : World} {M F : Nat → Prop} {ba : Option Addr} {n bc : Nat} {f : Nat → SlZ} (h : BodyW w M ba n bc f) (hk : Kp F w w') (h1 : ∀ a, ba = some a → ¬ F a.block) (h2 : ∀ i, i < n → ∀ a, (f i).1 = some a → ¬ F a.block) : BodyW w' M ba n bc f := by
  obtain ⟨⟨cs, hr, hc⟩, ht, hf⟩ := h
  exact ⟨⟨cs, hr.kpA hk h1, hc⟩, fun i hi => by obtain ⟨xs, hx⟩ := ht i hi; exact ⟨xs, Row.kpA hx hk (h2 i hi)⟩, hf⟩
theorem BodyW.ext {w w' : World} {M : Nat → Prop} {ba : Option Addr} {n bc : Nat} {f : Nat → SlZ} (h : BodyW w M ba n bc f) (hk : Ext w w') : BodyW w' M ba n bc f := h.kp hk (fun _ _ => id) fun _ _ _ _ => id
theorem row_addrE {w : World} {e : TypeId} {k : Nat} {q : SlZ} {n : Nat} {xs : List Value} {M : Nat → Prop} (h : Row w e k (slV q) n xs M) {a : Addr} (ha : q.1 = some a) : ∃ cs, Blk w a.block cs e := by
  obtain ⟨_, ⟨e1, _⟩ | ⟨g', cap, rest, e1, _, hB, _⟩⟩ := h
  · unfold slV at e1; rw [ha] at e1; cases e1
  · unfold slV at e1; rw [ha] at e1; cases e1; exact ⟨_, hB⟩
theorem BodyW.term {w w' : World} {M : Nat → Prop} {ba : Option Addr} {n bc : Nat} {f : Nat → SlZ} (h : BodyW w M ba n bc f) {i : Nat} (hi : i < n) {g : Nat} {o : Nat} {r : Option Nat} (hg : (f i).1 = some ⟨g, o, r⟩) (hk : Kp (fun k => k = g) w w') (hr : ∃ xs, Row w' 94 2 (slV (f i)) (f i).2.1 xs M) : BodyW w' M ba n bc f := by
  obtain ⟨⟨cs, hrow, hc⟩, ht, hf⟩ := h
  obtain ⟨xs, hxi⟩ := ht i hi
  obtain ⟨cs1, hb1⟩ := row_addrE hxi hg
  refine ⟨⟨cs, hrow.kpA hk fun a ha e => ?_, hc⟩, fun j hj => ?_, hf⟩
  · obtain ⟨cs2, hb2⟩ := row_addrE (q := (ba, n, bc)) hrow ha
    rw [e] at hb2
    exact typ_tl (blk_ne hb1 hb2)
  · by_cases e : j = i
    · subst e; exact hr
    · obtain ⟨ys, hy⟩ := ht j hj
      exact ⟨ys, Row.kpA hy hk fun a ha e2 => hf j i hj hi e a _ ha hg e2⟩
theorem BodyW.app {w w1 : World} {M : Nat → Prop} {g n bc : Nat} {f : Nat → SlZ} (h : BodyW w M (some ⟨g, 0, none⟩) n bc f) {i : Nat} (hi : i < n) {q : SlZ} {xs : List Value} (hk : Kp (fun k => (slV (f i)).ownBlock = some k) w w1) (hr : Row w1 94 2 (slV q) q.2.1 xs (fun k => (slV (f i)).ownBlock = some k ∨ w.heap.size ≤ k)) (hM : ∀ k, w.heap.size ≤ k → M k) :
    BodyW (w1.setCell ⟨g, i * 8 + 2, none⟩ (slV q)) M (some ⟨g, 0, none⟩) n bc (updF f i q) ∧ ∃ cs, Row w1 97 8 (.slice (some ⟨g, 0, none⟩) n bc) n cs M ∧ ∀ j, j < n → cs[j * 8 + 2]? = some (slV (f j)) := by
  obtain ⟨⟨cs, hrow, hc⟩, ht, hf⟩ := h
  obtain ⟨xs0, hxi⟩ := ht i hi
  have hrow1 : Row w1 97 8 (.slice (some ⟨g, 0, none⟩) n bc) n cs M := hrow.kpA hk fun a ha e => by
    obtain ⟨cs1, hb1⟩ := hxi.blkOf e
    obtain ⟨cs2, hb2⟩ := row_addrE (q := (some ⟨g, 0, none⟩, n, bc)) hrow ha
    exact typ_tl (blk_ne hb1 hb2)
  have hgb : ∃ cs2, Blk w1 g cs2 97 := row_addrE (q := (some ⟨g, 0, none⟩, n, bc)) hrow1 rfl
  obtain ⟨cs2, hgb⟩ := hgb
  have hks : Kp (fun k => k = g) w1 (w1.setCell ⟨g, i * 8 + 2, none⟩ (slV q)) := Kp.setCell (F := fun k => k = g) (Kp.refl w1) (fun _ => rfl) _
  have hlen : i * 8 + 2 < cs.length := (List.getElem?_eq_some_iff.1 (hc i hi)).1
  have hj1 : ∀ j, j < n → j ≠ i → ∃ ys, Row w1 94 2 (slV (f j)) (f j).2.1 ys M := fun j hj e => by
    obtain ⟨ys, hy⟩ := ht j hj
    refine ⟨ys, Row.kpA hy hk fun a ha e2 => ?_⟩
    obtain ⟨b, hb, eb⟩ := own_addr e2
    exact hf j i hj hi e a b ha hb eb.symm
  have hof : ∀ {q' : SlZ} {m : Nat} {ys : List Value} {M' : Nat → Prop}, Row w1 94 2 (slV q') m ys M' → Row (w1.setCell ⟨g, i * 8 + 2, none⟩ (slV q)) 94 2 (slV q') m ys M' := fun hy => Row.kpA hy hks fun a ha e => by
    obtain ⟨cs3, hb3⟩ := row_addrE hy ha
    rw [e] at hb3
    exact typ_tl (blk_ne hb3 hgb)
  refine ⟨⟨⟨_, hrow1.putO _ hlen _, fun j hj => ?_⟩, fun j hj => ?_, fun j l hj hl hne a b ha hb => ?_⟩, cs, hrow1, hc⟩
  · by_cases e : j = i
    · subst e
      rw [List.getElem?_set_self hlen, updF, if_pos rfl]
    · rw [List.getElem?_set_ne (by omega), updF, if_neg e]; exact hc j hj
  · by_cases e : j = i
    · subst e
      rw [updF, if_pos rfl]
      refine ⟨_, (hof hr).mono fun k hk => ?_⟩
      rcases hk with hk | hk
      · exact hxi.block k hk
      · exact hM k hk
    · rw [updF, if_neg e]
      obtain ⟨ys, hy⟩ := hj1 j hj e
      exact ⟨ys, hof hy⟩
  · have key : ∀ j, j < n → j ≠ i → ∀ a b, (f j).1 = some a → q.1 = some b → a.block ≠ b.block := fun j hj e a b ha hb => by
      obtain ⟨ys, hy⟩ := ht j hj
      have h1 := (row_addr (ao := (f j).1) hy ha).1
      have h2 := (row_addr (ao := q.1) hr hb).2
      rcases h2 with h2 | h2
      · obtain ⟨c, hc2, ec⟩ := own_addr h2
        rw [← ec]
        exact hf j i hj hi e a c ha hc2
      · omega
    unfold updF at ha hb
    by_cases e1 : j = i
    · rw [if_pos e1] at ha
      have e2 : l ≠ i := fun e => hne (e1.trans e.symm)
      rw [if_neg e2] at hb
      exact (key l hl e2 b a hb ha).symm
    · rw [if_neg e1] at ha
      by_cases e2 : l = i
      · rw [if_pos e2] at hb
        exact key j hj e1 a b ha hb
      · rw [if_neg e2] at hb
        exact hf j l hj hl hne a b ha hb
theorem BodyW.kind {w : World} {M : Nat → Prop} {g n bc : Nat} {f : Nat → SlZ} (h : BodyW w M (some ⟨g, 0, none⟩) n bc f) {i : Nat} (hi : i < n) (v : Value) : BodyW (w.setCell ⟨g, i * 8, none⟩ v) M (some ⟨g, 0, none⟩) n bc f := by
  obtain ⟨⟨cs, hrow, hc⟩, ht, hf⟩ := h
  have hlen : i * 8 + 2 < cs.length := (List.getElem?_eq_some_iff.1 (hc i hi)).1
  obtain ⟨cs2, hgb⟩ := row_addrE (q := (some ⟨g, 0, none⟩, n, bc)) hrow rfl
  have hks : Kp (fun k => k = g) w (w.setCell ⟨g, i * 8, none⟩ v) := Kp.setCell (F := fun k => k = g) (Kp.refl w) (fun _ => rfl) _
  refine ⟨⟨_, hrow.putO _ (by omega) v, fun j hj => by rw [List.getElem?_set_ne (by omega)]; exact hc j hj⟩, fun j hj => ?_, hf⟩
  obtain ⟨ys, hy⟩ := ht j hj
  exact ⟨ys, Row.kpA hy hks fun a ha e => by
    obtain ⟨cs3, hb3⟩ := row_addrE hy ha
    rw [e] at hb3
    exact typ_tl (blk_ne hb3 hgb)⟩
theorem BodyW.of {w w0 : World} {Ls : List LitZ} {vs : List (Option Addr × Nat)} {ba : Option Addr} {n bc : Nat} {hd : Option Addr × Nat} {M : Nat → Prop} (hn : n = Ls.length) (hv : vs.length = n) (hr : Row w 97 8 (.slice ba n bc) n ((Ls.zip vs).flatMap litC) M)
    (ht : ∀ x ∈ Ls.zip vs, Row w 94 2 (.slice x.2.1 (termsOf x.1).length x.2.2) (termsOf x.1).length (tcells (termsOf x.1)) M) (hf : Far (hd :: vs)) :
    ∃ f : Nat → SlZ, BodyW w M ba n bc f ∧ (∀ i, i < n → ∀ a, hd.1 = some a → ∀ b, (f i).1 = some b → a.block ≠ b.block) ∧ ∀ i, i < n → ∃ l ∈ Ls, (f i).2.1 = (termsOf l).length := by
  have hz : ∀ i, i < n → ∃ x, (Ls.zip vs)[i]? = some x := fun i hi => ⟨_, List.getElem?_eq_getElem (by rw [List.length_zip]; omega)⟩
  obtain ⟨hf1, hf2⟩ := List.pairwise_cons.1 hf
  refine ⟨fun i => match (Ls.zip vs)[i]? with | some x => (x.2.1, (termsOf x.1).length, x.2.2) | none => (none, 0, 0), ⟨⟨_, hr, fun i hi => ?_⟩, fun i hi => ?_, fun i j hi hj hne a b ha hb => ?_⟩, fun i hi a ha b hb => ?_, fun i hi => ?_⟩
  · obtain ⟨x, hx⟩ := hz i hi
    rw [flat_get litC 8 litC_len (Ls.zip vs) i x 2 hx (by decide), hx]; rfl
  · obtain ⟨x, hx⟩ := hz i hi
    simp only [hx]
    exact ⟨_, ht x (List.mem_of_getElem? hx)⟩
  · obtain ⟨x, hx⟩ := hz i hi
    obtain ⟨y, hy⟩ := hz j hj
    simp only [hx, hy] at ha hb
    have gx := (List.getElem?_zip_eq_some.1 hx).2
    have gy := (List.getElem?_zip_eq_some.1 hy).2
    have hp := List.pairwise_iff_getElem.1 hf2
    have lx := (List.getElem?_eq_some_iff.1 gx)
    have ly := (List.getElem?_eq_some_iff.1 gy)
    rcases Nat.lt_or_gt_of_ne hne with h | h
    · exact hp i j lx.1 ly.1 h a b (by rw [lx.2]; exact ha) (by rw [ly.2]; exact hb)
    · exact (hp j i ly.1 lx.1 h b a (by rw [ly.2]; exact hb) (by rw [lx.2]; exact ha)).symm
  · obtain ⟨x, hx⟩ := hz i hi
    simp only [hx] at hb
    exact hf1 x.2 (List.mem_of_getElem? (List.getElem?_zip_eq_some.1 hx).2) a b ha hb
  · obtain ⟨x, hx⟩ := hz i hi
    simp only [hx]
    exact ⟨x.1, List.mem_of_getElem? (List.getElem?_zip_eq_some.1 hx).1, rfl⟩
end Go.Proofs.YtomeebimmmfmbaaGreat

/- slices.BinarySearchFunc at string, slices.Clone, slices.EqualFunc. -/
namespace Go.Proofs.YtomeebimmmfmbaaGreat
open Go.RowKit
set_option linter.unusedVariables false
theorem elemStr : ElemT Tryz.prog 76 9 1 16 (.string ⟨#[]⟩) := ⟨by kernel_rfl, by kernel_rfl, rfl, by decide⟩
end Go.Proofs.YtomeebimmmfmbaaGreat

/- slices.IndexFunc, ContainsFunc at string. -/
namespace Go.Proofs.YtomeebimmmfmbaaGreat
open Go.RowKit
set_option linter.unusedVariables false
def TellEachStr (P : Program) (f : FuncId) (first captured : Array Value) (w0 : World) (vs : List Value) (q : Nat → Bool) : Prop :=
  (∀ args w, (callFunc f args).run P w = .ok (Next.enter f args) w) ∧ ∀ w, Ext w0 w → ∀ i u, vs[i]? = some u → Calls P f (first.push u ++ captured) w fun e w' => e = .returned (.bool (q i)) ∧ Ext w w'
def NoneAtStr (n : Nat) (q : Nat → Bool) (w0 : World) (iv : Value) (w : World) : Prop :=
  ∃ i : Nat, i ≤ n ∧ iv = .int .i64 i ∧ (∀ j, j < i → q j = false) ∧ Ext w0 w
def FirstIsStr (n : Nat) (q : Nat → Bool) (v : Value) : Prop := (∃ i : Nat, i < n ∧ v = .int .i64 i ∧ q i = true ∧ ∀ j, j < i → q j = false) ∨ (v = .int .i64 (-1) ∧ ∀ j, j < n → q j = false)
set_option maxRecDepth 100000 in
set_option maxHeartbeats 2000000 in
theorem indexFuncStr_any (vs : List Value) (ao : Option Addr) (c : Nat) (f : FuncId) (first captured : Array Value) (q : Nat → Bool) (w : World) (n : Nat) (hn : n = vs.length)
    (ha : CellsAt w ao vs) (hcmp : TellEachStr Tryz.prog f first captured w vs q) (hbig : n ≤ 4611686018427387904) :
    Calls Tryz.prog 123 #[.slice ao n c, .func (Fn.func f) first captured] w (RetN w fun w' v => FirstIsStr n q v) := by
  have hent := hcmp.1
  have HC := Lib.hid hcmp.2; clear hcmp
  have HA := Lib.hid ha; clear ha
  have HN := Lib.hid hn; clear hn
  go_enter Tryz.func123, Tryz.ntmps123
  go_wp2
  go_loopw [8] (NoneAtStr n q w) (fun i _ => n - (intOf i).toNat)
  case atStart => exact ⟨0, Nat.zero_le _, rfl, by simp, Kp.refl _⟩
  case round =>
    obtain ⟨i, hi, rfl, hq, hkp⟩ := hrel
    have HQ := Lib.hid hq; clear hq
    by_cases hlt : i < n
    · have g1 : vs[i]? = some (vs[i]'(by have := HN.out; omega)) := List.getElem?_eq_getElem _
      obtain ⟨b1, o1, eao, c1⟩ := (HA.out.ext hkp) i _ g1
      have hcall := fun W hW => HC.out W hW i _ g1
      have HCall := Lib.hid hcall; clear hcall
      clear g1
      generalize vs[i]'(by have := HN.out; omega) = u at *
      subst eao
      cases hqi : q i
      · rw [hqi] at HCall
        have HI := Lib.hid hqi; clear hqi
        go_wp2_with fail
        refine (HCall.out _ hkp).mono ?_
        rintro e w1 ⟨rfl, hk2⟩
        have hkp2 := hkp.ext hk2
        clear hk2 c1
        go_wp2
        go_roundw
        case rel =>
          refine ⟨i + 1, by omega, by first | rfl | (congr 1; done) | (congr 1; omega), fun j hj => ?_, hkp2⟩
          by_cases e : j = i
          · subst e; exact HI.out
          · exact HQ.out j (by omega)
        case measure => first | (simp [intOf]; done) | (simp [intOf]; omega)
      · rw [hqi] at HCall
        have HI := Lib.hid hqi; clear hqi
        go_wp2_with fail
        refine (HCall.out _ hkp).mono ?_
        rintro e w1 ⟨rfl, hk2⟩
        have hkp2 := hkp.ext hk2
        clear hk2 c1
        go_wp2
        go_ret
        exact RetN.mk hkp2 (.inl ⟨i, hlt, rfl, HI.out, HQ.out⟩)
    · have e : n = i := by omega
      subst e
      clear hlt hi
      go_wp2
      go_ret
      exact RetN.mk hkp (.inr ⟨rfl, HQ.out⟩)
theorem containsFuncStr_any (vs : List Value) (ao : Option Addr) (c : Nat) (f : FuncId) (first captured : Array Value) (q : Nat → Bool) (w : World) (n : Nat) (hn : n = vs.length)
    (ha : CellsAt w ao vs) (hcmp : TellEachStr Tryz.prog f first captured w vs q) (hbig : n ≤ 4611686018427387904) :
    Calls Tryz.prog 83 #[.slice ao n c, .func (Fn.func f) first captured] w (RetN w fun w' v => v = .bool ((List.range n).any q)) := by
  have HI := Lib.hid (indexFuncStr_any vs ao c f first captured q w n hn ha hcmp hbig); clear ha hcmp hn
  go_enter Tryz.func83, Tryz.ntmps83
  go_wp2_with fail
  refine HI.out.mono ?_
  rintro e w1 ⟨v, rfl, hk, ⟨i, hi, rfl, hq, _⟩ | ⟨rfl, hq⟩⟩
  · have t : (List.range n).any q = true := List.any_eq_true.2 ⟨i, List.mem_range.2 hi, hq⟩
    have HK := Lib.hid (And.intro hk t); clear hk hq t
    go_wp2
    go_ret
    exact RetN.mk HK.out.1 (by rw [HK.out.2]; first | rfl | simp)
  · have t : (List.range n).any q = false := by
      rw [List.any_eq_false]
      intro i hi
      simp [hq i (List.mem_range.1 hi)]
    have HK := Lib.hid (And.intro hk t); clear hk hq t
    go_wp2
    go_ret
    exact RetN.mk HK.out.1 (by rw [HK.out.2]; first | rfl | simp)
end Go.Proofs.YtomeebimmmfmbaaGreat

/- slices.Clone, EqualFunc, Grow, Concat at string. -/
namespace Go.Proofs.YtomeebimmmfmbaaGreat
open Go.RowKit
set_option linter.unusedVariables false
theorem cloneStr_any (vs : List Value) (ao : Option Addr) (cap : Nat) (w : World) (n : Nat) (hn : n = vs.length) (hc : CellsAt w ao vs) (h1 : ∀ u ∈ vs, u.oneCell' = true) (hm : n * 16 ≤ 140737488355328) :
    Calls Tryz.prog 129 #[.slice ao n cap] w (RetN w fun w' v => Row w' 9 1 v n vs (New w)) := by
  have hq : ∀ w : World, (binOp .eql 76 (.slice ao n cap) (.slice none 0 0)).run Tryz.prog w = .ok (.bool ao.isNone) w := fun w => Lib.run_eql_slice_nil w _ _ _ _ _ _ _ Tryz.underlying76
  have HNN := Lib.hid hn; clear hn
  have hl : n ≤ maxLen := by unfold maxLen; omega
  cases ao with
  | none =>
    have hv : vs = [] := by
      cases vs with
      | nil => rfl
      | cons x vs => obtain ⟨b, o, h, _⟩ := hc.off (by simp); cases h
    subst hv
    have h0 : n = 0 := HNN.out
    subst h0
    go_enter Tryz.func129, Tryz.ntmps129
    go_wp2
    go_ret
    exact RetN.mk (Kp.refl _) (Row.nil _ _ _ _)
  | some a =>
    go_enter Tryz.func129, Tryz.ntmps129
    go_wp2_with (first | (at_builtin; refine Halted.out ?_))
    refine Halted.mk (wp_appN elemStr rfl _ _ rfl ((Kp.refl (F := fun _ => False) w).alloc _) rfl (Row.empty w 9 1 (New w) (Nat.le_refl _)) rfl (hc.alloc _) (by rw [HNN.out, Nat.mul_one]) h1 (by omega) (by omega) ?_)
    intro v1 w1 hr1 hk1 _ _
    have HR := Lib.hid hr1; clear hr1
    go_wp2
    go_ret
    exact RetN.mk hk1 (by simpa using HR.out)
end Go.Proofs.YtomeebimmmfmbaaGreat

/- tuple.Rows: rows of texts in a set: what a row reads as, their order, set, Len, NewRows, named, texts. -/
namespace Go.Proofs.YtomeebimmmfmbaaGreat
open Go.RowKit
set_option linter.unusedVariables false
abbrev RowZ := Option Addr × Nat × Nat
def ReadsAs (w : World) (x : RowZ) (ss : List ByteArray) : Prop := x.2.1 = ss.length ∧ CellsAt w x.1 (strs ss)
theorem ReadsAs.unique {w : World} {x : RowZ} {a b : List ByteArray} (h : ReadsAs w x a) (h' : ReadsAs w x b) : a = b := by
  obtain ⟨h1, h2⟩ := h
  obtain ⟨h3, h4⟩ := h'
  refine List.ext_getElem (by omega) fun i hi hj => ?_
  obtain ⟨b1, o1, e1, c1⟩ := h2.str hi
  obtain ⟨b2, o2, e2, c2⟩ := h4.str hj
  rw [e1] at e2
  cases e2
  rw [c1] at c2
  simpa using c2
theorem con_ex (w : World) : ∃ con : RowZ → List ByteArray, ∀ x ss, ReadsAs w x ss → con x = ss := by
  have h : ∀ x : RowZ, ∃ l : List ByteArray, ∀ ss, ReadsAs w x ss → l = ss := fun x => by
    by_cases hx : ∃ ss, ReadsAs w x ss
    · obtain ⟨ss, hs⟩ := hx
      exact ⟨ss, fun ss' hs' => hs.unique hs'⟩
    · exact ⟨[], fun ss hs => absurd ⟨ss, hs⟩ hx⟩
  exact ⟨fun x => Classical.choose (h x), fun x => Classical.choose_spec (h x)⟩
def RowD (S : Nat → Prop) (w : World) (x : RowZ) : Prop := ∃ ss, ReadsAs w x ss ∧ ss.length ≤ 8796093021952 ∧ ∀ a, x.1 = some a → x.2.1 ≠ 0 → S a.block
theorem ReadsAs.same {S : Nat → Prop} {w w' : World} {x : RowZ} {ss : List ByteArray} (h : ReadsAs w x ss) (hs : Same S w w') (ha : ∀ a, x.1 = some a → x.2.1 ≠ 0 → S a.block) : ReadsAs w' x ss := by
  refine ⟨h.1, fun i u hu => ?_⟩
  have hne : x.2.1 ≠ 0 := by
    have h1 := (List.getElem?_eq_some_iff.1 hu).1
    simp only [strs, List.length_map] at h1
    rw [h.1]; omega
  obtain ⟨b, o, e, c⟩ := h.2 i u hu
  refine ⟨b, o, e, ?_⟩
  rw [World.cell?_of_block (w := w) (hs b (ha _ e hne)).2]; exact c
theorem cmpRow_law {α : Type} (f : α → List ByteArray) : OrdLaw (fun x y => cmpRow (f x) (f y)) :=
  ⟨fun x y => by have := cmpRow_swap (f x) (f y); omega, fun x y z h h' => cmpRow_trans h h'⟩
theorem rows_ord {S : Nat → Prop} {w : World} {con : RowZ → List ByteArray} (hc : ∀ x ss, ReadsAs w x ss → con x = ss) :
    OrdVRow Tryz.prog S w (.func (Fn.func 125) #[] #[]) (RowD S w) (fun x y => cmpRow (con x) (con y)) := by
  refine .inr ⟨_, _, _, rfl, enters_of Tryz.func125 (by kernel_rfl) rfl, fun w' hw x y hx hy => ?_⟩
  obtain ⟨xs, hx1, hx2, hx3⟩ := hx
  obtain ⟨ys, hy1, hy2, hy3⟩ := hy
  have ex := hc x xs hx1
  have ey := hc y ys hy1
  have hx' := hx1.same hw hx3
  have hy' := hy1.same hw hy3
  obtain ⟨ax, nx, cx⟩ := x
  obtain ⟨ay, ny, cy⟩ := y
  obtain ⟨h1, h2⟩ := hx'
  obtain ⟨h3, h4⟩ := hy'
  simp only at h1 h2 h3 h4
  subst h1 h3
  simp only [ex, ey]
  refine (tupleCompare_any xs ys ax ay cx cy w' h2 h4 (by unfold maxLen; omega) (by unfold maxLen; omega)).mono ?_
  rintro e w2 ⟨rfl, rfl⟩
  exact ⟨rfl, Kp.refl w'⟩
def RowsAt (S : Nat → Prop) (w : World) (b : Nat) (iv : Value) (arity : Nat) (LL : List (List ByteArray)) : Prop :=
  ∃ con zs, (∀ x ss, ReadsAs w x ss → con x = ss) ∧ SetAtRow Tryz.prog S w b (.func (Fn.func 125) #[] #[]) iv [.int .i64 arity] 180 (RowD S w) (fun x y => cmpRow (con x) (con y)) zs ∧ zs.map con = LL
theorem named_any (s : ByteArray) (w : World) : Calls Tryz.prog 88 #[.string s] w (Ret (.bool (decide (1 ≤ s.size ∧ s.size ≤ 4096))) w) := by
  by_cases h1 : 1 ≤ s.size
  · have q1 : (1 : Int) ≤ (s.size : Int) := by omega
    by_cases h2 : s.size ≤ 4096
    · have q2 : (s.size : Int) ≤ 4096 := by omega
      have H := Lib.hid (And.intro h1 h2)
      go_enter Tryz.func88, Tryz.ntmps88
      go_wp2
      go_ret
      exact Ret.mk (by simp [H.out.1, H.out.2])
    · have q2 : ¬ (s.size : Int) ≤ 4096 := by omega
      have H := Lib.hid h2
      go_enter Tryz.func88, Tryz.ntmps88
      go_wp2
      go_ret
      exact Ret.mk (by simp [H.out])
  · have q1 : ¬ (1 : Int) ≤ (s.size : Int) := by omega
    have H := Lib.hid h1
    go_enter Tryz.func88, Tryz.ntmps88
    go_wp2
    go_ret
    exact Ret.mk (by simp [H.out])
theorem textsFn_any (s : ByteArray) (w : World) : Calls Tryz.prog 126 #[.string s] w (Ret (.bool (decide (4096 < s.size))) w) := by
  by_cases h : 4096 < s.size
  · have q : (4096 : Int) < (s.size : Int) := by omega
    have H := Lib.hid h
    go_enter Tryz.func126, Tryz.ntmps126
    go_wp2
    go_ret
    exact Ret.mk (by simp [H.out])
  · have q : ¬ (4096 : Int) < (s.size : Int) := by omega
    have H := Lib.hid h
    go_enter Tryz.func126, Tryz.ntmps126
    go_wp2
    go_ret
    exact Ret.mk (by simp [H.out])
def textsC (ss : List ByteArray) : Bool := ss.all fun s => decide (s.size ≤ 4096)
theorem texts_any (ss : List ByteArray) (ao : Option Addr) (n c : Nat) (w : World) (hn : n = ss.length) (hc : CellsAt w ao (strs ss)) (hl : n ≤ 4611686018427387904) :
    Calls Tryz.prog 91 #[.slice ao n c] w (RetN w fun w' v => v = .bool (textsC ss)) := by
  have hent : ∀ args w, (callFunc 126 args).run Tryz.prog w = .ok (.enter 126 args) w := enters_of Tryz.func126 (by kernel_rfl) rfl
  have hi := containsFuncStr_any (strs ss) ao c 126 #[] #[] (fun i => decide (4096 < (ss[i]?.getD ⟨#[]⟩).size)) w n (by simp [strs, hn]) hc ⟨hent, fun w' _ i u hu => by
    rw [strs, List.getElem?_map] at hu
    cases hs : ss[i]? with
    | none => rw [hs] at hu; cases hu
    | some s =>
      rw [hs] at hu
      cases hu
      refine (textsFn_any s w').mono ?_
      rintro e w2 ⟨rfl, rfl⟩
      exact ⟨by simp [hs], Kp.refl _⟩⟩ hl
  have key : (!(List.range n).any fun i => decide (4096 < (ss[i]?.getD ⟨#[]⟩).size)) = textsC ss := by
    rw [Bool.eq_iff_iff]
    simp only [Bool.not_eq_true', List.any_eq_false, List.mem_range, decide_eq_true_eq, textsC, List.all_eq_true]
    constructor
    · intro h s hs
      obtain ⟨i, hi, rfl⟩ := List.mem_iff_getElem.1 hs
      have := h i (by omega)
      simp only [List.getElem?_eq_getElem hi, Option.getD_some] at this
      omega
    · intro h i hi
      have hi' : i < ss.length := by omega
      have := h ss[i] (List.getElem_mem _)
      simp only [List.getElem?_eq_getElem hi', Option.getD_some]
      omega
  have HI := Lib.hid (And.intro hi key); clear hi key hent hc hn
  go_enter Tryz.func91, Tryz.ntmps91
  go_wp2_with fail
  refine HI.out.1.mono ?_
  rintro e w1 ⟨v, rfl, hk, rfl⟩
  have HK := Lib.hid hk; clear hk
  go_wp2
  go_ret
  exact RetN.mk HK.out (by rw [← HI.out.2]; rfl)
end Go.Proofs.YtomeebimmmfmbaaGreat
namespace Go.Proofs.YtomeebimmmfmbaaGreat
open Go.RowKit
set_option linter.unusedVariables false
section
variable {S S' : Nat → Prop} {w w' : World} {b : Nat} {iv : Value} {arity : Nat} {LL : List (List ByteArray)}
theorem RowsAt.move {F : Nat → Prop} (h : RowsAt S w b iv arity LL) (hk : Kp F w w') (hF : ∀ k, F k → ¬ Owns b iv k) (hS : ∀ k, F k → ¬ S k) (hsub : ∀ k, S k → S' k) (hin : ∀ k, S' k → k < w'.heap.size) (hno : ∀ k, Owns b iv k → ¬ S' k) :
    RowsAt S' w' b iv arity LL := by
  obtain ⟨con, zs, hc, hs, hl⟩ := h
  obtain ⟨con', hc'⟩ := con_ex w'
  have hs' := hs.kp hk hF hS
  have hsame : Same S w w' := hk.same hs.inS fun k h1 h2 => hS k h2 h1
  have all : ∀ z ∈ zs, RowD S' w' z ∧ con' z = con z := fun z hz => by
    obtain ⟨ss, h1, h2, h3⟩ := hs.all z hz
    have h1' := h1.same hsame h3
    exact ⟨⟨ss, h1', h2, fun a e hne => hsub _ (h3 a e hne)⟩, by rw [hc' z ss h1', hc z ss h1]⟩
  refine ⟨con', zs, hc', ⟨hs'.blk, hs'.row, hs'.apart, hin, hno, rows_ord hc', fun z hz => (all z hz).1, hs.len⟩, ?_⟩
  rw [← hl]
  exact List.map_congr_left fun z hz => (all z hz).2
theorem RowsAt.ext (h : RowsAt S w b iv arity LL) (hk : Ext w w') : RowsAt S w' b iv arity LL := by
  have hb := h
  obtain ⟨con, zs, hc, hs, hl⟩ := hb
  exact h.move hk (fun _ x => x.elim) (fun _ x => x.elim) (fun _ h => h) (fun k hk' => Nat.lt_of_lt_of_le (hs.inS k hk') hk.size) hs.notS
theorem RowsAt.blk (h : RowsAt S w b iv arity LL) : Blk w b [.func (Fn.func 125) #[] #[], iv, .int .i64 arity] 180 := by
  obtain ⟨con, zs, hc, hs, hl⟩ := h
  exact hs.blk
theorem rowsSet_nil (w : World) : Calls Tryz.prog 108 #[.pointer none] w (Ret (.pointer none) w) := by
  go_enter Tryz.func108, Tryz.ntmps108
  go_wp2
  go_ret
  exact Ret.mk rfl
theorem rowsSet_any (h : RowsAt S w b iv arity LL) : Calls Tryz.prog 108 #[.pointer (some ⟨b, 0, none⟩)] w (Ret (.pointer (some ⟨b, 0, none⟩)) w) := by
  have c0 : w.cell? ⟨b, 0, none⟩ = some (.func (Fn.func 125) #[] #[]) := by rw [h.blk.cell']; rfl
  have hq : ∀ w : World, (binOp .eql 176 (.func (Fn.func 125) #[] #[]) .nilFunc).run Tryz.prog w = .ok (.bool false) w := fun _ => by kernel_rfl
  clear h
  go_enter Tryz.func108, Tryz.ntmps108
  go_wp2
  go_ret
  exact Ret.mk rfl
theorem rowsLen_nil (w : World) : Calls Tryz.prog 67 #[.pointer none] w (Ret (.int .i64 0) w) := by
  go_enter Tryz.func67, Tryz.ntmps67
  go_wp2_with fail
  refine (rowsSet_nil w).mono ?_
  rintro e w' ⟨rfl, rfl⟩
  go_wp2_with fail
  refine (setLenRow_nil w).mono ?_
  rintro e w' ⟨rfl, rfl⟩
  go_wp2
  go_ret
  exact Ret.mk rfl
theorem rowsLen_any (h : RowsAt S w b iv arity LL) : Calls Tryz.prog 67 #[.pointer (some ⟨b, 0, none⟩)] w (Ret (.int .i64 (LL.length : Nat)) w) := by
  have H := Lib.hid h
  obtain ⟨con, zs, hc, hs, hl⟩ := h
  have HS := Lib.hid hs
  have HL := Lib.hid (show zs.length = LL.length by rw [← hl]; simp)
  clear hs hc hl
  go_enter Tryz.func67, Tryz.ntmps67
  go_wp2_with fail
  refine (rowsSet_any H.out).mono ?_
  rintro e w' ⟨rfl, rfl⟩
  go_wp2_with fail
  refine (setLenRow_any HS.out).mono ?_
  rintro e w' ⟨rfl, rfl⟩
  go_wp2
  go_ret
  exact Ret.mk (by rw [← HL.out]; rfl)
theorem rowsAt_new (S : Nat → Prop) (w : World) (a : Nat) (hS : ∀ k, S k → k < w.heap.size) :
    RowsAt S (w.alloc (.cells #[.func (Fn.func 125) #[] #[], .slice none 0 0, .int .i64 a] 180)) w.heap.size (.slice none 0 0) a [] := by
  obtain ⟨con, hc⟩ := con_ex (w.alloc (.cells #[.func (Fn.func 125) #[] #[], .slice none 0 0, .int .i64 a] 180))
  refine ⟨con, [], hc, ⟨Blk.new w [.func (Fn.func 125) #[] #[], .slice none 0 0, .int .i64 a] 180, Row.nil _ _ _ _, by simp [Value.ownBlock], fun k hk => by rw [alloc_size]; have := hS k hk; omega, fun k ho hs => ?_, rows_ord hc, by simp, by simp⟩, rfl⟩
  rcases ho with rfl | ho
  · have := hS _ hs; omega
  · cases ho
theorem newRows_any (S : Nat → Prop) (w : World) (a : Nat) (ha : a ≤ 64) (hS : ∀ k, S k → k < w.heap.size) :
    Calls Tryz.prog 89 #[.int .i64 a] w (RetN w fun w' v => v = .tuple #[.pointer (some ⟨w.heap.size, 0, none⟩), .int .i64 0] ∧ RowsAt S w' w.heap.size (.slice none 0 0) a []) := by
  have HR := Lib.hid (rowsAt_new S w a hS)
  have q1 : ¬ (a : Int) < 0 := by omega
  have q2 : ¬ (64 : Int) < (a : Int) := by omega
  clear hS
  go_enter Tryz.func89, Tryz.ntmps89
  go_wp2
  go_ret2
  exact RetN.mk ((Kp.refl w).alloc _) ⟨rfl, HR.out⟩
end
end Go.Proofs.YtomeebimmmfmbaaGreat
namespace Go.Proofs.YtomeebimmmfmbaaGreat
open Go.RowKit
set_option linter.unusedVariables false
def RowIn (w : World) (x : RowZ) (ss : List ByteArray) : Prop := ReadsAs w x ss ∧ ss.length ≤ 8796093021952 ∧ ∀ a, x.1 = some a → x.2.1 ≠ 0 → a.block < w.heap.size
def RowOff (x : RowZ) (F : Nat → Prop) : Prop := ∀ a, x.1 = some a → x.2.1 ≠ 0 → ¬ F a.block
def poolOf (S : Nat → Prop) (x : RowZ) : Nat → Prop := fun k => S k ∨ ∃ a, x.1 = some a ∧ x.2.1 ≠ 0 ∧ a.block = k
section
variable {S : Nat → Prop} {w w' : World} {b : Nat} {iv : Value} {arity : Nat} {LL : List (List ByteArray)}
theorem RowsAt.inS (h : RowsAt S w b iv arity LL) : ∀ k, S k → k < w.heap.size := by
  obtain ⟨con, zs, hc, hs, hl⟩ := h
  exact hs.inS
theorem RowsAt.notS (h : RowsAt S w b iv arity LL) : ∀ k, Owns b iv k → ¬ S k := by
  obtain ⟨con, zs, hc, hs, hl⟩ := h
  exact hs.notS
theorem RowsAt.pool (h : RowsAt S w b iv arity LL) {x : RowZ} {ss : List ByteArray} (hx : RowIn w x ss) (ho : RowOff x (Owns b iv)) : RowsAt (poolOf S x) w b iv arity LL := by
  refine h.move (F := fun _ => False) (Kp.refl w) (fun _ x => x.elim) (fun _ x => x.elim) (fun k hk => .inl hk) (fun k hk => ?_) (fun k hk hs => ?_)
  · rcases hk with hk | ⟨a, e, hne, rfl⟩
    · exact h.inS k hk
    · exact hx.2.2 a e hne
  · rcases hs with hs | ⟨a, e, hne, rfl⟩
    · exact h.notS k hk hs
    · exact ho a e hne hk
theorem RowsAt.open (h : RowsAt S w b iv arity LL) (hst : Strict cmpRow LL) {x : RowZ} {ss : List ByteArray} (hx : RowIn w x ss) (ho : RowOff x (Owns b iv)) :
    ∃ con zs, (∀ x ss, ReadsAs w x ss → con x = ss) ∧ SetAtRow Tryz.prog (poolOf S x) w b (.func (Fn.func 125) #[] #[]) iv [.int .i64 arity] 180 (RowD (poolOf S x) w) (fun x y => cmpRow (con x) (con y)) zs ∧ zs.map con = LL ∧
      RowD (poolOf S x) w x ∧ con x = ss ∧ Strict (fun x y => cmpRow (con x) (con y)) zs ∧ isIn (fun x y => cmpRow (con x) (con y)) zs x = isIn cmpRow LL ss ∧ below (fun x y => cmpRow (con x) (con y)) zs x = below cmpRow LL ss := by
  obtain ⟨con, zs, hc, hs, hl⟩ := h.pool hx ho
  have ex := hc x ss hx.1
  refine ⟨con, zs, hc, hs, hl, ⟨ss, hx.1, hx.2.1, fun a e hne => .inr ⟨a, e, hne, rfl⟩⟩, ex, ?_, ?_, ?_⟩
  · rw [← hl] at hst
    exact List.pairwise_map.1 hst
  · rw [← hl, ← ex]; simp [isIn, List.any_map, Function.comp_def]
  · rw [← hl, ← ex]; simp [below, List.filter_map, Function.comp_def]
theorem rowsHas_any (h : RowsAt S w b iv arity LL) (hst : Strict cmpRow LL) {x : RowZ} {ss : List ByteArray} (hx : RowIn w x ss) (ho : RowOff x (Owns b iv)) :
    Calls Tryz.prog 92 #[.pointer (some ⟨b, 0, none⟩), .slice x.1 x.2.1 x.2.2] w (RetN w fun w' v => v = .bool (isIn cmpRow LL ss)) := by
  have H := Lib.hid h
  obtain ⟨con, zs, hc, hs, hl, hd, ex, hz, e1, e2⟩ := h.open hst hx ho
  have HF := Lib.hid (setHasRow_any (cmpRow_law con) x hd hz hs)
  rw [e1] at HF
  clear h hst hx ho hc hs hl hd ex hz e1 e2
  go_enter Tryz.func92, Tryz.ntmps92
  go_wp2_with fail
  refine (rowsSet_any H.out).mono ?_
  rintro e w' ⟨rfl, rfl⟩
  go_wp2_with fail
  refine HF.out.mono ?_
  rintro e w1 ⟨v, rfl, hk, rfl⟩
  have HK := Lib.hid hk; clear hk
  go_wp2
  go_ret
  exact RetN.mk HK.out rfl
theorem RowsAt.of_set {S' : Nat → Prop} {w1 w2 : World} {con : RowZ → List ByteArray} {zs : List RowZ} (hc : ∀ x ss, ReadsAs w1 x ss → con x = ss) (hsame : Same S' w1 w2)
    (h : SetAtRow Tryz.prog S' w2 b (.func (Fn.func 125) #[] #[]) iv [.int .i64 arity] 180 (RowD S' w1) (fun x y => cmpRow (con x) (con y)) zs) : RowsAt S' w2 b iv arity (zs.map con) := by
  obtain ⟨con', hc'⟩ := con_ex w2
  have all : ∀ z ∈ zs, RowD S' w2 z ∧ con' z = con z := fun z hz => by
    have hd := h.all z hz
    obtain ⟨ss, h1, h2, h3⟩ := hd
    have h1' := h1.same hsame h3
    exact ⟨⟨ss, h1', h2, h3⟩, by rw [hc' z ss h1', hc z ss h1]⟩
  exact ⟨con', zs, hc', ⟨h.blk, h.row, h.apart, h.inS, h.notS, rows_ord hc', fun z hz => (all z hz).1, h.len⟩, List.map_congr_left fun z hz => (all z hz).2⟩
def rowsAddR (arity : Nat) (LL : List (List ByteArray)) (ss : List ByteArray) : Bool × Nat :=
  if ss.length ≠ arity then (false, 30) else if textsC ss = false then (false, 31) else if 65536 ≤ LL.length ∧ isIn cmpRow LL ss = false then (false, 4) else (!isIn cmpRow LL ss, 0)
def rowsAddL (arity : Nat) (LL : List (List ByteArray)) (ss : List ByteArray) : List (List ByteArray) := if (rowsAddR arity LL ss).2 = 0 then addS cmpRow LL ss else LL
theorem rowsPut (h : RowsAt S w b iv arity LL) (hst : Strict cmpRow LL) {ao : Option Addr} {n cap : Nat} {ss : List ByteArray} {w1 : World} (hk : Ext w w1) (hr : Row w1 9 1 (.slice ao n cap) n (strs ss) (New w)) (hn : n = ss.length) (hl : n ≤ 8796093021952) (hLL : LL.length + 1 ≤ 1048576 * 1048576) :
    Calls Tryz.prog 128 #[.pointer (some ⟨b, 0, none⟩), .slice ao n cap] w1 (RetF (Owns b iv) w1 fun w' v => v = .bool (!isIn cmpRow LL ss) ∧
      ∃ iv', RowsAt (poolOf S (ao, n, cap)) w' b iv' arity (addS cmpRow LL ss) ∧ ∀ k, iv'.ownBlock = some k → iv.ownBlock = some k ∨ w1.heap.size ≤ k) := by
  have hx : RowIn w1 (ao, n, cap) ss := by
    obtain ⟨ao', cap', e, hc, _⟩ := hr.shape
    cases e
    refine ⟨⟨hn, hc⟩, by omega, fun a e _ => ?_⟩
    have e' : ao = some a := e
    subst e'
    exact hr.lt a.block rfl
  have ho : RowOff (ao, n, cap) (Owns b iv) := fun a e _ ho => by
    have e' : ao = some a := e
    subst e'
    have h1 : w.heap.size ≤ a.block := hr.block a.block rfl
    have h2 : a.block < w.heap.size := by
      obtain ⟨con, zs, hc, hs, hl⟩ := h
      rcases ho with ho | ho
      · rw [ho]; exact hs.blk.lt
      · exact hs.row.lt _ ho
    omega
  obtain ⟨con, zs, hc, hs, hlz, hd, ex, hz, e1, e2⟩ := (h.ext hk).open hst hx ho
  have hzl : zs.length = LL.length := by rw [← hlz]; simp
  refine (setAddRow_any (cmpRow_law con) (ao, n, cap) hd hz hs (by omega)).mono ?_
  rintro e w2 ⟨v, rfl, hk2, rfl, iv', hs2, hiv⟩
  refine RetF.mk hk2 ⟨by rw [e1], iv', ?_, hiv⟩
  have hsame : Same (poolOf S (ao, n, cap)) w1 w2 := hk2.same hs.inS fun k h1 h2 => hs.notS k h2 h1
  have := RowsAt.of_set hc hsame hs2
  rwa [← addS_map con zs (ao, n, cap), hlz, ex] at this
end
end Go.Proofs.YtomeebimmmfmbaaGreat
namespace Go.Proofs.YtomeebimmmfmbaaGreat
open Go.RowKit
set_option linter.unusedVariables false
section
variable {S : Nat → Prop} {w w' : World} {b : Nat} {iv : Value} {arity : Nat} {LL : List (List ByteArray)}
def RowsAdded (S : Nat → Prop) (w : World) (b : Nat) (iv : Value) (arity : Nat) (LL : List (List ByteArray)) (ss : List ByteArray) (w' : World) (v : Value) : Prop :=
  v = .tuple #[.bool (rowsAddR arity LL ss).1, .int .i64 ((rowsAddR arity LL ss).2 : Nat)] ∧
    ∃ S' iv', (∀ k, S k → S' k) ∧ (∀ k, S' k → S k ∨ w.heap.size ≤ k) ∧ RowsAt S' w' b iv' arity (rowsAddL arity LL ss) ∧ ∀ k, iv'.ownBlock = some k → iv.ownBlock = some k ∨ w.heap.size ≤ k
theorem RowsAdded.same (h : RowsAt S w b iv arity LL) {ss : List ByteArray} {w1 : World} (hk : Ext w w1) {v : Value} (hv : v = .tuple #[.bool (rowsAddR arity LL ss).1, .int .i64 ((rowsAddR arity LL ss).2 : Nat)]) (h0 : rowsAddL arity LL ss = LL) : RowsAdded S w b iv arity LL ss w1 v :=
  ⟨hv, S, iv, fun _ h => h, fun _ h => .inl h, by rw [h0]; exact h.ext hk, fun _ h => .inl h⟩
set_option maxRecDepth 100000 in
set_option maxHeartbeats 2000000 in
theorem rowsAdd_any (h : RowsAt S w b iv arity LL) (hst : Strict cmpRow LL) {ao : Option Addr} {n cap : Nat} {ss : List ByteArray} (hx : RowIn w (ao, n, cap) ss) (ho : RowOff (ao, n, cap) (Owns b iv)) (hLL : LL.length + 1 ≤ 1048576 * 1048576) :
    Calls Tryz.prog 93 #[.pointer (some ⟨b, 0, none⟩), .slice ao n cap] w (RetF (Owns b iv) w (RowsAdded S w b iv arity LL ss)) := by
  have hn : n = ss.length := hx.1.1
  have hcs : CellsAt w ao (strs ss) := hx.1.2
  have hl : ss.length ≤ 8796093021952 := hx.2.1
  have c2 : w.cell? ⟨b, 2, none⟩ = some (.int .i64 arity) := by rw [h.blk.cell']; rfl
  have HT := Lib.hid (texts_any ss ao n cap w hn hcs (by omega))
  have HH := Lib.hid (fun w1 (hw : Ext w w1) => rowsHas_any (h.ext hw) hst (x := (ao, n, cap)) (ss := ss) ⟨⟨hn, hcs.ext hw⟩, hl, fun a e hne => Nat.lt_of_lt_of_le (hx.2.2 a e hne) hw.size⟩ ho)
  have HLN := Lib.hid (fun w1 (hw : Ext w w1) => rowsLen_any (h.ext hw))
  have HS := Lib.hid (fun w1 (hw : Ext w w1) => rowsSet_any (h.ext hw))
  have HCL := Lib.hid (fun w1 (hw : Ext w w1) => cloneStr_any (strs ss) ao cap w1 n (by simp [strs, hn]) (hcs.ext hw) (strs_one ss) (by omega))
  have HP := Lib.hid (fun w0 w1 ao1 cap1 (hw : Ext w w0) (hk : Ext w0 w1) hr => rowsPut (w := w0) (w1 := w1) (ao := ao1) (n := n) (cap := cap1) (h.ext hw) hst hk hr hn (by omega) hLL)
  have H := Lib.hid h
  have HN := Lib.hid hn
  clear h hst hx ho hcs hn
  obtain ⟨m, em⟩ : ∃ m, m = LL.length := ⟨_, rfl⟩
  rw [← em] at HLN hLL
  have EM := Lib.hid em; clear em hLL
  by_cases h1 : n = arity
  · have q1 : ((n : Int) != (arity : Int)) = false := by simp [h1]
    have H1 := Lib.hid h1; clear h1
    cases ht : textsC ss with
    | false =>
      have HTX := Lib.hid ht
      rw [ht] at HT; clear ht
      go_enter Tryz.func93, Tryz.ntmps93
      go_wp2_with fail
      refine HT.out.mono ?_
      rintro e w1 ⟨v, rfl, hk, rfl⟩
      have HK := Lib.hid hk; clear hk
      go_wp2
      go_ret2
      have e0 : rowsAddR arity LL ss = (false, 31) := by unfold rowsAddR; rw [if_neg (by rw [← HN.out, H1.out]; simp), if_pos HTX.out]
      exact RetF.mk (Ext.kp HK.out) (RowsAdded.same H.out HK.out (by rw [e0]; rfl) (by unfold rowsAddL; rw [e0]; rfl))
    | true =>
      have HTX := Lib.hid ht
      rw [ht] at HT; clear ht
      by_cases hf : 65536 ≤ m
      · have q2 : decide ((65536 : Int) ≤ (m : Int)) = true := by rw [decide_eq_true_iff]; omega
        have HF := Lib.hid hf; clear hf
        cases hi : isIn cmpRow LL ss with
        | false =>
          have HI := Lib.hid hi
          rw [hi] at HH; clear hi
          go_enter Tryz.func93, Tryz.ntmps93
          go_wp2_with fail
          refine HT.out.mono ?_
          rintro e w0 ⟨v, rfl, hk0, rfl⟩
          go_wp2_with fail
          refine (HLN.out w0 hk0).mono ?_
          rintro e w' ⟨rfl, rfl⟩
          go_wp2_with fail
          refine (HH.out w0 hk0).mono ?_
          rintro e w1 ⟨v, rfl, hk01, rfl⟩
          have hk1 := hk0.trans hk01
          clear hk0 hk01
          have HK := Lib.hid hk1; clear hk1
          go_wp2
          go_ret2
          have e0 : rowsAddR arity LL ss = (false, 4) := by unfold rowsAddR; rw [if_neg (by rw [← HN.out, H1.out]; simp), if_neg (by rw [HTX.out]; simp), if_pos ⟨EM.out ▸ HF.out, HI.out⟩]
          exact RetF.mk (Ext.kp HK.out) (RowsAdded.same H.out HK.out (by rw [e0]; rfl) (by unfold rowsAddL; rw [e0]; rfl))
        | true =>
          have HI := Lib.hid hi
          rw [hi] at HH; clear hi
          go_enter Tryz.func93, Tryz.ntmps93
          go_wp2_with fail
          refine HT.out.mono ?_
          rintro e w0 ⟨v, rfl, hk0, rfl⟩
          go_wp2_with fail
          refine (HLN.out w0 hk0).mono ?_
          rintro e w' ⟨rfl, rfl⟩
          go_wp2_with fail
          refine (HH.out w0 hk0).mono ?_
          rintro e w1 ⟨v, rfl, hk01, rfl⟩
          have hk1 := hk0.trans hk01
          clear hk0 hk01
          go_wp2_with fail
          refine (HS.out w1 hk1).mono ?_
          rintro e w' ⟨rfl, rfl⟩
          go_wp2_with fail
          refine (HCL.out w1 hk1).mono ?_
          rintro e w2 ⟨v, rfl, hk2, hr2⟩
          obtain ⟨ao2, cap2, ev, _, _⟩ := hr2.shape
          subst ev
          go_wp2_with fail
          refine (HP.out w1 w2 ao2 cap2 hk1 hk2 hr2).mono ?_
          rintro e w3 ⟨v, rfl, hk3, rfl, iv', hrows, hiv⟩
          have HR := Lib.hid (And.intro hk3 (And.intro hrows hiv))
          have hb2 := hr2.block
          clear hk3 hrows hiv hr2
          go_wp2
          go_ret2
          have e0 : rowsAddR arity LL ss = (!isIn cmpRow LL ss, 0) := by unfold rowsAddR; rw [if_neg (by rw [← HN.out, H1.out]; simp), if_neg (by rw [HTX.out]; simp), if_neg (fun h => by rw [HI.out] at h; cases h.2)]
          have z1 := hk1.size
          have z2 := hk2.size
          refine RetF.mk ((Ext.kp (hk1.trans hk2)).trans HR.out.1) ⟨by rw [e0]; rfl, poolOf S (ao2, n, cap2), iv', fun k h => .inl h, fun k h => ?_, by unfold rowsAddL; rw [e0]; exact HR.out.2.1, fun k h => (HR.out.2.2 k h).imp id (fun h => by omega)⟩
          rcases h with h | ⟨a, e, _, rfl⟩
          · exact .inl h
          · have e' : ao2 = some a := e
            subst e'
            have := hb2 a.block rfl
            exact .inr (Nat.le_trans z1 this)
      · have q2 : decide ((65536 : Int) ≤ (m : Int)) = false := by rw [decide_eq_false_iff_not]; omega
        have HF := Lib.hid hf; clear hf
        go_enter Tryz.func93, Tryz.ntmps93
        go_wp2_with fail
        refine HT.out.mono ?_
        rintro e w1 ⟨v, rfl, hk1, rfl⟩
        go_wp2_with fail
        refine (HLN.out w1 hk1).mono ?_
        rintro e w' ⟨rfl, rfl⟩
        go_wp2_with fail
        refine (HS.out w1 hk1).mono ?_
        rintro e w' ⟨rfl, rfl⟩
        go_wp2_with fail
        refine (HCL.out w1 hk1).mono ?_
        rintro e w2 ⟨v, rfl, hk2, hr2⟩
        obtain ⟨ao2, cap2, ev, _, _⟩ := hr2.shape
        subst ev
        go_wp2_with fail
        refine (HP.out w1 w2 ao2 cap2 hk1 hk2 hr2).mono ?_
        rintro e w3 ⟨v, rfl, hk3, rfl, iv', hrows, hiv⟩
        have HR := Lib.hid (And.intro hk3 (And.intro hrows hiv))
        have hb2 := hr2.block
        clear hk3 hrows hiv hr2
        go_wp2
        go_ret2
        have e0 : rowsAddR arity LL ss = (!isIn cmpRow LL ss, 0) := by unfold rowsAddR; rw [if_neg (by rw [← HN.out, H1.out]; simp), if_neg (by rw [HTX.out]; simp), if_neg (fun h => HF.out (EM.out ▸ h.1))]
        have z1 := hk1.size
        have z2 := hk2.size
        refine RetF.mk ((Ext.kp (hk1.trans hk2)).trans HR.out.1) ⟨by rw [e0]; rfl, poolOf S (ao2, n, cap2), iv', fun k h => .inl h, fun k h => ?_, by unfold rowsAddL; rw [e0]; exact HR.out.2.1, fun k h => (HR.out.2.2 k h).imp id (fun h => by omega)⟩
        rcases h with h | ⟨a, e, _, rfl⟩
        · exact .inl h
        · have e' : ao2 = some a := e
          subst e'
          have := hb2 a.block rfl
          exact .inr (Nat.le_trans z1 this)
  · have q1 : ((n : Int) != (arity : Int)) = true := by rw [bne_iff_ne]; omega
    have H1 := Lib.hid h1; clear h1
    go_enter Tryz.func93, Tryz.ntmps93
    go_wp2
    go_ret2
    have e0 : rowsAddR arity LL ss = (false, 30) := by unfold rowsAddR; rw [if_pos (by rw [← HN.out]; exact H1.out)]
    exact RetF.mk (Kp.refl _) (RowsAdded.same H.out (Kp.refl _) (by rw [e0]; rfl) (by unfold rowsAddL; rw [e0]; rfl))
end
end Go.Proofs.YtomeebimmmfmbaaGreat

/- tuple.Rows whose order may still be nil (a zero value): set lays it; Len, Has, Below, At, Arity, Drop. -/
namespace Go.Proofs.YtomeebimmmfmbaaGreat
open Go.RowKit
set_option linter.unusedVariables false
def RowsQ (z : Prop) (S : Nat → Prop) (w : World) (b : Nat) (iv : Value) (arity : Nat) (LL : List (List ByteArray)) : Prop :=
  RowsAt S w b iv arity LL ∨ (z ∧ iv = .slice none 0 0 ∧ LL = [] ∧ Blk w b [.nilFunc, .slice none 0 0, .int .i64 arity] 180 ∧ (∀ k, S k → k < w.heap.size) ∧ ¬ S b)
abbrev FQ (z : Prop) (b : Nat) : Nat → Prop := fun k => z ∧ k = b
theorem Kp.fq {b : Nat} {w w' : World} (h : Kp (FQ False b) w w') : Ext w w' := h.mono fun _ _ h => h.1
section
variable {z : Prop} {S : Nat → Prop} {w w' : World} {b : Nat} {iv : Value} {arity : Nat} {LL : List (List ByteArray)}
theorem RowsAt.q (h : RowsAt S w b iv arity LL) : RowsQ z S w b iv arity LL := .inl h
theorem RowsQ.kp {F : Nat → Prop} (h : RowsQ z S w b iv arity LL) (hk : Kp F w w') (hF : ∀ k, F k → ¬ Owns b iv k) (hS : ∀ k, F k → ¬ S k) : RowsQ z S w' b iv arity LL := by
  rcases h with h | ⟨hz, e, el, hB, h1, h2⟩
  · exact .inl (h.move hk hF hS (fun _ h => h) (fun k hk' => Nat.lt_of_lt_of_le (h.inS k hk') hk.size) h.notS)
  · exact .inr ⟨hz, e, el, hB.kp hk (fun hf => hF _ hf (.inl rfl)), fun k hk' => Nat.lt_of_lt_of_le (h1 k hk') hk.size, h2⟩
theorem RowsQ.ext (h : RowsQ z S w b iv arity LL) (hk : Ext w w') : RowsQ z S w' b iv arity LL := h.kp hk (fun _ x => x.elim) (fun _ x => x.elim)
theorem RowsQ.blk' (h : RowsQ z S w b iv arity LL) : ∃ ov, Blk w b [ov, iv, .int .i64 arity] 180 := by
  rcases h with h | ⟨_, e, _, hB, _⟩
  · exact ⟨_, h.blk⟩
  · exact ⟨_, by rw [e]; exact hB⟩
theorem RowsQ.lt (h : RowsQ z S w b iv arity LL) : b < w.heap.size := by obtain ⟨ov, h⟩ := h.blk'; exact h.lt
theorem RowsQ.ar (h : RowsQ z S w b iv arity LL) : w.cell? ⟨b, 2, none⟩ = some (.int .i64 arity) := by obtain ⟨ov, h⟩ := h.blk'; rw [h.cell']; rfl
theorem RowsQ.inS (h : RowsQ z S w b iv arity LL) : ∀ k, S k → k < w.heap.size := by
  rcases h with h | ⟨_, _, _, _, h, _⟩
  · exact h.inS
  · exact h
theorem rowsSet_q (h : RowsQ z S w b iv arity LL) :
    Calls Tryz.prog 108 #[.pointer (some ⟨b, 0, none⟩)] w (RetF (FQ z b) w fun w' v => v = .pointer (some ⟨b, 0, none⟩) ∧ RowsAt S w' b iv arity LL) := by
  rcases h with h | ⟨hz, rfl, rfl, hB, h1, h2⟩
  · refine (rowsSet_any h).mono ?_
    rintro e w' ⟨rfl, rfl⟩
    exact RetF.mk (Kp.refl _) ⟨rfl, h⟩
  · have c0 : w.cell? ⟨b, 0, none⟩ = some .nilFunc := by rw [hB.cell']; rfl
    have f0 := hB.free 0
    have hq : ∀ w : World, (binOp .eql 176 .nilFunc .nilFunc).run Tryz.prog w = .ok (.bool true) w := fun _ => by kernel_rfl
    have HB := Lib.hid (And.intro hB (And.intro h1 h2))
    have HZ := Lib.hid hz
    clear hB h1 h2 hz
    go_enter Tryz.func108, Tryz.ntmps108
    go_wp2
    go_ret
    obtain ⟨hB, h1, h2⟩ := HB.out
    have hset := hB.set 0 (.func (Fn.func 125) #[] #[])
    have hk : Kp (FQ z b) w (w.setCell ⟨b, 0, none⟩ (.func (Fn.func 125) #[] #[])) := Kp.setCell (Kp.refl w) (fun _ => ⟨HZ.out, rfl⟩) _
    obtain ⟨con, hc⟩ := con_ex (w.setCell ⟨b, 0, none⟩ (.func (Fn.func 125) #[] #[]))
    refine RetF.mk hk ⟨rfl, con, [], hc, ⟨hset, Row.nil _ _ _ _, by simp [Value.ownBlock], fun k hk' => Nat.lt_of_lt_of_le (h1 k hk') hk.size, fun k ho hs => ?_, rows_ord hc, by simp, by simp⟩, rfl⟩
    rcases ho with rfl | ho
    · exact h2 hs
    · cases ho
theorem rowsLen_q (h : RowsQ z S w b iv arity LL) : Calls Tryz.prog 67 #[.pointer (some ⟨b, 0, none⟩)] w (RetF (FQ z b) w fun w' v => v = .int .i64 (LL.length : Nat) ∧ RowsAt S w' b iv arity LL) := by
  have HS := Lib.hid (rowsSet_q h); clear h
  go_enter Tryz.func67, Tryz.ntmps67
  go_wp2_with fail
  refine HS.out.mono ?_
  rintro e w1 ⟨v, rfl, hk, rfl, h1⟩
  have HK := Lib.hid (And.intro hk h1)
  obtain ⟨con, zs, hc, hs, hl⟩ := h1
  have HS1 := Lib.hid hs
  have HL := Lib.hid (show zs.length = LL.length by rw [← hl]; simp)
  clear hk hs hc hl
  go_wp2_with fail
  refine (setLenRow_any HS1.out).mono ?_
  rintro e w' ⟨rfl, rfl⟩
  go_wp2
  go_ret
  exact RetF.mk HK.out.1 ⟨by rw [← HL.out]; rfl, HK.out.2⟩
theorem rowsArity_nil (w : World) : Calls Tryz.prog 65 #[.pointer none] w (Ret (.int .i64 0) w) := by
  go_enter Tryz.func65, Tryz.ntmps65
  go_wp2
  go_ret
  exact Ret.mk rfl
theorem rowsArity_q (h : RowsQ z S w b iv arity LL) : Calls Tryz.prog 65 #[.pointer (some ⟨b, 0, none⟩)] w (Ret (.int .i64 arity) w) := by
  have c2 := h.ar
  clear h
  go_enter Tryz.func65, Tryz.ntmps65
  go_wp2
  go_ret
  exact Ret.mk rfl
end
end Go.Proofs.YtomeebimmmfmbaaGreat

/- tuple.Rows whose order may still be nil: Add. -/
namespace Go.Proofs.YtomeebimmmfmbaaGreat
open Go.RowKit
set_option linter.unusedVariables false
section
variable {z : Prop} {S : Nat → Prop} {w w' : World} {b : Nat} {iv : Value} {arity : Nat} {LL : List (List ByteArray)}
end
end Go.Proofs.YtomeebimmmfmbaaGreat

/- tuple.Rows whose order may still be nil: At. -/
namespace Go.Proofs.YtomeebimmmfmbaaGreat
open Go.RowKit
set_option linter.unusedVariables false
section
variable {z : Prop} {S : Nat → Prop} {w w' : World} {b : Nat} {iv : Value} {arity : Nat} {LL : List (List ByteArray)}
def OwnRow (w0 w : World) (v : Value) (ss : List ByteArray) : Prop := Row w 9 1 v ss.length (strs ss) (New w0)
end
end Go.Proofs.YtomeebimmmfmbaaGreat

/- Lists of rows in memory: such as can be read; such as are one's own. -/
namespace Go.Proofs.YtomeebimmmfmbaaGreat
open Go.RowKit
set_option linter.unusedVariables false
abbrev RowP := RowZ × List ByteArray
def rowVs (ps : List RowP) : List Value := ps.map fun p => .slice p.1.1 p.1.2.1 p.1.2.2
theorem rowVs_len (ps : List RowP) : (rowVs ps).length = ps.length := by simp [rowVs]
theorem rowVs_one (ps : List RowP) : ∀ u ∈ rowVs ps, u.oneCell' = true := by intro u hu; obtain ⟨x, _, rfl⟩ := List.mem_map.1 hu; rfl
theorem rowVs_get (ps : List RowP) (k : Nat) (p : RowP) (h : ps[k]? = some p) : (rowVs ps)[k]? = some (.slice p.1.1 p.1.2.1 p.1.2.2) := by simp [rowVs, h]
theorem rowVs_append (ps qs : List RowP) : rowVs (ps ++ qs) = rowVs ps ++ rowVs qs := by simp [rowVs]
def RowsIn (S : Nat → Prop) (w : World) (ao : Option Addr) (LL : List (List ByteArray)) : Prop :=
  ∃ ps : List RowP, LL = ps.map Prod.snd ∧ CellsAt w ao (rowVs ps) ∧ (∀ a, ao = some a → S a.block) ∧
    ∀ p ∈ ps, ReadsAs w p.1 p.2 ∧ p.2.length ≤ 8796093021952 ∧ ∀ a, p.1.1 = some a → S a.block
def OwnRows (lo : Nat) (w : World) (v : Value) (LL : List (List ByteArray)) : Prop :=
  ∃ ps : List RowP, LL = ps.map Prod.snd ∧ Row w 76 1 v ps.length (rowVs ps) (fun g => lo ≤ g) ∧
    (∀ p ∈ ps, Row w 9 1 (.slice p.1.1 p.1.2.1 p.1.2.2) p.2.length (strs p.2) (fun g => lo ≤ g) ∧ p.2.length ≤ 8796093021952) ∧
    ps.Pairwise fun p q => ∀ g, (Value.slice p.1.1 p.1.2.1 p.1.2.2).ownBlock = some g → (Value.slice q.1.1 q.1.2.1 q.1.2.2).ownBlock ≠ some g
section
variable {S S' : Nat → Prop} {w w' : World} {ao : Option Addr} {LL : List (List ByteArray)} {v : Value} {lo : Nat}
theorem RowsIn.nil (S : Nat → Prop) (w : World) : RowsIn S w none [] := ⟨[], rfl, CellsAt.nil _ _, fun a e => (by cases e), by simp⟩
theorem RowsIn.kp {F : Nat → Prop} (h : RowsIn S w ao LL) (hk : Kp F w w') (hF : ∀ k, F k → ¬ S k) : RowsIn S w' ao LL := by
  obtain ⟨ps, h1, h2, h3, h4⟩ := h
  exact ⟨ps, h1, h2.kp hk (fun a e hf => hF _ hf (h3 a e)), h3, fun p hp => ⟨⟨(h4 p hp).1.1, (h4 p hp).1.2.kp hk (fun a e hf => hF _ hf ((h4 p hp).2.2 a e))⟩, (h4 p hp).2⟩⟩
theorem RowsIn.ext (h : RowsIn S w ao LL) (hk : Ext w w') : RowsIn S w' ao LL := h.kp hk fun _ x => x.elim
theorem RowsIn.mono (h : RowsIn S w ao LL) (hs : ∀ k, S k → S' k) : RowsIn S' w ao LL := by
  obtain ⟨ps, h1, h2, h3, h4⟩ := h
  exact ⟨ps, h1, h2, fun a e => hs _ (h3 a e), fun p hp => ⟨(h4 p hp).1, (h4 p hp).2.1, fun a e => hs _ ((h4 p hp).2.2 a e)⟩⟩
theorem RowsIn.get (h : RowsIn S w ao LL) {k : Nat} {ss : List ByteArray} (hk : LL[k]? = some ss) :
    ∃ g o x cap, ao = some ⟨g, o, none⟩ ∧ w.cell? ⟨g, o + k, none⟩ = some (.slice x ss.length cap) ∧ CellsAt w x (strs ss) ∧ ss.length ≤ 8796093021952 ∧ ∀ a, x = some a → S a.block := by
  obtain ⟨ps, rfl, h2, h3, h4⟩ := h
  rw [List.getElem?_map] at hk
  cases hp : ps[k]? with
  | none => rw [hp] at hk; cases hk
  | some p =>
    rw [hp] at hk; cases hk
    obtain ⟨g, o, e, c⟩ := h2 k _ (rowVs_get ps k p hp)
    obtain ⟨⟨h5, h6⟩, h7, h8⟩ := h4 p (List.mem_of_getElem? hp)
    exact ⟨g, o, p.1.1, p.1.2.2, e, by rw [c, h5], h6, h7, h8⟩
theorem Row.has {e : TypeId} {k : Nat} {n : Nat} {xs : List Value} {M : Nat → Prop} (h : Row w e k v n xs M) {g : Nat} (hg : v.ownBlock = some g) : ∃ cs, Blk w g cs e ∧ n * k ≤ cs.length ∧ M g := by
  obtain ⟨h1, ⟨rfl, rfl⟩ | ⟨g', cap, rest, rfl, b, c, d, e, f⟩⟩ := h
  · cases hg
  · cases hg
    exact ⟨_, c, by simp at d ⊢; omega, b⟩
theorem Row.sort_ne {e e' : TypeId} {k k' : Nat} {n n' : Nat} {xs xs' : List Value} {M M' : Nat → Prop} {v' : Value} (h : Row w e k v n xs M) (h' : Row w e' k' v' n' xs' M') (he : e ≠ e') {g : Nat} (hg : v.ownBlock = some g) : v'.ownBlock ≠ some g := by
  intro hg'
  obtain ⟨cs, hb, _⟩ := h.has hg
  obtain ⟨cs', hb', _⟩ := h'.has hg'
  unfold Blk at hb hb'
  rw [hb] at hb'
  simp only [Option.some.injEq, Obj.cells.injEq] at hb'
  exact he hb'.2.1
theorem OwnRows.nil (lo : Nat) (w : World) : OwnRows lo w (.slice none 0 0) [] := ⟨[], rfl, Row.nil _ _ _ _, by simp, List.Pairwise.nil⟩
theorem OwnRows.kp {F : Nat → Prop} (h : OwnRows lo w v LL) (hk : Kp F w w') (hF : ∀ g, lo ≤ g → ¬ F g) : OwnRows lo w' v LL := by
  obtain ⟨ps, h1, h2, h3, h4⟩ := h
  exact ⟨ps, h1, h2.kp hk hF, fun p hp => ⟨(h3 p hp).1.kp hk hF, (h3 p hp).2⟩, h4⟩
theorem OwnRows.ext (h : OwnRows lo w v LL) (hk : Ext w w') : OwnRows lo w' v LL := h.kp hk fun _ _ => id
theorem OwnRows.mono {lo' : Nat} (h : OwnRows lo w v LL) (hl : lo' ≤ lo) : OwnRows lo' w v LL := by
  obtain ⟨ps, h1, h2, h3, h4⟩ := h
  exact ⟨ps, h1, Row.mono h2 fun g hg => Nat.le_trans hl hg, fun p hp => ⟨Row.mono (h3 p hp).1 fun g hg => Nat.le_trans hl hg, (h3 p hp).2⟩, h4⟩
theorem Row.readsAs {e : TypeId} {x : RowZ} {ss : List ByteArray} {M : Nat → Prop} (h : Row w e 1 (.slice x.1 x.2.1 x.2.2) ss.length (strs ss) M) : ReadsAs w x ss ∧ ∀ a, x.1 = some a → M a.block ∧ a.block < w.heap.size := by
  have hb := h.block
  have hl := h.lt
  obtain ⟨ao, cap, e, hc, _⟩ := h.shape
  obtain ⟨x1, x2, x3⟩ := x
  simp only [Value.slice.injEq] at e
  obtain ⟨rfl, e2, rfl⟩ := e
  refine ⟨⟨e2, hc⟩, fun a ea => ?_⟩
  simp only at ea
  subst ea
  exact ⟨hb a.block rfl, hl a.block rfl⟩
theorem OwnRows.shape (h : OwnRows lo w v LL) : ∃ ao cap, v = .slice ao LL.length cap ∧ RowsIn (fun g => lo ≤ g ∧ g < w.heap.size) w ao LL := by
  obtain ⟨ps, rfl, h2, h3, h4⟩ := h
  have hb := h2.block
  have hl := h2.lt
  obtain ⟨ao, cap, rfl, hc, _⟩ := h2.shape
  refine ⟨ao, cap, by simp, ps, rfl, hc, fun a e => ?_, fun p hp => ?_⟩
  · subst e; exact ⟨hb a.block rfl, hl a.block rfl⟩
  · obtain ⟨h5, h6⟩ := h3 p hp
    exact ⟨h5.readsAs.1, h6, fun a e => h5.readsAs.2 a e⟩
theorem OwnRows.push {ps : List RowP} (h2 : Row w 76 1 v ps.length (rowVs ps) (fun g => lo ≤ g))
    (h3 : ∀ p ∈ ps, Row w 9 1 (.slice p.1.1 p.1.2.1 p.1.2.2) p.2.length (strs p.2) (fun g => lo ≤ g) ∧ p.2.length ≤ 8796093021952)
    (h4 : ps.Pairwise fun p q => ∀ g, (Value.slice p.1.1 p.1.2.1 p.1.2.2).ownBlock = some g → (Value.slice q.1.1 q.1.2.1 q.1.2.2).ownBlock ≠ some g)
    {B : Nat} (hB : ∀ p ∈ ps, ∀ g, (Value.slice p.1.1 p.1.2.1 p.1.2.2).ownBlock = some g → g < B) (hlo : lo ≤ B) {x : RowZ} {ss : List ByteArray} (hx : Row w 9 1 (.slice x.1 x.2.1 x.2.2) ss.length (strs ss) (fun g => B ≤ g)) (hss : ss.length ≤ 8796093021952)
    {v' : Value} (hr : Row w' 76 1 v' (ps.length + 1) (rowVs ps ++ [.slice x.1 x.2.1 x.2.2]) (fun g => lo ≤ g)) (hk : Kp (fun g => v.ownBlock = some g) w w') : OwnRows lo w' v' (ps.map Prod.snd ++ [ss]) := by
  have hne : 9 ≠ 76 := by decide
  refine ⟨ps ++ [(x, ss)], by simp, ?_, fun p hp => ?_, ?_⟩
  · rw [rowVs_append]; simpa [rowVs] using hr
  · rcases List.mem_append.1 hp with hp | hp
    · exact ⟨(h3 p hp).1.kp' hk fun g hg _ hf => (h3 p hp).1.sort_ne h2 hne hg hf, (h3 p hp).2⟩
    · obtain rfl := List.mem_singleton.1 hp
      exact ⟨Row.mono (hx.kp' hk fun g hg _ hf => hx.sort_ne h2 hne hg hf) fun g hg => Nat.le_trans hlo hg, hss⟩
  · refine List.pairwise_append.2 ⟨h4, List.pairwise_singleton _ _, fun p hp q hq g hg hg' => ?_⟩
    obtain rfl := List.mem_singleton.1 hq
    have h1 := hB p hp g hg
    have h2 : B ≤ g := hx.block g hg'
    omega
end
end Go.Proofs.YtomeebimmmfmbaaGreat

/- tuple.Rows: All: the rows, each in memory of its own. -/
namespace Go.Proofs.YtomeebimmmfmbaaGreat
open Go.RowKit Go.Shelf
set_option linter.unusedVariables false
attribute [local go_sem] Oper.semAt_some
def GotRows {α : Type} (f : α → List ByteArray) (m : Nat) (w0 : World) (b : Nat) (pre : List α) (W : World) : Prop :=
  pre.length ≤ m ∧ Kp (fun g => g = b) w0 W ∧ ∃ v, Blk W b [v] 69 ∧ OwnRows w0.heap.size W v (pre.map f)
theorem OwnRows.grown {lo : Nat} {W W' : World} {v : Value} {LL : List (List ByteArray)} {row : Option Nat} (h : OwnRows lo W v LL) (hg : W.grownBy W' row) (hr : ∀ r, row = some r → ∃ o : Obj, W.heap[r]? = some o ∧ o.isCells = false) : OwnRows lo W' v LL := by
  obtain ⟨ps, h1, h2, h3, h4⟩ := h
  exact ⟨ps, h1, h2.grown hg hr, fun p hp => ⟨(h3 p hp).1.grown hg hr, (h3 p hp).2⟩, h4⟩
theorem OwnRows.kpc {F : Nat → Prop} {lo : Nat} {w w' : World} {v : Value} {LL : List (List ByteArray)} (h : OwnRows lo w v LL) (hk : Kp F w w') (hF : ∀ g, F g → ¬ ∃ o : Obj, w.heap[g]? = some o ∧ o.isCells = true) : OwnRows lo w' v LL := by
  obtain ⟨ps, h1, h2, h3, h4⟩ := h
  have key : ∀ {e : TypeId} {k n : Nat} {v : Value} {xs : List Value} {M : Nat → Prop}, Row w e k v n xs M → Row w' e k v n xs M := fun h => h.kp' hk fun g hg _ hf => by
    obtain ⟨cs, hb, _⟩ := h.has hg
    exact hF g hf ⟨_, hb, rfl⟩
  exact ⟨ps, h1, key h2, fun p hp => ⟨key (h3 p hp).1, (h3 p hp).2⟩, h4⟩
theorem GotRows.own {α : Type} {f : α → List ByteArray} {m : Nat} {w0 : World} {b B : Nat} (hB : w0.heap.size ≤ B) : OwnFrom B (GotRows f m w0 b) := fun pre W W' row hs hg hr => by
  obtain ⟨h1, h2, v, h3, h4⟩ := hs
  refine ⟨h1, h2.grown hg fun k e hk => ?_, v, h3.grown hg fun r e => (hr r e).2, h4.grown hg fun r e => (hr r e).2⟩
  have := (hr k e).1
  omega
theorem KeepsOthers.of_ext {W W' : World} (h : Ext W W') : KeepsOthers W W' := ⟨h.size, fun k o hk _ => (h.block k (lt_of_block hk) id).trans hk⟩
theorem gotRows_app {α : Type} {f : α → List ByteArray} {m : Nat} {w0 X X1 : World} {B : Nat} {ao : Option Addr} {n cap : Nat} {pre : List α} {x : RowZ} {ss : List ByteArray} (hm : pre.length ≤ m ∧ m ≤ 1048576 * 1048576) (hpk : Kp (fun g => g = B) w0 X) (hBlt : B < w0.heap.size)
    (hB : Blk X B [.slice ao n cap] 69) (hr : OwnRows w0.heap.size X (.slice ao n cap) (pre.map f)) (hk : Ext X X1) (hx : Row X1 9 1 (.slice x.1 x.2.1 x.2.2) ss.length (strs ss) (New X)) (hss : ss.length ≤ 8796093021952) :
    ∃ ao3 n3 cap3 w3, (Builtin.append_ #[69, 69] 69 #[.slice ao n cap, .slice (some ⟨X1.heap.size, 0, none⟩) 1 1]).run Tryz.prog (X1.alloc (.cells #[.slice x.1 x.2.1 x.2.2] 76)) = .ok (.slice ao3 n3 cap3) w3 ∧
      w3.cell? ⟨B, 0, none⟩ = some (.slice ao n cap) ∧ w3.frozen? ⟨B, 0, none⟩ = false ∧ ∀ y, f y = ss → KeepsOthers X (w3.setCell ⟨B, 0, none⟩ (.slice ao3 n3 cap3)) ∧ Kp (fun g => g = B ∨ w0.heap.size ≤ g) X (w3.setCell ⟨B, 0, none⟩ (.slice ao3 n3 cap3)) ∧
        Kp (fun g => g = B) w0 (w3.setCell ⟨B, 0, none⟩ (.slice ao3 n3 cap3)) ∧ ∃ v, Blk (w3.setCell ⟨B, 0, none⟩ (.slice ao3 n3 cap3)) B [v] 69 ∧ OwnRows w0.heap.size (w3.setCell ⟨B, 0, none⟩ (.slice ao3 n3 cap3)) v ((pre ++ [y]).map f) := by
  obtain ⟨ps, e1, h2, h3, h4⟩ := hr
  have hlen : ps.length = pre.length := by have := congrArg List.length e1; simpa using this.symm
  obtain ⟨w2, ew2⟩ : ∃ w2, X1.alloc (.cells #[.slice x.1 x.2.1 x.2.2] 76) = w2 := ⟨_, rfl⟩
  have hk2 : Ext X w2 := by rw [← ew2]; exact hk.alloc _
  have hx2 : Row w2 9 1 (.slice x.1 x.2.1 x.2.2) ss.length (strs ss) (New X) := by rw [← ew2]; exact hx.alloc _
  have hsrc : CellsAt w2 (some ⟨X1.heap.size, 0, none⟩) [.slice x.1 x.2.1 x.2.2] := by rw [← ew2]; exact CellsAt.one X1 _ _
  have h2' := h2.ext hk2
  obtain ⟨v3, w3, hrun, hr3, hk3, _⟩ := run_app (P := Tryz.prog) elemRow 69 h2' (m := 1) (c := 1) rfl hsrc (by simp; rfl) (by omega) (by unfold maxLen; omega)
  obtain ⟨ao3, cap3, ev, _, _⟩ := hr3.shape
  subst ev
  have hBne : (Value.slice ao n cap).ownBlock ≠ some B := fun e => by have := h2.block B e; omega
  have hB3 : Blk w3 B [.slice ao n cap] 69 := (hB.ext hk2).kp hk3 hBne
  have hsz0 := hpk.size
  refine ⟨ao3, _, cap3, w3, by rw [ew2]; exact hrun, by rw [hB3.cell']; rfl, hB3.free 0, fun y hy => ?_⟩
  have hko : KeepsOthers w2 w3 := ⟨hk3.size, fun k o hk' ho => (hk3.block k (lt_of_block hk') (fun hg => by
    obtain ⟨cs, hb, _⟩ := h2'.has hg
    unfold Blk at hb
    rw [hb] at hk'; cases hk'; cases ho)).trans hk'⟩
  have kX : Kp (fun g => g = B ∨ w0.heap.size ≤ g) X w3 := (Ext.kp hk2).trans (hk3.mono fun g _ hg => .inr (h2.block g hg))
  have k0 : Kp (fun g => g = B) w0 w3 := hpk.trans' kX fun i hi hg => by rcases hg with hg | hg; exact hg; omega
  refine ⟨((KeepsOthers.of_ext hk2).trans hko).trans (KeepsOthers.setCell _ _ _), kX.setCell (fun _ => .inl rfl) _, k0.setCell (fun _ => rfl) _, _, hB3.set 0 _, ?_⟩
  have hown : OwnRows w0.heap.size w3 (.slice ao3 (ps.length + 1) cap3) (ps.map Prod.snd ++ [ss]) :=
    OwnRows.push h2' (fun p hp => ⟨(h3 p hp).1.ext hk2, (h3 p hp).2⟩) h4 (B := X.heap.size) (fun p hp g hg => (h3 p hp).1.lt g hg) hsz0 hx2 hss
      (hr3.mono fun g hg => by rcases hg with hg | hg; exact h2.block g hg; exact Nat.le_trans hsz0 (Nat.le_trans hk2.size hg)) hk3
  rw [List.map_append, List.map_singleton, hy, e1]
  exact hown.kp (Kp.setCell (F := fun g => g = B) (Kp.refl _) (fun _ => rfl) _) fun g hg e => by omega
theorem stepIn_app {F : Fence} {n : Nat} {P : Program} {o : Oper} {a : Act} {w w' : World} {K : Act → World → Prop} {Q : Exit → Act → World → Prop} {b : Bool} {p : Prop} [Decidable (b = true)] (s x : Operand) {t : TypeId} {v vx v' : Value}
    (ho : o.op = .call { callee := .builtin .append, args := #[s, x], argTypes := #[t, t] }) (hs : a.eval s = v) (hx : a.eval x = vx) (hb : b = true) (hrun : (Builtin.append_ #[t, t] o.type #[v, vx]).run P w = .ok v' w') (hK : K (a.put o.dst v') w') : if b = true then Oper.wpIn F n P o a w K Q else p := by
  rw [if_pos hb]
  unfold Oper.wpIn
  refine ⟨by simp [Oper.about, ho, resolve, Target.leads, Sem.run_pure], ?_⟩
  rw [Oper.semAt_plain F _ _ (by rw [ho]; intro c hc'; cases hc')]
  simp only [execOp, ho, resolve, invoke, builtin, Sem.run_bind, Sem.run_pure, Result.andThen_ok, List.map_toArray, List.map_cons, List.map_nil, hs, hx, hrun]
  exact hK
theorem rowsAll_ret {F : Nat → Prop} {w W : World} {P : World → Value → Prop} {tmps : Array Value} {ds : List Deferred} {lo : Nat} (hm : Marks lo W ds) (hk : Kp F w W) (hlo : w.heap.size ≤ lo) {v : Value} (ht : tmps.getD 2 undef = v)
    (hP : ∀ w', Kp (fun k => lo ≤ k ∧ ¬ ∃ o : Obj, W.heap[k]? = some o ∧ o.isCells = true) W w' → P w' v) :
    bodyPostM Fence.wide 4 Tryz.prog Tryz.f107 (RetF F w P) .ret { tmps := tmps, defers := ds } W := by
  refine leaves_marks hm fun w' e1 e2 e3 e4 e5 e6 => ?_
  have kx : Kp (fun k => lo ≤ k ∧ ¬ ∃ o : Obj, W.heap[k]? = some o ∧ o.isCells = true) W w' := ⟨e1, e2, e3, by omega, fun k hk hf => by
    by_cases h : lo ≤ k
    · by_cases h2 : ∃ o : Obj, W.heap[k]? = some o ∧ o.isCells = true
      · obtain ⟨o, h2, h3⟩ := h2
        rw [h2]; exact e6 k o h2 h3
      · exact absurd ⟨h, h2⟩ hf
    · exact e5 k (by omega)⟩
  refine ⟨v, ?_, RetF.mk (hk.trans' kx fun i hi h => absurd h.1 (by omega)) (hP w' kx)⟩
  have ht' : tmps[2]?.getD undef = v := by simpa using ht
  simp [results, Tryz.f107, go_sem, ht']
section
variable {z : Prop} {S : Nat → Prop} {w w' : World} {b : Nat} {iv : Value} {arity : Nat} {LL : List (List ByteArray)}
theorem RowsQ.ownLt (h : RowsQ z S w b iv arity LL) : ∀ k, Owns b iv k → k < w.heap.size := by
  rcases h with ⟨con, zs, hc, hs, hl⟩ | ⟨hz, rfl, rfl, hB, h1, h2⟩
  · rintro k (rfl | hk)
    · exact hs.blk.lt
    · exact hs.row.lt k hk
  · rintro k (rfl | hk)
    · exact hB.lt
    · cases hk
def SetTells (w : World) (F : Nat → Prop) (R : World → Prop) (LL : List (List ByteArray)) (rv : Value) : Prop :=
  ∀ W, Ext w W → Calls Tryz.prog 108 #[rv] W (RetF F W fun w' v => R w' ∧ ∃ S con, ∃ zs : List RowZ, PtrSetRow Tryz.prog S w' v zs ∧ (∀ k, S k → k < w.heap.size) ∧ zs.map con = LL ∧
    ∀ x ∈ zs, ∃ ss, ReadsAs w' x ss ∧ ss.length ≤ 8796093021952 ∧ (∀ a, x.1 = some a → x.2.1 ≠ 0 → S a.block) ∧ con x = ss)
set_option maxRecDepth 100000 in
set_option maxHeartbeats 2000000 in
theorem rowsAll_of {F : Nat → Prop} {R : World → Prop} {rv : Value} (hset : SetTells w F R LL rv) (hF : ∀ k, F k → k < w.heap.size) (hR : ∀ {W W' : World}, R W → Kp (fun g => w.heap.size ≤ g) W W' → R W') :
    Calls Tryz.prog 107 #[rv] w (RetF F w fun w' v => R w' ∧ OwnRows w.heap.size w' v LL) := by
  refine callsIn_wide.1 (callsIn_of_wp_marks (n := 4) Tryz.func107 rfl trivial ?_ rfl)
  refine wpIn_wide.2 ?_
  obtain ⟨Q, eQ⟩ : ∃ Q, Q = bodyPostM Fence.wide 4 Tryz.prog Tryz.f107 (RetF F w fun w' v => R w' ∧ OwnRows w.heap.size w' v LL) := ⟨_, rfl⟩
  rw [← eQ]
  have EQ := Lib.hid eQ; clear eQ
  have H := Lib.hid hset
  have HR := Lib.hid (And.intro hF (@hR)); clear hset hF hR
  simp only [Tryz.ntmps107, List.size_toArray, List.length_cons, List.length_nil, Nat.reduceAdd, Nat.reduceSub, Array.replicate_succ, Array.replicate_zero, List.push_toArray, List.append_toArray, List.nil_append, List.cons_append]
  go_wp2_with fail
  have x0 : Ext w (w.alloc (.cells #[.slice none 0 0] 69)) := (Kp.refl w).alloc _
  have b0 : Blk (w.alloc (.cells #[.slice none 0 0] 69)) w.heap.size [.slice none 0 0] 69 := Blk.new w [_] _
  refine (H.out _ x0).mono ?_
  rintro e w1 ⟨v1, rfl, hk1, hR1, S, con, zs, hp, hSw, hl, hall⟩
  have k01 : Kp F w w1 := (Ext.kp x0).trans hk1
  have b1 := b0.kp hk1 (fun e => by have := HR.out.1 _ e; omega)
  have HK1 := Lib.hid (And.intro k01 hR1)
  have hlen := hp.len
  have HS := Lib.hid (And.intro hall hl)
  have HE := Lib.hid (setEachRow_ptr hp)
  have B1 := Lib.hid b1
  have hsz1 := b1.lt
  clear hall hp hl b0 b1 hk1 k01 x0 H hR1
  go_wp2_with fail
  refine HE.out.mono ?_
  rintro e w2 ⟨v2, rfl, hk2, hit⟩
  obtain ⟨Bs, hv2, hseq⟩ := hit.sub.stops Fence.wide 3 trivial rfl (by omega)
  subst hv2
  have HQ := Lib.hid hseq; clear hseq hit
  have B2 := Lib.hid (B1.out.ext hk2)
  have HK2 := Lib.hid hk2
  have hsz2 := hk2.size
  have hn0 : zs.attach.length = zs.length := List.length_attach
  have HSW := Lib.hid hSw
  clear hk2 HE B1 hSw
  go_wp2_with fail
  refine' wpIn_wide.1 (wpIn_rangeFunc_ownG (F := Fence.wide) (n := 4) (w0 := w2) rfl (by omega) (gf := 135) (lb := #[.pointer (some ⟨Bs, 0, none⟩)]) rfl trivial (enters_of Tryz.func135 (by kernel_rfl) rfl)
    HQ.out SameOn.trans (SameOn.put (fun k h => h.2)) (Kp.refl w2).below (fun _ => rfl) (GotRows (fun x => con x.1) zs.length w2 w.heap.size) (fun _ _ _ => False) (GotRows.own (Nat.le_refl _)) (fun _ _ _ _ _ h _ _ => h) ⟨by simp, Kp.refl _, _, B2.out, OwnRows.nil _ _⟩ _ ?assign ?body ?done ?stop)
  case assign =>
    intro l x W K hK
    gi_wp2
    exact hK
  case body =>
    rintro l pre x X ⟨hpl, hpk, v, hB, hr⟩ hlen'
    obtain ⟨xv, xm⟩ := x
    obtain ⟨ao1, n1, cap1, ev, _⟩ : ∃ ao n cap, v = .slice ao n cap ∧ True := by obtain ⟨ao, cap, e, _⟩ := hr.shape; exact ⟨_, _, _, e, trivial⟩
    subst ev
    have HPL := Lib.hid (And.intro hpl hlen)
    obtain ⟨ss, hrd, hss, hxS, hcx⟩ := HS.out.1 xv xm
    have hrd2 : ReadsAs X xv ss := ⟨hrd.1, fun i u hu => by
      have hne : xv.2.1 ≠ 0 := by
        have h1 := (List.getElem?_eq_some_iff.1 hu).1
        simp only [strs, List.length_map] at h1
        rw [hrd.1]; omega
      obtain ⟨b, o, e, c⟩ := (hrd.2.ext HK2.out) i u hu
      exact ⟨b, o, e, hpk.cell c fun hf => by have h8 : b < _ := HSW.out _ (hxS _ e hne); omega⟩⟩
    clear hrd hxS
    obtain ⟨ao, n, cap⟩ := xv
    obtain ⟨hn, hcs⟩ := hrd2
    simp only at hn hcs
    have hmix : Tryz.prog.follows .mixedOrders = true := by kernel_rfl
    have HCL := Lib.hid (cloneStr_any (strs ss) ao cap X.drew n (by simp [strs, hn]) (hcs.ext (Kp.refl X).drew) (strs_one ss) (by omega))
    have hc0 := hB.cell 0 (by simp)
    have hf0 := hB.free 0
    simp only [List.getElem_cons_zero] at hc0
    have HB := Lib.hid (And.intro hB hr)
    have HCX := Lib.hid (And.intro hcx hn)
    clear hB hr hcx hn hcs
    gi_wp2
    refine wpIn_region_any (by kernel_rfl) ?_
    change wpAnyIn _ _ _ _ _ _ _ _ _ (World.drew _)
    refine wpAnyIn_ready (rs := [0, 1]) (by kernel_rfl) (by simp) (AllReadyIn.cons rfl (fun K hK => ?_) (AllReadyIn.cons rfl (fun K hK => ?_) AllReadyIn.nil))
    · go_simp
      refine hK _ _ ?_
      clear hK K
      refine wpAnyIn_ready (rs := [1]) (by kernel_rfl) (by simp) (AllReadyIn.cons rfl (fun K hK => ?_) AllReadyIn.nil)
      go_simp
      refine hK _ _ ?_
      clear hK K
      refine wpAnyIn_ready (rs := [2]) (by kernel_rfl) (by simp) (AllReadyIn.cons rfl (fun K hK => ?_) AllReadyIn.nil)
      go_simp
      refine And.intro trivial ?_
      refine (CallsIn.inRound l (callsIn_wide.2 HCL.out)).mono ?_
      rintro e X1 ⟨v1, rfl, hk1, hr1⟩
      obtain ⟨ao2, cap2, ev, _, _⟩ := hr1.shape
      subst ev
      rw [HCX.out.2] at hr1
      obtain ⟨ao3, n3, cap3, w3, hrunA, d1, d2, HFIN⟩ := gotRows_app (x := (ao2, ss.length, cap2)) HPL.out hpk (by omega) HB.out.1 HB.out.2 ((Kp.refl X).drew.trans hk1) hr1 hss
      rw [← HCX.out.2] at hrunA
      have HFI := Lib.hid HFIN
      clear HFIN hr1
      have e0 := hk1.cell (w := X.drew) hc0 id
      have e1 := (hk1.alloc (.cells #[.slice ao2 n cap2] 76)).cell (w := X.drew) hc0 id
      change K _ _
      refine hK _ _ ?_
      clear hK K
      refine wpAnyIn_ready (rs := [3]) (by kernel_rfl) (by simp) (AllReadyIn.cons rfl (fun K hK => ?_) AllReadyIn.nil)
      go_simp
      refine hK _ _ ?_
      clear hK K
      refine wpAnyIn_ready (rs := [4]) (by kernel_rfl) (by simp) (AllReadyIn.cons rfl (fun K hK => ?_) AllReadyIn.nil)
      refine stepIn_app (.tmp 9) (.tmp 12) rfl rfl rfl rfl hrunA ?_
      refine hK _ _ ?_
      clear hK K
      refine wpAnyIn_ready (rs := [5]) (by kernel_rfl) (by simp) (AllReadyIn.cons rfl (fun K hK => ?_) AllReadyIn.nil)
      go_simp
      refine hK _ _ ?_
      clear hK K
      refine wpAnyIn_done (by kernel_rfl) ?_ _
      obtain ⟨q1, q2, q3, q4⟩ := HFI.out ⟨(ao, n, cap), xm⟩ HCX.out.1
      refine And.intro (q1.from _) (And.intro (SameOn.of_kp q2 (fun k h => Nat.lt_of_lt_of_le h.2 hpk.size) (fun k h h' => by omega)) ⟨by rw [List.length_append]; simp; omega, q3, q4⟩)
    · go_simp
      refine hK _ _ ?_
      clear hK K
      refine wpAnyIn_ready (rs := [0, 2]) (by kernel_rfl) (by simp) (AllReadyIn.cons rfl (fun K hK => ?_) (AllReadyIn.cons rfl (fun K hK => ?_) AllReadyIn.nil))
      · go_simp
        refine hK _ _ ?_
        clear hK K
        refine wpAnyIn_ready (rs := [2]) (by kernel_rfl) (by simp) (AllReadyIn.cons rfl (fun K hK => ?_) AllReadyIn.nil)
        go_simp
        refine And.intro trivial ?_
        refine (CallsIn.inRound l (callsIn_wide.2 HCL.out)).mono ?_
        rintro e X1 ⟨v1, rfl, hk1, hr1⟩
        obtain ⟨ao2, cap2, ev, _, _⟩ := hr1.shape
        subst ev
        rw [HCX.out.2] at hr1
        obtain ⟨ao3, n3, cap3, w3, hrunA, d1, d2, HFIN⟩ := gotRows_app (x := (ao2, ss.length, cap2)) HPL.out hpk (by omega) HB.out.1 HB.out.2 ((Kp.refl X).drew.trans hk1) hr1 hss
        rw [← HCX.out.2] at hrunA
        have HFI := Lib.hid HFIN
        clear HFIN hr1
        have e0 := hk1.cell (w := X.drew) hc0 id
        have e1 := (hk1.alloc (.cells #[.slice ao2 n cap2] 76)).cell (w := X.drew) hc0 id
        change K _ _
        refine hK _ _ ?_
        clear hK K
        refine wpAnyIn_ready (rs := [3]) (by kernel_rfl) (by simp) (AllReadyIn.cons rfl (fun K hK => ?_) AllReadyIn.nil)
        go_simp
        refine hK _ _ ?_
        clear hK K
        refine wpAnyIn_ready (rs := [4]) (by kernel_rfl) (by simp) (AllReadyIn.cons rfl (fun K hK => ?_) AllReadyIn.nil)
        refine stepIn_app (.tmp 9) (.tmp 12) rfl rfl rfl rfl hrunA ?_
        refine hK _ _ ?_
        clear hK K
        refine wpAnyIn_ready (rs := [5]) (by kernel_rfl) (by simp) (AllReadyIn.cons rfl (fun K hK => ?_) AllReadyIn.nil)
        go_simp
        refine hK _ _ ?_
        clear hK K
        refine wpAnyIn_done (by kernel_rfl) ?_ _
        obtain ⟨q1, q2, q3, q4⟩ := HFI.out ⟨(ao, n, cap), xm⟩ HCX.out.1
        refine And.intro (q1.from _) (And.intro (SameOn.of_kp q2 (fun k h => Nat.lt_of_lt_of_le h.2 hpk.size) (fun k h h' => by omega)) ⟨by rw [List.length_append]; simp; omega, q3, q4⟩)
      · go_simp
        refine And.intro trivial ?_
        refine (CallsIn.inRound l (callsIn_wide.2 HCL.out)).mono ?_
        rintro e X1 ⟨v1, rfl, hk1, hr1⟩
        obtain ⟨ao2, cap2, ev, _, _⟩ := hr1.shape
        subst ev
        rw [HCX.out.2] at hr1
        obtain ⟨ao3, n3, cap3, w3, hrunA, d1, d2, HFIN⟩ := gotRows_app (x := (ao2, ss.length, cap2)) HPL.out hpk (by omega) HB.out.1 HB.out.2 ((Kp.refl X).drew.trans hk1) hr1 hss
        rw [← HCX.out.2] at hrunA
        have HFI := Lib.hid HFIN
        clear HFIN hr1
        have e0 := hk1.cell (w := X.drew) hc0 id
        have e1 := (hk1.alloc (.cells #[.slice ao2 n cap2] 76)).cell (w := X.drew) hc0 id
        change K _ _
        refine hK _ _ ?_
        clear hK K
        refine wpAnyIn_ready (rs := [0, 3]) (by kernel_rfl) (by simp) (AllReadyIn.cons rfl (fun K hK => ?_) (AllReadyIn.cons rfl (fun K hK => ?_) AllReadyIn.nil))
        · go_simp
          refine hK _ _ ?_
          clear hK K
          refine wpAnyIn_ready (rs := [3]) (by kernel_rfl) (by simp) (AllReadyIn.cons rfl (fun K hK => ?_) AllReadyIn.nil)
          go_simp
          refine hK _ _ ?_
          clear hK K
          refine wpAnyIn_ready (rs := [4]) (by kernel_rfl) (by simp) (AllReadyIn.cons rfl (fun K hK => ?_) AllReadyIn.nil)
          refine stepIn_app (.tmp 9) (.tmp 12) rfl rfl rfl rfl hrunA ?_
          refine hK _ _ ?_
          clear hK K
          refine wpAnyIn_ready (rs := [5]) (by kernel_rfl) (by simp) (AllReadyIn.cons rfl (fun K hK => ?_) AllReadyIn.nil)
          go_simp
          refine hK _ _ ?_
          clear hK K
          refine wpAnyIn_done (by kernel_rfl) ?_ _
          obtain ⟨q1, q2, q3, q4⟩ := HFI.out ⟨(ao, n, cap), xm⟩ HCX.out.1
          refine And.intro (q1.from _) (And.intro (SameOn.of_kp q2 (fun k h => Nat.lt_of_lt_of_le h.2 hpk.size) (fun k h h' => by omega)) ⟨by rw [List.length_append]; simp; omega, q3, q4⟩)
        · go_simp
          refine hK _ _ ?_
          clear hK K
          refine wpAnyIn_ready (rs := [0]) (by kernel_rfl) (by simp) (AllReadyIn.cons rfl (fun K hK => ?_) AllReadyIn.nil)
          go_simp
          refine hK _ _ ?_
          clear hK K
          refine wpAnyIn_ready (rs := [4]) (by kernel_rfl) (by simp) (AllReadyIn.cons rfl (fun K hK => ?_) AllReadyIn.nil)
          refine stepIn_app (.tmp 9) (.tmp 12) rfl rfl rfl rfl hrunA ?_
          refine hK _ _ ?_
          clear hK K
          refine wpAnyIn_ready (rs := [5]) (by kernel_rfl) (by simp) (AllReadyIn.cons rfl (fun K hK => ?_) AllReadyIn.nil)
          go_simp
          refine hK _ _ ?_
          clear hK K
          refine wpAnyIn_done (by kernel_rfl) ?_ _
          obtain ⟨q1, q2, q3, q4⟩ := HFI.out ⟨(ao, n, cap), xm⟩ HCX.out.1
          refine And.intro (q1.from _) (And.intro (SameOn.of_kp q2 (fun k h => Nat.lt_of_lt_of_le h.2 hpk.size) (fun k h h' => by omega)) ⟨by rw [List.length_append]; simp; omega, q3, q4⟩)
  case stop =>
    rintro D c pre W _ _ h _
    exact h.elim
  case done =>
    rintro D ys W2 hD hys ⟨hl2, hkd, v, hBd, hrd⟩ hd
    subst hys
    have kw : Kp F w W2 := (HK1.out.1.ext HK2.out).trans' hkd fun k hk e => by omega
    have hra : R W2 := HR.out.2 HK1.out.2 ((Ext.kp HK2.out).trans (hkd.mono fun g _ e => by omega))
    have hown : OwnRows w.heap.size W2 v LL := by
      have e : zs.attach.map (fun x => con x.1) = LL := by
        rw [← HS.out.2]
        have h : (zs.attach.map fun x : { x // x ∈ zs } => con x.1) = (zs.attach.map Subtype.val).map con := by rw [List.map_map]; rfl
        rw [h, List.attach_map_subtype_val]
      rw [e] at hrd
      exact hrd.mono (by omega)
    have hmk := (Marks.nil w2.heap.size w2).push (w' := W2) (D := D) (fun k o h ho => (hkd.block k (lt_of_block h) (fun e => by
      subst e; have hb := B2.out; unfold Blk at hb; rw [hb] at h; cases h; cases ho)).trans h) hD hD hd
    obtain ⟨ao4, cap4, ev, _⟩ := hown.shape
    subst ev
    have c0 := hBd.cell 0 (by simp)
    simp only [List.getElem_cons_zero] at c0
    have HF := Lib.hid (And.intro kw (And.intro hra (And.intro hown hmk)))
    clear kw hra hown hmk hrd hBd hkd hd
    go_wp2
    rw [EQ.out]
    obtain ⟨kw, hra, hown, hmk⟩ := HF.out
    refine rowsAll_ret hmk kw (by omega) rfl fun w' kx => ⟨HR.out.2 hra (kx.mono fun g _ h => by omega), hown.kpc kx fun g h => h.2⟩
theorem RowsAt.tells (h : RowsAt S w b iv arity LL) : ∃ con, ∃ zs : List RowZ, PtrSetRow Tryz.prog S w (.pointer (some ⟨b, 0, none⟩)) zs ∧ zs.map con = LL ∧
    ∀ x ∈ zs, ∃ ss, ReadsAs w x ss ∧ ss.length ≤ 8796093021952 ∧ (∀ a, x.1 = some a → x.2.1 ≠ 0 → S a.block) ∧ con x = ss := by
  obtain ⟨con, zs, hc, hs, hl⟩ := h
  refine ⟨con, zs, .inr ⟨_, _, _, _, _, _, _, rfl, hs⟩, hl, fun x hx => ?_⟩
  obtain ⟨ss, h1, h2, h3⟩ := hs.all x hx
  exact ⟨ss, h1, h2, h3, hc x ss h1⟩
theorem rowsAll_q (h : RowsQ z S w b iv arity LL) :
    Calls Tryz.prog 107 #[.pointer (some ⟨b, 0, none⟩)] w (RetF (FQ z b) w fun w' v => RowsAt S w' b iv arity LL ∧ OwnRows w.heap.size w' v LL) := by
  refine rowsAll_of (R := fun W => RowsAt S W b iv arity LL) (fun W hW => ?_) (fun k hk => by rw [hk.2]; exact h.lt) (fun {W W'} hr hk => ?_)
  · refine (rowsSet_q (h.ext hW)).mono ?_
    rintro e w1 ⟨v, rfl, hk, rfl, h1⟩
    obtain ⟨con, zs, hp, hl, hall⟩ := h1.tells
    exact RetF.mk hk ⟨h1, S, con, zs, hp, h.inS, hl, hall⟩
  · exact hr.move hk (fun k hg ho => by have := h.ownLt k ho; omega) (fun k hg hS => by have := h.inS k hS; omega) (fun _ h => h) (fun k hS => Nat.lt_of_lt_of_le (hr.inS k hS) hk.size) hr.notS
theorem rowsAll_nil (w : World) : Calls Tryz.prog 107 #[.pointer none] w (RetN w fun w' v => OwnRows w.heap.size w' v []) := by
  refine (rowsAll_of (w := w) (F := fun _ => False) (R := fun _ => True) (LL := []) (fun W hW => ?_) (fun k hk => hk.elim) (fun _ _ => trivial)).mono ?_
  · refine (rowsSet_nil W).mono ?_
    rintro e w1 ⟨rfl, rfl⟩
    exact RetF.mk (Kp.refl _) ⟨trivial, fun _ => False, fun _ => [], [], .inl ⟨rfl, rfl⟩, fun k hk => hk.elim, rfl, by simp⟩
  · rintro e w' ⟨v, rfl, hk, _, h⟩
    exact RetN.mk hk h
end
end Go.Proofs.YtomeebimmmfmbaaGreat

/- tuple.Rows: Each, Copy, with: Union, Minus, Meet; Same. -/
namespace Go.Proofs.YtomeebimmmfmbaaGreat
open Go.RowKit Go.Shelf
set_option linter.unusedVariables false
def EachRows (lo : Nat) (w : World) (v : Value) (LL : List (List ByteArray)) : Prop :=
  ∃ Bs iv, v = .func (.func 135) #[] #[.pointer (some ⟨Bs, 0, none⟩)] ∧ lo ≤ Bs ∧ Blk w Bs [iv] 69 ∧ OwnRows lo w iv LL ∧ LL.length ≤ 1048576 * 1048576
section
variable {z z1 z2 : Prop} {S : Nat → Prop} {w w' : World} {b b1 b2 : Nat} {iv iv1 iv2 : Value} {arity arity2 : Nat} {LL L1 L2 : List (List ByteArray)}
theorem RowsAt.len (h : RowsAt S w b iv arity LL) : LL.length ≤ 1048576 * 1048576 := by
  obtain ⟨con, zs, hc, hs, hl⟩ := h
  rw [← hl, List.length_map]; exact hs.len
theorem rowsEach_nil (w : World) : Calls Tryz.prog 66 #[.pointer none] w (RetN w fun w' v => EachRows w.heap.size w' v []) := by
  go_enter Tryz.func66, Tryz.ntmps66
  go_wp2_with fail
  refine (rowsAll_nil w).mono ?_
  rintro e w1 ⟨v, rfl, hk, h1⟩
  obtain ⟨ao, cap, ev, _⟩ := h1.shape
  subst ev
  have HK := Lib.hid (And.intro hk h1); clear hk h1
  go_wp2_with fail
  refine (valuesRow_any _ _ _ w1).mono ?_
  rintro e w2 ⟨v, rfl, hk2, rfl, ew⟩
  subst ew
  go_wp2
  go_ret
  exact RetN.mk (HK.out.1.alloc _) ⟨_, _, rfl, HK.out.1.size, Blk.new w1 [_] _, HK.out.2.ext ((Kp.refl w1).alloc _), by simp⟩
theorem rowsEach_q (h : RowsQ z S w b iv arity LL) :
    Calls Tryz.prog 66 #[.pointer (some ⟨b, 0, none⟩)] w (RetF (FQ z b) w fun w' v => RowsAt S w' b iv arity LL ∧ EachRows w.heap.size w' v LL) := by
  have H := Lib.hid (rowsAll_q h); clear h
  go_enter Tryz.func66, Tryz.ntmps66
  go_wp2_with fail
  refine H.out.mono ?_
  rintro e w1 ⟨v, rfl, hk, h1, h2⟩
  obtain ⟨ao, cap, ev, _⟩ := h2.shape
  subst ev
  have HK := Lib.hid (And.intro hk (And.intro h1 h2)); clear hk h1 h2
  go_wp2_with fail
  refine (valuesRow_any _ _ _ w1).mono ?_
  rintro e w2 ⟨v, rfl, hk2, rfl, ew⟩
  subst ew
  go_wp2
  go_ret
  obtain ⟨hk, h1, h2⟩ := HK.out
  exact RetF.mk (hk.alloc _) ⟨h1.ext ((Kp.refl w1).alloc _), _, _, rfl, hk.size, Blk.new w1 [_] _, h2.ext ((Kp.refl w1).alloc _), h1.len⟩
end
end Go.Proofs.YtomeebimmmfmbaaGreat

/- Bases in plain Lean: names, each with its rows: what is declared, what is added, what relations make. No program in sight. -/
namespace Go.Proofs.YtomeebimmmfmbaaGreat
set_option linter.unusedVariables false
abbrev CntZ := ByteArray × Nat × List (List ByteArray)
abbrev RelZ := ByteArray × Int × List (List ByteArray) × Unit
abbrev Rows2 := List (List ByteArray)
theorem cmpRow_ord : OrdLaw cmpRow := cmpRow_law id
theorem cmpRow_tight : Tight cmpRow := fun _ _ h => cmpRow_zero h
def getC (C : List CntZ) (s : ByteArray) : Option (Nat × Rows2) := (C.find? fun p => decide (p.1 = s)).map (·.2)
def setC (C : List CntZ) (s : ByteArray) (v : Nat × Rows2) : List CntZ := if (getC C s).isSome then C.map fun p => if p.1 = s then (p.1, v) else p else C ++ [(s, v)]
def totalC (C : List CntZ) : Nat := (C.map fun p => p.2.2.length).sum
def namedC (s : ByteArray) : Bool := decide (1 ≤ s.size ∧ s.size ≤ 4096)
def declR (C : List CntZ) (s : ByteArray) (a : Int) : Nat := if namedC s = false then 32 else if a < 0 ∨ 64 < a then 2 else match getC C s with | some v => if (v.1 : Int) = a then 0 else 30 | none => 0
def declC (C : List CntZ) (s : ByteArray) (a : Int) : List CntZ := if declR C s a = 0 ∧ getC C s = none then C ++ [(s, a.toNat, [])] else C
def rowsC (C : List CntZ) (s : ByteArray) : Rows2 := match getC C s with | some v => v.2 | none => []
def arOk (C : List CntZ) (s : ByteArray) (row : List ByteArray) : Bool := match getC C s with | some v => decide (v.1 = row.length) | none => decide (row.length ≤ 64)
def addR (C : List CntZ) (s : ByteArray) (row : List ByteArray) : Bool × Nat :=
  if namedC s = false then (false, 32) else
  if arOk C s row = false then (false, 30) else
  if textsC row = false then (false, 31) else
  if 262144 ≤ totalC C ∧ isIn cmpRow (rowsC C s) row = false then (false, 4) else
  if 65536 ≤ (rowsC C s).length ∧ isIn cmpRow (rowsC C s) row = false then (false, 4) else (!isIn cmpRow (rowsC C s) row, 0)
def addC (C : List CntZ) (s : ByteArray) (row : List ByteArray) : List CntZ := if (addR C s row).2 = 0 then setC C s (row.length, addS cmpRow (rowsC C s) row) else C
def addAll (C : List CntZ) (s : ByteArray) : Rows2 → List CntZ × Nat
  | [] => (C, 0)
  | r :: rs => if (addR C s r).2 = 0 then addAll (addC C s r) s rs else (C, (addR C s r).2)
def fromC (C : List CntZ) : List RelZ → List CntZ × Nat
  | [] => (C, 0)
  | r :: rs => if declR C r.1 r.2.1 = 0 then (if (addAll (declC C r.1 r.2.1) r.1 r.2.2.1).2 = 0 then fromC (addAll (declC C r.1 r.2.1) r.1 r.2.2.1).1 rs else addAll (declC C r.1 r.2.1) r.1 r.2.2.1) else (C, declR C r.1 r.2.1)
structure CntOk (p : CntZ) : Prop where
  name : namedC p.1 = true
  ar : p.2.1 ≤ 64
  strict : Strict cmpRow p.2.2
  len : ∀ r ∈ p.2.2, r.length = p.2.1
  txt : ∀ r ∈ p.2.2, textsC r = true
  few : p.2.2.length ≤ 65536
structure BaseOk (C : List CntZ) : Prop where
  nodup : (C.map (·.1)).Nodup
  all : ∀ p ∈ C, CntOk p
  few : totalC C ≤ 262144
theorem getC_mem {C : List CntZ} (h : (C.map (·.1)).Nodup) {s : ByteArray} {v : Nat × Rows2} : getC C s = some v ↔ (s, v) ∈ C := by
  unfold getC
  induction C with
  | nil => simp
  | cons p C ih =>
    rw [List.map_cons, List.nodup_cons] at h
    by_cases e : p.1 = s
    · rw [List.find?_cons_of_pos (by simp [e])]
      subst e
      simp only [Option.map_some, Option.some.injEq, List.mem_cons]
      constructor
      · rintro rfl; exact .inl rfl
      · rintro (h1 | h1)
        · rw [← h1]
        · exact absurd (List.mem_map.2 ⟨_, h1, rfl⟩) h.1
    · rw [List.find?_cons_of_neg (by simp [e]), ih h.2, List.mem_cons]
      constructor
      · exact .inr
      · rintro (h1 | h1)
        · exact absurd (by rw [← h1]) e
        · exact h1
theorem getC_none {C : List CntZ} {s : ByteArray} : getC C s = none ↔ s ∉ C.map (·.1) := by
  unfold getC
  rw [Option.map_eq_none_iff, List.find?_eq_none]
  constructor
  · intro h hm
    obtain ⟨p, hp, rfl⟩ := List.mem_map.1 hm
    exact h p hp (by simp)
  · intro h p hp hd
    exact h (List.mem_map.2 ⟨p, hp, by simpa using hd⟩)
theorem getC_app {C : List CntZ} {s t : ByteArray} {v : Nat × Rows2} (h : getC C s = none) : getC (C ++ [(s, v)]) t = if s = t then some v else getC C t := by
  unfold getC at *
  rw [List.find?_append]
  by_cases e : s = t
  · subst e
    rw [Option.map_eq_none_iff] at h
    rw [h, if_pos rfl]; simp
  · rw [if_neg e]
    cases hc : C.find? (fun p => decide (p.1 = t)) with
    | none => simp [e]
    | some x => simp
theorem getC_set {C : List CntZ} {s t : ByteArray} {v : Nat × Rows2} : getC (setC C s v) t = if s = t then some v else getC C t := by
  unfold setC
  cases hg : getC C s with
  | none => rw [if_neg (by simp)]; exact getC_app hg
  | some u =>
    rw [if_pos (by simp)]
    unfold getC at *
    rw [List.find?_map]
    have hf : ((fun p : CntZ => decide (p.1 = t)) ∘ fun p : CntZ => if p.1 = s then (p.1, v) else p) = fun p => decide (p.1 = t) := by
      funext p; simp only [Function.comp]; split <;> rfl
    rw [hf]
    by_cases e : s = t
    · subst e
      rw [if_pos rfl]
      cases hc : C.find? (fun p => decide (p.1 = s)) with
      | none => rw [hc] at hg; cases hg
      | some x =>
        have hx := List.find?_some hc
        simp only [decide_eq_true_eq] at hx
        simp [hx]
    · rw [if_neg e]
      cases hc : C.find? (fun p => decide (p.1 = t)) with
      | none => rfl
      | some x =>
        have hx := List.find?_some hc
        simp only [decide_eq_true_eq] at hx
        have hne : ¬ x.1 = s := fun e2 => e (by rw [← e2, hx])
        simp [hne]
theorem set_names {C : List CntZ} {s : ByteArray} {v : Nat × Rows2} : (setC C s v).map (·.1) = if (getC C s).isSome then C.map (·.1) else C.map (·.1) ++ [s] := by
  unfold setC
  split
  · rw [List.map_map]
    apply List.map_congr_left
    intro p _
    simp only [Function.comp]; split <;> rfl
  · simp
theorem nodup_set {C : List CntZ} (h : (C.map (·.1)).Nodup) (s : ByteArray) (v : Nat × Rows2) : ((setC C s v).map (·.1)).Nodup := by
  rw [set_names]
  split
  · exact h
  · rename_i hn
    have h0 : getC C s = none := by
      cases hg : getC C s with
      | none => rfl
      | some u => rw [hg] at hn; simp at hn
    exact List.nodup_append.2 ⟨h, by simp, fun a ha b hb e => getC_none.1 h0 (by rw [List.mem_singleton] at hb; rw [← hb, ← e]; exact ha)⟩
theorem mem_set {C : List CntZ} {s : ByteArray} {v : Nat × Rows2} {p : CntZ} (h : p ∈ setC C s v) : p = (s, v) ∨ p ∈ C := by
  unfold setC at h
  split at h
  · obtain ⟨q, hq, e⟩ := List.mem_map.1 h
    split at e
    · rename_i e2; left; rw [← e, e2]
    · right; rw [← e]; exact hq
  · rcases List.mem_append.1 h with h | h
    · exact .inr h
    · left; simpa using h
theorem rows_none {C : List CntZ} {s : ByteArray} (h : getC C s = none) : rowsC C s = [] := by unfold rowsC; rw [h]
theorem rows_some {C : List CntZ} {s : ByteArray} {v : Nat × Rows2} (h : getC C s = some v) : rowsC C s = v.2 := by unfold rowsC; rw [h]
theorem rows_set {C : List CntZ} {s t : ByteArray} {v : Nat × Rows2} : rowsC (setC C s v) t = if s = t then v.2 else rowsC C t := by
  unfold rowsC
  rw [getC_set]
  by_cases e : s = t
  · rw [if_pos e, if_pos e]
  · rw [if_neg e, if_neg e]
theorem addR_ok {C : List CntZ} {s : ByteArray} {row : List ByteArray} (h : (addR C s row).2 = 0) : namedC s = true ∧ arOk C s row = true := by
  unfold addR at h
  split at h
  · cases h
  · rename_i h1
    split at h
    · cases h
    · rename_i h2
      exact ⟨by simpa using h1, by simpa using h2⟩
theorem addR_texts {C : List CntZ} {s : ByteArray} {row : List ByteArray} (h : (addR C s row).2 = 0) : textsC row = true ∧ (262144 ≤ totalC C → isIn cmpRow (rowsC C s) row = true) ∧ (65536 ≤ (rowsC C s).length → isIn cmpRow (rowsC C s) row = true) := by
  unfold addR at h
  split at h
  · cases h
  · split at h
    · cases h
    · split at h
      · cases h
      · rename_i h3
        split at h
        · cases h
        · rename_i h4
          split at h
          · cases h
          · rename_i h5
            refine ⟨by simpa using h3, fun h6 => ?_, fun h6 => ?_⟩
            · cases hi : isIn cmpRow (rowsC C s) row with
              | true => rfl
              | false => exact absurd ⟨h6, hi⟩ h4
            · cases hi : isIn cmpRow (rowsC C s) row with
              | true => rfl
              | false => exact absurd ⟨h6, hi⟩ h5
theorem rows_strict {C : List CntZ} (h : BaseOk C) (s : ByteArray) : Strict cmpRow (rowsC C s) := by
  cases hg : getC C s with
  | none => rw [rows_none hg]; exact strict_nil
  | some v => rw [rows_some hg]; exact (h.all _ ((getC_mem h.nodup).1 hg)).strict
theorem mem_rowsIn {C : List CntZ} (h : BaseOk C) {s : ByteArray} {row : List ByteArray} : isIn cmpRow (rowsC C s) row = true ↔ row ∈ rowsC C s := isIn_mem cmpRow_ord cmpRow_tight
theorem total_set {C : List CntZ} (hn : (C.map (·.1)).Nodup) {s : ByteArray} {v : Nat × Rows2} : totalC (setC C s v) + (rowsC C s).length = totalC C + v.2.length := by
  unfold setC
  cases hg : getC C s with
  | none => rw [if_neg (by simp), rows_none hg]; simp [totalC]
  | some u =>
    rw [if_pos (by simp), rows_some hg]
    have hm : ∀ (D : List CntZ), (D.map (·.1)).Nodup → (s, u) ∈ D → totalC (D.map fun p => if p.1 = s then (p.1, v) else p) + u.2.length = totalC D + v.2.length := by
      intro D
      induction D with
      | nil => intro _ h; cases h
      | cons p D ih =>
        intro hnd hin
        rw [List.map_cons, List.nodup_cons] at hnd
        simp only [totalC, List.map_cons, List.sum_cons] at ih ⊢
        by_cases e : p.1 = s
        · have hp : p = (s, u) := by
            rcases List.mem_cons.1 hin with h | h
            · exact h.symm
            · exact absurd (List.mem_map.2 ⟨_, h, rfl⟩) (by rw [← e] at h ⊢; exact hnd.1)
          have hid : (D.map fun q : CntZ => if q.1 = s then (q.1, v) else q) = D := by
            conv => rhs; rw [← List.map_id D]
            apply List.map_congr_left
            intro q hq
            have : ¬ q.1 = s := fun e2 => hnd.1 (List.mem_map.2 ⟨q, hq, by rw [e2, e]⟩)
            rw [if_neg this]; rfl
          rw [hid, if_pos e, hp]; dsimp only; omega
        · have h1 : (s, u) ∈ D := by
            rcases List.mem_cons.1 hin with h | h
            · exact absurd (by rw [← h]) e
            · exact h
          have := ih hnd.2 h1
          rw [if_neg e]; omega
    exact hm C hn ((getC_mem hn).1 hg)
theorem ok_decl {C : List CntZ} (h : BaseOk C) (s : ByteArray) (a : Int) : BaseOk (declC C s a) := by
  unfold declC
  split
  · rename_i hc
    obtain ⟨h1, h2⟩ := hc
    have hn : namedC s = true ∧ 0 ≤ a ∧ a ≤ 64 := by
      unfold declR at h1
      split at h1
      · cases h1
      · rename_i e1
        split at h1
        · cases h1
        · rename_i e2
          exact ⟨by simpa using e1, by omega, by omega⟩
    refine ⟨?_, fun p hp => ?_, ?_⟩
    · rw [List.map_append]
      exact List.nodup_append.2 ⟨h.nodup, by simp, fun x hx y hy e => getC_none.1 h2 (by
        have : y = s := by simpa using hy
        rw [← this, ← e]; exact hx)⟩
    · rcases List.mem_append.1 hp with hp | hp
      · exact h.all p hp
      · have e : p = (s, a.toNat, []) := by simpa using hp
        subst e
        exact ⟨hn.1, show a.toNat ≤ 64 by omega, strict_nil, fun r hr => (by cases hr), fun r hr => (by cases hr), Nat.zero_le _⟩
    · have e : totalC (C ++ [(s, a.toNat, [])]) = totalC C := by simp [totalC]
      rw [e]; exact h.few
  · exact h
theorem getC_decl {C : List CntZ} {s t : ByteArray} {a : Int} (h : declR C s a = 0) : getC (declC C s a) t = if s = t ∧ getC C s = none then some (a.toNat, []) else getC C t := by
  unfold declC
  cases hg : getC C s with
  | none =>
    rw [if_pos ⟨h, rfl⟩, getC_app hg]
    by_cases e : s = t
    · rw [if_pos e, if_pos ⟨e, rfl⟩]
    · rw [if_neg e, if_neg (fun k => e k.1)]
  | some v => rw [if_neg (fun k => by cases k.2), if_neg (fun k => by cases k.2)]
theorem decl_ar {C : List CntZ} {s : ByteArray} {a : Int} (h : declR C s a = 0) : ∃ LL, getC (declC C s a) s = some (a.toNat, LL) ∧ 0 ≤ a ∧ a ≤ 64 ∧ namedC s = true := by
  have h0 := h
  unfold declR at h
  split at h
  · cases h
  · rename_i e1
    split at h
    · cases h
    · rename_i e2
      cases hg : getC C s with
      | none => exact ⟨[], by rw [getC_decl h0, if_pos ⟨rfl, hg⟩], by omega, by omega, by simpa using e1⟩
      | some v =>
        rw [hg] at h
        have h1 : (v.1 : Int) = a := by
          by_cases e : (v.1 : Int) = a
          · exact e
          · simp [e] at h
        refine ⟨v.2, ?_, by omega, by omega, by simpa using e1⟩
        rw [getC_decl h0, if_neg (fun k => by rw [hg] at k; cases k.2), hg]
        have : v.1 = a.toNat := by omega
        rw [← this]
theorem rows_decl {C : List CntZ} {s t : ByteArray} {a : Int} (h : declR C s a = 0) : rowsC (declC C s a) t = rowsC C t := by
  unfold rowsC
  rw [getC_decl h]
  by_cases e : s = t ∧ getC C s = none
  · rw [if_pos e, ← e.1, e.2]
  · rw [if_neg e]
theorem ok_add {C : List CntZ} (h : BaseOk C) (s : ByteArray) (row : List ByteArray) : BaseOk (addC C s row) := by
  unfold addC
  split
  · rename_i h0
    obtain ⟨t1, t2, t3⟩ := addR_texts h0
    obtain ⟨n1, n4⟩ := addR_ok h0
    have n2 : ∀ v, getC C s = some v → v.1 = row.length := fun v hv => by
      unfold arOk at n4; rw [hv] at n4; exact of_decide_eq_true n4
    have n3 : row.length ≤ 64 := by
      cases hg : getC C s with
      | none => unfold arOk at n4; rw [hg] at n4; exact of_decide_eq_true n4
      | some v =>
        have h1 : v.1 ≤ 64 := (h.all _ ((getC_mem h.nodup).1 hg)).ar
        have := n2 v hg
        omega
    · have hst := rows_strict h s
      have hlen : ∀ r ∈ rowsC C s, r.length = row.length ∧ textsC r = true := fun r hr => by
        cases hg : getC C s with
        | none => rw [rows_none hg] at hr; cases hr
        | some v =>
          rw [rows_some hg] at hr
          have hp := h.all _ ((getC_mem h.nodup).1 hg)
          exact ⟨(hp.len r hr).trans (n2 v hg), hp.txt r hr⟩
      have hfew : (rowsC C s).length ≤ 65536 := by
        cases hg : getC C s with
        | none => rw [rows_none hg]; exact Nat.zero_le _
        | some v => rw [rows_some hg]; exact (h.all _ ((getC_mem h.nodup).1 hg)).few
      have hl := addS_len (c := cmpRow) (rowsC C s) row
      refine ⟨nodup_set h.nodup _ _, fun p hp => ?_, ?_⟩
      · rcases mem_set hp with rfl | hp
        · refine ⟨n1, n3, hst.add cmpRow_ord row, fun r hr => ?_, fun r hr => ?_, ?_⟩
          · rcases (mem_addS (c := cmpRow)).1 hr with hr | ⟨rfl, _⟩
            · exact (hlen r hr).1
            · rfl
          · rcases (mem_addS (c := cmpRow)).1 hr with hr | ⟨rfl, _⟩
            · exact (hlen r hr).2
            · exact t1
          · show (addS cmpRow (rowsC C s) row).length ≤ 65536
            rw [hl]
            split
            · omega
            · rename_i hi
              have : ¬ 65536 ≤ (rowsC C s).length := fun k => hi (t3 k)
              omega
        · exact h.all p hp
      · have := total_set h.nodup (s := s) (v := (row.length, addS cmpRow (rowsC C s) row))
        have hf := h.few
        rw [hl] at this
        split at this
        · omega
        · rename_i hi
          have : ¬ 262144 ≤ totalC C := fun k => hi (t2 k)
          omega
  · exact h
theorem add_named {C : List CntZ} (h : BaseOk C) {s : ByteArray} {row : List ByteArray} (h0 : (addR C s row).2 = 0) : namedC s = true ∧ ∀ v, getC C s = some v → v.1 = row.length := by
  obtain ⟨n1, n4⟩ := addR_ok h0
  exact ⟨n1, fun v hv => by unfold arOk at n4; rw [hv] at n4; exact of_decide_eq_true n4⟩
theorem rows_add {C : List CntZ} (h : BaseOk C) {s t : ByteArray} {row x : List ByteArray} (h0 : (addR C s row).2 = 0) : x ∈ rowsC (addC C s row) t ↔ x ∈ rowsC C t ∨ (s = t ∧ x = row) := by
  unfold addC
  rw [if_pos h0, rows_set]
  by_cases e : s = t
  · subst e
    rw [if_pos rfl]
    show x ∈ addS cmpRow (rowsC C s) row ↔ _
    rw [mem_addS]
    constructor
    · rintro (h1 | ⟨h1, _⟩)
      · exact .inl h1
      · exact .inr ⟨rfl, h1⟩
    · rintro (h1 | ⟨_, h1⟩)
      · exact .inl h1
      · cases hi : isIn cmpRow (rowsC C s) row with
        | true => left; rw [h1]; exact (mem_rowsIn h).1 hi
        | false => exact .inr ⟨h1, rfl⟩
  · rw [if_neg e]
    constructor
    · exact .inl
    · rintro (h1 | ⟨h1, _⟩)
      · exact h1
      · exact absurd h1 e
theorem arity_add {C : List CntZ} (h : BaseOk C) {s t : ByteArray} {row : List ByteArray} (h0 : (addR C s row).2 = 0) (hs : ∃ v, getC C s = some v) : (getC (addC C s row) t).map (·.1) = (getC C t).map (·.1) := by
  unfold addC
  rw [if_pos h0, getC_set]
  by_cases e : s = t
  · subst e
    rw [if_pos rfl]
    obtain ⟨v, hv⟩ := hs
    rw [hv]
    simp [(add_named h h0).2 v hv]
  · rw [if_neg e]
structure InC (C D : List CntZ) : Prop where
  ar : ∀ s v, getC C s = some v → ∃ LL, getC D s = some (v.1, LL)
  rows : ∀ s r, r ∈ rowsC C s → r ∈ rowsC D s
end Go.Proofs.YtomeebimmmfmbaaGreat

/- Bases in plain Lean: what relations make, in whatever order; what is told of a base. No program in sight. -/
namespace Go.Proofs.YtomeebimmmfmbaaGreat
set_option linter.unusedVariables false
theorem ok_nil : BaseOk [] := ⟨List.nodup_nil, fun p hp => by simp at hp, Nat.zero_le _⟩
theorem ok_all {s : ByteArray} : ∀ {rs : Rows2} {C : List CntZ}, BaseOk C → BaseOk (addAll C s rs).1
  | [], C, h => h
  | r :: rs, C, h => by
    unfold addAll
    split
    · exact ok_all (ok_add h s r)
    · exact h
theorem map_some {α β : Type} {f : α → β} {o : Option α} {b : β} (h : o.map f = some b) : ∃ a, o = some a ∧ f a = b := by
  cases o with
  | none => cases h
  | some a => exact ⟨a, rfl, by simpa using h⟩
theorem all_res {s : ByteArray} : ∀ {rs : Rows2} {C : List CntZ}, BaseOk C → (∃ v, getC C s = some v) → (addAll C s rs).2 = 0 →
    (∀ t x, x ∈ rowsC (addAll C s rs).1 t ↔ x ∈ rowsC C t ∨ (s = t ∧ x ∈ rs)) ∧ ∀ t, (getC (addAll C s rs).1 t).map (·.1) = (getC C t).map (·.1)
  | [], C, h, hs, h0 => ⟨fun t x => by simp [addAll], fun t => rfl⟩
  | r :: rs, C, h, hs, h0 => by
    unfold addAll at h0 ⊢
    split at h0
    · rename_i h1
      rw [if_pos h1]
      have ha : ∀ t, (∃ v, getC C s = some v) → (getC (addC C s r) t).map (·.1) = (getC C t).map (·.1) := fun t hs => arity_add h h1 hs
      have hs' : ∃ v, getC (addC C s r) s = some v := by
        obtain ⟨v, hv⟩ := hs
        have := ha s ⟨v, hv⟩
        rw [hv] at this
        obtain ⟨u, hu, _⟩ := map_some this
        exact ⟨u, hu⟩
      obtain ⟨i1, i2⟩ := all_res (ok_add h s r) hs' h0
      refine ⟨fun t x => ?_, fun t => (i2 t).trans (ha t hs)⟩
      rw [i1 t x, rows_add h h1, List.mem_cons]
      constructor
      · rintro ((h2 | ⟨h2, h3⟩) | ⟨h2, h3⟩)
        · exact .inl h2
        · exact .inr ⟨h2, .inl h3⟩
        · exact .inr ⟨h2, .inr h3⟩
      · rintro (h2 | ⟨h2, h3 | h3⟩)
        · exact .inl (.inl h2)
        · exact .inl (.inr ⟨h2, h3⟩)
        · exact .inr ⟨h2, h3⟩
    · rename_i h1; exact absurd h0 h1
theorem from_res : ∀ {L : List RelZ} {C : List CntZ}, BaseOk C → (fromC C L).2 = 0 →
    (∀ t x, x ∈ rowsC (fromC C L).1 t ↔ x ∈ rowsC C t ∨ ∃ r ∈ L, r.1 = t ∧ x ∈ r.2.2.1) ∧ (∀ t v, getC C t = some v → ∃ LL, getC (fromC C L).1 t = some (v.1, LL)) ∧
      (∀ r ∈ L, 0 ≤ r.2.1 ∧ ∃ LL, getC (fromC C L).1 r.1 = some (r.2.1.toNat, LL)) ∧ ∀ t v, getC (fromC C L).1 t = some v → (∃ u, getC C t = some u) ∨ ∃ r ∈ L, r.1 = t
  | [], C, h, h0 => ⟨fun t x => by simp [fromC], fun t v hv => ⟨v.2, hv⟩, fun r hr => by simp at hr, fun t v hv => .inl ⟨v, hv⟩⟩
  | r :: L, C, h, h0 => by
    unfold fromC at h0 ⊢
    split at h0
    · rename_i h1
      rw [if_pos h1]
      split at h0
      · rename_i h2
        rw [if_pos h2]
        obtain ⟨LL, hg, ha0, ha1, hn⟩ := decl_ar h1
        obtain ⟨a1, a2⟩ := all_res (ok_decl h _ _) ⟨_, hg⟩ h2
        obtain ⟨i1, i2, i3, i4⟩ := from_res (ok_all (s := r.1) (rs := r.2.2.1) (ok_decl h r.1 r.2.1)) h0
        have hup : ∀ t v, getC (declC C r.1 r.2.1) t = some v → ∃ LL, getC (fromC (addAll (declC C r.1 r.2.1) r.1 r.2.2.1).1 L).1 t = some (v.1, LL) := fun t v hv => by
          have := a2 t
          rw [hv] at this
          obtain ⟨u, hu, e⟩ := map_some this
          obtain ⟨L2, h3⟩ := i2 t u hu
          exact ⟨L2, by rw [h3, e]⟩
        refine ⟨fun t x => ?_, fun t v hv => ?_, fun q hq => ?_, fun t v hv => ?_⟩
        · rw [i1 t x, a1 t x, rows_decl h1]
          constructor
          · rintro ((h3 | ⟨h3, h4⟩) | ⟨q, h3, h4⟩)
            · exact .inl h3
            · exact .inr ⟨r, List.mem_cons_self, h3, h4⟩
            · exact .inr ⟨q, List.mem_cons_of_mem _ h3, h4⟩
          · rintro (h3 | ⟨q, h3, h4, h5⟩)
            · exact .inl (.inl h3)
            · rcases List.mem_cons.1 h3 with rfl | h3
              · exact .inl (.inr ⟨h4, h5⟩)
              · exact .inr ⟨q, h3, h4, h5⟩
        · by_cases e : r.1 = t ∧ getC C r.1 = none
          · rw [← e.1, e.2] at hv; cases hv
          · exact hup t v (by rw [getC_decl h1, if_neg e]; exact hv)
        · rcases List.mem_cons.1 hq with rfl | hq
          · exact ⟨ha0, hup _ _ hg⟩
          · exact i3 q hq
        · rcases i4 t v hv with ⟨u, hu⟩ | ⟨q, hq, e⟩
          · have := a2 t
            rw [hu] at this
            obtain ⟨u2, hu2, _⟩ := map_some this.symm
            rw [getC_decl h1] at hu2
            split at hu2
            · rename_i e; exact .inr ⟨r, List.mem_cons_self, e.1⟩
            · exact .inl ⟨u2, hu2⟩
          · exact .inr ⟨q, List.mem_cons_of_mem _ hq, e⟩
      · rename_i h2; exact absurd h0 h2
    · rename_i h1; exact absurd h0 h1
def SameC (C D : List CntZ) : Prop := ∀ s, getC C s = getC D s
def leN (a b : ByteArray) : Bool := !decide (cmpB b.toList a.toList < 0)
def cmpN (a b : ByteArray) : Int := cmpB a.toList b.toList
def namesC (C : List CntZ) : List ByteArray := (C.map (·.1)).mergeSort leN
def arC (C : List CntZ) (s : ByteArray) : Nat := match getC C s with | some v => v.1 | none => 0
def relOf (C : List CntZ) (s : ByteArray) : RelZ := (s, (arC C s : Int), rowsC C s, ())
def relsC (C : List CntZ) : List RelZ := (namesC C).map (relOf C)
theorem cmpN_ord : OrdLaw cmpN := ⟨fun x y => by
  have := cmpB_swap x.toList y.toList
  unfold cmpN; omega, fun x y z => by
  intro h1 h2
  have := cmpRow_trans (xs := [x]) (ys := [y]) (zs := [z])
  have e : ∀ a b : ByteArray, cmpRow [a] [b] = cmpN a b := fun a b => by
    unfold cmpN
    simp only [cmpRow]
    split
    · rfl
    · rename_i h; rw [Classical.not_not.1 h]
  rw [e, e, e] at this
  exact this h1 h2⟩
theorem names_perm (C : List CntZ) : (namesC C).Perm (C.map (·.1)) := List.mergeSort_perm _ _
theorem names_mem {C : List CntZ} {s : ByteArray} : s ∈ namesC C ↔ ∃ v, getC C s = some v := by
  rw [(names_perm C).mem_iff]
  cases hg : getC C s with
  | none => exact ⟨fun h => absurd h (getC_none.1 hg), fun ⟨v, h⟩ => by cases h⟩
  | some v => exact ⟨fun _ => ⟨v, rfl⟩, fun _ => by
      by_cases h : s ∈ C.map (·.1)
      · exact h
      · rw [getC_none.2 h] at hg; cases hg⟩
theorem leN_trans (a b c : ByteArray) (h1 : leN a b = true) (h2 : leN b c = true) : leN a c = true := by
  unfold leN at *
  simp only [Bool.not_eq_true', decide_eq_false_iff_not] at *
  have s1 := cmpB_swap a.toList b.toList
  have s2 := cmpB_swap b.toList c.toList
  have s3 := cmpB_swap a.toList c.toList
  have := cmpN_ord.trans a b c (by show cmpB _ _ ≤ 0; omega) (by show cmpB _ _ ≤ 0; omega)
  have this' : cmpB a.toList c.toList ≤ 0 := this
  omega
theorem leN_total (a b : ByteArray) : (leN a b || leN b a) = true := by
  unfold leN
  have s1 := cmpB_swap a.toList b.toList
  rw [Bool.or_eq_true]
  by_cases h : cmpB b.toList a.toList < 0
  · right
    simp only [Bool.not_eq_true', decide_eq_false_iff_not]; omega
  · left; simpa using h
theorem names_strict {C : List CntZ} (h : (C.map (·.1)).Nodup) : Strict cmpN (namesC C) := by
  have h1 := List.pairwise_mergeSort (le := leN) leN_trans leN_total (C.map (·.1))
  have h2 : (namesC C).Nodup := (names_perm C).nodup_iff.2 h
  refine (List.Pairwise.and h1 h2).imp fun {a b} hab => ?_
  obtain ⟨h3, h4⟩ := hab
  unfold leN at h3
  simp only [Bool.not_eq_true', decide_eq_false_iff_not] at h3
  show cmpB a.toList b.toList < 0
  have s1 := cmpB_swap a.toList b.toList
  have hne : ¬ cmpB a.toList b.toList = 0 := fun e => h4 (toList_inj (cmpB_zero e))
  omega
theorem names_same {C D : List CntZ} (hC : (C.map (·.1)).Nodup) (hD : (D.map (·.1)).Nodup) (h : SameC C D) : namesC C = namesC D := (names_strict hC).unique cmpN_ord (names_strict hD) fun x => by
  rw [names_mem, names_mem, h x]
theorem rels_same {C D : List CntZ} (hC : (C.map (·.1)).Nodup) (hD : (D.map (·.1)).Nodup) (h : SameC C D) : relsC C = relsC D := by
  unfold relsC
  rw [names_same hC hD h]
  apply List.map_congr_left
  intro s _
  unfold relOf arC rowsC
  rw [h s]
theorem rels_mem {C : List CntZ} {r : RelZ} (h : r ∈ relsC C) : ∃ v, getC C r.1 = some v ∧ r.2.1 = (v.1 : Int) ∧ r.2.2.1 = v.2 := by
  obtain ⟨s, hs, rfl⟩ := List.mem_map.1 h
  obtain ⟨v, hv⟩ := names_mem.1 hs
  refine ⟨v, hv, ?_, ?_⟩
  · show ((arC C s : Nat) : Int) = _
    unfold arC; rw [hv]
  · exact rows_some hv
theorem perm_sum {l m : List Nat} (h : l.Perm m) : l.sum = m.sum := by
  induction h with
  | nil => rfl
  | cons x _ ih => rw [List.sum_cons, List.sum_cons, ih]
  | swap x y l => simp only [List.sum_cons]; omega
  | trans _ _ ih1 ih2 => exact ih1.trans ih2
theorem rels_total {C : List CntZ} (hC : BaseOk C) : ((relsC C).map fun r => r.2.2.1.length).sum = totalC C := by
  have h1 : ((relsC C).map fun r => r.2.2.1.length) = (namesC C).map fun s => (rowsC C s).length := by
    unfold relsC; rw [List.map_map]; rfl
  have h2 : ((C.map (·.1)).map fun s => (rowsC C s).length) = C.map fun p => p.2.2.length := by
    rw [List.map_map]
    apply List.map_congr_left
    intro p hp
    show (rowsC C p.1).length = _
    rw [rows_some ((getC_mem hC.nodup).2 (show (p.1, p.2) ∈ C from hp))]
  rw [h1, perm_sum ((names_perm C).map fun s => (rowsC C s).length), h2]; rfl
end Go.Proofs.YtomeebimmmfmbaaGreat

/- Counting what is unlike in a list of texts: the list without repetitions, and the map that holds it. -/
namespace Go.Proofs.YtomeebimmmfmbaaGreat
open Go.RowKit
set_option linter.unusedVariables false
def nubTo (l : List ByteArray) : Nat → List ByteArray
  | 0 => []
  | k + 1 => match l[k]? with
    | none => nubTo l k
    | some s => if hasT (nubTo l k) s = true then nubTo l k else nubTo l k ++ [s]
def setM (l : List ByteArray) : List (ByteArray × Value) := l.map fun s => (s, .bool true)
theorem getM_set (l : List ByteArray) (s : ByteArray) : (getM (setM l) s).isSome = true ↔ s ∈ l := by
  unfold getM setM
  rw [Option.isSome_map, List.find?_isSome]
  simp only [List.mem_map, decide_eq_true_eq]
  constructor
  · rintro ⟨p, ⟨t, ht, rfl⟩, rfl⟩; exact ht
  · intro h; exact ⟨_, ⟨s, h, rfl⟩, rfl⟩
theorem putM_set (l : List ByteArray) (s : ByteArray) : putM (setM l) s (.bool true) = setM (if hasT l s = true then l else l ++ [s]) := by
  unfold putM
  by_cases h : s ∈ l
  · rw [if_pos ((getM_set l s).2 h), if_pos (hasT_iff.2 h)]
    unfold setM
    rw [List.map_map]
    refine List.map_congr_left fun t _ => ?_
    simp only [Function.comp]
    split <;> rfl
  · rw [if_neg (fun e => h ((getM_set l s).1 e)), if_neg (fun e => h (hasT_iff.1 e))]
    unfold setM
    rw [List.map_append]; rfl
theorem putM_nub {l : List ByteArray} {k : Nat} {s : ByteArray} (h : l[k]? = some s) : putM (setM (nubTo l k)) s (.bool true) = setM (nubTo l (k + 1)) := by
  rw [putM_set]
  congr 1
  show _ = (match l[k]? with | none => nubTo l k | some s => if hasT (nubTo l k) s = true then nubTo l k else nubTo l k ++ [s])
  rw [h]
def colN (LL : List (List ByteArray)) (c : Nat) : List ByteArray := LL.map fun r => r.getD c ByteArray.empty
def distN (LL : List (List ByteArray)) (c : Nat) : Nat := (nubTo (colN LL c) LL.length).length
theorem colN_get {LL : List (List ByteArray)} {c k : Nat} {r : List ByteArray} {s : ByteArray} (h : LL[k]? = some r) (hs : r[c]? = some s) : (colN LL c)[k]? = some s := by
  unfold colN
  rw [List.getElem?_map, h, Option.map_some, List.getD_eq_getElem?_getD, hs]; rfl
theorem colN_len (LL : List (List ByteArray)) (c : Nat) : (colN LL c).length = LL.length := by unfold colN; rw [List.length_map]
abbrev fltN (n : Nat) : Nat := floatOfInt .f64 (n : Int)
def colsN (LL : List (List ByteArray)) (ar : Nat) : List Nat := (List.range ar).map fun c => fltN (distN LL c)
def gatS (q : RelZ) : StatZ := (q.1, fltN q.2.2.1.length, colsN q.2.2.1 q.2.1.toNat, ())
theorem colsN_len (LL : List (List ByteArray)) (ar : Nat) : (colsN LL ar).length = ar := by unfold colsN; rw [List.length_map, List.length_range]
theorem colsN_get (LL : List (List ByteArray)) {ar c : Nat} (h : c < ar) : (colsN LL ar)[c]? = some (fltN (distN LL c)) := by
  unfold colsN
  rw [List.getElem?_map, List.getElem?_range h]; rfl
structure RelFit (q : RelZ) : Prop where
  ar0 : 0 ≤ q.2.1
  ar : q.2.1 ≤ 64
  few : q.2.2.1.length ≤ 65536
  len : ∀ r ∈ q.2.2.1, (r.length : Int) = q.2.1
end Go.Proofs.YtomeebimmmfmbaaGreat

/- tuple.Base: put, NewBase, Len. -/
namespace Go.Proofs.YtomeebimmmfmbaaGreat
open Go.RowKit
set_option linter.unusedVariables false
section
variable {w w' : World} {bb r : Nat} {n : Int} {m : List (ByteArray × Value)}
theorem basePut_any (hB : Blk w bb [.map (some r), .int .i64 n] 140) (hm : MapIs w r m) (s : ByteArray) (p : Option Addr) :
    Calls Tryz.prog 90 #[.pointer (some ⟨bb, 0, none⟩), .string s, .pointer p] w (RetF (fun k => k = r) w fun w' v => MapIs w' r (putM m s (.pointer p))) := by
  have c0 : w.cell? ⟨bb, 0, none⟩ = some (.map (some r)) := by rw [hB.cell']; rfl
  obtain ⟨w2, hrun, hm2, hk2⟩ := run_update_str (P := Tryz.prog) Tryz.underlying137 Tryz.underlying9 hm s (.pointer p)
  have hq : ∀ w : World, (binOp .eql 137 (.map (some r)) (.map none)).run Tryz.prog w = .ok (.bool false) w := fun w => by kernel_rfl
  have HM := Lib.hid (And.intro hm2 hk2)
  clear hB hm hm2 hk2
  go_enter Tryz.func90, Tryz.ntmps90
  go_wp2
  go_end0
  exact RetF.mk HM.out.2 HM.out.1
theorem newBase_any (w : World) : Calls Tryz.prog 55 #[] w (RetN w fun w' v => v = .pointer (some ⟨w.heap.size + 1, 0, none⟩) ∧ Blk w' (w.heap.size + 1) [.map (some w.heap.size), .int .i64 0] 140 ∧ MapIs w' w.heap.size []) := by
  have hmm := @run_makeMap Tryz.prog
  go_enter Tryz.func55, Tryz.ntmps55
  go_wp2
  go_ret
  have hB := Blk.new (w.alloc (.map #[] 0)) [.map (some w.heap.size), .int .i64 0] 140
  rw [alloc_size] at hB
  exact RetN.mk (((Kp.refl w).alloc _).alloc _) ⟨rfl, hB, (MapIs.new w).ext ((Kp.refl _).alloc _)⟩
end
end Go.Proofs.YtomeebimmmfmbaaGreat

/- tuple.Base in memory: a map of names to Rows, each in blocks of its own. -/
namespace Go.Proofs.YtomeebimmmfmbaaGreat
open Go.RowKit
set_option linter.unusedVariables false
structure Ent where
  name : ByteArray
  b : Nat
  iv : Value
  ar : Nat
  LL : List (List ByteArray)
def Ent.ptr (e : Ent) : Value := .pointer (some ⟨e.b, 0, none⟩)
def Ent.cnt (e : Ent) : CntZ := (e.name, e.ar, e.LL)
def Ent.own (e : Ent) : Nat → Prop := Owns e.b e.iv
def entM (E : List Ent) : List (ByteArray × Value) := E.map fun e => (e.name, e.ptr)
def cntE (E : List Ent) : List CntZ := E.map Ent.cnt
def findE (E : List Ent) (s : ByteArray) : Option Ent := E.find? fun e => decide (e.name = s)
theorem entM_get (E : List Ent) (s : ByteArray) : getM (entM E) s = (findE E s).map Ent.ptr := by
  unfold getM entM findE
  rw [List.find?_map, Option.map_map]; rfl
theorem cntE_get (E : List Ent) (s : ByteArray) : getC (cntE E) s = (findE E s).map fun e => (e.ar, e.LL) := by
  unfold getC cntE findE
  rw [List.find?_map, Option.map_map]; rfl
theorem entM_names (E : List Ent) : (entM E).map (·.1) = (cntE E).map (·.1) := by
  unfold entM cntE
  rw [List.map_map, List.map_map]; rfl
theorem findE_some {E : List Ent} {s : ByteArray} {e : Ent} (h : findE E s = some e) : e ∈ E ∧ e.name = s := ⟨List.mem_of_find?_eq_some h, by have := List.find?_some h; simpa using this⟩
theorem findE_rows {E : List Ent} {s : ByteArray} {e : Ent} (h : findE E s = some e) : getC (cntE E) s = some (e.ar, e.LL) ∧ rowsC (cntE E) s = e.LL := by
  have h1 : getC (cntE E) s = some (e.ar, e.LL) := by rw [cntE_get, h]; rfl
  exact ⟨h1, rows_some h1⟩
theorem findE_none {E : List Ent} {s : ByteArray} (h : findE E s = none) : getC (cntE E) s = none ∧ rowsC (cntE E) s = [] := by
  have h1 : getC (cntE E) s = none := by rw [cntE_get, h]; rfl
  exact ⟨h1, rows_none h1⟩
theorem mem_cntE {E : List Ent} {e : Ent} (h : e ∈ E) : e.cnt ∈ cntE E := List.mem_map.2 ⟨e, h, rfl⟩
def OwnE (E : List Ent) (k : Nat) : Prop := ∃ e ∈ E, e.own k
def OwnB (bb r : Nat) (E : List Ent) (k : Nat) : Prop := k = bb ∨ k = r ∨ OwnE E k
structure BaseAt (S : Nat → Prop) (w : World) (bb r : Nat) (E : List Ent) : Prop where
  blk : Blk w bb [.map (some r), .int .i64 (totalC (cntE E) : Nat)] 140
  map : MapIs w r (entM E)
  rows : ∀ e ∈ E, RowsAt S w e.b e.iv e.ar e.LL
  apart : E.Pairwise fun e f => ∀ k, e.own k → ¬ f.own k
  inS : ∀ k, S k → k < w.heap.size
  notS : ¬ S bb ∧ ¬ S r
  ne : bb ≠ r
  off : ∀ e ∈ E, ∀ k, e.own k → k ≠ bb ∧ k ≠ r
  ok : BaseOk (cntE E)
section
variable {S S' : Nat → Prop} {w w' : World} {bb r : Nat} {E : List Ent}
theorem BaseAt.kp {F : Nat → Prop} (h : BaseAt S w bb r E) (hk : Kp F w w') (hF : ∀ k, F k → ¬ OwnB bb r E k) (hS : ∀ k, F k → ¬ S k) : BaseAt S w' bb r E :=
  { blk := h.blk.kp hk fun hf => hF _ hf (.inl rfl)
    map := h.map.kp hk fun hf => hF _ hf (.inr (.inl rfl))
    rows := fun e he => (h.rows e he).move hk (fun k hf ho => hF k hf (.inr (.inr ⟨e, he, ho⟩))) hS (fun _ x => x) (fun k hk' => Nat.lt_of_lt_of_le (h.inS k hk') hk.size) (h.rows e he).notS
    apart := h.apart
    inS := fun k hk' => Nat.lt_of_lt_of_le (h.inS k hk') hk.size
    notS := h.notS, ne := h.ne, off := h.off, ok := h.ok }
theorem BaseAt.ext (h : BaseAt S w bb r E) (hk : Ext w w') : BaseAt S w' bb r E := h.kp hk (fun _ x => x.elim) (fun _ x => x.elim)
theorem BaseAt.ownLt (h : BaseAt S w bb r E) : ∀ k, OwnB bb r E k → k < w.heap.size := by
  rintro k (rfl | rfl | ⟨e, he, ho⟩)
  · exact h.blk.lt
  · exact h.map.lt
  · exact (RowsQ.ownLt (z := True) (h.rows e he).q) k ho
theorem BaseAt.notOwn (h : BaseAt S w bb r E) : ∀ k, OwnB bb r E k → ¬ S k := by
  rintro k (rfl | rfl | ⟨e, he, ho⟩)
  · exact h.notS.1
  · exact h.notS.2
  · exact (h.rows e he).notS k ho
theorem BaseAt.strict (h : BaseAt S w bb r E) {e : Ent} (he : e ∈ E) : Strict cmpRow e.LL := (h.ok.all _ (mem_cntE he)).strict
theorem BaseAt.few (h : BaseAt S w bb r E) {e : Ent} (he : e ∈ E) : e.LL.length ≤ 65536 := (h.ok.all _ (mem_cntE he)).few
theorem BaseAt.new (S : Nat → Prop) (hS : ∀ k, S k → k < w.heap.size) {wb : World} (hx : Ext w wb) {bb r : Nat} (hb : w.heap.size ≤ bb) (hr : w.heap.size ≤ r) (hne : bb ≠ r) (hB : Blk wb bb [.map (some r), .int .i64 0] 140) (hm : MapIs wb r []) : BaseAt S wb bb r [] :=
  { blk := hB, map := hm, rows := fun e he => by simp at he
    apart := List.Pairwise.nil
    inS := fun k hk => Nat.lt_of_lt_of_le (hS k hk) hx.size
    notS := ⟨fun h => by have := hS _ h; omega, fun h => by have := hS _ h; omega⟩
    ne := hne, off := fun e he => by simp at he, ok := ok_nil }
theorem BaseAt.turn {pre post : List Ent} {e : Ent} (h : BaseAt S w bb r (pre ++ e :: post)) {iv' : Value} {LL' : List (List ByteArray)} (hk : Kp e.own w w') (hs : ∀ k, S k → S' k) (hnew : ∀ k, S' k → S k ∨ w.heap.size ≤ k)
    (hr : RowsAt S' w' e.b iv' e.ar LL') (hiv : ∀ k, iv'.ownBlock = some k → e.iv.ownBlock = some k ∨ w.heap.size ≤ k) {n : Nat} {W : World} (hW : Kp (fun k => k = bb ∨ k = r) w' W) (hm : MapIs W r (entM (pre ++ e :: post))) (hB : Blk W bb [.map (some r), .int .i64 (n : Nat)] 140) (hn : n = totalC (cntE (pre ++ { e with iv := iv', LL := LL' } :: post))) (hok : BaseOk (cntE (pre ++ { e with iv := iv', LL := LL' } :: post))) :
    BaseAt S' W bb r (pre ++ { e with iv := iv', LL := LL' } :: post) := by
  have hin' := hr.inS
  have hown : ∀ f ∈ pre ++ e :: post, ∀ k, f.own k → k < w.heap.size ∧ ¬ S' k := fun f hf k ho => by
    have h1 := h.ownLt k (.inr (.inr ⟨f, hf, ho⟩))
    refine ⟨h1, fun hs' => ?_⟩
    rcases hnew k hs' with h2 | h2
    · exact (h.rows f hf).notS k ho h2
    · omega
  have hbb := h.ownLt bb (.inl rfl)
  have hrr := h.ownLt r (.inr (.inl rfl))
  have hem : e ∈ pre ++ e :: post := List.mem_append_right _ List.mem_cons_self
  have hebb : ¬ S' bb := fun hs' => by rcases hnew _ hs' with h2 | h2; exact h.notS.1 h2; omega
  have herr : ¬ S' r := fun hs' => by rcases hnew _ hs' with h2 | h2; exact h.notS.2 h2; omega
  have hiv2 : ∀ k, Owns e.b iv' k → e.own k ∨ w.heap.size ≤ k := fun k ho => by
    rcases ho with ho | ho
    · exact .inl (.inl ho)
    · rcases hiv k ho with h2 | h2
      · exact .inl (.inr h2)
      · exact .inr h2
  have hoff' : ∀ k, Owns e.b iv' k → k ≠ bb ∧ k ≠ r := fun k ho => by
    rcases hiv2 k ho with h2 | h2
    · exact h.off e hem k h2
    · omega
  obtain ⟨ap1, ap2, ap3⟩ := List.pairwise_append.1 h.apart
  obtain ⟨ap4, ap5⟩ := List.pairwise_cons.1 ap2
  have hother : ∀ f, (f ∈ pre ∨ f ∈ post) → (∀ k, e.own k → ¬ f.own k) ∧ f ∈ pre ++ e :: post := fun f hf => by
    rcases hf with hf | hf
    · exact ⟨fun k h1 h2 => ap3 f hf e List.mem_cons_self k h2 h1, List.mem_append_left _ hf⟩
    · exact ⟨fun k h1 h2 => ap4 f hf k h1 h2, List.mem_append_right _ (List.mem_cons_of_mem _ hf)⟩
  have hF : ∀ k, k = bb ∨ k = r → ¬ S' k := fun k e => by
    rcases e with rfl | rfl
    · exact hebb
    · exact herr
  have hrows : ∀ f, (f ∈ pre ∨ f ∈ post) → RowsAt S' W f.b f.iv f.ar f.LL := fun f hf => by
    obtain ⟨h1, h2⟩ := hother f hf
    have h3 := (h.rows f h2).move (S' := S') hk h1 (fun k hf => (h.rows e hem).notS k hf) hs (fun k hk' => hin' k hk') (fun k ho => (hown f h2 k ho).2)
    exact h3.move hW (fun k e2 ho => by
      have h4 := h.off f h2 k ho
      rcases e2 with e2 | e2
      · exact h4.1 e2
      · exact h4.2 e2) hF (fun _ x => x) (fun k hk' => Nat.lt_of_lt_of_le (hin' k hk') hW.size) h3.notS
  refine { blk := by rw [hn] at hB; exact hB, map := ?_, rows := fun f hf => ?_, apart := ?_, inS := fun k hk' => Nat.lt_of_lt_of_le (hin' k hk') hW.size, notS := ⟨hebb, herr⟩, ne := h.ne, off := fun f hf => ?_, ok := hok }
  · have h2 : entM (pre ++ { e with iv := iv', LL := LL' } :: post) = entM (pre ++ e :: post) := by simp [entM, Ent.ptr]
    rw [h2]; exact hm
  · rcases List.mem_append.1 hf with hf | hf
    · exact hrows f (.inl hf)
    · rcases List.mem_cons.1 hf with rfl | hf
      · exact hr.move hW (fun k e2 ho => by
          have h4 := hoff' k ho
          rcases e2 with e2 | e2
          · exact h4.1 e2
          · exact h4.2 e2) hF (fun _ x => x) (fun k hk' => Nat.lt_of_lt_of_le (hin' k hk') hW.size) hr.notS
      · exact hrows f (.inr hf)
  · refine List.pairwise_append.2 ⟨ap1, List.pairwise_cons.2 ⟨fun f hf k ho hf2 => ?_, ap5⟩, fun f hf g hg k ho hg2 => ?_⟩
    · rcases hiv2 k ho with h2 | h2
      · exact ap4 f hf k h2 hf2
      · have := (hown f (hother f (.inr hf)).2 k hf2).1; omega
    · rcases List.mem_cons.1 hg with rfl | hg
      · rcases hiv2 k hg2 with h2 | h2
        · exact ap3 f hf e List.mem_cons_self k ho h2
        · have := (hown f (hother f (.inl hf)).2 k ho).1; omega
      · exact ap3 f hf g (List.mem_cons_of_mem _ hg) k ho hg2
  · rcases List.mem_append.1 hf with hf | hf
    · exact h.off f (hother f (.inl hf)).2
    · rcases List.mem_cons.1 hf with rfl | hf
      · exact hoff'
      · exact h.off f (hother f (.inr hf)).2
theorem BaseAt.push (h : BaseAt S w bb r E) {e : Ent} (hx : Ext w w') (hs : ∀ k, S k → S' k) (hnew : ∀ k, S' k → S k ∨ w.heap.size ≤ k) (hr : RowsAt S' w' e.b e.iv e.ar e.LL) (ho : ∀ k, e.own k → w.heap.size ≤ k)
    {n : Nat} {W : World} (hW : Kp (fun k => k = bb ∨ k = r) w' W) (hB : Blk W bb [.map (some r), .int .i64 (n : Nat)] 140) (hm : MapIs W r (entM (E ++ [e]))) (hn : n = totalC (cntE (E ++ [e]))) (hok : BaseOk (cntE (E ++ [e]))) : BaseAt S' W bb r (E ++ [e]) := by
  have hbb := h.ownLt bb (.inl rfl)
  have hrr := h.ownLt r (.inr (.inl rfl))
  have hin' := hr.inS
  have hno : ∀ k, OwnB bb r E k → ¬ S' k := fun k ho hs' => by
    rcases hnew k hs' with h2 | h2
    · exact h.notOwn k ho h2
    · have := h.ownLt k ho; omega
  have hF : ∀ k, k = bb ∨ k = r → ¬ S' k := fun k hk => hno k (hk.elim .inl fun h => .inr (.inl h))
  refine { blk := by rw [hn] at hB; exact hB, map := hm, rows := fun f hf => ?_, apart := ?_, inS := fun k hk' => Nat.lt_of_lt_of_le (hin' k hk') hW.size, notS := ⟨hF _ (.inl rfl), hF _ (.inr rfl)⟩, ne := h.ne, off := fun f hf => ?_, ok := hok }
  · rcases List.mem_append.1 hf with hf | hf
    · have h3 := (h.rows f hf).move (S' := S') hx (fun _ x => x.elim) (fun _ x => x.elim) hs (fun k hk' => hin' k hk') (fun k ho => hno k (.inr (.inr ⟨f, hf, ho⟩)))
      exact h3.move hW (fun k e2 ho => by
        have h4 := h.off f hf k ho
        rcases e2 with e2 | e2
        · exact h4.1 e2
        · exact h4.2 e2) hF (fun _ x => x) (fun k hk' => Nat.lt_of_lt_of_le (hin' k hk') hW.size) h3.notS
    · obtain rfl := List.mem_singleton.1 hf
      exact hr.move hW (fun k e2 ho2 => by have := ho k ho2; omega) hF (fun _ x => x) (fun k hk' => Nat.lt_of_lt_of_le (hin' k hk') hW.size) hr.notS
  · refine List.pairwise_append.2 ⟨h.apart, List.pairwise_singleton _ _, fun f hf g hg k h1 h2 => ?_⟩
    obtain rfl := List.mem_singleton.1 hg
    have h3 := h.ownLt k (.inr (.inr ⟨f, hf, h1⟩))
    have h4 := ho k h2
    omega
  · rcases List.mem_append.1 hf with hf | hf
    · exact h.off f hf
    · obtain rfl := List.mem_singleton.1 hf
      intro k hk
      have := ho k hk
      omega
theorem findE_split {E : List Ent} {s : ByteArray} {e : Ent} (h : findE E s = some e) : ∃ pre post, E = pre ++ e :: post := by
  obtain ⟨_, pre, post, h2, _⟩ := List.find?_eq_some_iff_append.1 h
  exact ⟨pre, post, h2⟩
theorem cntE_set {pre post : List Ent} {e : Ent} {s : ByteArray} (h : findE (pre ++ e :: post) s = some e) (hn : ((cntE (pre ++ e :: post)).map (·.1)).Nodup) (iv' : Value) (LL' : List (List ByteArray)) : setC (cntE (pre ++ e :: post)) s (e.ar, LL') = cntE (pre ++ { e with iv := iv', LL := LL' } :: post) := by
  have hs : e.name = s := (findE_some h).2
  have h1 : (getC (cntE (pre ++ e :: post)) s).isSome = true := by rw [cntE_get, h]; rfl
  unfold setC
  rw [if_pos h1]
  have hid : ∀ q : Ent, q.name ≠ s → (if q.cnt.1 = s then (q.cnt.1, (e.ar, LL')) else q.cnt) = q.cnt := fun q hq => if_neg hq
  unfold cntE at hn ⊢
  rw [List.map_append, List.map_cons, List.map_append, List.map_cons] at hn
  obtain ⟨_, hn2, hn3⟩ := List.nodup_append.1 hn
  obtain ⟨hn4, _⟩ := List.nodup_cons.1 hn2
  rw [List.map_append, List.map_append, List.map_cons, List.map_cons, List.map_append, List.map_cons]
  congr 1
  · rw [List.map_map]
    apply List.map_congr_left
    intro q hq
    refine hid q fun e2 => ?_
    exact hn3 q.name (List.mem_map.2 ⟨q.cnt, List.mem_map.2 ⟨q, hq, rfl⟩, rfl⟩) e.name List.mem_cons_self (by rw [e2, hs])
  · congr 1
    · show (if e.name = s then (e.name, (e.ar, LL')) else e.cnt) = _
      rw [if_pos hs]; rfl
    · rw [List.map_map]
      apply List.map_congr_left
      intro q hq
      refine hid q fun e2 => ?_
      exact hn4 (List.mem_map.2 ⟨q.cnt, List.mem_map.2 ⟨q, hq, rfl⟩, by show q.name = e.name; rw [e2, hs]⟩)
theorem cntE_push {E : List Ent} {s : ByteArray} (h : findE E s = none) (b : Nat) (iv : Value) (ar : Nat) (LL : List (List ByteArray)) : setC (cntE E) s (ar, LL) = cntE (E ++ [{ name := s, b := b, iv := iv, ar := ar, LL := LL }]) := by
  unfold setC
  rw [(findE_none h).1, if_neg (by simp)]
  unfold cntE
  rw [List.map_append]; rfl
theorem entM_put {E : List Ent} {s : ByteArray} {e : Ent} (h : findE E s = some e) (hn : ((entM E).map (·.1)).Nodup) : putM (entM E) s e.ptr = entM E := by
  obtain ⟨pre, post, rfl⟩ := findE_split h
  have hs : e.name = s := (findE_some h).2
  unfold putM
  rw [entM_get, h, if_pos (by rfl)]
  unfold entM at hn ⊢
  rw [List.map_append, List.map_cons, List.map_append, List.map_cons] at hn
  obtain ⟨_, hn2, hn3⟩ := List.nodup_append.1 hn
  obtain ⟨hn4, _⟩ := List.nodup_cons.1 hn2
  rw [List.map_append, List.map_append, List.map_cons, List.map_cons]
  have hid : ∀ q : Ent, q.name ≠ s → (if (q.name, q.ptr).1 = s then ((q.name, q.ptr).1, e.ptr) else (q.name, q.ptr)) = (q.name, q.ptr) := fun q hq => if_neg hq
  congr 1
  · rw [List.map_map]
    apply List.map_congr_left
    intro q hq
    refine hid q fun e2 => ?_
    exact hn3 q.name (List.mem_map.2 ⟨(q.name, q.ptr), List.mem_map.2 ⟨q, hq, rfl⟩, rfl⟩) e.name List.mem_cons_self (by rw [e2, hs])
  · congr 1
    · exact if_pos hs
    · rw [List.map_map]
      apply List.map_congr_left
      intro q hq
      refine hid q fun e2 => ?_
      exact hn4 (List.mem_map.2 ⟨(q.name, q.ptr), List.mem_map.2 ⟨q, hq, rfl⟩, by show q.name = e.name; rw [e2, hs]⟩)
theorem entM_push {E : List Ent} {s : ByteArray} (h : findE E s = none) (b : Nat) (iv : Value) (ar : Nat) (LL : List (List ByteArray)) : putM (entM E) s (.pointer (some ⟨b, 0, none⟩)) = entM (E ++ [{ name := s, b := b, iv := iv, ar := ar, LL := LL }]) := by
  unfold putM
  rw [entM_get, h, if_neg (by simp)]
  unfold entM
  rw [List.map_append]; rfl
end
end Go.Proofs.YtomeebimmmfmbaaGreat
