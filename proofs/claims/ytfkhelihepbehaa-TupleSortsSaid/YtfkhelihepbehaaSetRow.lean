/- tuple.Set at []string: what a set is in memory; cmp, alike, Len, Items, find. -/
import Derived.Test.YtfkhelihepbehaaSetLaw
import Derived.Test.YtfkhelihepbehaaSame
import Derived.Test.YtfkhelihepbehaaSortRow
import Derived.Test.YtfkhelihepbehaaCompactRow
import Derived.Test.YtfkhelihepbehaaGenRow
namespace Go.Proofs.Ytfkhelihepbehaa
open Go.RowKit
set_option linter.unusedVariables false

/-- A value that a set may have for its order: nil where all are alike, or a function that holds two of D against each other, in every world in which the blocks of S are as they were. -/
def OrdVRow (P : Program) (S : Nat → Prop) (w0 : World) (ov : Value) (D : Option Addr × Nat × Nat → Prop) (c : Option Addr × Nat × Nat → Option Addr × Nat × Nat → Int) : Prop :=
  (ov = .nilFunc ∧ ∀ x y, D x → D y → c x y = 0) ∨ ∃ f first cap, ov = .func (Fn.func f) first cap ∧ (∀ args w, (callFunc f args).run P w = .ok (Next.enter f args) w) ∧
    ∀ w, Same S w0 w → ∀ x y, D x → D y → Calls P f (first ++ (#[(Value.slice (x).1 (x).2.1 (x).2.2), (Value.slice (y).1 (y).2.1 (y).2.2)] ++ cap)) w fun e w' => e = .returned (.int .i64 (c x y)) ∧ Ext w w'

theorem OrdVRow.same {P : Program} {S : Nat → Prop} {w0 w1 : World} {ov : Value} {D : Option Addr × Nat × Nat → Prop} {c : Option Addr × Nat × Nat → Option Addr × Nat × Nat → Int} (h : OrdVRow P S w0 ov D c) (hs : Same S w0 w1) : OrdVRow P S w1 ov D c := by
  rcases h with h | ⟨f, first, cap, e, he, h⟩
  · exact .inl h
  · exact .inr ⟨f, first, cap, e, he, fun w hw => h w (hs.trans hw)⟩
theorem OrdVRow.mono {P : Program} {S S' : Nat → Prop} {w0 : World} {ov : Value} {D : Option Addr × Nat × Nat → Prop} {c : Option Addr × Nat × Nat → Option Addr × Nat × Nat → Int} (h : OrdVRow P S w0 ov D c) (hs : ∀ k, S k → S' k) : OrdVRow P S' w0 ov D c := by
  rcases h with h | ⟨f, first, cap, e, he, h⟩
  · exact .inl h
  · exact .inr ⟨f, first, cap, e, he, fun w hw => h w (hw.mono hs)⟩

/-- A set in memory: its order, its row, what lies behind them in the same struct. -/
structure SetAtRow (P : Program) (S : Nat → Prop) (w : World) (b : Nat) (ov iv : Value) (tail : List Value) (te : TypeId) (D : Option Addr × Nat × Nat → Prop) (c : Option Addr × Nat × Nat → Option Addr × Nat × Nat → Int) (zs : List (Option Addr × Nat × Nat)) : Prop where
  blk : Blk w b (ov :: iv :: tail) te
  row : Row w 22 1 iv zs.length (zs.map fun x => (Value.slice (x).1 (x).2.1 (x).2.2)) (fun k => iv.ownBlock = some k)
  apart : iv.ownBlock ≠ some b
  inS : ∀ k, S k → k < w.heap.size
  notS : ∀ k, Owns b iv k → ¬ S k
  ord : OrdVRow P S w ov D c
  all : ∀ x ∈ zs, D x
  len : zs.length ≤ 1048576 * 1048576

section
variable {P : Program} {S : Nat → Prop} {w w' : World} {b : Nat} {ov iv : Value} {tail : List Value} {te : TypeId} {D : Option Addr × Nat × Nat → Prop} {c : Option Addr × Nat × Nat → Option Addr × Nat × Nat → Int} {zs : List (Option Addr × Nat × Nat)}
theorem SetAtRow.kp {F : Nat → Prop} (h : SetAtRow P S w b ov iv tail te D c zs) (hk : Kp F w w') (hF : ∀ k, F k → ¬ Owns b iv k) (hS : ∀ k, F k → ¬ S k) : SetAtRow P S w' b ov iv tail te D c zs :=
  ⟨h.blk.kp hk fun hf => hF _ hf (.inl rfl), h.row.kp hk fun g hg hf => hF _ hf (.inr hg), h.apart, fun k hk' => Nat.lt_of_lt_of_le (h.inS k hk') hk.size, h.notS, h.ord.same (hk.same h.inS fun k hk' hf => hS k hf hk'), h.all, h.len⟩
theorem SetAtRow.ext (h : SetAtRow P S w b ov iv tail te D c zs) (hk : Ext w w') : SetAtRow P S w' b ov iv tail te D c zs := h.kp hk (fun _ x => x.elim) (fun _ x => x.elim)
theorem SetAtRow.cells (h : SetAtRow P S w b ov iv tail te D c zs) : w.cell? ⟨b, 0, none⟩ = some ov ∧ w.cell? ⟨b, 1, none⟩ = some iv := ⟨by rw [h.blk.cell']; rfl, by rw [h.blk.cell']; rfl⟩
end

set_option maxRecDepth 100000 in
theorem setCmpRow_any (S : Nat → Prop) (w : World) (b : Nat) (ov : Value) (cs : List Value) (te : TypeId) (D : Option Addr × Nat × Nat → Prop) (c : Option Addr × Nat × Nat → Option Addr × Nat × Nat → Int) (x y : Option Addr × Nat × Nat) (hx : D x) (hy : D y) (hB : Blk w b (ov :: cs) te)
    (hS : ∀ k, S k → k < w.heap.size) (ho : OrdVRow Try.prog S w ov D c) :
    Calls Try.prog 147 #[.pointer (some ⟨b, 0, none⟩), (Value.slice (x).1 (x).2.1 (x).2.2), (Value.slice (y).1 (y).2.1 (y).2.2)] w (fun e w' => e = .returned (.int .i64 (c x y)) ∧ Ext w w') := by
  have c1 : w.cell? ⟨b, 0, none⟩ = some ov := by rw [hB.cell']; rfl
  clear hB
  rcases ho with ⟨rfl, h0⟩ | ⟨f, first, cap, rfl, hent, hc⟩
  · have h00 := Lib.hid (h0 x y hx hy); clear h0
    have hq : ∀ w : World, (binOp .eql 24 .nilFunc .nilFunc).run Try.prog w = .ok (.bool true) w := fun _ => by kernel_rfl
    go_enter Try.func147, Try.ntmps147
    go_wp2
    go_ret
    exact ⟨by rw [h00.out]; rfl, Kp.refl _⟩
  · have HC := Lib.hid hc; clear hc
    have hq : ∀ w : World, (binOp .eql 24 (.func (Fn.func f) first cap) .nilFunc).run Try.prog w = .ok (.bool false) w := fun _ => by kernel_rfl
    go_enter Try.func147, Try.ntmps147
    go_wp2_with fail
    refine (HC.out w (Same.refl hS) x y hx hy).mono ?_
    rintro e w1 ⟨rfl, hk⟩
    have HK := Lib.hid hk; clear hk
    go_wp2
    go_ret
    exact ⟨rfl, HK.out⟩

set_option maxRecDepth 100000 in
theorem setAlikeRow_any (S : Nat → Prop) (w : World) (b : Nat) (ov : Value) (cs : List Value) (te : TypeId) (D : Option Addr × Nat × Nat → Prop) (c : Option Addr × Nat × Nat → Option Addr × Nat × Nat → Int) (x y : Option Addr × Nat × Nat) (hx : D x) (hy : D y) (hB : Blk w b (ov :: cs) te)
    (hS : ∀ k, S k → k < w.heap.size) (ho : OrdVRow Try.prog S w ov D c) :
    Calls Try.prog 142 #[.pointer (some ⟨b, 0, none⟩), (Value.slice (x).1 (x).2.1 (x).2.2), (Value.slice (y).1 (y).2.1 (y).2.2)] w (fun e w' => e = .returned (.bool (decide (c x y = 0))) ∧ Ext w w') := by
  go_enter Try.func142, Try.ntmps142
  go_wp2_with fail
  refine (setCmpRow_any S w b ov cs te D c x y hx hy hB hS ho).mono ?_
  rintro e w1 ⟨rfl, hk⟩
  have HK := Lib.hid hk; clear hk hB ho
  go_wp2
  go_ret
  exact ⟨rfl, HK.out⟩

set_option maxRecDepth 100000 in
theorem setLenRow_any {S : Nat → Prop} {w : World} {b : Nat} {ov iv : Value} {tail : List Value} {te : TypeId} {D : Option Addr × Nat × Nat → Prop} {c : Option Addr × Nat × Nat → Option Addr × Nat × Nat → Int} {zs : List (Option Addr × Nat × Nat)} (h : SetAtRow Try.prog S w b ov iv tail te D c zs) :
    Calls Try.prog 116 #[.pointer (some ⟨b, 0, none⟩)] w (Ret (.int .i64 (zs.length : Nat)) w) := by
  obtain ⟨c1, c2⟩ := h.cells
  obtain ⟨ao, cap, rfl, _, _⟩ := h.row.shape
  clear h
  go_enter Try.func116, Try.ntmps116
  go_wp2
  go_ret
  exact Ret.mk rfl
theorem setLenRow_nil (w : World) : Calls Try.prog 116 #[.pointer none] w (Ret (.int .i64 0) w) := by
  go_enter Try.func116, Try.ntmps116
  go_wp2
  go_ret
  exact Ret.mk rfl

set_option maxRecDepth 100000 in
theorem setItemsRow_any {S : Nat → Prop} {w : World} {b : Nat} {ov iv : Value} {tail : List Value} {te : TypeId} {D : Option Addr × Nat × Nat → Prop} {c : Option Addr × Nat × Nat → Option Addr × Nat × Nat → Int} {zs : List (Option Addr × Nat × Nat)} (h : SetAtRow Try.prog S w b ov iv tail te D c zs) :
    Calls Try.prog 135 #[.pointer (some ⟨b, 0, none⟩)] w (RetN w fun w' v => Row w' 22 1 v zs.length (zs.map fun x => (Value.slice (x).1 (x).2.1 (x).2.2)) (New w)) := by
  obtain ⟨c1, c2⟩ := h.cells
  obtain ⟨ao, cap, rfl, hc, _⟩ := h.row.shape
  have hl := h.len
  have HC := Lib.hid hc; clear h hc
  go_enter Try.func135, Try.ntmps135
  go_wp2_with fail
  refine (cloneRow_any (zs.map fun x => (Value.slice (x).1 (x).2.1 (x).2.2)) ao cap w zs.length (by simp) HC.out (by intro u hu; obtain ⟨x, _, rfl⟩ := List.mem_map.1 hu; rfl) (by omega)).mono ?_
  rintro e w1 ⟨v, rfl, hk, hr⟩
  have HR := Lib.hid (And.intro hk hr); clear hk hr
  go_wp2
  go_ret
  exact RetN.mk HR.out.1 HR.out.2
theorem setItemsRow_nil (w : World) : Calls Try.prog 135 #[.pointer none] w (Ret (.slice none 0 0) w) := by
  go_enter Try.func135, Try.ntmps135
  go_wp2
  go_ret
  exact Ret.mk rfl

set_option maxRecDepth 100000 in
set_option maxHeartbeats 1000000 in
theorem setFindRow_any {S : Nat → Prop} {w : World} {b : Nat} {ov iv : Value} {tail : List Value} {te : TypeId} {D : Option Addr × Nat × Nat → Prop} {c : Option Addr × Nat × Nat → Option Addr × Nat × Nat → Int} {zs : List (Option Addr × Nat × Nat)} (O : OrdLaw c) (x : Option Addr × Nat × Nat) (hx : D x) (hs : Strict c zs) (h : SetAtRow Try.prog S w b ov iv tail te D c zs) :
    Calls Try.prog 130 #[.pointer (some ⟨b, 0, none⟩), (Value.slice (x).1 (x).2.1 (x).2.2)] w
      (RetF (fun _ => False) w fun w' v => v = .tuple #[.int .i64 (below c zs x : Nat), .bool (isIn c zs x)]) := by
  obtain ⟨c1, c2⟩ := h.cells
  obtain ⟨ao, cap, eiv, hc, _⟩ := h.row.shape
  subst eiv
  have hl := h.len
  obtain ⟨n, en⟩ : ∃ n, n = zs.length := ⟨_, rfl⟩
  have get : ∀ i (hi : i < n), zs.getD i x = zs[i]'(by omega) := fun i hi => by simp [List.getD, show i < zs.length by omega]
  have evals : (List.range n).map (fun i => (Value.slice (zs.getD i x).1 (zs.getD i x).2.1 (zs.getD i x).2.2)) = zs.map fun x => (Value.slice (x).1 (x).2.1 (x).2.2) := by
    refine List.ext_getElem (by simp [en]) fun i h1 h2 => ?_
    simp only [List.getElem_map, List.getElem_range]
    rw [get i (by simpa using h1)]
  have hent : ∀ args w, (callFunc 147 args).run Try.prog w = .ok (.enter 147 args) w := enters_of Try.func147 (by kernel_rfl) rfl
  have hcmp : CmpToRow Try.prog 147 #[.pointer (some ⟨b, 0, none⟩)] #[] w ((List.range n).map fun i => (Value.slice (zs.getD i x).1 (zs.getD i x).2.1 (zs.getD i x).2.2)) ((Value.slice (x).1 (x).2.1 (x).2.2)) (fun i => c (zs.getD i x) x) := by
    refine ⟨hent, fun w' hw i v hv => ?_⟩
    have hi : i < n := by simpa using (List.getElem?_eq_some_iff.1 hv).1
    have ev : v = (Value.slice (zs.getD i x).1 (zs.getD i x).2.1 (zs.getD i x).2.2) := by simp [hi] at hv; rw [← hv, List.getD_eq_getElem?_getD]
    subst ev
    have h' := h.ext hw
    exact setCmpRow_any S w' b ov _ te D c (zs.getD i x) x (by rw [get i hi]; exact h.all _ (List.getElem_mem _)) hx h'.blk h'.inS h'.ord
  have hbin := binSearchRow_any zs (fun i => zs.getD i x) ao cap ((Value.slice (x).1 (x).2.1 (x).2.2)) 147 #[.pointer (some ⟨b, 0, none⟩)] #[] (fun i => c (zs.getD i x) x) w n (by rw [evals]; exact hc) hcmp (by omega)
  rw [en] at hbin
  have HB := Lib.hid hbin
  have HH := Lib.hid (And.intro en get)
  clear hbin hcmp hc evals hent h get
  go_enter Try.func130, Try.ntmps130
  go_wp2_with fail
  refine HB.out.mono ?_
  rintro e w1 ⟨v, rfl, hk, i, hi, h1, h2, rfl⟩
  have ei : i = below c zs x := by
    refine hs.place O hi (fun y hp hy => ?_) (fun y hy => ?_)
    · have e := (List.getElem?_eq_some_iff.1 hy).2
      rcases h1 with h1 | h1
      · omega
      · rw [HH.out.2 _ (by rw [HH.out.1]; omega), e] at h1; exact h1
    · obtain ⟨hl', e⟩ := List.getElem?_eq_some_iff.1 hy
      rcases h2 with h2 | h2
      · omega
      · rw [HH.out.2 _ (by rw [HH.out.1]; omega), e] at h2; exact h2
  have eb : decide (i < zs.length ∧ c (zs.getD i x) x = 0) = isIn c zs x := by
    rw [Bool.eq_iff_iff, decide_eq_true_iff, hs.there O x, ← ei]
    constructor
    · rintro ⟨a1, a2⟩
      exact ⟨zs[i], List.getElem?_eq_getElem a1, by rw [HH.out.2 _ (by rw [HH.out.1]; omega)] at a2; exact a2⟩
    · rintro ⟨y, hy, hz⟩
      obtain ⟨hl', e⟩ := List.getElem?_eq_some_iff.1 hy
      exact ⟨hl', by rw [HH.out.2 _ (by rw [HH.out.1]; omega), e]; exact hz⟩
  rw [eb, ei]
  have HK := Lib.hid hk
  clear hk h1 h2 eb ei hi
  go_wp2
  go_ret2
  exact RetF.mk HK.out (tup_ib rfl)
end Go.Proofs.Ytfkhelihepbehaa
