/- tuple.Set at int: what a set is in memory; cmp, alike, Len, Items, find. -/
import Derived.Test.YtfkhelihepbehaaSetLaw
import Derived.Test.YtfkhelihepbehaaSame
import Derived.Test.YtfkhelihepbehaaSortInt
import Derived.Test.YtfkhelihepbehaaCompactInt
import Derived.Test.YtfkhelihepbehaaGenInt
namespace Go.Proofs.Ytfkhelihepbehaa
open Go.RowKit
set_option linter.unusedVariables false

/-- A value that a set may have for its order: nil where all are alike, or a function that holds two of D against each other, in every world in which the blocks of S are as they were. -/
def OrdVInt (P : Program) (S : Nat → Prop) (w0 : World) (ov : Value) (D : Int → Prop) (c : Int → Int → Int) : Prop :=
  (ov = .nilFunc ∧ ∀ x y, D x → D y → c x y = 0) ∨ ∃ f first cap, ov = .func (Fn.func f) first cap ∧ (∀ args w, (callFunc f args).run P w = .ok (Next.enter f args) w) ∧
    ∀ w, Same S w0 w → ∀ x y, D x → D y → Calls P f (first ++ (#[(Value.int .i64 (x)), (Value.int .i64 (y))] ++ cap)) w fun e w' => e = .returned (.int .i64 (c x y)) ∧ Ext w w'

theorem OrdVInt.same {P : Program} {S : Nat → Prop} {w0 w1 : World} {ov : Value} {D : Int → Prop} {c : Int → Int → Int} (h : OrdVInt P S w0 ov D c) (hs : Same S w0 w1) : OrdVInt P S w1 ov D c := by
  rcases h with h | ⟨f, first, cap, e, he, h⟩
  · exact .inl h
  · exact .inr ⟨f, first, cap, e, he, fun w hw => h w (hs.trans hw)⟩
theorem OrdVInt.mono {P : Program} {S S' : Nat → Prop} {w0 : World} {ov : Value} {D : Int → Prop} {c : Int → Int → Int} (h : OrdVInt P S w0 ov D c) (hs : ∀ k, S k → S' k) : OrdVInt P S' w0 ov D c := by
  rcases h with h | ⟨f, first, cap, e, he, h⟩
  · exact .inl h
  · exact .inr ⟨f, first, cap, e, he, fun w hw => h w (hw.mono hs)⟩

/-- A set in memory: its order, its row, what lies behind them in the same struct. -/
structure SetAtInt (P : Program) (S : Nat → Prop) (w : World) (b : Nat) (ov iv : Value) (tail : List Value) (te : TypeId) (D : Int → Prop) (c : Int → Int → Int) (zs : List (Int)) : Prop where
  blk : Blk w b (ov :: iv :: tail) te
  row : Row w 3 1 iv zs.length (zs.map fun x => (Value.int .i64 (x))) (fun k => iv.ownBlock = some k)
  apart : iv.ownBlock ≠ some b
  inS : ∀ k, S k → k < w.heap.size
  notS : ∀ k, Owns b iv k → ¬ S k
  ord : OrdVInt P S w ov D c
  all : ∀ x ∈ zs, D x
  len : zs.length ≤ 1048576 * 1048576

section
variable {P : Program} {S : Nat → Prop} {w w' : World} {b : Nat} {ov iv : Value} {tail : List Value} {te : TypeId} {D : Int → Prop} {c : Int → Int → Int} {zs : List (Int)}
theorem SetAtInt.kp {F : Nat → Prop} (h : SetAtInt P S w b ov iv tail te D c zs) (hk : Kp F w w') (hF : ∀ k, F k → ¬ Owns b iv k) (hS : ∀ k, F k → ¬ S k) : SetAtInt P S w' b ov iv tail te D c zs :=
  ⟨h.blk.kp hk fun hf => hF _ hf (.inl rfl), h.row.kp hk fun g hg hf => hF _ hf (.inr hg), h.apart, fun k hk' => Nat.lt_of_lt_of_le (h.inS k hk') hk.size, h.notS, h.ord.same (hk.same h.inS fun k hk' hf => hS k hf hk'), h.all, h.len⟩
theorem SetAtInt.ext (h : SetAtInt P S w b ov iv tail te D c zs) (hk : Ext w w') : SetAtInt P S w' b ov iv tail te D c zs := h.kp hk (fun _ x => x.elim) (fun _ x => x.elim)
theorem SetAtInt.cells (h : SetAtInt P S w b ov iv tail te D c zs) : w.cell? ⟨b, 0, none⟩ = some ov ∧ w.cell? ⟨b, 1, none⟩ = some iv := ⟨by rw [h.blk.cell']; rfl, by rw [h.blk.cell']; rfl⟩
end

set_option maxRecDepth 100000 in
theorem setCmpInt_any (S : Nat → Prop) (w : World) (b : Nat) (ov : Value) (cs : List Value) (te : TypeId) (D : Int → Prop) (c : Int → Int → Int) (x y : Int) (hx : D x) (hy : D y) (hB : Blk w b (ov :: cs) te)
    (hS : ∀ k, S k → k < w.heap.size) (ho : OrdVInt Try.prog S w ov D c) :
    Calls Try.prog 29 #[.pointer (some ⟨b, 0, none⟩), (Value.int .i64 (x)), (Value.int .i64 (y))] w (fun e w' => e = .returned (.int .i64 (c x y)) ∧ Ext w w') := by
  have c1 : w.cell? ⟨b, 0, none⟩ = some ov := by rw [hB.cell']; rfl
  clear hB
  rcases ho with ⟨rfl, h0⟩ | ⟨f, first, cap, rfl, hent, hc⟩
  · have h00 := Lib.hid (h0 x y hx hy); clear h0
    have hq : ∀ w : World, (binOp .eql 28 .nilFunc .nilFunc).run Try.prog w = .ok (.bool true) w := fun _ => by kernel_rfl
    go_enter Try.func29, Try.ntmps29
    go_wp2
    go_ret
    exact ⟨by rw [h00.out]; rfl, Kp.refl _⟩
  · have HC := Lib.hid hc; clear hc
    have hq : ∀ w : World, (binOp .eql 28 (.func (Fn.func f) first cap) .nilFunc).run Try.prog w = .ok (.bool false) w := fun _ => by kernel_rfl
    go_enter Try.func29, Try.ntmps29
    go_wp2_with fail
    refine (HC.out w (Same.refl hS) x y hx hy).mono ?_
    rintro e w1 ⟨rfl, hk⟩
    have HK := Lib.hid hk; clear hk
    go_wp2
    go_ret
    exact ⟨rfl, HK.out⟩

set_option maxRecDepth 100000 in
theorem setAlikeInt_any (S : Nat → Prop) (w : World) (b : Nat) (ov : Value) (cs : List Value) (te : TypeId) (D : Int → Prop) (c : Int → Int → Int) (x y : Int) (hx : D x) (hy : D y) (hB : Blk w b (ov :: cs) te)
    (hS : ∀ k, S k → k < w.heap.size) (ho : OrdVInt Try.prog S w ov D c) :
    Calls Try.prog 31 #[.pointer (some ⟨b, 0, none⟩), (Value.int .i64 (x)), (Value.int .i64 (y))] w (fun e w' => e = .returned (.bool (decide (c x y = 0))) ∧ Ext w w') := by
  go_enter Try.func31, Try.ntmps31
  go_wp2_with fail
  refine (setCmpInt_any S w b ov cs te D c x y hx hy hB hS ho).mono ?_
  rintro e w1 ⟨rfl, hk⟩
  have HK := Lib.hid hk; clear hk hB ho
  go_wp2
  go_ret
  exact ⟨rfl, HK.out⟩

set_option maxRecDepth 100000 in
theorem setLenInt_any {S : Nat → Prop} {w : World} {b : Nat} {ov iv : Value} {tail : List Value} {te : TypeId} {D : Int → Prop} {c : Int → Int → Int} {zs : List (Int)} (h : SetAtInt Try.prog S w b ov iv tail te D c zs) :
    Calls Try.prog 55 #[.pointer (some ⟨b, 0, none⟩)] w (Ret (.int .i64 (zs.length : Nat)) w) := by
  obtain ⟨c1, c2⟩ := h.cells
  obtain ⟨ao, cap, rfl, _, _⟩ := h.row.shape
  clear h
  go_enter Try.func55, Try.ntmps55
  go_wp2
  go_ret
  exact Ret.mk rfl
theorem setLenInt_nil (w : World) : Calls Try.prog 55 #[.pointer none] w (Ret (.int .i64 0) w) := by
  go_enter Try.func55, Try.ntmps55
  go_wp2
  go_ret
  exact Ret.mk rfl

set_option maxRecDepth 100000 in
theorem setItemsInt_any {S : Nat → Prop} {w : World} {b : Nat} {ov iv : Value} {tail : List Value} {te : TypeId} {D : Int → Prop} {c : Int → Int → Int} {zs : List (Int)} (h : SetAtInt Try.prog S w b ov iv tail te D c zs) :
    Calls Try.prog 53 #[.pointer (some ⟨b, 0, none⟩)] w (RetN w fun w' v => Row w' 3 1 v zs.length (zs.map fun x => (Value.int .i64 (x))) (New w)) := by
  obtain ⟨c1, c2⟩ := h.cells
  obtain ⟨ao, cap, rfl, hc, _⟩ := h.row.shape
  have hl := h.len
  have HC := Lib.hid hc; clear h hc
  go_enter Try.func53, Try.ntmps53
  go_wp2_with fail
  refine (cloneInt_any (zs.map fun x => (Value.int .i64 (x))) ao cap w zs.length (by simp) HC.out (by intro u hu; obtain ⟨x, _, rfl⟩ := List.mem_map.1 hu; rfl) (by omega)).mono ?_
  rintro e w1 ⟨v, rfl, hk, hr⟩
  have HR := Lib.hid (And.intro hk hr); clear hk hr
  go_wp2
  go_ret
  exact RetN.mk HR.out.1 HR.out.2
theorem setItemsInt_nil (w : World) : Calls Try.prog 53 #[.pointer none] w (Ret (.slice none 0 0) w) := by
  go_enter Try.func53, Try.ntmps53
  go_wp2
  go_ret
  exact Ret.mk rfl

set_option maxRecDepth 100000 in
set_option maxHeartbeats 1000000 in
theorem setFindInt_any {S : Nat → Prop} {w : World} {b : Nat} {ov iv : Value} {tail : List Value} {te : TypeId} {D : Int → Prop} {c : Int → Int → Int} {zs : List (Int)} (O : OrdLaw c) (x : Int) (hx : D x) (hs : Strict c zs) (h : SetAtInt Try.prog S w b ov iv tail te D c zs) :
    Calls Try.prog 88 #[.pointer (some ⟨b, 0, none⟩), (Value.int .i64 (x))] w
      (RetF (fun _ => False) w fun w' v => v = .tuple #[.int .i64 (below c zs x : Nat), .bool (isIn c zs x)]) := by
  obtain ⟨c1, c2⟩ := h.cells
  obtain ⟨ao, cap, eiv, hc, _⟩ := h.row.shape
  subst eiv
  have hl := h.len
  obtain ⟨n, en⟩ : ∃ n, n = zs.length := ⟨_, rfl⟩
  have get : ∀ i (hi : i < n), zs.getD i x = zs[i]'(by omega) := fun i hi => by simp [List.getD, show i < zs.length by omega]
  have evals : (List.range n).map (fun i => (Value.int .i64 (zs.getD i x))) = zs.map fun x => (Value.int .i64 (x)) := by
    refine List.ext_getElem (by simp [en]) fun i h1 h2 => ?_
    simp only [List.getElem_map, List.getElem_range]
    rw [get i (by simpa using h1)]
  have hent : ∀ args w, (callFunc 29 args).run Try.prog w = .ok (.enter 29 args) w := enters_of Try.func29 (by kernel_rfl) rfl
  have hcmp : CmpToInt Try.prog 29 #[.pointer (some ⟨b, 0, none⟩)] #[] w ((List.range n).map fun i => (Value.int .i64 (zs.getD i x))) ((Value.int .i64 (x))) (fun i => c (zs.getD i x) x) := by
    refine ⟨hent, fun w' hw i v hv => ?_⟩
    have hi : i < n := by simpa using (List.getElem?_eq_some_iff.1 hv).1
    have ev : v = (Value.int .i64 (zs.getD i x)) := by simp [hi] at hv; rw [← hv, List.getD_eq_getElem?_getD]
    subst ev
    have h' := h.ext hw
    exact setCmpInt_any S w' b ov _ te D c (zs.getD i x) x (by rw [get i hi]; exact h.all _ (List.getElem_mem _)) hx h'.blk h'.inS h'.ord
  have hbin := binSearchInt_any zs (fun i => zs.getD i x) ao cap ((Value.int .i64 (x))) 29 #[.pointer (some ⟨b, 0, none⟩)] #[] (fun i => c (zs.getD i x) x) w n (by rw [evals]; exact hc) hcmp (by omega)
  rw [en] at hbin
  have HB := Lib.hid hbin
  have HH := Lib.hid (And.intro en get)
  clear hbin hcmp hc evals hent h get
  go_enter Try.func88, Try.ntmps88
  go_wp2_with fail
  refine HB.out.mono ?_
  rintro e w1 ⟨v, rfl, hk, i, hi, h1, h2, rfl⟩
  have ei : i = below c zs x := by
    refine hs.place O hi (fun y hp hy => ?_) (fun y hy => ?_)
    · have e := (List.getElem?_eq_some_iff.1 hy).2
      rcases h1 with h1 | h1
      · omega
      · rw [HH.out.2 _ (by rw [HH.out.1]; omega), e] at h1; exact h1
    · obtain ⟨hl', e⟩ := List.getElem?_eq_some_iff.1 hy
      rcases h2 with h2 | h2
      · omega
      · rw [HH.out.2 _ (by rw [HH.out.1]; omega), e] at h2; exact h2
  have eb : decide (i < zs.length ∧ c (zs.getD i x) x = 0) = isIn c zs x := by
    rw [Bool.eq_iff_iff, decide_eq_true_iff, hs.there O x, ← ei]
    constructor
    · rintro ⟨a1, a2⟩
      exact ⟨zs[i], List.getElem?_eq_getElem a1, by rw [HH.out.2 _ (by rw [HH.out.1]; omega)] at a2; exact a2⟩
    · rintro ⟨y, hy, hz⟩
      obtain ⟨hl', e⟩ := List.getElem?_eq_some_iff.1 hy
      exact ⟨hl', by rw [HH.out.2 _ (by rw [HH.out.1]; omega), e]; exact hz⟩
  rw [eb, ei]
  have HK := Lib.hid hk
  clear hk h1 h2 eb ei hi
  go_wp2
  go_ret2
  exact RetF.mk HK.out (tup_ib rfl)
end Go.Proofs.Ytfkhelihepbehaa
