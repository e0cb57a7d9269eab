/- Texts joined for a claim (RowSet, BaseC, BaseC2, BasePut, RowQ, RowQ2, RowQ3, RowOwn, RowAll, BaseAt, RowWith, RowSame, BaseAdd, BaseAdd2). -/
import Derived.Test.YtfkhelihepbehaaGreatBa2
import Derived.Laws.EntriesVeiled
import Derived.Deep.RegionWith
/- tuple.Rows: rows of texts in a set: what a row reads as, their order, set, Len, NewRows, named, texts. -/
namespace Go.Proofs.YtfkhelihepbehaaGreat
open Go.RowKit
set_option linter.unusedVariables false

/-- A row, as an element of a slice: address, length, capacity. -/
abbrev RowZ := Option Addr × Nat × Nat
/-- It reads as these texts. -/
def ReadsAs (w : World) (x : RowZ) (ss : List ByteArray) : Prop := x.2.1 = ss.length ∧ CellsAt w x.1 (strs ss)
theorem ReadsAs.unique {w : World} {x : RowZ} {a b : List ByteArray} (h : ReadsAs w x a) (h' : ReadsAs w x b) : a = b := by
  obtain ⟨h1, h2⟩ := h
  obtain ⟨h3, h4⟩ := h'
  refine List.ext_getElem (by omega) fun i hi hj => ?_
  obtain ⟨b1, o1, e1, c1⟩ := h2.str hi
  obtain ⟨b2, o2, e2, c2⟩ := h4.str hj
  rw [e1] at e2
  cases e2
  rw [c1] at c2
  simpa using c2
theorem con_ex (w : World) : ∃ con : RowZ → List ByteArray, ∀ x ss, ReadsAs w x ss → con x = ss := by
  have h : ∀ x : RowZ, ∃ l : List ByteArray, ∀ ss, ReadsAs w x ss → l = ss := fun x => by
    by_cases hx : ∃ ss, ReadsAs w x ss
    · obtain ⟨ss, hs⟩ := hx
      exact ⟨ss, fun ss' hs' => hs.unique hs'⟩
    · exact ⟨[], fun ss hs => absurd ⟨ss, hs⟩ hx⟩
  exact ⟨fun x => Classical.choose (h x), fun x => Classical.choose_spec (h x)⟩

/-- A row that is read from the pool S, and no longer than a row may be. -/
def RowD (S : Nat → Prop) (w : World) (x : RowZ) : Prop := ∃ ss, ReadsAs w x ss ∧ ss.length ≤ 8796093021952 ∧ ∀ a, x.1 = some a → S a.block
theorem ReadsAs.same {S : Nat → Prop} {w w' : World} {x : RowZ} {ss : List ByteArray} (h : ReadsAs w x ss) (hs : Same S w w') (ha : ∀ a, x.1 = some a → S a.block) : ReadsAs w' x ss := by
  refine ⟨h.1, fun i u hu => ?_⟩
  obtain ⟨b, o, e, c⟩ := h.2 i u hu
  refine ⟨b, o, e, ?_⟩
  rw [World.cell?_of_block (w := w) (hs b (ha _ e)).2]; exact c
theorem cmpRow_law {α : Type} (f : α → List ByteArray) : OrdLaw (fun x y => cmpRow (f x) (f y)) :=
  ⟨fun x y => by have := cmpRow_swap (f x) (f y); omega, fun x y z h h' => cmpRow_trans h h'⟩

/-- Rows' order, as a set's. -/
theorem rows_ord {S : Nat → Prop} {w : World} {con : RowZ → List ByteArray} (hc : ∀ x ss, ReadsAs w x ss → con x = ss) :
    OrdVRow Tryz.prog S w (.func (Fn.func 41) #[] #[]) (RowD S w) (fun x y => cmpRow (con x) (con y)) := by
  refine .inr ⟨_, _, _, rfl, enters_of Tryz.func41 (by kernel_rfl) rfl, fun w' hw x y hx hy => ?_⟩
  obtain ⟨xs, hx1, hx2, hx3⟩ := hx
  obtain ⟨ys, hy1, hy2, hy3⟩ := hy
  have ex := hc x xs hx1
  have ey := hc y ys hy1
  have hx' := hx1.same hw hx3
  have hy' := hy1.same hw hy3
  obtain ⟨ax, nx, cx⟩ := x
  obtain ⟨ay, ny, cy⟩ := y
  obtain ⟨h1, h2⟩ := hx'
  obtain ⟨h3, h4⟩ := hy'
  simp only at h1 h2 h3 h4
  subst h1 h3
  simp only [ex, ey]
  refine (tupleCompare_any xs ys ax ay cx cy w' h2 h4 (by unfold maxLen; omega) (by unfold maxLen; omega)).mono ?_
  rintro e w2 ⟨rfl, rfl⟩
  exact ⟨rfl, Kp.refl w'⟩

/-- Rows in memory: their arity, their texts in order; the pool S holds the rows themselves. -/
def RowsAt (S : Nat → Prop) (w : World) (b : Nat) (iv : Value) (arity : Nat) (LL : List (List ByteArray)) : Prop :=
  ∃ con zs, (∀ x ss, ReadsAs w x ss → con x = ss) ∧ SetAtRow Tryz.prog S w b (.func (Fn.func 41) #[] #[]) iv [.int .i64 arity] 98 (RowD S w) (fun x y => cmpRow (con x) (con y)) zs ∧ zs.map con = LL

theorem named_any (s : ByteArray) (w : World) : Calls Tryz.prog 96 #[.string s] w (Ret (.bool (decide (1 ≤ s.size ∧ s.size ≤ 4096))) w) := by
  by_cases h1 : 1 ≤ s.size
  · have q1 : (1 : Int) ≤ (s.size : Int) := by omega
    by_cases h2 : s.size ≤ 4096
    · have q2 : (s.size : Int) ≤ 4096 := by omega
      have H := Lib.hid (And.intro h1 h2)
      go_enter Tryz.func96, Tryz.ntmps96
      go_wp2
      go_ret
      exact Ret.mk (by simp [H.out.1, H.out.2])
    · have q2 : ¬ (s.size : Int) ≤ 4096 := by omega
      have H := Lib.hid h2
      go_enter Tryz.func96, Tryz.ntmps96
      go_wp2
      go_ret
      exact Ret.mk (by simp [H.out])
  · have q1 : ¬ (1 : Int) ≤ (s.size : Int) := by omega
    have H := Lib.hid h1
    go_enter Tryz.func96, Tryz.ntmps96
    go_wp2
    go_ret
    exact Ret.mk (by simp [H.out])
theorem textsFn_any (s : ByteArray) (w : World) : Calls Tryz.prog 136 #[.string s] w (Ret (.bool (decide (4096 < s.size))) w) := by
  by_cases h : 4096 < s.size
  · have q : (4096 : Int) < (s.size : Int) := by omega
    have H := Lib.hid h
    go_enter Tryz.func136, Tryz.ntmps136
    go_wp2
    go_ret
    exact Ret.mk (by simp [H.out])
  · have q : ¬ (4096 : Int) < (s.size : Int) := by omega
    have H := Lib.hid h
    go_enter Tryz.func136, Tryz.ntmps136
    go_wp2
    go_ret
    exact Ret.mk (by simp [H.out])
/-- May these be a row's? -/
def textsC (ss : List ByteArray) : Bool := ss.all fun s => decide (s.size ≤ 4096)
theorem texts_any (ss : List ByteArray) (ao : Option Addr) (n c : Nat) (w : World) (hn : n = ss.length) (hc : CellsAt w ao (strs ss)) (hl : n ≤ 4611686018427387904) :
    Calls Tryz.prog 98 #[.slice ao n c] w (RetN w fun w' v => v = .bool (textsC ss)) := by
  have hent : ∀ args w, (callFunc 136 args).run Tryz.prog w = .ok (.enter 136 args) w := enters_of Tryz.func136 (by kernel_rfl) rfl
  have hi := containsFuncStr_any (strs ss) ao c 136 #[] #[] (fun i => decide (4096 < (ss[i]?.getD ⟨#[]⟩).size)) w n (by simp [strs, hn]) hc ⟨hent, fun w' _ i u hu => by
    rw [strs, List.getElem?_map] at hu
    cases hs : ss[i]? with
    | none => rw [hs] at hu; cases hu
    | some s =>
      rw [hs] at hu
      cases hu
      refine (textsFn_any s w').mono ?_
      rintro e w2 ⟨rfl, rfl⟩
      exact ⟨by simp [hs], Kp.refl _⟩⟩ hl
  have key : (!(List.range n).any fun i => decide (4096 < (ss[i]?.getD ⟨#[]⟩).size)) = textsC ss := by
    rw [Bool.eq_iff_iff]
    simp only [Bool.not_eq_true', List.any_eq_false, List.mem_range, decide_eq_true_eq, textsC, List.all_eq_true]
    constructor
    · intro h s hs
      obtain ⟨i, hi, rfl⟩ := List.mem_iff_getElem.1 hs
      have := h i (by omega)
      simp only [List.getElem?_eq_getElem hi, Option.getD_some] at this
      omega
    · intro h i hi
      have hi' : i < ss.length := by omega
      have := h ss[i] (List.getElem_mem _)
      simp only [List.getElem?_eq_getElem hi', Option.getD_some]
      omega
  have HI := Lib.hid (And.intro hi key); clear hi key hent hc hn
  go_enter Tryz.func98, Tryz.ntmps98
  go_wp2_with fail
  refine HI.out.1.mono ?_
  rintro e w1 ⟨v, rfl, hk, rfl⟩
  have HK := Lib.hid hk; clear hk
  go_wp2
  go_ret
  exact RetN.mk HK.out (by rw [← HI.out.2]; rfl)
end Go.Proofs.YtfkhelihepbehaaGreat

namespace Go.Proofs.YtfkhelihepbehaaGreat
open Go.RowKit
set_option linter.unusedVariables false

section
variable {S S' : Nat → Prop} {w w' : World} {b : Nat} {iv : Value} {arity : Nat} {LL : List (List ByteArray)}

theorem RowsAt.move {F : Nat → Prop} (h : RowsAt S w b iv arity LL) (hk : Kp F w w') (hF : ∀ k, F k → ¬ Owns b iv k) (hS : ∀ k, F k → ¬ S k) (hsub : ∀ k, S k → S' k) (hin : ∀ k, S' k → k < w'.heap.size) (hno : ∀ k, Owns b iv k → ¬ S' k) :
    RowsAt S' w' b iv arity LL := by
  obtain ⟨con, zs, hc, hs, hl⟩ := h
  obtain ⟨con', hc'⟩ := con_ex w'
  have hs' := hs.kp hk hF hS
  have hsame : Same S w w' := hk.same hs.inS fun k h1 h2 => hS k h2 h1
  have all : ∀ z ∈ zs, RowD S' w' z ∧ con' z = con z := fun z hz => by
    obtain ⟨ss, h1, h2, h3⟩ := hs.all z hz
    have h1' := h1.same hsame h3
    exact ⟨⟨ss, h1', h2, fun a e => hsub _ (h3 a e)⟩, by rw [hc' z ss h1', hc z ss h1]⟩
  refine ⟨con', zs, hc', ⟨hs'.blk, hs'.row, hs'.apart, hin, hno, rows_ord hc', fun z hz => (all z hz).1, hs.len⟩, ?_⟩
  rw [← hl]
  exact List.map_congr_left fun z hz => (all z hz).2
theorem RowsAt.ext (h : RowsAt S w b iv arity LL) (hk : Ext w w') : RowsAt S w' b iv arity LL := by
  have hb := h
  obtain ⟨con, zs, hc, hs, hl⟩ := hb
  exact h.move hk (fun _ x => x.elim) (fun _ x => x.elim) (fun _ h => h) (fun k hk' => Nat.lt_of_lt_of_le (hs.inS k hk') hk.size) hs.notS
theorem RowsAt.blk (h : RowsAt S w b iv arity LL) : Blk w b [.func (Fn.func 41) #[] #[], iv, .int .i64 arity] 98 := by
  obtain ⟨con, zs, hc, hs, hl⟩ := h
  exact hs.blk

theorem rowsSet_nil (w : World) : Calls Tryz.prog 110 #[.pointer none] w (Ret (.pointer none) w) := by
  go_enter Tryz.func110, Tryz.ntmps110
  go_wp2
  go_ret
  exact Ret.mk rfl
theorem rowsSet_any (h : RowsAt S w b iv arity LL) : Calls Tryz.prog 110 #[.pointer (some ⟨b, 0, none⟩)] w (Ret (.pointer (some ⟨b, 0, none⟩)) w) := by
  have c0 : w.cell? ⟨b, 0, none⟩ = some (.func (Fn.func 41) #[] #[]) := by rw [h.blk.cell']; rfl
  have hq : ∀ w : World, (binOp .eql 79 (.func (Fn.func 41) #[] #[]) .nilFunc).run Tryz.prog w = .ok (.bool false) w := fun _ => by kernel_rfl
  clear h
  go_enter Tryz.func110, Tryz.ntmps110
  go_wp2
  go_ret
  exact Ret.mk rfl
theorem rowsLen_nil (w : World) : Calls Tryz.prog 124 #[.pointer none] w (Ret (.int .i64 0) w) := by
  go_enter Tryz.func124, Tryz.ntmps124
  go_wp2_with fail
  refine (rowsSet_nil w).mono ?_
  rintro e w' ⟨rfl, rfl⟩
  go_wp2_with fail
  refine (setLenRow_nil w).mono ?_
  rintro e w' ⟨rfl, rfl⟩
  go_wp2
  go_ret
  exact Ret.mk rfl
theorem rowsLen_any (h : RowsAt S w b iv arity LL) : Calls Tryz.prog 124 #[.pointer (some ⟨b, 0, none⟩)] w (Ret (.int .i64 (LL.length : Nat)) w) := by
  have H := Lib.hid h
  obtain ⟨con, zs, hc, hs, hl⟩ := h
  have HS := Lib.hid hs
  have HL := Lib.hid (show zs.length = LL.length by rw [← hl]; simp)
  clear hs hc hl
  go_enter Tryz.func124, Tryz.ntmps124
  go_wp2_with fail
  refine (rowsSet_any H.out).mono ?_
  rintro e w' ⟨rfl, rfl⟩
  go_wp2_with fail
  refine (setLenRow_any HS.out).mono ?_
  rintro e w' ⟨rfl, rfl⟩
  go_wp2
  go_ret
  exact Ret.mk (by rw [← HL.out]; rfl)

theorem rowsAt_new (S : Nat → Prop) (w : World) (a : Nat) (hS : ∀ k, S k → k < w.heap.size) :
    RowsAt S (w.alloc (.cells #[.func (Fn.func 41) #[] #[], .slice none 0 0, .int .i64 a] 98)) w.heap.size (.slice none 0 0) a [] := by
  obtain ⟨con, hc⟩ := con_ex (w.alloc (.cells #[.func (Fn.func 41) #[] #[], .slice none 0 0, .int .i64 a] 98))
  refine ⟨con, [], hc, ⟨Blk.new w [.func (Fn.func 41) #[] #[], .slice none 0 0, .int .i64 a] 98, Row.nil _ _ _ _, by simp [Value.ownBlock], fun k hk => by rw [alloc_size]; have := hS k hk; omega, fun k ho hs => ?_, rows_ord hc, by simp, by simp⟩, rfl⟩
  rcases ho with rfl | ho
  · have := hS _ hs; omega
  · cases ho
theorem newRows_any (S : Nat → Prop) (w : World) (a : Nat) (ha : a ≤ 64) (hS : ∀ k, S k → k < w.heap.size) :
    Calls Tryz.prog 97 #[.int .i64 a] w (RetN w fun w' v => v = .tuple #[.pointer (some ⟨w.heap.size, 0, none⟩), .int .i64 0] ∧ RowsAt S w' w.heap.size (.slice none 0 0) a []) := by
  have HR := Lib.hid (rowsAt_new S w a hS)
  have q1 : ¬ (a : Int) < 0 := by omega
  have q2 : ¬ (64 : Int) < (a : Int) := by omega
  clear hS
  go_enter Tryz.func97, Tryz.ntmps97
  go_wp2
  go_ret2
  exact RetN.mk ((Kp.refl w).alloc _) ⟨rfl, HR.out⟩
end
end Go.Proofs.YtfkhelihepbehaaGreat

namespace Go.Proofs.YtfkhelihepbehaaGreat
open Go.RowKit
set_option linter.unusedVariables false

/-- A row that is handed in: where it lies, what it reads as. -/
def RowIn (w : World) (x : RowZ) (ss : List ByteArray) : Prop := ReadsAs w x ss ∧ ss.length ≤ 8796093021952 ∧ ∀ a, x.1 = some a → a.block < w.heap.size
/-- It lies off these blocks. -/
def RowOff (x : RowZ) (F : Nat → Prop) : Prop := ∀ a, x.1 = some a → ¬ F a.block
/-- The pool with a row's block. -/
def poolOf (S : Nat → Prop) (x : RowZ) : Nat → Prop := fun k => S k ∨ ∃ a, x.1 = some a ∧ a.block = k

section
variable {S : Nat → Prop} {w w' : World} {b : Nat} {iv : Value} {arity : Nat} {LL : List (List ByteArray)}
theorem RowsAt.inS (h : RowsAt S w b iv arity LL) : ∀ k, S k → k < w.heap.size := by
  obtain ⟨con, zs, hc, hs, hl⟩ := h
  exact hs.inS
theorem RowsAt.notS (h : RowsAt S w b iv arity LL) : ∀ k, Owns b iv k → ¬ S k := by
  obtain ⟨con, zs, hc, hs, hl⟩ := h
  exact hs.notS
/-- A row's block goes to the pool. -/
theorem RowsAt.pool (h : RowsAt S w b iv arity LL) {x : RowZ} {ss : List ByteArray} (hx : RowIn w x ss) (ho : RowOff x (Owns b iv)) : RowsAt (poolOf S x) w b iv arity LL := by
  refine h.move (F := fun _ => False) (Kp.refl w) (fun _ x => x.elim) (fun _ x => x.elim) (fun k hk => .inl hk) (fun k hk => ?_) (fun k hk hs => ?_)
  · rcases hk with hk | ⟨a, e, rfl⟩
    · exact h.inS k hk
    · exact hx.2.2 a e
  · rcases hs with hs | ⟨a, e, rfl⟩
    · exact h.notS k hk hs
    · exact ho a e hk
/-- The set behind the rows, and a row held against it. -/
theorem RowsAt.open (h : RowsAt S w b iv arity LL) (hst : Strict cmpRow LL) {x : RowZ} {ss : List ByteArray} (hx : RowIn w x ss) (ho : RowOff x (Owns b iv)) :
    ∃ con zs, (∀ x ss, ReadsAs w x ss → con x = ss) ∧ SetAtRow Tryz.prog (poolOf S x) w b (.func (Fn.func 41) #[] #[]) iv [.int .i64 arity] 98 (RowD (poolOf S x) w) (fun x y => cmpRow (con x) (con y)) zs ∧ zs.map con = LL ∧
      RowD (poolOf S x) w x ∧ con x = ss ∧ Strict (fun x y => cmpRow (con x) (con y)) zs ∧ isIn (fun x y => cmpRow (con x) (con y)) zs x = isIn cmpRow LL ss ∧ below (fun x y => cmpRow (con x) (con y)) zs x = below cmpRow LL ss := by
  obtain ⟨con, zs, hc, hs, hl⟩ := h.pool hx ho
  have ex := hc x ss hx.1
  refine ⟨con, zs, hc, hs, hl, ⟨ss, hx.1, hx.2.1, fun a e => .inr ⟨a, e, rfl⟩⟩, ex, ?_, ?_, ?_⟩
  · rw [← hl] at hst
    exact List.pairwise_map.1 hst
  · rw [← hl, ← ex]; simp [isIn, List.any_map, Function.comp_def]
  · rw [← hl, ← ex]; simp [below, List.filter_map, Function.comp_def]

theorem rowsHas_any (h : RowsAt S w b iv arity LL) (hst : Strict cmpRow LL) {x : RowZ} {ss : List ByteArray} (hx : RowIn w x ss) (ho : RowOff x (Owns b iv)) :
    Calls Tryz.prog 99 #[.pointer (some ⟨b, 0, none⟩), .slice x.1 x.2.1 x.2.2] w (RetN w fun w' v => v = .bool (isIn cmpRow LL ss)) := by
  have H := Lib.hid h
  obtain ⟨con, zs, hc, hs, hl, hd, ex, hz, e1, e2⟩ := h.open hst hx ho
  have HF := Lib.hid (setHasRow_any (cmpRow_law con) x hd hz hs)
  rw [e1] at HF
  clear h hst hx ho hc hs hl hd ex hz e1 e2
  go_enter Tryz.func99, Tryz.ntmps99
  go_wp2_with fail
  refine (rowsSet_any H.out).mono ?_
  rintro e w' ⟨rfl, rfl⟩
  go_wp2_with fail
  refine HF.out.mono ?_
  rintro e w1 ⟨v, rfl, hk, rfl⟩
  have HK := Lib.hid hk; clear hk
  go_wp2
  go_ret
  exact RetN.mk HK.out rfl

theorem RowsAt.of_set {S' : Nat → Prop} {w1 w2 : World} {con : RowZ → List ByteArray} {zs : List RowZ} (hc : ∀ x ss, ReadsAs w1 x ss → con x = ss) (hsame : Same S' w1 w2)
    (h : SetAtRow Tryz.prog S' w2 b (.func (Fn.func 41) #[] #[]) iv [.int .i64 arity] 98 (RowD S' w1) (fun x y => cmpRow (con x) (con y)) zs) : RowsAt S' w2 b iv arity (zs.map con) := by
  obtain ⟨con', hc'⟩ := con_ex w2
  have all : ∀ z ∈ zs, RowD S' w2 z ∧ con' z = con z := fun z hz => by
    have hd := h.all z hz
    obtain ⟨ss, h1, h2, h3⟩ := hd
    have h1' := h1.same hsame h3
    exact ⟨⟨ss, h1', h2, h3⟩, by rw [hc' z ss h1', hc z ss h1]⟩
  exact ⟨con', zs, hc', ⟨h.blk, h.row, h.apart, h.inS, h.notS, rows_ord hc', fun z hz => (all z hz).1, h.len⟩, List.map_congr_left fun z hz => (all z hz).2⟩

/-- What Add answers. -/
def rowsAddR (arity : Nat) (LL : List (List ByteArray)) (ss : List ByteArray) : Bool × Nat :=
  if ss.length ≠ arity then (false, 30) else if textsC ss = false then (false, 31) else if 65536 ≤ LL.length ∧ isIn cmpRow LL ss = false then (false, 4) else (!isIn cmpRow LL ss, 0)
/-- What is there behind it. -/
def rowsAddL (arity : Nat) (LL : List (List ByteArray)) (ss : List ByteArray) : List (List ByteArray) := if (rowsAddR arity LL ss).2 = 0 then addS cmpRow LL ss else LL

/-- Add's last lines: the row's clone goes to the set. -/
theorem rowsPut (h : RowsAt S w b iv arity LL) (hst : Strict cmpRow LL) {ao : Option Addr} {n cap : Nat} {ss : List ByteArray} {w1 : World} (hk : Ext w w1) (hr : Row w1 9 1 (.slice ao n cap) n (strs ss) (New w)) (hn : n = ss.length) (hl : n ≤ 8796093021952) (hLL : LL.length + 1 ≤ 1048576 * 1048576) :
    Calls Tryz.prog 129 #[.pointer (some ⟨b, 0, none⟩), .slice ao n cap] w1 (RetF (Owns b iv) w1 fun w' v => v = .bool (!isIn cmpRow LL ss) ∧
      ∃ iv', RowsAt (poolOf S (ao, n, cap)) w' b iv' arity (addS cmpRow LL ss) ∧ ∀ k, iv'.ownBlock = some k → iv.ownBlock = some k ∨ w1.heap.size ≤ k) := by
  have hx : RowIn w1 (ao, n, cap) ss := by
    obtain ⟨ao', cap', e, hc, _⟩ := hr.shape
    cases e
    refine ⟨⟨hn, hc⟩, by omega, fun a e => ?_⟩
    have e' : ao = some a := e
    subst e'
    exact hr.lt a.block rfl
  have ho : RowOff (ao, n, cap) (Owns b iv) := fun a e ho => by
    have e' : ao = some a := e
    subst e'
    have h1 : w.heap.size ≤ a.block := hr.block a.block rfl
    have h2 : a.block < w.heap.size := by
      obtain ⟨con, zs, hc, hs, hl⟩ := h
      rcases ho with ho | ho
      · rw [ho]; exact hs.blk.lt
      · exact hs.row.lt _ ho
    omega
  obtain ⟨con, zs, hc, hs, hlz, hd, ex, hz, e1, e2⟩ := (h.ext hk).open hst hx ho
  have hzl : zs.length = LL.length := by rw [← hlz]; simp
  refine (setAddRow_any (cmpRow_law con) (ao, n, cap) hd hz hs (by omega)).mono ?_
  rintro e w2 ⟨v, rfl, hk2, rfl, iv', hs2, hiv⟩
  refine RetF.mk hk2 ⟨by rw [e1], iv', ?_, hiv⟩
  have hsame : Same (poolOf S (ao, n, cap)) w1 w2 := hk2.same hs.inS fun k h1 h2 => hs.notS k h2 h1
  have := RowsAt.of_set hc hsame hs2
  rwa [← addS_map con zs (ao, n, cap), hlz, ex] at this
end
end Go.Proofs.YtfkhelihepbehaaGreat

namespace Go.Proofs.YtfkhelihepbehaaGreat
open Go.RowKit
set_option linter.unusedVariables false

section
variable {S : Nat → Prop} {w w' : World} {b : Nat} {iv : Value} {arity : Nat} {LL : List (List ByteArray)}
/-- What Add leaves. -/
def RowsAdded (S : Nat → Prop) (w : World) (b : Nat) (iv : Value) (arity : Nat) (LL : List (List ByteArray)) (ss : List ByteArray) (w' : World) (v : Value) : Prop :=
  v = .tuple #[.bool (rowsAddR arity LL ss).1, .int .i64 ((rowsAddR arity LL ss).2 : Nat)] ∧
    ∃ S' iv', (∀ k, S k → S' k) ∧ (∀ k, S' k → S k ∨ w.heap.size ≤ k) ∧ RowsAt S' w' b iv' arity (rowsAddL arity LL ss) ∧ ∀ k, iv'.ownBlock = some k → iv.ownBlock = some k ∨ w.heap.size ≤ k
theorem RowsAdded.same (h : RowsAt S w b iv arity LL) {ss : List ByteArray} {w1 : World} (hk : Ext w w1) {v : Value} (hv : v = .tuple #[.bool (rowsAddR arity LL ss).1, .int .i64 ((rowsAddR arity LL ss).2 : Nat)]) (h0 : rowsAddL arity LL ss = LL) : RowsAdded S w b iv arity LL ss w1 v :=
  ⟨hv, S, iv, fun _ h => h, fun _ h => .inl h, by rw [h0]; exact h.ext hk, fun _ h => .inl h⟩

set_option maxRecDepth 100000 in
set_option maxHeartbeats 2000000 in
theorem rowsAdd_any (h : RowsAt S w b iv arity LL) (hst : Strict cmpRow LL) {ao : Option Addr} {n cap : Nat} {ss : List ByteArray} (hx : RowIn w (ao, n, cap) ss) (ho : RowOff (ao, n, cap) (Owns b iv)) (hLL : LL.length + 1 ≤ 1048576 * 1048576) :
    Calls Tryz.prog 87 #[.pointer (some ⟨b, 0, none⟩), .slice ao n cap] w (RetF (Owns b iv) w (RowsAdded S w b iv arity LL ss)) := by
  have hn : n = ss.length := hx.1.1
  have hcs : CellsAt w ao (strs ss) := hx.1.2
  have hl : ss.length ≤ 8796093021952 := hx.2.1
  have c2 : w.cell? ⟨b, 2, none⟩ = some (.int .i64 arity) := by rw [h.blk.cell']; rfl
  have HT := Lib.hid (texts_any ss ao n cap w hn hcs (by omega))
  have HH := Lib.hid (fun w1 (hw : Ext w w1) => rowsHas_any (h.ext hw) hst (x := (ao, n, cap)) (ss := ss) ⟨⟨hn, hcs.ext hw⟩, hl, fun a e => Nat.lt_of_lt_of_le (hx.2.2 a e) hw.size⟩ ho)
  have HLN := Lib.hid (fun w1 (hw : Ext w w1) => rowsLen_any (h.ext hw))
  have HS := Lib.hid (fun w1 (hw : Ext w w1) => rowsSet_any (h.ext hw))
  have HCL := Lib.hid (fun w1 (hw : Ext w w1) => cloneStr_any (strs ss) ao cap w1 n (by simp [strs, hn]) (hcs.ext hw) (strs_one ss) (by omega))
  have HP := Lib.hid (fun w0 w1 ao1 cap1 (hw : Ext w w0) (hk : Ext w0 w1) hr => rowsPut (w := w0) (w1 := w1) (ao := ao1) (n := n) (cap := cap1) (h.ext hw) hst hk hr hn (by omega) hLL)
  have H := Lib.hid h
  have HN := Lib.hid hn
  clear h hst hx ho hcs hn
  obtain ⟨m, em⟩ : ∃ m, m = LL.length := ⟨_, rfl⟩
  rw [← em] at HLN hLL
  have EM := Lib.hid em; clear em hLL
  by_cases h1 : n = arity
  · have q1 : ((n : Int) != (arity : Int)) = false := by simp [h1]
    have H1 := Lib.hid h1; clear h1
    cases ht : textsC ss with
    | false =>
      have HTX := Lib.hid ht
      rw [ht] at HT; clear ht
      go_enter Tryz.func87, Tryz.ntmps87
      go_wp2_with fail
      refine HT.out.mono ?_
      rintro e w1 ⟨v, rfl, hk, rfl⟩
      have HK := Lib.hid hk; clear hk
      go_wp2
      go_ret2
      have e0 : rowsAddR arity LL ss = (false, 31) := by unfold rowsAddR; rw [if_neg (by rw [← HN.out, H1.out]; simp), if_pos HTX.out]
      exact RetF.mk (Ext.kp HK.out) (RowsAdded.same H.out HK.out (by rw [e0]; rfl) (by unfold rowsAddL; rw [e0]; rfl))
    | true =>
      have HTX := Lib.hid ht
      rw [ht] at HT; clear ht
      by_cases hf : 65536 ≤ m
      · have q2 : decide ((65536 : Int) ≤ (m : Int)) = true := by rw [decide_eq_true_iff]; omega
        have HF := Lib.hid hf; clear hf
        cases hi : isIn cmpRow LL ss with
        | false =>
          have HI := Lib.hid hi
          rw [hi] at HH; clear hi
          go_enter Tryz.func87, Tryz.ntmps87
          go_wp2_with fail
          refine HT.out.mono ?_
          rintro e w0 ⟨v, rfl, hk0, rfl⟩
          go_wp2_with fail
          refine (HLN.out w0 hk0).mono ?_
          rintro e w' ⟨rfl, rfl⟩
          go_wp2_with fail
          refine (HH.out w0 hk0).mono ?_
          rintro e w1 ⟨v, rfl, hk01, rfl⟩
          have hk1 := hk0.trans hk01
          clear hk0 hk01
          have HK := Lib.hid hk1; clear hk1
          go_wp2
          go_ret2
          have e0 : rowsAddR arity LL ss = (false, 4) := by unfold rowsAddR; rw [if_neg (by rw [← HN.out, H1.out]; simp), if_neg (by rw [HTX.out]; simp), if_pos ⟨EM.out ▸ HF.out, HI.out⟩]
          exact RetF.mk (Ext.kp HK.out) (RowsAdded.same H.out HK.out (by rw [e0]; rfl) (by unfold rowsAddL; rw [e0]; rfl))
        | true =>
          have HI := Lib.hid hi
          rw [hi] at HH; clear hi
          go_enter Tryz.func87, Tryz.ntmps87
          go_wp2_with fail
          refine HT.out.mono ?_
          rintro e w0 ⟨v, rfl, hk0, rfl⟩
          go_wp2_with fail
          refine (HLN.out w0 hk0).mono ?_
          rintro e w' ⟨rfl, rfl⟩
          go_wp2_with fail
          refine (HH.out w0 hk0).mono ?_
          rintro e w1 ⟨v, rfl, hk01, rfl⟩
          have hk1 := hk0.trans hk01
          clear hk0 hk01
          go_wp2_with fail
          refine (HS.out w1 hk1).mono ?_
          rintro e w' ⟨rfl, rfl⟩
          go_wp2_with fail
          refine (HCL.out w1 hk1).mono ?_
          rintro e w2 ⟨v, rfl, hk2, hr2⟩
          obtain ⟨ao2, cap2, ev, _, _⟩ := hr2.shape
          subst ev
          go_wp2_with fail
          refine (HP.out w1 w2 ao2 cap2 hk1 hk2 hr2).mono ?_
          rintro e w3 ⟨v, rfl, hk3, rfl, iv', hrows, hiv⟩
          have HR := Lib.hid (And.intro hk3 (And.intro hrows hiv))
          have hb2 := hr2.block
          clear hk3 hrows hiv hr2
          go_wp2
          go_ret2
          have e0 : rowsAddR arity LL ss = (!isIn cmpRow LL ss, 0) := by unfold rowsAddR; rw [if_neg (by rw [← HN.out, H1.out]; simp), if_neg (by rw [HTX.out]; simp), if_neg (fun h => by rw [HI.out] at h; cases h.2)]
          have z1 := hk1.size
          have z2 := hk2.size
          refine RetF.mk ((Ext.kp (hk1.trans hk2)).trans HR.out.1) ⟨by rw [e0]; rfl, poolOf S (ao2, n, cap2), iv', fun k h => .inl h, fun k h => ?_, by unfold rowsAddL; rw [e0]; exact HR.out.2.1, fun k h => (HR.out.2.2 k h).imp id (fun h => by omega)⟩
          rcases h with h | ⟨a, e, rfl⟩
          · exact .inl h
          · have e' : ao2 = some a := e
            subst e'
            have := hb2 a.block rfl
            exact .inr (Nat.le_trans z1 this)
      · have q2 : decide ((65536 : Int) ≤ (m : Int)) = false := by rw [decide_eq_false_iff_not]; omega
        have HF := Lib.hid hf; clear hf
        go_enter Tryz.func87, Tryz.ntmps87
        go_wp2_with fail
        refine HT.out.mono ?_
        rintro e w1 ⟨v, rfl, hk1, rfl⟩
        go_wp2_with fail
        refine (HLN.out w1 hk1).mono ?_
        rintro e w' ⟨rfl, rfl⟩
        go_wp2_with fail
        refine (HS.out w1 hk1).mono ?_
        rintro e w' ⟨rfl, rfl⟩
        go_wp2_with fail
        refine (HCL.out w1 hk1).mono ?_
        rintro e w2 ⟨v, rfl, hk2, hr2⟩
        obtain ⟨ao2, cap2, ev, _, _⟩ := hr2.shape
        subst ev
        go_wp2_with fail
        refine (HP.out w1 w2 ao2 cap2 hk1 hk2 hr2).mono ?_
        rintro e w3 ⟨v, rfl, hk3, rfl, iv', hrows, hiv⟩
        have HR := Lib.hid (And.intro hk3 (And.intro hrows hiv))
        have hb2 := hr2.block
        clear hk3 hrows hiv hr2
        go_wp2
        go_ret2
        have e0 : rowsAddR arity LL ss = (!isIn cmpRow LL ss, 0) := by unfold rowsAddR; rw [if_neg (by rw [← HN.out, H1.out]; simp), if_neg (by rw [HTX.out]; simp), if_neg (fun h => HF.out (EM.out ▸ h.1))]
        have z1 := hk1.size
        have z2 := hk2.size
        refine RetF.mk ((Ext.kp (hk1.trans hk2)).trans HR.out.1) ⟨by rw [e0]; rfl, poolOf S (ao2, n, cap2), iv', fun k h => .inl h, fun k h => ?_, by unfold rowsAddL; rw [e0]; exact HR.out.2.1, fun k h => (HR.out.2.2 k h).imp id (fun h => by omega)⟩
        rcases h with h | ⟨a, e, rfl⟩
        · exact .inl h
        · have e' : ao2 = some a := e
          subst e'
          have := hb2 a.block rfl
          exact .inr (Nat.le_trans z1 this)
  · have q1 : ((n : Int) != (arity : Int)) = true := by rw [bne_iff_ne]; omega
    have H1 := Lib.hid h1; clear h1
    go_enter Tryz.func87, Tryz.ntmps87
    go_wp2
    go_ret2
    have e0 : rowsAddR arity LL ss = (false, 30) := by unfold rowsAddR; rw [if_pos (by rw [← HN.out]; exact H1.out)]
    exact RetF.mk (Kp.refl _) (RowsAdded.same H.out (Kp.refl _) (by rw [e0]; rfl) (by unfold rowsAddL; rw [e0]; rfl))
end
end Go.Proofs.YtfkhelihepbehaaGreat

/- Bases in plain Lean: names, each with its rows: what is declared, what is added, what relations make. No program in sight. -/
namespace Go.Proofs.YtfkhelihepbehaaGreat
set_option linter.unusedVariables false

/-- Rows under a name: how long, which. -/
abbrev CntZ := ByteArray × Nat × List (List ByteArray)
/-- A relation: name, length, rows. -/
abbrev RelZ := ByteArray × Int × List (List ByteArray) × Unit
abbrev Rows2 := List (List ByteArray)

theorem cmpRow_ord : OrdLaw cmpRow := cmpRow_law id
theorem cmpRow_tight : Tight cmpRow := fun _ _ h => cmpRow_zero h

def getC (C : List CntZ) (s : ByteArray) : Option (Nat × Rows2) := (C.find? fun p => decide (p.1 = s)).map (·.2)
def setC (C : List CntZ) (s : ByteArray) (v : Nat × Rows2) : List CntZ := if (getC C s).isSome then C.map fun p => if p.1 = s then (p.1, v) else p else C ++ [(s, v)]
def totalC (C : List CntZ) : Nat := (C.map fun p => p.2.2.length).sum
def namedC (s : ByteArray) : Bool := decide (1 ≤ s.size ∧ s.size ≤ 4096)
def declR (C : List CntZ) (s : ByteArray) (a : Int) : Nat := if namedC s = false then 32 else if a < 0 ∨ 64 < a then 2 else match getC C s with | some v => if (v.1 : Int) = a then 0 else 30 | none => 0
def declC (C : List CntZ) (s : ByteArray) (a : Int) : List CntZ := if declR C s a = 0 ∧ getC C s = none then C ++ [(s, a.toNat, [])] else C
def rowsC (C : List CntZ) (s : ByteArray) : Rows2 := match getC C s with | some v => v.2 | none => []
def arOk (C : List CntZ) (s : ByteArray) (row : List ByteArray) : Bool := match getC C s with | some v => decide (v.1 = row.length) | none => decide (row.length ≤ 64)
def addR (C : List CntZ) (s : ByteArray) (row : List ByteArray) : Bool × Nat :=
  if namedC s = false then (false, 32) else
  if arOk C s row = false then (false, 30) else
  if textsC row = false then (false, 31) else
  if 262144 ≤ totalC C ∧ isIn cmpRow (rowsC C s) row = false then (false, 4) else
  if 65536 ≤ (rowsC C s).length ∧ isIn cmpRow (rowsC C s) row = false then (false, 4) else (!isIn cmpRow (rowsC C s) row, 0)
def addC (C : List CntZ) (s : ByteArray) (row : List ByteArray) : List CntZ := if (addR C s row).2 = 0 then setC C s (row.length, addS cmpRow (rowsC C s) row) else C
def addAll (C : List CntZ) (s : ByteArray) : Rows2 → List CntZ × Nat
  | [] => (C, 0)
  | r :: rs => if (addR C s r).2 = 0 then addAll (addC C s r) s rs else (C, (addR C s r).2)
def fromC (C : List CntZ) : List RelZ → List CntZ × Nat
  | [] => (C, 0)
  | r :: rs => if declR C r.1 r.2.1 = 0 then (if (addAll (declC C r.1 r.2.1) r.1 r.2.2.1).2 = 0 then fromC (addAll (declC C r.1 r.2.1) r.1 r.2.2.1).1 rs else addAll (declC C r.1 r.2.1) r.1 r.2.2.1) else (C, declR C r.1 r.2.1)

/-- What holds of rows under a name. -/
structure CntOk (p : CntZ) : Prop where
  name : namedC p.1 = true
  ar : p.2.1 ≤ 64
  strict : Strict cmpRow p.2.2
  len : ∀ r ∈ p.2.2, r.length = p.2.1
  txt : ∀ r ∈ p.2.2, textsC r = true
  few : p.2.2.length ≤ 65536
structure BaseOk (C : List CntZ) : Prop where
  nodup : (C.map (·.1)).Nodup
  all : ∀ p ∈ C, CntOk p
  few : totalC C ≤ 262144

theorem getC_mem {C : List CntZ} (h : (C.map (·.1)).Nodup) {s : ByteArray} {v : Nat × Rows2} : getC C s = some v ↔ (s, v) ∈ C := by
  unfold getC
  induction C with
  | nil => simp
  | cons p C ih =>
    rw [List.map_cons, List.nodup_cons] at h
    by_cases e : p.1 = s
    · rw [List.find?_cons_of_pos (by simp [e])]
      subst e
      simp only [Option.map_some, Option.some.injEq, List.mem_cons]
      constructor
      · rintro rfl; exact .inl rfl
      · rintro (h1 | h1)
        · rw [← h1]
        · exact absurd (List.mem_map.2 ⟨_, h1, rfl⟩) h.1
    · rw [List.find?_cons_of_neg (by simp [e]), ih h.2, List.mem_cons]
      constructor
      · exact .inr
      · rintro (h1 | h1)
        · exact absurd (by rw [← h1]) e
        · exact h1
theorem getC_none {C : List CntZ} {s : ByteArray} : getC C s = none ↔ s ∉ C.map (·.1) := by
  unfold getC
  rw [Option.map_eq_none_iff, List.find?_eq_none]
  constructor
  · intro h hm
    obtain ⟨p, hp, rfl⟩ := List.mem_map.1 hm
    exact h p hp (by simp)
  · intro h p hp hd
    exact h (List.mem_map.2 ⟨p, hp, by simpa using hd⟩)
theorem getC_app {C : List CntZ} {s t : ByteArray} {v : Nat × Rows2} (h : getC C s = none) : getC (C ++ [(s, v)]) t = if s = t then some v else getC C t := by
  unfold getC at *
  rw [List.find?_append]
  by_cases e : s = t
  · subst e
    rw [Option.map_eq_none_iff] at h
    rw [h, if_pos rfl]; simp
  · rw [if_neg e]
    cases hc : C.find? (fun p => decide (p.1 = t)) with
    | none => simp [e]
    | some x => simp
theorem getC_set {C : List CntZ} {s t : ByteArray} {v : Nat × Rows2} : getC (setC C s v) t = if s = t then some v else getC C t := by
  unfold setC
  cases hg : getC C s with
  | none => rw [if_neg (by simp)]; exact getC_app hg
  | some u =>
    rw [if_pos (by simp)]
    unfold getC at *
    rw [List.find?_map]
    have hf : ((fun p : CntZ => decide (p.1 = t)) ∘ fun p : CntZ => if p.1 = s then (p.1, v) else p) = fun p => decide (p.1 = t) := by
      funext p; simp only [Function.comp]; split <;> rfl
    rw [hf]
    by_cases e : s = t
    · subst e
      rw [if_pos rfl]
      cases hc : C.find? (fun p => decide (p.1 = s)) with
      | none => rw [hc] at hg; cases hg
      | some x =>
        have hx := List.find?_some hc
        simp only [decide_eq_true_eq] at hx
        simp [hx]
    · rw [if_neg e]
      cases hc : C.find? (fun p => decide (p.1 = t)) with
      | none => rfl
      | some x =>
        have hx := List.find?_some hc
        simp only [decide_eq_true_eq] at hx
        have hne : ¬ x.1 = s := fun e2 => e (by rw [← e2, hx])
        simp [hne]
theorem set_names {C : List CntZ} {s : ByteArray} {v : Nat × Rows2} : (setC C s v).map (·.1) = if (getC C s).isSome then C.map (·.1) else C.map (·.1) ++ [s] := by
  unfold setC
  split
  · rw [List.map_map]
    apply List.map_congr_left
    intro p _
    simp only [Function.comp]; split <;> rfl
  · simp
theorem nodup_set {C : List CntZ} (h : (C.map (·.1)).Nodup) (s : ByteArray) (v : Nat × Rows2) : ((setC C s v).map (·.1)).Nodup := by
  rw [set_names]
  split
  · exact h
  · rename_i hn
    have h0 : getC C s = none := by
      cases hg : getC C s with
      | none => rfl
      | some u => rw [hg] at hn; simp at hn
    exact List.nodup_append.2 ⟨h, by simp, fun a ha b hb e => getC_none.1 h0 (by rw [List.mem_singleton] at hb; rw [← hb, ← e]; exact ha)⟩
theorem mem_set {C : List CntZ} {s : ByteArray} {v : Nat × Rows2} {p : CntZ} (h : p ∈ setC C s v) : p = (s, v) ∨ p ∈ C := by
  unfold setC at h
  split at h
  · obtain ⟨q, hq, e⟩ := List.mem_map.1 h
    split at e
    · rename_i e2; left; rw [← e, e2]
    · right; rw [← e]; exact hq
  · rcases List.mem_append.1 h with h | h
    · exact .inr h
    · left; simpa using h

/-- The facts: names with rows. -/
def flatC (C : List CntZ) : List (ByteArray × List ByteArray) := C.flatMap fun p => p.2.2.map fun r => (p.1, r)
theorem flat_total (C : List CntZ) : (flatC C).length = totalC C := by
  unfold flatC totalC
  rw [List.length_flatMap]
  congr 1
  apply List.map_congr_left
  intro p _
  rw [List.length_map]
theorem mem_flat {C : List CntZ} (h : (C.map (·.1)).Nodup) {s : ByteArray} {r : List ByteArray} : (s, r) ∈ flatC C ↔ r ∈ rowsC C s := by
  unfold flatC rowsC
  rw [List.mem_flatMap]
  constructor
  · rintro ⟨p, hp, hm⟩
    obtain ⟨q, hq, e⟩ := List.mem_map.1 hm
    cases e
    rw [(getC_mem h).2 (show (p.1, p.2) ∈ C from hp)]
    exact hq
  · intro hm
    cases hg : getC C s with
    | none => rw [hg] at hm; cases hm
    | some v =>
      rw [hg] at hm
      exact ⟨(s, v), (getC_mem h).1 hg, List.mem_map.2 ⟨r, hm, rfl⟩⟩
theorem nodup_flat {C : List CntZ} (h : (C.map (·.1)).Nodup) (ho : ∀ p ∈ C, Strict cmpRow p.2.2) : (flatC C).Nodup := by
  induction C with
  | nil => exact List.nodup_nil
  | cons p C ih =>
    rw [List.map_cons, List.nodup_cons] at h
    unfold flatC
    rw [List.flatMap_cons]
    refine List.nodup_append.2 ⟨?_, ih h.2 fun q hq => ho q (List.mem_cons_of_mem _ hq), ?_⟩
    · refine List.Pairwise.map _ (fun a b hab => ?_) ((ho p List.mem_cons_self).nodup cmpRow_ord)
      exact fun e => hab (by cases e; rfl)
    · intro a ha b hb e
      subst e
      obtain ⟨r, hr, rfl⟩ := List.mem_map.1 ha
      obtain ⟨q, hq, hm⟩ := List.mem_flatMap.1 hb
      obtain ⟨r', hr', e⟩ := List.mem_map.1 hm
      refine h.1 (List.mem_map.2 ⟨q, hq, ?_⟩)
      exact (Prod.mk.inj e).1

theorem rows_none {C : List CntZ} {s : ByteArray} (h : getC C s = none) : rowsC C s = [] := by unfold rowsC; rw [h]
theorem rows_some {C : List CntZ} {s : ByteArray} {v : Nat × Rows2} (h : getC C s = some v) : rowsC C s = v.2 := by unfold rowsC; rw [h]
theorem rows_set {C : List CntZ} {s t : ByteArray} {v : Nat × Rows2} : rowsC (setC C s v) t = if s = t then v.2 else rowsC C t := by
  unfold rowsC
  rw [getC_set]
  by_cases e : s = t
  · rw [if_pos e, if_pos e]
  · rw [if_neg e, if_neg e]

/-- What a successful adding is. -/
theorem addR_ok {C : List CntZ} {s : ByteArray} {row : List ByteArray} (h : (addR C s row).2 = 0) : namedC s = true ∧ arOk C s row = true := by
  unfold addR at h
  split at h
  · cases h
  · rename_i h1
    split at h
    · cases h
    · rename_i h2
      exact ⟨by simpa using h1, by simpa using h2⟩
theorem addR_texts {C : List CntZ} {s : ByteArray} {row : List ByteArray} (h : (addR C s row).2 = 0) : textsC row = true ∧ (262144 ≤ totalC C → isIn cmpRow (rowsC C s) row = true) ∧ (65536 ≤ (rowsC C s).length → isIn cmpRow (rowsC C s) row = true) := by
  unfold addR at h
  split at h
  · cases h
  · split at h
    · cases h
    · split at h
      · cases h
      · rename_i h3
        split at h
        · cases h
        · rename_i h4
          split at h
          · cases h
          · rename_i h5
            refine ⟨by simpa using h3, fun h6 => ?_, fun h6 => ?_⟩
            · cases hi : isIn cmpRow (rowsC C s) row with
              | true => rfl
              | false => exact absurd ⟨h6, hi⟩ h4
            · cases hi : isIn cmpRow (rowsC C s) row with
              | true => rfl
              | false => exact absurd ⟨h6, hi⟩ h5
theorem rows_strict {C : List CntZ} (h : BaseOk C) (s : ByteArray) : Strict cmpRow (rowsC C s) := by
  cases hg : getC C s with
  | none => rw [rows_none hg]; exact strict_nil
  | some v => rw [rows_some hg]; exact (h.all _ ((getC_mem h.nodup).1 hg)).strict
theorem mem_rowsIn {C : List CntZ} (h : BaseOk C) {s : ByteArray} {row : List ByteArray} : isIn cmpRow (rowsC C s) row = true ↔ row ∈ rowsC C s := isIn_mem cmpRow_ord cmpRow_tight
theorem total_set {C : List CntZ} (hn : (C.map (·.1)).Nodup) {s : ByteArray} {v : Nat × Rows2} : totalC (setC C s v) + (rowsC C s).length = totalC C + v.2.length := by
  unfold setC
  cases hg : getC C s with
  | none => rw [if_neg (by simp), rows_none hg]; simp [totalC]
  | some u =>
    rw [if_pos (by simp), rows_some hg]
    have hm : ∀ (D : List CntZ), (D.map (·.1)).Nodup → (s, u) ∈ D → totalC (D.map fun p => if p.1 = s then (p.1, v) else p) + u.2.length = totalC D + v.2.length := by
      intro D
      induction D with
      | nil => intro _ h; cases h
      | cons p D ih =>
        intro hnd hin
        rw [List.map_cons, List.nodup_cons] at hnd
        simp only [totalC, List.map_cons, List.sum_cons] at ih ⊢
        by_cases e : p.1 = s
        · have hp : p = (s, u) := by
            rcases List.mem_cons.1 hin with h | h
            · exact h.symm
            · exact absurd (List.mem_map.2 ⟨_, h, rfl⟩) (by rw [← e] at h ⊢; exact hnd.1)
          have hid : (D.map fun q : CntZ => if q.1 = s then (q.1, v) else q) = D := by
            conv => rhs; rw [← List.map_id D]
            apply List.map_congr_left
            intro q hq
            have : ¬ q.1 = s := fun e2 => hnd.1 (List.mem_map.2 ⟨q, hq, by rw [e2, e]⟩)
            rw [if_neg this]; rfl
          rw [hid, if_pos e, hp]; dsimp only; omega
        · have h1 : (s, u) ∈ D := by
            rcases List.mem_cons.1 hin with h | h
            · exact absurd (by rw [← h]) e
            · exact h
          have := ih hnd.2 h1
          rw [if_neg e]; omega
    exact hm C hn ((getC_mem hn).1 hg)

theorem ok_decl {C : List CntZ} (h : BaseOk C) (s : ByteArray) (a : Int) : BaseOk (declC C s a) := by
  unfold declC
  split
  · rename_i hc
    obtain ⟨h1, h2⟩ := hc
    have hn : namedC s = true ∧ 0 ≤ a ∧ a ≤ 64 := by
      unfold declR at h1
      split at h1
      · cases h1
      · rename_i e1
        split at h1
        · cases h1
        · rename_i e2
          exact ⟨by simpa using e1, by omega, by omega⟩
    refine ⟨?_, fun p hp => ?_, ?_⟩
    · rw [List.map_append]
      exact List.nodup_append.2 ⟨h.nodup, by simp, fun x hx y hy e => getC_none.1 h2 (by
        have : y = s := by simpa using hy
        rw [← this, ← e]; exact hx)⟩
    · rcases List.mem_append.1 hp with hp | hp
      · exact h.all p hp
      · have e : p = (s, a.toNat, []) := by simpa using hp
        subst e
        exact ⟨hn.1, show a.toNat ≤ 64 by omega, strict_nil, fun r hr => (by cases hr), fun r hr => (by cases hr), Nat.zero_le _⟩
    · have e : totalC (C ++ [(s, a.toNat, [])]) = totalC C := by simp [totalC]
      rw [e]; exact h.few
  · exact h
theorem getC_decl {C : List CntZ} {s t : ByteArray} {a : Int} (h : declR C s a = 0) : getC (declC C s a) t = if s = t ∧ getC C s = none then some (a.toNat, []) else getC C t := by
  unfold declC
  cases hg : getC C s with
  | none =>
    rw [if_pos ⟨h, rfl⟩, getC_app hg]
    by_cases e : s = t
    · rw [if_pos e, if_pos ⟨e, rfl⟩]
    · rw [if_neg e, if_neg (fun k => e k.1)]
  | some v => rw [if_neg (fun k => by cases k.2), if_neg (fun k => by cases k.2)]
theorem decl_ar {C : List CntZ} {s : ByteArray} {a : Int} (h : declR C s a = 0) : ∃ LL, getC (declC C s a) s = some (a.toNat, LL) ∧ 0 ≤ a ∧ a ≤ 64 ∧ namedC s = true := by
  have h0 := h
  unfold declR at h
  split at h
  · cases h
  · rename_i e1
    split at h
    · cases h
    · rename_i e2
      cases hg : getC C s with
      | none => exact ⟨[], by rw [getC_decl h0, if_pos ⟨rfl, hg⟩], by omega, by omega, by simpa using e1⟩
      | some v =>
        rw [hg] at h
        have h1 : (v.1 : Int) = a := by
          by_cases e : (v.1 : Int) = a
          · exact e
          · simp [e] at h
        refine ⟨v.2, ?_, by omega, by omega, by simpa using e1⟩
        rw [getC_decl h0, if_neg (fun k => by rw [hg] at k; cases k.2), hg]
        have : v.1 = a.toNat := by omega
        rw [← this]
theorem rows_decl {C : List CntZ} {s t : ByteArray} {a : Int} (h : declR C s a = 0) : rowsC (declC C s a) t = rowsC C t := by
  unfold rowsC
  rw [getC_decl h]
  by_cases e : s = t ∧ getC C s = none
  · rw [if_pos e, ← e.1, e.2]
  · rw [if_neg e]

theorem ok_add {C : List CntZ} (h : BaseOk C) (s : ByteArray) (row : List ByteArray) : BaseOk (addC C s row) := by
  unfold addC
  split
  · rename_i h0
    obtain ⟨t1, t2, t3⟩ := addR_texts h0
    obtain ⟨n1, n4⟩ := addR_ok h0
    have n2 : ∀ v, getC C s = some v → v.1 = row.length := fun v hv => by
      unfold arOk at n4; rw [hv] at n4; exact of_decide_eq_true n4
    have n3 : row.length ≤ 64 := by
      cases hg : getC C s with
      | none => unfold arOk at n4; rw [hg] at n4; exact of_decide_eq_true n4
      | some v =>
        have h1 : v.1 ≤ 64 := (h.all _ ((getC_mem h.nodup).1 hg)).ar
        have := n2 v hg
        omega
    · have hst := rows_strict h s
      have hlen : ∀ r ∈ rowsC C s, r.length = row.length ∧ textsC r = true := fun r hr => by
        cases hg : getC C s with
        | none => rw [rows_none hg] at hr; cases hr
        | some v =>
          rw [rows_some hg] at hr
          have hp := h.all _ ((getC_mem h.nodup).1 hg)
          exact ⟨(hp.len r hr).trans (n2 v hg), hp.txt r hr⟩
      have hfew : (rowsC C s).length ≤ 65536 := by
        cases hg : getC C s with
        | none => rw [rows_none hg]; exact Nat.zero_le _
        | some v => rw [rows_some hg]; exact (h.all _ ((getC_mem h.nodup).1 hg)).few
      have hl := addS_len (c := cmpRow) (rowsC C s) row
      refine ⟨nodup_set h.nodup _ _, fun p hp => ?_, ?_⟩
      · rcases mem_set hp with rfl | hp
        · refine ⟨n1, n3, hst.add cmpRow_ord row, fun r hr => ?_, fun r hr => ?_, ?_⟩
          · rcases (mem_addS (c := cmpRow)).1 hr with hr | ⟨rfl, _⟩
            · exact (hlen r hr).1
            · rfl
          · rcases (mem_addS (c := cmpRow)).1 hr with hr | ⟨rfl, _⟩
            · exact (hlen r hr).2
            · exact t1
          · show (addS cmpRow (rowsC C s) row).length ≤ 65536
            rw [hl]
            split
            · omega
            · rename_i hi
              have : ¬ 65536 ≤ (rowsC C s).length := fun k => hi (t3 k)
              omega
        · exact h.all p hp
      · have := total_set h.nodup (s := s) (v := (row.length, addS cmpRow (rowsC C s) row))
        have hf := h.few
        rw [hl] at this
        split at this
        · omega
        · rename_i hi
          have : ¬ 262144 ≤ totalC C := fun k => hi (t2 k)
          omega
  · exact h
theorem add_named {C : List CntZ} (h : BaseOk C) {s : ByteArray} {row : List ByteArray} (h0 : (addR C s row).2 = 0) : namedC s = true ∧ ∀ v, getC C s = some v → v.1 = row.length := by
  obtain ⟨n1, n4⟩ := addR_ok h0
  exact ⟨n1, fun v hv => by unfold arOk at n4; rw [hv] at n4; exact of_decide_eq_true n4⟩
theorem rows_add {C : List CntZ} (h : BaseOk C) {s t : ByteArray} {row x : List ByteArray} (h0 : (addR C s row).2 = 0) : x ∈ rowsC (addC C s row) t ↔ x ∈ rowsC C t ∨ (s = t ∧ x = row) := by
  unfold addC
  rw [if_pos h0, rows_set]
  by_cases e : s = t
  · subst e
    rw [if_pos rfl]
    show x ∈ addS cmpRow (rowsC C s) row ↔ _
    rw [mem_addS]
    constructor
    · rintro (h1 | ⟨h1, _⟩)
      · exact .inl h1
      · exact .inr ⟨rfl, h1⟩
    · rintro (h1 | ⟨_, h1⟩)
      · exact .inl h1
      · cases hi : isIn cmpRow (rowsC C s) row with
        | true => left; rw [h1]; exact (mem_rowsIn h).1 hi
        | false => exact .inr ⟨h1, rfl⟩
  · rw [if_neg e]
    constructor
    · exact .inl
    · rintro (h1 | ⟨h1, _⟩)
      · exact h1
      · exact absurd h1 e
theorem arity_add {C : List CntZ} (h : BaseOk C) {s t : ByteArray} {row : List ByteArray} (h0 : (addR C s row).2 = 0) (hs : ∃ v, getC C s = some v) : (getC (addC C s row) t).map (·.1) = (getC C t).map (·.1) := by
  unfold addC
  rw [if_pos h0, getC_set]
  by_cases e : s = t
  · subst e
    rw [if_pos rfl]
    obtain ⟨v, hv⟩ := hs
    rw [hv]
    simp [(add_named h h0).2 v hv]
  · rw [if_neg e]

/-- C lies in D. -/
structure InC (C D : List CntZ) : Prop where
  ar : ∀ s v, getC C s = some v → ∃ LL, getC D s = some (v.1, LL)
  rows : ∀ s r, r ∈ rowsC C s → r ∈ rowsC D s
theorem InC.total {C D : List CntZ} (h : InC C D) (hC : BaseOk C) (hD : BaseOk D) {s : ByteArray} {row : List ByteArray} (h1 : row ∈ rowsC D s) (h2 : row ∉ rowsC C s) : totalC C < totalC D ∧ (rowsC C s).length < (rowsC D s).length := by
  have n1 := nodup_flat hC.nodup fun p hp => (hC.all p hp).strict
  have n2 : ((s, row) :: flatC C).Nodup := List.nodup_cons.2 ⟨fun hm => h2 ((mem_flat hC.nodup).1 hm), n1⟩
  have h3 := nodup_len n2 (U := flatC D) fun x hx => by
    rcases List.mem_cons.1 hx with rfl | hx
    · exact (mem_flat hD.nodup).2 h1
    · exact (mem_flat hD.nodup).2 (h.rows _ _ ((mem_flat hC.nodup).1 (show (x.1, x.2) ∈ flatC C from hx)))
  have n3 : (row :: rowsC C s).Nodup := List.nodup_cons.2 ⟨h2, (rows_strict hC s).nodup cmpRow_ord⟩
  have h4 := nodup_len n3 (U := rowsC D s) fun x hx => by
    rcases List.mem_cons.1 hx with rfl | hx
    · exact h1
    · exact h.rows _ _ hx
  rw [List.length_cons, flat_total, flat_total] at h3
  rw [List.length_cons] at h4
  omega
theorem decl_ok {C D : List CntZ} (h : InC C D) (hD : BaseOk D) {s : ByteArray} {a : Int} {LL : Rows2} (hg : getC D s = some (a.toNat, LL)) (ha : 0 ≤ a) : declR C s a = 0 ∧ InC (declC C s a) D := by
  have hp := hD.all _ ((getC_mem hD.nodup).1 hg)
  have h1 : namedC s = true := hp.name
  have h2 : a.toNat ≤ 64 := hp.ar
  have h0 : declR C s a = 0 := by
    unfold declR
    rw [if_neg (by rw [h1]; simp), if_neg (by omega)]
    cases hc : getC C s with
    | none => rfl
    | some v =>
      obtain ⟨L2, h3⟩ := h.ar s v hc
      rw [hg] at h3
      have e3 : a.toNat = v.1 := congrArg Prod.fst (Option.some.inj h3)
      exact if_pos (by omega)
  refine ⟨h0, fun t v hv => ?_, fun t r hr => h.rows t r (by rw [rows_decl h0] at hr; exact hr)⟩
  rw [getC_decl h0] at hv
  split at hv
  · rename_i e
    cases hv
    rw [← e.1]
    exact ⟨LL, hg⟩
  · exact h.ar t v hv
theorem add_ok {C D : List CntZ} (h : InC C D) (hC : BaseOk C) (hD : BaseOk D) {s : ByteArray} {row : List ByteArray} (hm : row ∈ rowsC D s) (hs : ∃ v, getC C s = some v) : (addR C s row).2 = 0 ∧ InC (addC C s row) D := by
  cases hg : getC D s with
  | none => rw [rows_none hg] at hm; cases hm
  | some d =>
    rw [rows_some hg] at hm
    have hp := hD.all _ ((getC_mem hD.nodup).1 hg)
    obtain ⟨v, hv⟩ := hs
    obtain ⟨L2, h3⟩ := h.ar s v hv
    rw [hg] at h3
    have hd : d.1 = v.1 := by cases h3; rfl
    have hlen : v.1 = row.length := by rw [← hd]; exact (hp.len row hm).symm
    have hm' : row ∈ rowsC D s := by rw [rows_some hg]; exact hm
    have hin : ∀ (k : Nat), (totalC D ≤ k → k ≤ totalC C → isIn cmpRow (rowsC C s) row = true) := fun k h1 h2 => by
      rw [mem_rowsIn hC]
      by_cases hc : row ∈ rowsC C s
      · exact hc
      · have := (h.total hC hD hm' hc).1; omega
    have hin2 : (rowsC D s).length ≤ 65536 := by rw [rows_some hg]; exact hp.few
    have h0 : (addR C s row).2 = 0 := by
      unfold addR
      rw [if_neg (by rw [show namedC s = true from hp.name]; simp)]
      rw [if_neg (by unfold arOk; rw [hv]; simp [hlen]), if_neg (by rw [show textsC row = true from hp.txt row hm]; simp)]
      rw [if_neg, if_neg]
      · rintro ⟨h1, h2⟩
        by_cases hc : row ∈ rowsC C s
        · rw [(mem_rowsIn hC).2 hc] at h2; cases h2
        · have := (h.total hC hD hm' hc).2; omega
      · rintro ⟨h1, h2⟩
        rw [hin 262144 hD.few h1] at h2; cases h2
    refine ⟨h0, fun t u hu => ?_, fun t r hr => ?_⟩
    · have ha := arity_add hC h0 (t := t) ⟨v, hv⟩
      rw [hu] at ha
      cases hc : getC C t with
      | none => rw [hc] at ha; cases ha
      | some x =>
        rw [hc] at ha
        have e : u.1 = x.1 := by simpa using ha
        rw [e]
        exact h.ar t x hc
    · rcases (rows_add hC h0).1 hr with h1 | ⟨rfl, rfl⟩
      · exact h.rows t r h1
      · exact hm'
end Go.Proofs.YtfkhelihepbehaaGreat

/- Bases in plain Lean: what relations make, in whatever order; what is told of a base. No program in sight. -/
namespace Go.Proofs.YtfkhelihepbehaaGreat
set_option linter.unusedVariables false

theorem ok_nil : BaseOk [] := ⟨List.nodup_nil, fun p hp => by simp at hp, Nat.zero_le _⟩
theorem ok_all {s : ByteArray} : ∀ {rs : Rows2} {C : List CntZ}, BaseOk C → BaseOk (addAll C s rs).1
  | [], C, h => h
  | r :: rs, C, h => by
    unfold addAll
    split
    · exact ok_all (ok_add h s r)
    · exact h
theorem ok_from : ∀ {L : List RelZ} {C : List CntZ}, BaseOk C → BaseOk (fromC C L).1
  | [], C, h => h
  | r :: L, C, h => by
    unfold fromC
    split
    · split
      · exact ok_from (ok_all (ok_decl h _ _))
      · exact ok_all (ok_decl h _ _)
    · exact h
theorem map_some {α β : Type} {f : α → β} {o : Option α} {b : β} (h : o.map f = some b) : ∃ a, o = some a ∧ f a = b := by
  cases o with
  | none => cases h
  | some a => exact ⟨a, rfl, by simpa using h⟩
theorem all_res {s : ByteArray} : ∀ {rs : Rows2} {C : List CntZ}, BaseOk C → (∃ v, getC C s = some v) → (addAll C s rs).2 = 0 →
    (∀ t x, x ∈ rowsC (addAll C s rs).1 t ↔ x ∈ rowsC C t ∨ (s = t ∧ x ∈ rs)) ∧ ∀ t, (getC (addAll C s rs).1 t).map (·.1) = (getC C t).map (·.1)
  | [], C, h, hs, h0 => ⟨fun t x => by simp [addAll], fun t => rfl⟩
  | r :: rs, C, h, hs, h0 => by
    unfold addAll at h0 ⊢
    split at h0
    · rename_i h1
      rw [if_pos h1]
      have ha : ∀ t, (∃ v, getC C s = some v) → (getC (addC C s r) t).map (·.1) = (getC C t).map (·.1) := fun t hs => arity_add h h1 hs
      have hs' : ∃ v, getC (addC C s r) s = some v := by
        obtain ⟨v, hv⟩ := hs
        have := ha s ⟨v, hv⟩
        rw [hv] at this
        obtain ⟨u, hu, _⟩ := map_some this
        exact ⟨u, hu⟩
      obtain ⟨i1, i2⟩ := all_res (ok_add h s r) hs' h0
      refine ⟨fun t x => ?_, fun t => (i2 t).trans (ha t hs)⟩
      rw [i1 t x, rows_add h h1, List.mem_cons]
      constructor
      · rintro ((h2 | ⟨h2, h3⟩) | ⟨h2, h3⟩)
        · exact .inl h2
        · exact .inr ⟨h2, .inl h3⟩
        · exact .inr ⟨h2, .inr h3⟩
      · rintro (h2 | ⟨h2, h3 | h3⟩)
        · exact .inl (.inl h2)
        · exact .inl (.inr ⟨h2, h3⟩)
        · exact .inr ⟨h2, h3⟩
    · rename_i h1; exact absurd h0 h1
theorem all_in {s : ByteArray} {D : List CntZ} (hD : BaseOk D) : ∀ {rs : Rows2} {C : List CntZ}, BaseOk C → InC C D → (∃ v, getC C s = some v) → (∀ r ∈ rs, r ∈ rowsC D s) → (addAll C s rs).2 = 0 ∧ InC (addAll C s rs).1 D
  | [], C, h, hi, hs, hr => ⟨rfl, hi⟩
  | r :: rs, C, h, hi, hs, hr => by
    obtain ⟨h1, h2⟩ := add_ok hi h hD (hr r List.mem_cons_self) hs
    unfold addAll
    rw [if_pos h1]
    have ha := arity_add h h1 (t := s) hs
    have hs' : ∃ v, getC (addC C s r) s = some v := by
      obtain ⟨v, hv⟩ := hs
      rw [hv] at ha
      obtain ⟨u, hu, _⟩ := map_some ha
      exact ⟨u, hu⟩
    exact all_in hD (ok_add h s r) h2 hs' fun x hx => hr x (List.mem_cons_of_mem _ hx)
theorem from_res : ∀ {L : List RelZ} {C : List CntZ}, BaseOk C → (fromC C L).2 = 0 →
    (∀ t x, x ∈ rowsC (fromC C L).1 t ↔ x ∈ rowsC C t ∨ ∃ r ∈ L, r.1 = t ∧ x ∈ r.2.2.1) ∧ (∀ t v, getC C t = some v → ∃ LL, getC (fromC C L).1 t = some (v.1, LL)) ∧
      (∀ r ∈ L, 0 ≤ r.2.1 ∧ ∃ LL, getC (fromC C L).1 r.1 = some (r.2.1.toNat, LL)) ∧ ∀ t v, getC (fromC C L).1 t = some v → (∃ u, getC C t = some u) ∨ ∃ r ∈ L, r.1 = t
  | [], C, h, h0 => ⟨fun t x => by simp [fromC], fun t v hv => ⟨v.2, hv⟩, fun r hr => by simp at hr, fun t v hv => .inl ⟨v, hv⟩⟩
  | r :: L, C, h, h0 => by
    unfold fromC at h0 ⊢
    split at h0
    · rename_i h1
      rw [if_pos h1]
      split at h0
      · rename_i h2
        rw [if_pos h2]
        obtain ⟨LL, hg, ha0, ha1, hn⟩ := decl_ar h1
        obtain ⟨a1, a2⟩ := all_res (ok_decl h _ _) ⟨_, hg⟩ h2
        obtain ⟨i1, i2, i3, i4⟩ := from_res (ok_all (s := r.1) (rs := r.2.2.1) (ok_decl h r.1 r.2.1)) h0
        have hup : ∀ t v, getC (declC C r.1 r.2.1) t = some v → ∃ LL, getC (fromC (addAll (declC C r.1 r.2.1) r.1 r.2.2.1).1 L).1 t = some (v.1, LL) := fun t v hv => by
          have := a2 t
          rw [hv] at this
          obtain ⟨u, hu, e⟩ := map_some this
          obtain ⟨L2, h3⟩ := i2 t u hu
          exact ⟨L2, by rw [h3, e]⟩
        refine ⟨fun t x => ?_, fun t v hv => ?_, fun q hq => ?_, fun t v hv => ?_⟩
        · rw [i1 t x, a1 t x, rows_decl h1]
          constructor
          · rintro ((h3 | ⟨h3, h4⟩) | ⟨q, h3, h4⟩)
            · exact .inl h3
            · exact .inr ⟨r, List.mem_cons_self, h3, h4⟩
            · exact .inr ⟨q, List.mem_cons_of_mem _ h3, h4⟩
          · rintro (h3 | ⟨q, h3, h4, h5⟩)
            · exact .inl (.inl h3)
            · rcases List.mem_cons.1 h3 with rfl | h3
              · exact .inl (.inr ⟨h4, h5⟩)
              · exact .inr ⟨q, h3, h4, h5⟩
        · by_cases e : r.1 = t ∧ getC C r.1 = none
          · rw [← e.1, e.2] at hv; cases hv
          · exact hup t v (by rw [getC_decl h1, if_neg e]; exact hv)
        · rcases List.mem_cons.1 hq with rfl | hq
          · exact ⟨ha0, hup _ _ hg⟩
          · exact i3 q hq
        · rcases i4 t v hv with ⟨u, hu⟩ | ⟨q, hq, e⟩
          · have := a2 t
            rw [hu] at this
            obtain ⟨u2, hu2, _⟩ := map_some this.symm
            rw [getC_decl h1] at hu2
            split at hu2
            · rename_i e; exact .inr ⟨r, List.mem_cons_self, e.1⟩
            · exact .inl ⟨u2, hu2⟩
          · exact .inr ⟨q, List.mem_cons_of_mem _ hq, e⟩
      · rename_i h2; exact absurd h0 h2
    · rename_i h1; exact absurd h0 h1
theorem from_in {D : List CntZ} (hD : BaseOk D) : ∀ {L : List RelZ} {C : List CntZ}, BaseOk C → InC C D → (∀ r ∈ L, 0 ≤ r.2.1 ∧ (∃ LL, getC D r.1 = some (r.2.1.toNat, LL)) ∧ ∀ x ∈ r.2.2.1, x ∈ rowsC D r.1) → (fromC C L).2 = 0 ∧ InC (fromC C L).1 D
  | [], C, h, hi, hr => ⟨rfl, hi⟩
  | r :: L, C, h, hi, hr => by
    obtain ⟨h1, ⟨LL, h2⟩, h3⟩ := hr r List.mem_cons_self
    obtain ⟨d1, d2⟩ := decl_ok hi hD h2 h1
    obtain ⟨L2, hg, _⟩ := decl_ar d1
    obtain ⟨a1, a2⟩ := all_in hD (ok_decl h r.1 r.2.1) d2 ⟨_, hg⟩ h3
    unfold fromC
    rw [if_pos d1, if_pos a1]
    exact from_in hD (ok_all (ok_decl h _ _)) a2 fun x hx => hr x (List.mem_cons_of_mem _ hx)

/-- The same names, each with the same rows. -/
def SameC (C D : List CntZ) : Prop := ∀ s, getC C s = getC D s
/-- Names by their order. -/
def leN (a b : ByteArray) : Bool := !decide (cmpB b.toList a.toList < 0)
def cmpN (a b : ByteArray) : Int := cmpB a.toList b.toList
def namesC (C : List CntZ) : List ByteArray := (C.map (·.1)).mergeSort leN
def arC (C : List CntZ) (s : ByteArray) : Nat := match getC C s with | some v => v.1 | none => 0
def relOf (C : List CntZ) (s : ByteArray) : RelZ := (s, (arC C s : Int), rowsC C s, ())
/-- What is told of a base. -/
def relsC (C : List CntZ) : List RelZ := (namesC C).map (relOf C)
theorem cmpN_ord : OrdLaw cmpN := ⟨fun x y => by
  have := cmpB_swap x.toList y.toList
  unfold cmpN; omega, fun x y z => by
  intro h1 h2
  have := cmpRow_trans (xs := [x]) (ys := [y]) (zs := [z])
  have e : ∀ a b : ByteArray, cmpRow [a] [b] = cmpN a b := fun a b => by
    unfold cmpN
    simp only [cmpRow]
    split
    · rfl
    · rename_i h; rw [Classical.not_not.1 h]
  rw [e, e, e] at this
  exact this h1 h2⟩
theorem names_perm (C : List CntZ) : (namesC C).Perm (C.map (·.1)) := List.mergeSort_perm _ _
theorem names_mem {C : List CntZ} {s : ByteArray} : s ∈ namesC C ↔ ∃ v, getC C s = some v := by
  rw [(names_perm C).mem_iff]
  cases hg : getC C s with
  | none => exact ⟨fun h => absurd h (getC_none.1 hg), fun ⟨v, h⟩ => by cases h⟩
  | some v => exact ⟨fun _ => ⟨v, rfl⟩, fun _ => by
      by_cases h : s ∈ C.map (·.1)
      · exact h
      · rw [getC_none.2 h] at hg; cases hg⟩
theorem leN_trans (a b c : ByteArray) (h1 : leN a b = true) (h2 : leN b c = true) : leN a c = true := by
  unfold leN at *
  simp only [Bool.not_eq_true', decide_eq_false_iff_not] at *
  have s1 := cmpB_swap a.toList b.toList
  have s2 := cmpB_swap b.toList c.toList
  have s3 := cmpB_swap a.toList c.toList
  have := cmpN_ord.trans a b c (by show cmpB _ _ ≤ 0; omega) (by show cmpB _ _ ≤ 0; omega)
  have this' : cmpB a.toList c.toList ≤ 0 := this
  omega
theorem leN_total (a b : ByteArray) : (leN a b || leN b a) = true := by
  unfold leN
  have s1 := cmpB_swap a.toList b.toList
  rw [Bool.or_eq_true]
  by_cases h : cmpB b.toList a.toList < 0
  · right
    simp only [Bool.not_eq_true', decide_eq_false_iff_not]; omega
  · left; simpa using h
theorem names_strict {C : List CntZ} (h : (C.map (·.1)).Nodup) : Strict cmpN (namesC C) := by
  have h1 := List.pairwise_mergeSort (le := leN) leN_trans leN_total (C.map (·.1))
  have h2 : (namesC C).Nodup := (names_perm C).nodup_iff.2 h
  refine (List.Pairwise.and h1 h2).imp fun {a b} hab => ?_
  obtain ⟨h3, h4⟩ := hab
  unfold leN at h3
  simp only [Bool.not_eq_true', decide_eq_false_iff_not] at h3
  show cmpB a.toList b.toList < 0
  have s1 := cmpB_swap a.toList b.toList
  have hne : ¬ cmpB a.toList b.toList = 0 := fun e => h4 (toList_inj (cmpB_zero e))
  omega
theorem names_same {C D : List CntZ} (hC : (C.map (·.1)).Nodup) (hD : (D.map (·.1)).Nodup) (h : SameC C D) : namesC C = namesC D := (names_strict hC).unique cmpN_ord (names_strict hD) fun x => by
  rw [names_mem, names_mem, h x]
theorem rels_same {C D : List CntZ} (hC : (C.map (·.1)).Nodup) (hD : (D.map (·.1)).Nodup) (h : SameC C D) : relsC C = relsC D := by
  unfold relsC
  rw [names_same hC hD h]
  apply List.map_congr_left
  intro s _
  unfold relOf arC rowsC
  rw [h s]
theorem rels_mem {C : List CntZ} {r : RelZ} (h : r ∈ relsC C) : ∃ v, getC C r.1 = some v ∧ r.2.1 = (v.1 : Int) ∧ r.2.2.1 = v.2 := by
  obtain ⟨s, hs, rfl⟩ := List.mem_map.1 h
  obtain ⟨v, hv⟩ := names_mem.1 hs
  refine ⟨v, hv, ?_, ?_⟩
  · show ((arC C s : Nat) : Int) = _
    unfold arC; rw [hv]
  · exact rows_some hv
theorem perm_sum {l m : List Nat} (h : l.Perm m) : l.sum = m.sum := by
  induction h with
  | nil => rfl
  | cons x _ ih => rw [List.sum_cons, List.sum_cons, ih]
  | swap x y l => simp only [List.sum_cons]; omega
  | trans _ _ ih1 ih2 => exact ih1.trans ih2
theorem rels_total {C : List CntZ} (hC : BaseOk C) : ((relsC C).map fun r => r.2.2.1.length).sum = totalC C := by
  have h1 : ((relsC C).map fun r => r.2.2.1.length) = (namesC C).map fun s => (rowsC C s).length := by
    unfold relsC; rw [List.map_map]; rfl
  have h2 : ((C.map (·.1)).map fun s => (rowsC C s).length) = C.map fun p => p.2.2.length := by
    rw [List.map_map]
    apply List.map_congr_left
    intro p hp
    show (rowsC C p.1).length = _
    rw [rows_some ((getC_mem hC.nodup).2 (show (p.1, p.2) ∈ C from hp))]
  rw [h1, perm_sum ((names_perm C).map fun s => (rowsC C s).length), h2]; rfl
end Go.Proofs.YtfkhelihepbehaaGreat

/- tuple.Base: put, NewBase, Len. -/
namespace Go.Proofs.YtfkhelihepbehaaGreat
open Go.RowKit
set_option linter.unusedVariables false

section
variable {w w' : World} {bb r : Nat} {n : Int} {m : List (ByteArray × Value)}
theorem basePut_any (hB : Blk w bb [.map (some r), .int .i64 n] 65) (hm : MapIs w r m) (s : ByteArray) (p : Option Addr) :
    Calls Tryz.prog 100 #[.pointer (some ⟨bb, 0, none⟩), .string s, .pointer p] w (RetF (fun k => k = r) w fun w' v => MapIs w' r (putM m s (.pointer p))) := by
  have c0 : w.cell? ⟨bb, 0, none⟩ = some (.map (some r)) := by rw [hB.cell']; rfl
  obtain ⟨w2, hrun, hm2, hk2⟩ := run_update_str (P := Tryz.prog) Tryz.underlying63 Tryz.underlying9 hm s (.pointer p)
  have hq : ∀ w : World, (binOp .eql 63 (.map (some r)) (.map none)).run Tryz.prog w = .ok (.bool false) w := fun w => by kernel_rfl
  have HM := Lib.hid (And.intro hm2 hk2)
  clear hB hm hm2 hk2
  go_enter Tryz.func100, Tryz.ntmps100
  go_wp2
  go_end0
  exact RetF.mk HM.out.2 HM.out.1
theorem newBase_any (w : World) : Calls Tryz.prog 30 #[] w (RetN w fun w' v => v = .pointer (some ⟨w.heap.size + 1, 0, none⟩) ∧ Blk w' (w.heap.size + 1) [.map (some w.heap.size), .int .i64 0] 65 ∧ MapIs w' w.heap.size []) := by
  have hmm := @run_makeMap Tryz.prog
  go_enter Tryz.func30, Tryz.ntmps30
  go_wp2
  go_ret
  have hB := Blk.new (w.alloc (.map #[] 0)) [.map (some w.heap.size), .int .i64 0] 65
  rw [alloc_size] at hB
  exact RetN.mk (((Kp.refl w).alloc _).alloc _) ⟨rfl, hB, (MapIs.new w).ext ((Kp.refl _).alloc _)⟩
theorem baseLen_nil (w : World) : Calls Tryz.prog 29 #[.pointer none] w (Ret (.int .i64 0) w) := by
  go_enter Tryz.func29, Tryz.ntmps29
  go_wp2
  go_ret
  exact Ret.mk rfl
end
end Go.Proofs.YtfkhelihepbehaaGreat

/- tuple.Rows whose order may still be nil (a zero value): set lays it; Len, Has, Below, At, Arity, Drop. -/
namespace Go.Proofs.YtfkhelihepbehaaGreat
open Go.RowKit
set_option linter.unusedVariables false

/-- Rows in memory; where z, they may be a zero value still. -/
def RowsQ (z : Prop) (S : Nat → Prop) (w : World) (b : Nat) (iv : Value) (arity : Nat) (LL : List (List ByteArray)) : Prop :=
  RowsAt S w b iv arity LL ∨ (z ∧ iv = .slice none 0 0 ∧ LL = [] ∧ Blk w b [.nilFunc, .slice none 0 0, .int .i64 arity] 98 ∧ (∀ k, S k → k < w.heap.size) ∧ ¬ S b)
/-- What turns when the order is laid. -/
abbrev FQ (z : Prop) (b : Nat) : Nat → Prop := fun k => z ∧ k = b
theorem FQ.owns {z : Prop} {b : Nat} {iv : Value} : ∀ k, FQ z b k → Owns b iv k := fun k h => .inl h.2
theorem Kp.fq {b : Nat} {w w' : World} (h : Kp (FQ False b) w w') : Ext w w' := h.mono fun _ _ h => h.1

section
variable {z : Prop} {S : Nat → Prop} {w w' : World} {b : Nat} {iv : Value} {arity : Nat} {LL : List (List ByteArray)}
theorem RowsAt.q (h : RowsAt S w b iv arity LL) : RowsQ z S w b iv arity LL := .inl h
theorem RowsQ.kp {F : Nat → Prop} (h : RowsQ z S w b iv arity LL) (hk : Kp F w w') (hF : ∀ k, F k → ¬ Owns b iv k) (hS : ∀ k, F k → ¬ S k) : RowsQ z S w' b iv arity LL := by
  rcases h with h | ⟨hz, e, el, hB, h1, h2⟩
  · exact .inl (h.move hk hF hS (fun _ h => h) (fun k hk' => Nat.lt_of_lt_of_le (h.inS k hk') hk.size) h.notS)
  · exact .inr ⟨hz, e, el, hB.kp hk (fun hf => hF _ hf (.inl rfl)), fun k hk' => Nat.lt_of_lt_of_le (h1 k hk') hk.size, h2⟩
theorem RowsQ.ext (h : RowsQ z S w b iv arity LL) (hk : Ext w w') : RowsQ z S w' b iv arity LL := h.kp hk (fun _ x => x.elim) (fun _ x => x.elim)
theorem RowsQ.blk' (h : RowsQ z S w b iv arity LL) : ∃ ov, Blk w b [ov, iv, .int .i64 arity] 98 := by
  rcases h with h | ⟨_, e, _, hB, _⟩
  · exact ⟨_, h.blk⟩
  · exact ⟨_, by rw [e]; exact hB⟩
theorem RowsQ.lt (h : RowsQ z S w b iv arity LL) : b < w.heap.size := by obtain ⟨ov, h⟩ := h.blk'; exact h.lt
theorem RowsQ.ar (h : RowsQ z S w b iv arity LL) : w.cell? ⟨b, 2, none⟩ = some (.int .i64 arity) := by obtain ⟨ov, h⟩ := h.blk'; rw [h.cell']; rfl
theorem RowsQ.inS (h : RowsQ z S w b iv arity LL) : ∀ k, S k → k < w.heap.size := by
  rcases h with h | ⟨_, _, _, _, h, _⟩
  · exact h.inS
  · exact h
theorem RowsQ.notS (h : RowsQ z S w b iv arity LL) : ∀ k, Owns b iv k → ¬ S k := by
  rcases h with h | ⟨_, rfl, _, _, _, h⟩
  · exact h.notS
  · intro k hk hs
    rcases hk with rfl | hk
    · exact h hs
    · cases hk

theorem rowsSet_q (h : RowsQ z S w b iv arity LL) :
    Calls Tryz.prog 110 #[.pointer (some ⟨b, 0, none⟩)] w (RetF (FQ z b) w fun w' v => v = .pointer (some ⟨b, 0, none⟩) ∧ RowsAt S w' b iv arity LL) := by
  rcases h with h | ⟨hz, rfl, rfl, hB, h1, h2⟩
  · refine (rowsSet_any h).mono ?_
    rintro e w' ⟨rfl, rfl⟩
    exact RetF.mk (Kp.refl _) ⟨rfl, h⟩
  · have c0 : w.cell? ⟨b, 0, none⟩ = some .nilFunc := by rw [hB.cell']; rfl
    have f0 := hB.free 0
    have hq : ∀ w : World, (binOp .eql 79 .nilFunc .nilFunc).run Tryz.prog w = .ok (.bool true) w := fun _ => by kernel_rfl
    have HB := Lib.hid (And.intro hB (And.intro h1 h2))
    have HZ := Lib.hid hz
    clear hB h1 h2 hz
    go_enter Tryz.func110, Tryz.ntmps110
    go_wp2
    go_ret
    obtain ⟨hB, h1, h2⟩ := HB.out
    have hset := hB.set 0 (.func (Fn.func 41) #[] #[])
    have hk : Kp (FQ z b) w (w.setCell ⟨b, 0, none⟩ (.func (Fn.func 41) #[] #[])) := Kp.setCell (Kp.refl w) (fun _ => ⟨HZ.out, rfl⟩) _
    obtain ⟨con, hc⟩ := con_ex (w.setCell ⟨b, 0, none⟩ (.func (Fn.func 41) #[] #[]))
    refine RetF.mk hk ⟨rfl, con, [], hc, ⟨hset, Row.nil _ _ _ _, by simp [Value.ownBlock], fun k hk' => Nat.lt_of_lt_of_le (h1 k hk') hk.size, fun k ho hs => ?_, rows_ord hc, by simp, by simp⟩, rfl⟩
    rcases ho with rfl | ho
    · exact h2 hs
    · cases ho

theorem rowsLen_q (h : RowsQ z S w b iv arity LL) : Calls Tryz.prog 124 #[.pointer (some ⟨b, 0, none⟩)] w (RetF (FQ z b) w fun w' v => v = .int .i64 (LL.length : Nat) ∧ RowsAt S w' b iv arity LL) := by
  have HS := Lib.hid (rowsSet_q h); clear h
  go_enter Tryz.func124, Tryz.ntmps124
  go_wp2_with fail
  refine HS.out.mono ?_
  rintro e w1 ⟨v, rfl, hk, rfl, h1⟩
  have HK := Lib.hid (And.intro hk h1)
  obtain ⟨con, zs, hc, hs, hl⟩ := h1
  have HS1 := Lib.hid hs
  have HL := Lib.hid (show zs.length = LL.length by rw [← hl]; simp)
  clear hk hs hc hl
  go_wp2_with fail
  refine (setLenRow_any HS1.out).mono ?_
  rintro e w' ⟨rfl, rfl⟩
  go_wp2
  go_ret
  exact RetF.mk HK.out.1 ⟨by rw [← HL.out]; rfl, HK.out.2⟩
/-- A row that lies off what may turn. -/
theorem RowIn.kp {F : Nat → Prop} {x : RowZ} {ss : List ByteArray} (h : RowIn w x ss) (hk : Kp F w w') (ho : RowOff x F) : RowIn w' x ss :=
  ⟨⟨h.1.1, h.1.2.kp hk ho⟩, h.2.1, fun a e => Nat.lt_of_lt_of_le (h.2.2 a e) hk.size⟩

theorem rowsHas_q (h : RowsQ z S w b iv arity LL) (hst : Strict cmpRow LL) {x : RowZ} {ss : List ByteArray} (hx : RowIn w x ss) (ho : RowOff x (Owns b iv)) :
    Calls Tryz.prog 99 #[.pointer (some ⟨b, 0, none⟩), .slice x.1 x.2.1 x.2.2] w (RetF (FQ z b) w fun w' v => v = .bool (isIn cmpRow LL ss) ∧ RowsAt S w' b iv arity LL) := by
  have HS := Lib.hid (rowsSet_q h); clear h
  have HX := Lib.hid (And.intro hst (And.intro hx ho)); clear hst hx ho
  go_enter Tryz.func99, Tryz.ntmps99
  go_wp2_with fail
  refine HS.out.mono ?_
  rintro e w1 ⟨v, rfl, hk, rfl, h1⟩
  have hx1 := HX.out.2.1.kp hk (fun a e hf => HX.out.2.2 a e (.inl hf.2))
  obtain ⟨con, zs, hc, hs, hl, hd, ex, hz, e1, e2⟩ := h1.open HX.out.1 hx1 HX.out.2.2
  have HF := Lib.hid (setHasRow_any (cmpRow_law con) x hd hz hs)
  rw [e1] at HF
  have HK := Lib.hid (And.intro hk h1)
  clear hc hs hl hd ex hz e1 e2 hk h1 hx1
  go_wp2_with fail
  refine HF.out.mono ?_
  rintro e w2 ⟨v, rfl, hk2, rfl⟩
  have HK2 := Lib.hid hk2; clear hk2
  go_wp2
  go_ret
  exact RetF.mk (HK.out.1.ext HK2.out) ⟨rfl, HK.out.2.ext HK2.out⟩
theorem rowsHas_nil (v : Value) (w : World) : Calls Tryz.prog 99 #[.pointer none, v] w (Ret (.bool false) w) := by
  go_enter Tryz.func99, Tryz.ntmps99
  go_wp2_with fail
  refine (rowsSet_nil w).mono ?_
  rintro e w' ⟨rfl, rfl⟩
  go_wp2_with fail
  refine (setHasRow_nil v w).mono ?_
  rintro e w' ⟨rfl, rfl⟩
  go_wp2
  go_ret
  exact Ret.mk rfl
theorem rowsArity_nil (w : World) : Calls Tryz.prog 86 #[.pointer none] w (Ret (.int .i64 0) w) := by
  go_enter Tryz.func86, Tryz.ntmps86
  go_wp2
  go_ret
  exact Ret.mk rfl
theorem rowsArity_q (h : RowsQ z S w b iv arity LL) : Calls Tryz.prog 86 #[.pointer (some ⟨b, 0, none⟩)] w (Ret (.int .i64 arity) w) := by
  have c2 := h.ar
  clear h
  go_enter Tryz.func86, Tryz.ntmps86
  go_wp2
  go_ret
  exact Ret.mk rfl

/-- What Drop answers, and leaves. -/
def rowsDropR (arity : Nat) (LL : List (List ByteArray)) (ss : List ByteArray) : Bool × Nat := if ss.length ≠ arity then (false, 30) else (isIn cmpRow LL ss, 0)
def rowsDropL (arity : Nat) (LL : List (List ByteArray)) (ss : List ByteArray) : List (List ByteArray) := if ss.length ≠ arity then LL else dropS cmpRow LL ss
theorem dropS_map {α β : Type} {c : α → α → Int} (f : β → α) (L : List β) (i : β) : dropS c (L.map f) (f i) = (dropS (fun i j => c (f i) (f j)) L i).map f := by
  have e1 : isIn c (L.map f) (f i) = isIn (fun i j => c (f i) (f j)) L i := by simp [isIn, List.any_map, Function.comp_def]
  have e2 : below c (L.map f) (f i) = below (fun i j => c (f i) (f j)) L i := by simp [below, List.filter_map, Function.comp_def]
  unfold dropS
  rw [e1, e2]
  split <;> simp
end
end Go.Proofs.YtfkhelihepbehaaGreat

/- tuple.Rows whose order may still be nil: Add. -/
namespace Go.Proofs.YtfkhelihepbehaaGreat
open Go.RowKit
set_option linter.unusedVariables false

section
variable {z : Prop} {S : Nat → Prop} {w w' : World} {b : Nat} {iv : Value} {arity : Nat} {LL : List (List ByteArray)}
theorem rowsAdd_nil (v : Value) (w : World) : Calls Tryz.prog 87 #[.pointer none, v] w (Ret (.tuple #[.bool false, .int .i64 1]) w) := by
  go_enter Tryz.func87, Tryz.ntmps87
  go_wp2
  go_ret2
  exact Ret.mk rfl

end
end Go.Proofs.YtfkhelihepbehaaGreat

/- tuple.Rows whose order may still be nil: At. -/
namespace Go.Proofs.YtfkhelihepbehaaGreat
open Go.RowKit
set_option linter.unusedVariables false

section
variable {z : Prop} {S : Nat → Prop} {w w' : World} {b : Nat} {iv : Value} {arity : Nat} {LL : List (List ByteArray)}

/-- A row of one's own. -/
def OwnRow (w0 w : World) (v : Value) (ss : List ByteArray) : Prop := Row w 9 1 v ss.length (strs ss) (New w0)

end
end Go.Proofs.YtfkhelihepbehaaGreat

/- Lists of rows in memory: such as can be read; such as are one's own. -/
namespace Go.Proofs.YtfkhelihepbehaaGreat
open Go.RowKit
set_option linter.unusedVariables false

/-- A row in memory, and its texts. -/
abbrev RowP := RowZ × List ByteArray
/-- The rows' values. -/
def rowVs (ps : List RowP) : List Value := ps.map fun p => .slice p.1.1 p.1.2.1 p.1.2.2
theorem rowVs_len (ps : List RowP) : (rowVs ps).length = ps.length := by simp [rowVs]
theorem rowVs_one (ps : List RowP) : ∀ u ∈ rowVs ps, u.oneCell' = true := by intro u hu; obtain ⟨x, _, rfl⟩ := List.mem_map.1 hu; rfl
theorem rowVs_get (ps : List RowP) (k : Nat) (p : RowP) (h : ps[k]? = some p) : (rowVs ps)[k]? = some (.slice p.1.1 p.1.2.1 p.1.2.2) := by simp [rowVs, h]
theorem rowVs_append (ps qs : List RowP) : rowVs (ps ++ qs) = rowVs ps ++ rowVs qs := by simp [rowVs]

/-- Rows that lie from an address on, in blocks of S, their texts too. -/
def RowsIn (S : Nat → Prop) (w : World) (ao : Option Addr) (LL : List (List ByteArray)) : Prop :=
  ∃ ps : List RowP, LL = ps.map Prod.snd ∧ CellsAt w ao (rowVs ps) ∧ (∀ a, ao = some a → S a.block) ∧
    ∀ p ∈ ps, ReadsAs w p.1 p.2 ∧ p.2.length ≤ 8796093021952 ∧ ∀ a, p.1.1 = some a → S a.block
/-- Rows of one's own: all blocks since lo, no block of two rows. -/
def OwnRows (lo : Nat) (w : World) (v : Value) (LL : List (List ByteArray)) : Prop :=
  ∃ ps : List RowP, LL = ps.map Prod.snd ∧ Row w 29 1 v ps.length (rowVs ps) (fun g => lo ≤ g) ∧
    (∀ p ∈ ps, Row w 9 1 (.slice p.1.1 p.1.2.1 p.1.2.2) p.2.length (strs p.2) (fun g => lo ≤ g) ∧ p.2.length ≤ 8796093021952) ∧
    ps.Pairwise fun p q => ∀ g, (Value.slice p.1.1 p.1.2.1 p.1.2.2).ownBlock = some g → (Value.slice q.1.1 q.1.2.1 q.1.2.2).ownBlock ≠ some g

section
variable {S S' : Nat → Prop} {w w' : World} {ao : Option Addr} {LL : List (List ByteArray)} {v : Value} {lo : Nat}
theorem RowsIn.nil (S : Nat → Prop) (w : World) : RowsIn S w none [] := ⟨[], rfl, CellsAt.nil _ _, fun a e => (by cases e), by simp⟩
theorem RowsIn.kp {F : Nat → Prop} (h : RowsIn S w ao LL) (hk : Kp F w w') (hF : ∀ k, F k → ¬ S k) : RowsIn S w' ao LL := by
  obtain ⟨ps, h1, h2, h3, h4⟩ := h
  exact ⟨ps, h1, h2.kp hk (fun a e hf => hF _ hf (h3 a e)), h3, fun p hp => ⟨⟨(h4 p hp).1.1, (h4 p hp).1.2.kp hk (fun a e hf => hF _ hf ((h4 p hp).2.2 a e))⟩, (h4 p hp).2⟩⟩
theorem RowsIn.ext (h : RowsIn S w ao LL) (hk : Ext w w') : RowsIn S w' ao LL := h.kp hk fun _ x => x.elim
theorem RowsIn.mono (h : RowsIn S w ao LL) (hs : ∀ k, S k → S' k) : RowsIn S' w ao LL := by
  obtain ⟨ps, h1, h2, h3, h4⟩ := h
  exact ⟨ps, h1, h2, fun a e => hs _ (h3 a e), fun p hp => ⟨(h4 p hp).1, (h4 p hp).2.1, fun a e => hs _ ((h4 p hp).2.2 a e)⟩⟩
/-- One of the rows. -/
theorem RowsIn.get (h : RowsIn S w ao LL) {k : Nat} {ss : List ByteArray} (hk : LL[k]? = some ss) :
    ∃ g o x cap, ao = some ⟨g, o, none⟩ ∧ w.cell? ⟨g, o + k, none⟩ = some (.slice x ss.length cap) ∧ CellsAt w x (strs ss) ∧ ss.length ≤ 8796093021952 ∧ ∀ a, x = some a → S a.block := by
  obtain ⟨ps, rfl, h2, h3, h4⟩ := h
  rw [List.getElem?_map] at hk
  cases hp : ps[k]? with
  | none => rw [hp] at hk; cases hk
  | some p =>
    rw [hp] at hk; cases hk
    obtain ⟨g, o, e, c⟩ := h2 k _ (rowVs_get ps k p hp)
    obtain ⟨⟨h5, h6⟩, h7, h8⟩ := h4 p (List.mem_of_getElem? hp)
    exact ⟨g, o, p.1.1, p.1.2.2, e, by rw [c, h5], h6, h7, h8⟩
theorem Row.has {e : TypeId} {k : Nat} {n : Nat} {xs : List Value} {M : Nat → Prop} (h : Row w e k v n xs M) {g : Nat} (hg : v.ownBlock = some g) : ∃ cs, Blk w g cs e ∧ n * k ≤ cs.length ∧ M g := by
  obtain ⟨h1, ⟨rfl, rfl⟩ | ⟨g', cap, rest, rfl, b, c, d, e, f⟩⟩ := h
  · cases hg
  · cases hg
    exact ⟨_, c, by simp at d ⊢; omega, b⟩
theorem Row.sort_ne {e e' : TypeId} {k k' : Nat} {n n' : Nat} {xs xs' : List Value} {M M' : Nat → Prop} {v' : Value} (h : Row w e k v n xs M) (h' : Row w e' k' v' n' xs' M') (he : e ≠ e') {g : Nat} (hg : v.ownBlock = some g) : v'.ownBlock ≠ some g := by
  intro hg'
  obtain ⟨cs, hb, _⟩ := h.has hg
  obtain ⟨cs', hb', _⟩ := h'.has hg'
  unfold Blk at hb hb'
  rw [hb] at hb'
  simp only [Option.some.injEq, Obj.cells.injEq] at hb'
  exact he hb'.2.1

theorem OwnRows.nil (lo : Nat) (w : World) : OwnRows lo w (.slice none 0 0) [] := ⟨[], rfl, Row.nil _ _ _ _, by simp, List.Pairwise.nil⟩
theorem OwnRows.kp {F : Nat → Prop} (h : OwnRows lo w v LL) (hk : Kp F w w') (hF : ∀ g, lo ≤ g → ¬ F g) : OwnRows lo w' v LL := by
  obtain ⟨ps, h1, h2, h3, h4⟩ := h
  exact ⟨ps, h1, h2.kp hk hF, fun p hp => ⟨(h3 p hp).1.kp hk hF, (h3 p hp).2⟩, h4⟩
theorem OwnRows.ext (h : OwnRows lo w v LL) (hk : Ext w w') : OwnRows lo w' v LL := h.kp hk fun _ _ => id
theorem OwnRows.mono {lo' : Nat} (h : OwnRows lo w v LL) (hl : lo' ≤ lo) : OwnRows lo' w v LL := by
  obtain ⟨ps, h1, h2, h3, h4⟩ := h
  exact ⟨ps, h1, Row.mono h2 fun g hg => Nat.le_trans hl hg, fun p hp => ⟨Row.mono (h3 p hp).1 fun g hg => Nat.le_trans hl hg, (h3 p hp).2⟩, h4⟩
theorem Row.readsAs {e : TypeId} {x : RowZ} {ss : List ByteArray} {M : Nat → Prop} (h : Row w e 1 (.slice x.1 x.2.1 x.2.2) ss.length (strs ss) M) : ReadsAs w x ss ∧ ∀ a, x.1 = some a → M a.block ∧ a.block < w.heap.size := by
  have hb := h.block
  have hl := h.lt
  obtain ⟨ao, cap, e, hc, _⟩ := h.shape
  obtain ⟨x1, x2, x3⟩ := x
  simp only [Value.slice.injEq] at e
  obtain ⟨rfl, e2, rfl⟩ := e
  refine ⟨⟨e2, hc⟩, fun a ea => ?_⟩
  simp only at ea
  subst ea
  exact ⟨hb a.block rfl, hl a.block rfl⟩
theorem OwnRows.shape (h : OwnRows lo w v LL) : ∃ ao cap, v = .slice ao LL.length cap ∧ RowsIn (fun g => lo ≤ g ∧ g < w.heap.size) w ao LL := by
  obtain ⟨ps, rfl, h2, h3, h4⟩ := h
  have hb := h2.block
  have hl := h2.lt
  obtain ⟨ao, cap, rfl, hc, _⟩ := h2.shape
  refine ⟨ao, cap, by simp, ps, rfl, hc, fun a e => ?_, fun p hp => ?_⟩
  · subst e; exact ⟨hb a.block rfl, hl a.block rfl⟩
  · obtain ⟨h5, h6⟩ := h3 p hp
    exact ⟨h5.readsAs.1, h6, fun a e => h5.readsAs.2 a e⟩
theorem OwnRows.lt (h : OwnRows lo w v LL) : ∀ g, v.ownBlock = some g → lo ≤ g ∧ g < w.heap.size := by
  obtain ⟨ps, rfl, h2, h3, h4⟩ := h
  exact fun g hg => ⟨h2.block g hg, h2.lt g hg⟩
/-- One more row behind them. -/
theorem OwnRows.push {ps : List RowP} (h2 : Row w 29 1 v ps.length (rowVs ps) (fun g => lo ≤ g))
    (h3 : ∀ p ∈ ps, Row w 9 1 (.slice p.1.1 p.1.2.1 p.1.2.2) p.2.length (strs p.2) (fun g => lo ≤ g) ∧ p.2.length ≤ 8796093021952)
    (h4 : ps.Pairwise fun p q => ∀ g, (Value.slice p.1.1 p.1.2.1 p.1.2.2).ownBlock = some g → (Value.slice q.1.1 q.1.2.1 q.1.2.2).ownBlock ≠ some g)
    {B : Nat} (hB : ∀ p ∈ ps, ∀ g, (Value.slice p.1.1 p.1.2.1 p.1.2.2).ownBlock = some g → g < B) (hlo : lo ≤ B) {x : RowZ} {ss : List ByteArray} (hx : Row w 9 1 (.slice x.1 x.2.1 x.2.2) ss.length (strs ss) (fun g => B ≤ g)) (hss : ss.length ≤ 8796093021952)
    {v' : Value} (hr : Row w' 29 1 v' (ps.length + 1) (rowVs ps ++ [.slice x.1 x.2.1 x.2.2]) (fun g => lo ≤ g)) (hk : Kp (fun g => v.ownBlock = some g) w w') : OwnRows lo w' v' (ps.map Prod.snd ++ [ss]) := by
  have hne : 9 ≠ 29 := by decide
  refine ⟨ps ++ [(x, ss)], by simp, ?_, fun p hp => ?_, ?_⟩
  · rw [rowVs_append]; simpa [rowVs] using hr
  · rcases List.mem_append.1 hp with hp | hp
    · exact ⟨(h3 p hp).1.kp' hk fun g hg _ hf => (h3 p hp).1.sort_ne h2 hne hg hf, (h3 p hp).2⟩
    · obtain rfl := List.mem_singleton.1 hp
      exact ⟨Row.mono (hx.kp' hk fun g hg _ hf => hx.sort_ne h2 hne hg hf) fun g hg => Nat.le_trans hlo hg, hss⟩
  · refine List.pairwise_append.2 ⟨h4, List.pairwise_singleton _ _, fun p hp q hq g hg hg' => ?_⟩
    obtain rfl := List.mem_singleton.1 hq
    have h1 := hB p hp g hg
    have h2 : B ≤ g := hx.block g hg'
    omega
end
end Go.Proofs.YtfkhelihepbehaaGreat

/- tuple.Rows: All: the rows, each in memory of its own. -/
namespace Go.Proofs.YtfkhelihepbehaaGreat
open Go.RowKit Go.Shelf
set_option linter.unusedVariables false
attribute [local go_sem] Oper.semAt_some

/-- What has been gathered between two rounds: a box with rows of its own. -/
def GotRows {α : Type} (f : α → List ByteArray) (m : Nat) (w0 : World) (b : Nat) (pre : List α) (W : World) : Prop :=
  pre.length ≤ m ∧ Kp (fun g => g = b) w0 W ∧ ∃ v, Blk W b [v] 22 ∧ OwnRows w0.heap.size W v (pre.map f)
theorem OwnRows.grown {lo : Nat} {W W' : World} {v : Value} {LL : List (List ByteArray)} {row : Option Nat} (h : OwnRows lo W v LL) (hg : W.grownBy W' row) (hr : ∀ r, row = some r → ∃ o : Obj, W.heap[r]? = some o ∧ o.isCells = false) : OwnRows lo W' v LL := by
  obtain ⟨ps, h1, h2, h3, h4⟩ := h
  exact ⟨ps, h1, h2.grown hg hr, fun p hp => ⟨(h3 p hp).1.grown hg hr, (h3 p hp).2⟩, h4⟩
theorem OwnRows.kpc {F : Nat → Prop} {lo : Nat} {w w' : World} {v : Value} {LL : List (List ByteArray)} (h : OwnRows lo w v LL) (hk : Kp F w w') (hF : ∀ g, F g → ¬ ∃ o : Obj, w.heap[g]? = some o ∧ o.isCells = true) : OwnRows lo w' v LL := by
  obtain ⟨ps, h1, h2, h3, h4⟩ := h
  have key : ∀ {e : TypeId} {k n : Nat} {v : Value} {xs : List Value} {M : Nat → Prop}, Row w e k v n xs M → Row w' e k v n xs M := fun h => h.kp' hk fun g hg _ hf => by
    obtain ⟨cs, hb, _⟩ := h.has hg
    exact hF g hf ⟨_, hb, rfl⟩
  exact ⟨ps, h1, key h2, fun p hp => ⟨key (h3 p hp).1, (h3 p hp).2⟩, h4⟩
theorem GotRows.own {α : Type} {f : α → List ByteArray} {m : Nat} {w0 : World} {b B : Nat} (hB : w0.heap.size ≤ B) : OwnFrom B (GotRows f m w0 b) := fun pre W W' row hs hg hr => by
  obtain ⟨h1, h2, v, h3, h4⟩ := hs
  refine ⟨h1, h2.grown hg fun k e hk => ?_, v, h3.grown hg fun r e => (hr r e).2, h4.grown hg fun r e => (hr r e).2⟩
  have := (hr k e).1
  omega

theorem KeepsOthers.of_ext {W W' : World} (h : Ext W W') : KeepsOthers W W' := ⟨h.size, fun k o hk _ => (h.block k (lt_of_block hk) id).trans hk⟩
/-- A row more, that was copied: the append and the store of a round. -/
theorem gotRows_app {α : Type} {f : α → List ByteArray} {m : Nat} {w0 X X1 : World} {B : Nat} {ao : Option Addr} {n cap : Nat} {pre : List α} {x : RowZ} {ss : List ByteArray} (hm : pre.length ≤ m ∧ m ≤ 1048576 * 1048576) (hpk : Kp (fun g => g = B) w0 X) (hBlt : B < w0.heap.size)
    (hB : Blk X B [.slice ao n cap] 22) (hr : OwnRows w0.heap.size X (.slice ao n cap) (pre.map f)) (hk : Ext X X1) (hx : Row X1 9 1 (.slice x.1 x.2.1 x.2.2) ss.length (strs ss) (New X)) (hss : ss.length ≤ 8796093021952) :
    ∃ ao3 n3 cap3 w3, (Builtin.append_ #[22, 22] 22 #[.slice ao n cap, .slice (some ⟨X1.heap.size, 0, none⟩) 1 1]).run Tryz.prog (X1.alloc (.cells #[.slice x.1 x.2.1 x.2.2] 29)) = .ok (.slice ao3 n3 cap3) w3 ∧
      w3.cell? ⟨B, 0, none⟩ = some (.slice ao n cap) ∧ w3.frozen? ⟨B, 0, none⟩ = false ∧ ∀ y, f y = ss → KeepsOthers X (w3.setCell ⟨B, 0, none⟩ (.slice ao3 n3 cap3)) ∧ Kp (fun g => g = B ∨ w0.heap.size ≤ g) X (w3.setCell ⟨B, 0, none⟩ (.slice ao3 n3 cap3)) ∧
        Kp (fun g => g = B) w0 (w3.setCell ⟨B, 0, none⟩ (.slice ao3 n3 cap3)) ∧ ∃ v, Blk (w3.setCell ⟨B, 0, none⟩ (.slice ao3 n3 cap3)) B [v] 22 ∧ OwnRows w0.heap.size (w3.setCell ⟨B, 0, none⟩ (.slice ao3 n3 cap3)) v ((pre ++ [y]).map f) := by
  obtain ⟨ps, e1, h2, h3, h4⟩ := hr
  have hlen : ps.length = pre.length := by have := congrArg List.length e1; simpa using this.symm
  obtain ⟨w2, ew2⟩ : ∃ w2, X1.alloc (.cells #[.slice x.1 x.2.1 x.2.2] 29) = w2 := ⟨_, rfl⟩
  have hk2 : Ext X w2 := by rw [← ew2]; exact hk.alloc _
  have hx2 : Row w2 9 1 (.slice x.1 x.2.1 x.2.2) ss.length (strs ss) (New X) := by rw [← ew2]; exact hx.alloc _
  have hsrc : CellsAt w2 (some ⟨X1.heap.size, 0, none⟩) [.slice x.1 x.2.1 x.2.2] := by rw [← ew2]; exact CellsAt.one X1 _ _
  have h2' := h2.ext hk2
  obtain ⟨v3, w3, hrun, hr3, hk3, _⟩ := run_app (P := Tryz.prog) elemRow 22 h2' (m := 1) (c := 1) rfl hsrc (by simp; rfl) (by omega) (by unfold maxLen; omega)
  obtain ⟨ao3, cap3, ev, _, _⟩ := hr3.shape
  subst ev
  have hBne : (Value.slice ao n cap).ownBlock ≠ some B := fun e => by have := h2.block B e; omega
  have hB3 : Blk w3 B [.slice ao n cap] 22 := (hB.ext hk2).kp hk3 hBne
  have hsz0 := hpk.size
  refine ⟨ao3, _, cap3, w3, by rw [ew2]; exact hrun, by rw [hB3.cell']; rfl, hB3.free 0, fun y hy => ?_⟩
  have hko : KeepsOthers w2 w3 := ⟨hk3.size, fun k o hk' ho => (hk3.block k (lt_of_block hk') (fun hg => by
    obtain ⟨cs, hb, _⟩ := h2'.has hg
    unfold Blk at hb
    rw [hb] at hk'; cases hk'; cases ho)).trans hk'⟩
  have kX : Kp (fun g => g = B ∨ w0.heap.size ≤ g) X w3 := (Ext.kp hk2).trans (hk3.mono fun g _ hg => .inr (h2.block g hg))
  have k0 : Kp (fun g => g = B) w0 w3 := hpk.trans' kX fun i hi hg => by rcases hg with hg | hg; exact hg; omega
  refine ⟨((KeepsOthers.of_ext hk2).trans hko).trans (KeepsOthers.setCell _ _ _), kX.setCell (fun _ => .inl rfl) _, k0.setCell (fun _ => rfl) _, _, hB3.set 0 _, ?_⟩
  have hown : OwnRows w0.heap.size w3 (.slice ao3 (ps.length + 1) cap3) (ps.map Prod.snd ++ [ss]) :=
    OwnRows.push h2' (fun p hp => ⟨(h3 p hp).1.ext hk2, (h3 p hp).2⟩) h4 (B := X.heap.size) (fun p hp g hg => (h3 p hp).1.lt g hg) hsz0 hx2 hss
      (hr3.mono fun g hg => by rcases hg with hg | hg; exact h2.block g hg; exact Nat.le_trans hsz0 (Nat.le_trans hk2.size hg)) hk3
  rw [List.map_append, List.map_singleton, hy, e1]
  exact hown.kp (Kp.setCell (F := fun g => g = B) (Kp.refl _) (fun _ => rfl) _) fun g hg e => by omega

/-- An append in a region, inside a fence. -/
theorem stepIn_app {F : Fence} {n : Nat} {P : Program} {o : Oper} {a : Act} {w w' : World} {K : Act → World → Prop} {Q : Exit → Act → World → Prop} {b : Bool} {p : Prop} [Decidable (b = true)] (s x : Operand) {t : TypeId} {v vx v' : Value}
    (ho : o.op = .call { callee := .builtin .append, args := #[s, x], argTypes := #[t, t] }) (hs : a.eval s = v) (hx : a.eval x = vx) (hb : b = true) (hrun : (Builtin.append_ #[t, t] o.type #[v, vx]).run P w = .ok v' w') (hK : K (a.put o.dst v') w') : if b = true then Oper.wpIn F n P o a w K Q else p := by
  rw [if_pos hb]
  unfold Oper.wpIn
  refine ⟨by simp [Oper.about, ho, resolve, Target.leads, Sem.run_pure], ?_⟩
  rw [Oper.semAt_plain F _ _ (by rw [ho]; intro c hc'; cases hc')]
  simp only [execOp, ho, resolve, invoke, builtin, Sem.run_bind, Sem.run_pure, Result.andThen_ok, List.map_toArray, List.map_cons, List.map_nil, hs, hx, hrun]
  exact hK
theorem rowsAll_ret {F : Nat → Prop} {w W : World} {P : World → Value → Prop} {tmps : Array Value} {ds : List Deferred} {lo : Nat} (hm : Marks lo W ds) (hk : Kp F w W) (hlo : w.heap.size ≤ lo) {v : Value} (ht : tmps.getD 2 undef = v)
    (hP : ∀ w', Kp (fun k => lo ≤ k ∧ ¬ ∃ o : Obj, W.heap[k]? = some o ∧ o.isCells = true) W w' → P w' v) :
    bodyPostM Fence.wide 4 Tryz.prog Tryz.f59 (RetF F w P) .ret { tmps := tmps, defers := ds } W := by
  refine leaves_marks hm fun w' e1 e2 e3 e4 e5 e6 => ?_
  have kx : Kp (fun k => lo ≤ k ∧ ¬ ∃ o : Obj, W.heap[k]? = some o ∧ o.isCells = true) W w' := ⟨e1, e2, e3, by omega, fun k hk hf => by
    by_cases h : lo ≤ k
    · by_cases h2 : ∃ o : Obj, W.heap[k]? = some o ∧ o.isCells = true
      · obtain ⟨o, h2, h3⟩ := h2
        rw [h2]; exact e6 k o h2 h3
      · exact absurd ⟨h, h2⟩ hf
    · exact e5 k (by omega)⟩
  refine ⟨v, ?_, RetF.mk (hk.trans' kx fun i hi h => absurd h.1 (by omega)) (hP w' kx)⟩
  have ht' : tmps[2]?.getD undef = v := by simpa using ht
  simp [results, Tryz.f59, go_sem, ht']

section
variable {z : Prop} {S : Nat → Prop} {w w' : World} {b : Nat} {iv : Value} {arity : Nat} {LL : List (List ByteArray)}
theorem RowsQ.ownLt (h : RowsQ z S w b iv arity LL) : ∀ k, Owns b iv k → k < w.heap.size := by
  rcases h with ⟨con, zs, hc, hs, hl⟩ | ⟨hz, rfl, rfl, hB, h1, h2⟩
  · rintro k (rfl | hk)
    · exact hs.blk.lt
    · exact hs.row.lt k hk
  · rintro k (rfl | hk)
    · exact hB.lt
    · cases hk
/-- What set answers, in whatever world: a set whose rows can be read. -/
def SetTells (w : World) (F : Nat → Prop) (R : World → Prop) (LL : List (List ByteArray)) (rv : Value) : Prop :=
  ∀ W, Ext w W → Calls Tryz.prog 110 #[rv] W (RetF F W fun w' v => R w' ∧ ∃ S con, ∃ zs : List RowZ, PtrSetRow Tryz.prog S w' v zs ∧ (∀ k, S k → k < w.heap.size) ∧ zs.map con = LL ∧
    ∀ x ∈ zs, ∃ ss, ReadsAs w' x ss ∧ ss.length ≤ 8796093021952 ∧ (∀ a, x.1 = some a → S a.block) ∧ con x = ss)

set_option maxRecDepth 100000 in
set_option maxHeartbeats 2000000 in
theorem rowsAll_of {F : Nat → Prop} {R : World → Prop} {rv : Value} (hset : SetTells w F R LL rv) (hF : ∀ k, F k → k < w.heap.size) (hR : ∀ {W W' : World}, R W → Kp (fun g => w.heap.size ≤ g) W W' → R W') :
    Calls Tryz.prog 59 #[rv] w (RetF F w fun w' v => R w' ∧ OwnRows w.heap.size w' v LL) := by
  refine callsIn_wide.1 (callsIn_of_wp_marks (n := 4) Tryz.func59 rfl trivial ?_ rfl)
  refine wpIn_wide.2 ?_
  obtain ⟨Q, eQ⟩ : ∃ Q, Q = bodyPostM Fence.wide 4 Tryz.prog Tryz.f59 (RetF F w fun w' v => R w' ∧ OwnRows w.heap.size w' v LL) := ⟨_, rfl⟩
  rw [← eQ]
  have EQ := Lib.hid eQ; clear eQ
  have H := Lib.hid hset
  have HR := Lib.hid (And.intro hF (@hR)); clear hset hF hR
  simp only [Tryz.ntmps59, List.size_toArray, List.length_cons, List.length_nil, Nat.reduceAdd, Nat.reduceSub, Array.replicate_succ, Array.replicate_zero, List.push_toArray, List.append_toArray, List.nil_append, List.cons_append]
  go_wp2_with fail
  have x0 : Ext w (w.alloc (.cells #[.slice none 0 0] 22)) := (Kp.refl w).alloc _
  have b0 : Blk (w.alloc (.cells #[.slice none 0 0] 22)) w.heap.size [.slice none 0 0] 22 := Blk.new w [_] _
  refine (H.out _ x0).mono ?_
  rintro e w1 ⟨v1, rfl, hk1, hR1, S, con, zs, hp, hSw, hl, hall⟩
  have k01 : Kp F w w1 := (Ext.kp x0).trans hk1
  have b1 := b0.kp hk1 (fun e => by have := HR.out.1 _ e; omega)
  have HK1 := Lib.hid (And.intro k01 hR1)
  have hlen := hp.len
  have HS := Lib.hid (And.intro hall hl)
  have HE := Lib.hid (setEachRow_ptr hp)
  have B1 := Lib.hid b1
  have hsz1 := b1.lt
  clear hall hp hl b0 b1 hk1 k01 x0 H hR1
  go_wp2_with fail
  refine HE.out.mono ?_
  rintro e w2 ⟨v2, rfl, hk2, hit⟩
  obtain ⟨Bs, hv2, hseq⟩ := hit.sub.stops Fence.wide 3 trivial rfl (by omega)
  subst hv2
  have HQ := Lib.hid hseq; clear hseq hit
  have B2 := Lib.hid (B1.out.ext hk2)
  have HK2 := Lib.hid hk2
  have hsz2 := hk2.size
  have hn0 : zs.attach.length = zs.length := List.length_attach
  have HSW := Lib.hid hSw
  clear hk2 HE B1 hSw
  go_wp2_with fail
  refine' wpIn_wide.1 (wpIn_rangeFunc_ownG (F := Fence.wide) (n := 4) (w0 := w2) rfl (by omega) (gf := 167) (lb := #[.pointer (some ⟨Bs, 0, none⟩)]) rfl trivial (enters_of Tryz.func167 (by kernel_rfl) rfl)
    HQ.out SameOn.trans (SameOn.put (fun k h => h.2)) (Kp.refl w2).below (fun _ => rfl) (GotRows (fun x => con x.1) zs.length w2 w.heap.size) (fun _ _ _ => False) (GotRows.own (Nat.le_refl _)) (fun _ _ _ _ _ h _ _ => h) ⟨by simp, Kp.refl _, _, B2.out, OwnRows.nil _ _⟩ _ ?assign ?body ?done ?stop)
  case assign =>
    intro l x W K hK
    gi_wp2
    exact hK
  case body =>
    rintro l pre x X ⟨hpl, hpk, v, hB, hr⟩ hlen'
    obtain ⟨xv, xm⟩ := x
    obtain ⟨ao1, n1, cap1, ev, _⟩ : ∃ ao n cap, v = .slice ao n cap ∧ True := by obtain ⟨ao, cap, e, _⟩ := hr.shape; exact ⟨_, _, _, e, trivial⟩
    subst ev
    have HPL := Lib.hid (And.intro hpl hlen)
    obtain ⟨ss, hrd, hss, hxS, hcx⟩ := HS.out.1 xv xm
    have hrd2 : ReadsAs X xv ss := ⟨hrd.1, (hrd.2.ext HK2.out).kp hpk (fun a e hf => by have := HSW.out _ (hxS a e); omega)⟩
    clear hrd hxS
    obtain ⟨ao, n, cap⟩ := xv
    obtain ⟨hn, hcs⟩ := hrd2
    simp only at hn hcs
    have hmix : Tryz.prog.follows .mixedOrders = true := by kernel_rfl
    have HCL := Lib.hid (cloneStr_any (strs ss) ao cap X.drew n (by simp [strs, hn]) (hcs.ext (Kp.refl X).drew) (strs_one ss) (by omega))
    have hc0 := hB.cell 0 (by simp)
    have hf0 := hB.free 0
    simp only [List.getElem_cons_zero] at hc0
    have HB := Lib.hid (And.intro hB hr)
    have HCX := Lib.hid (And.intro hcx hn)
    clear hB hr hcx hn hcs
    gi_wp2
    refine wpIn_region_any (by kernel_rfl) ?_
    change wpAnyIn _ _ _ _ _ _ _ _ _ (World.drew _)
    refine wpAnyIn_ready (rs := [0, 1]) (by kernel_rfl) (by simp) (AllReadyIn.cons rfl (fun K hK => ?_) (AllReadyIn.cons rfl (fun K hK => ?_) AllReadyIn.nil))
    · go_simp
      refine hK _ _ ?_
      clear hK K
      refine wpAnyIn_ready (rs := [1]) (by kernel_rfl) (by simp) (AllReadyIn.cons rfl (fun K hK => ?_) AllReadyIn.nil)
      go_simp
      refine hK _ _ ?_
      clear hK K
      refine wpAnyIn_ready (rs := [2]) (by kernel_rfl) (by simp) (AllReadyIn.cons rfl (fun K hK => ?_) AllReadyIn.nil)
      go_simp
      refine And.intro trivial ?_
      refine (CallsIn.inRound l (callsIn_wide.2 HCL.out)).mono ?_
      rintro e X1 ⟨v1, rfl, hk1, hr1⟩
      obtain ⟨ao2, cap2, ev, _, _⟩ := hr1.shape
      subst ev
      rw [HCX.out.2] at hr1
      obtain ⟨ao3, n3, cap3, w3, hrunA, d1, d2, HFIN⟩ := gotRows_app (x := (ao2, ss.length, cap2)) HPL.out hpk (by omega) HB.out.1 HB.out.2 ((Kp.refl X).drew.trans hk1) hr1 hss
      rw [← HCX.out.2] at hrunA
      have HFI := Lib.hid HFIN
      clear HFIN hr1
      have e0 := hk1.cell (w := X.drew) hc0 id
      have e1 := (hk1.alloc (.cells #[.slice ao2 n cap2] 29)).cell (w := X.drew) hc0 id
      change K _ _
      refine hK _ _ ?_
      clear hK K
      refine wpAnyIn_ready (rs := [3]) (by kernel_rfl) (by simp) (AllReadyIn.cons rfl (fun K hK => ?_) AllReadyIn.nil)
      go_simp
      refine hK _ _ ?_
      clear hK K
      refine wpAnyIn_ready (rs := [4]) (by kernel_rfl) (by simp) (AllReadyIn.cons rfl (fun K hK => ?_) AllReadyIn.nil)
      refine stepIn_app (.tmp 9) (.tmp 12) rfl rfl rfl rfl hrunA ?_
      refine hK _ _ ?_
      clear hK K
      refine wpAnyIn_ready (rs := [5]) (by kernel_rfl) (by simp) (AllReadyIn.cons rfl (fun K hK => ?_) AllReadyIn.nil)
      go_simp
      refine hK _ _ ?_
      clear hK K
      refine wpAnyIn_done (by kernel_rfl) ?_ _
      obtain ⟨q1, q2, q3, q4⟩ := HFI.out ⟨(ao, n, cap), xm⟩ HCX.out.1
      refine And.intro (q1.from _) (And.intro (SameOn.of_kp q2 (fun k h => Nat.lt_of_lt_of_le h.2 hpk.size) (fun k h h' => by omega)) ⟨by rw [List.length_append]; simp; omega, q3, q4⟩)
    · go_simp
      refine hK _ _ ?_
      clear hK K
      refine wpAnyIn_ready (rs := [0, 2]) (by kernel_rfl) (by simp) (AllReadyIn.cons rfl (fun K hK => ?_) (AllReadyIn.cons rfl (fun K hK => ?_) AllReadyIn.nil))
      · go_simp
        refine hK _ _ ?_
        clear hK K
        refine wpAnyIn_ready (rs := [2]) (by kernel_rfl) (by simp) (AllReadyIn.cons rfl (fun K hK => ?_) AllReadyIn.nil)
        go_simp
        refine And.intro trivial ?_
        refine (CallsIn.inRound l (callsIn_wide.2 HCL.out)).mono ?_
        rintro e X1 ⟨v1, rfl, hk1, hr1⟩
        obtain ⟨ao2, cap2, ev, _, _⟩ := hr1.shape
        subst ev
        rw [HCX.out.2] at hr1
        obtain ⟨ao3, n3, cap3, w3, hrunA, d1, d2, HFIN⟩ := gotRows_app (x := (ao2, ss.length, cap2)) HPL.out hpk (by omega) HB.out.1 HB.out.2 ((Kp.refl X).drew.trans hk1) hr1 hss
        rw [← HCX.out.2] at hrunA
        have HFI := Lib.hid HFIN
        clear HFIN hr1
        have e0 := hk1.cell (w := X.drew) hc0 id
        have e1 := (hk1.alloc (.cells #[.slice ao2 n cap2] 29)).cell (w := X.drew) hc0 id
        change K _ _
        refine hK _ _ ?_
        clear hK K
        refine wpAnyIn_ready (rs := [3]) (by kernel_rfl) (by simp) (AllReadyIn.cons rfl (fun K hK => ?_) AllReadyIn.nil)
        go_simp
        refine hK _ _ ?_
        clear hK K
        refine wpAnyIn_ready (rs := [4]) (by kernel_rfl) (by simp) (AllReadyIn.cons rfl (fun K hK => ?_) AllReadyIn.nil)
        refine stepIn_app (.tmp 9) (.tmp 12) rfl rfl rfl rfl hrunA ?_
        refine hK _ _ ?_
        clear hK K
        refine wpAnyIn_ready (rs := [5]) (by kernel_rfl) (by simp) (AllReadyIn.cons rfl (fun K hK => ?_) AllReadyIn.nil)
        go_simp
        refine hK _ _ ?_
        clear hK K
        refine wpAnyIn_done (by kernel_rfl) ?_ _
        obtain ⟨q1, q2, q3, q4⟩ := HFI.out ⟨(ao, n, cap), xm⟩ HCX.out.1
        refine And.intro (q1.from _) (And.intro (SameOn.of_kp q2 (fun k h => Nat.lt_of_lt_of_le h.2 hpk.size) (fun k h h' => by omega)) ⟨by rw [List.length_append]; simp; omega, q3, q4⟩)
      · go_simp
        refine And.intro trivial ?_
        refine (CallsIn.inRound l (callsIn_wide.2 HCL.out)).mono ?_
        rintro e X1 ⟨v1, rfl, hk1, hr1⟩
        obtain ⟨ao2, cap2, ev, _, _⟩ := hr1.shape
        subst ev
        rw [HCX.out.2] at hr1
        obtain ⟨ao3, n3, cap3, w3, hrunA, d1, d2, HFIN⟩ := gotRows_app (x := (ao2, ss.length, cap2)) HPL.out hpk (by omega) HB.out.1 HB.out.2 ((Kp.refl X).drew.trans hk1) hr1 hss
        rw [← HCX.out.2] at hrunA
        have HFI := Lib.hid HFIN
        clear HFIN hr1
        have e0 := hk1.cell (w := X.drew) hc0 id
        have e1 := (hk1.alloc (.cells #[.slice ao2 n cap2] 29)).cell (w := X.drew) hc0 id
        change K _ _
        refine hK _ _ ?_
        clear hK K
        refine wpAnyIn_ready (rs := [0, 3]) (by kernel_rfl) (by simp) (AllReadyIn.cons rfl (fun K hK => ?_) (AllReadyIn.cons rfl (fun K hK => ?_) AllReadyIn.nil))
        · go_simp
          refine hK _ _ ?_
          clear hK K
          refine wpAnyIn_ready (rs := [3]) (by kernel_rfl) (by simp) (AllReadyIn.cons rfl (fun K hK => ?_) AllReadyIn.nil)
          go_simp
          refine hK _ _ ?_
          clear hK K
          refine wpAnyIn_ready (rs := [4]) (by kernel_rfl) (by simp) (AllReadyIn.cons rfl (fun K hK => ?_) AllReadyIn.nil)
          refine stepIn_app (.tmp 9) (.tmp 12) rfl rfl rfl rfl hrunA ?_
          refine hK _ _ ?_
          clear hK K
          refine wpAnyIn_ready (rs := [5]) (by kernel_rfl) (by simp) (AllReadyIn.cons rfl (fun K hK => ?_) AllReadyIn.nil)
          go_simp
          refine hK _ _ ?_
          clear hK K
          refine wpAnyIn_done (by kernel_rfl) ?_ _
          obtain ⟨q1, q2, q3, q4⟩ := HFI.out ⟨(ao, n, cap), xm⟩ HCX.out.1
          refine And.intro (q1.from _) (And.intro (SameOn.of_kp q2 (fun k h => Nat.lt_of_lt_of_le h.2 hpk.size) (fun k h h' => by omega)) ⟨by rw [List.length_append]; simp; omega, q3, q4⟩)
        · go_simp
          refine hK _ _ ?_
          clear hK K
          refine wpAnyIn_ready (rs := [0]) (by kernel_rfl) (by simp) (AllReadyIn.cons rfl (fun K hK => ?_) AllReadyIn.nil)
          go_simp
          refine hK _ _ ?_
          clear hK K
          refine wpAnyIn_ready (rs := [4]) (by kernel_rfl) (by simp) (AllReadyIn.cons rfl (fun K hK => ?_) AllReadyIn.nil)
          refine stepIn_app (.tmp 9) (.tmp 12) rfl rfl rfl rfl hrunA ?_
          refine hK _ _ ?_
          clear hK K
          refine wpAnyIn_ready (rs := [5]) (by kernel_rfl) (by simp) (AllReadyIn.cons rfl (fun K hK => ?_) AllReadyIn.nil)
          go_simp
          refine hK _ _ ?_
          clear hK K
          refine wpAnyIn_done (by kernel_rfl) ?_ _
          obtain ⟨q1, q2, q3, q4⟩ := HFI.out ⟨(ao, n, cap), xm⟩ HCX.out.1
          refine And.intro (q1.from _) (And.intro (SameOn.of_kp q2 (fun k h => Nat.lt_of_lt_of_le h.2 hpk.size) (fun k h h' => by omega)) ⟨by rw [List.length_append]; simp; omega, q3, q4⟩)
  case stop =>
    rintro D c pre W _ _ h _
    exact h.elim
  case done =>
    rintro D ys W2 hD hys ⟨hl2, hkd, v, hBd, hrd⟩ hd
    subst hys
    have kw : Kp F w W2 := (HK1.out.1.ext HK2.out).trans' hkd fun k hk e => by omega
    have hra : R W2 := HR.out.2 HK1.out.2 ((Ext.kp HK2.out).trans (hkd.mono fun g _ e => by omega))
    have hown : OwnRows w.heap.size W2 v LL := by
      have e : zs.attach.map (fun x => con x.1) = LL := by
        rw [← HS.out.2]
        have h : (zs.attach.map fun x : { x // x ∈ zs } => con x.1) = (zs.attach.map Subtype.val).map con := by rw [List.map_map]; rfl
        rw [h, List.attach_map_subtype_val]
      rw [e] at hrd
      exact hrd.mono (by omega)
    have hmk := (Marks.nil w2.heap.size w2).push (w' := W2) (D := D) (fun k o h ho => (hkd.block k (lt_of_block h) (fun e => by
      subst e; have hb := B2.out; unfold Blk at hb; rw [hb] at h; cases h; cases ho)).trans h) hD hD hd
    obtain ⟨ao4, cap4, ev, _⟩ := hown.shape
    subst ev
    have c0 := hBd.cell 0 (by simp)
    simp only [List.getElem_cons_zero] at c0
    have HF := Lib.hid (And.intro kw (And.intro hra (And.intro hown hmk)))
    clear kw hra hown hmk hrd hBd hkd hd
    go_wp2
    rw [EQ.out]
    obtain ⟨kw, hra, hown, hmk⟩ := HF.out
    refine rowsAll_ret hmk kw (by omega) rfl fun w' kx => ⟨HR.out.2 hra (kx.mono fun g _ h => by omega), hown.kpc kx fun g h => h.2⟩
theorem RowsAt.tells (h : RowsAt S w b iv arity LL) : ∃ con, ∃ zs : List RowZ, PtrSetRow Tryz.prog S w (.pointer (some ⟨b, 0, none⟩)) zs ∧ zs.map con = LL ∧
    ∀ x ∈ zs, ∃ ss, ReadsAs w x ss ∧ ss.length ≤ 8796093021952 ∧ (∀ a, x.1 = some a → S a.block) ∧ con x = ss := by
  obtain ⟨con, zs, hc, hs, hl⟩ := h
  refine ⟨con, zs, .inr ⟨_, _, _, _, _, _, _, rfl, hs⟩, hl, fun x hx => ?_⟩
  obtain ⟨ss, h1, h2, h3⟩ := hs.all x hx
  exact ⟨ss, h1, h2, h3, hc x ss h1⟩
theorem rowsAll_q (h : RowsQ z S w b iv arity LL) :
    Calls Tryz.prog 59 #[.pointer (some ⟨b, 0, none⟩)] w (RetF (FQ z b) w fun w' v => RowsAt S w' b iv arity LL ∧ OwnRows w.heap.size w' v LL) := by
  refine rowsAll_of (R := fun W => RowsAt S W b iv arity LL) (fun W hW => ?_) (fun k hk => by rw [hk.2]; exact h.lt) (fun {W W'} hr hk => ?_)
  · refine (rowsSet_q (h.ext hW)).mono ?_
    rintro e w1 ⟨v, rfl, hk, rfl, h1⟩
    obtain ⟨con, zs, hp, hl, hall⟩ := h1.tells
    exact RetF.mk hk ⟨h1, S, con, zs, hp, h.inS, hl, hall⟩
  · exact hr.move hk (fun k hg ho => by have := h.ownLt k ho; omega) (fun k hg hS => by have := h.inS k hS; omega) (fun _ h => h) (fun k hS => Nat.lt_of_lt_of_le (hr.inS k hS) hk.size) hr.notS
theorem rowsAll_nil (w : World) : Calls Tryz.prog 59 #[.pointer none] w (RetN w fun w' v => OwnRows w.heap.size w' v []) := by
  refine (rowsAll_of (w := w) (F := fun _ => False) (R := fun _ => True) (LL := []) (fun W hW => ?_) (fun k hk => hk.elim) (fun _ _ => trivial)).mono ?_
  · refine (rowsSet_nil W).mono ?_
    rintro e w1 ⟨rfl, rfl⟩
    exact RetF.mk (Kp.refl _) ⟨trivial, fun _ => False, fun _ => [], [], .inl ⟨rfl, rfl⟩, fun k hk => hk.elim, rfl, by simp⟩
  · rintro e w' ⟨v, rfl, hk, _, h⟩
    exact RetN.mk hk h
end
end Go.Proofs.YtfkhelihepbehaaGreat

/- tuple.Base in memory: a map of names to Rows, each in blocks of its own. -/
namespace Go.Proofs.YtfkhelihepbehaaGreat
open Go.RowKit
set_option linter.unusedVariables false

/-- Rows under a name: where they lie, what they are. -/
structure Ent where
  name : ByteArray
  b : Nat
  iv : Value
  ar : Nat
  LL : List (List ByteArray)
def Ent.ptr (e : Ent) : Value := .pointer (some ⟨e.b, 0, none⟩)
def Ent.cnt (e : Ent) : CntZ := (e.name, e.ar, e.LL)
def Ent.own (e : Ent) : Nat → Prop := Owns e.b e.iv
def entM (E : List Ent) : List (ByteArray × Value) := E.map fun e => (e.name, e.ptr)
def cntE (E : List Ent) : List CntZ := E.map Ent.cnt
def findE (E : List Ent) (s : ByteArray) : Option Ent := E.find? fun e => decide (e.name = s)
theorem entM_get (E : List Ent) (s : ByteArray) : getM (entM E) s = (findE E s).map Ent.ptr := by
  unfold getM entM findE
  rw [List.find?_map, Option.map_map]; rfl
theorem cntE_get (E : List Ent) (s : ByteArray) : getC (cntE E) s = (findE E s).map fun e => (e.ar, e.LL) := by
  unfold getC cntE findE
  rw [List.find?_map, Option.map_map]; rfl
theorem entM_names (E : List Ent) : (entM E).map (·.1) = (cntE E).map (·.1) := by
  unfold entM cntE
  rw [List.map_map, List.map_map]; rfl
theorem findE_some {E : List Ent} {s : ByteArray} {e : Ent} (h : findE E s = some e) : e ∈ E ∧ e.name = s := ⟨List.mem_of_find?_eq_some h, by have := List.find?_some h; simpa using this⟩
theorem findE_rows {E : List Ent} {s : ByteArray} {e : Ent} (h : findE E s = some e) : getC (cntE E) s = some (e.ar, e.LL) ∧ rowsC (cntE E) s = e.LL := by
  have h1 : getC (cntE E) s = some (e.ar, e.LL) := by rw [cntE_get, h]; rfl
  exact ⟨h1, rows_some h1⟩
theorem findE_none {E : List Ent} {s : ByteArray} (h : findE E s = none) : getC (cntE E) s = none ∧ rowsC (cntE E) s = [] := by
  have h1 : getC (cntE E) s = none := by rw [cntE_get, h]; rfl
  exact ⟨h1, rows_none h1⟩
theorem mem_cntE {E : List Ent} {e : Ent} (h : e ∈ E) : e.cnt ∈ cntE E := List.mem_map.2 ⟨e, h, rfl⟩

def OwnE (E : List Ent) (k : Nat) : Prop := ∃ e ∈ E, e.own k
/-- What belongs to a base. -/
def OwnB (bb r : Nat) (E : List Ent) (k : Nat) : Prop := k = bb ∨ k = r ∨ OwnE E k

structure BaseAt (S : Nat → Prop) (w : World) (bb r : Nat) (E : List Ent) : Prop where
  blk : Blk w bb [.map (some r), .int .i64 (totalC (cntE E) : Nat)] 65
  map : MapIs w r (entM E)
  rows : ∀ e ∈ E, RowsAt S w e.b e.iv e.ar e.LL
  apart : E.Pairwise fun e f => ∀ k, e.own k → ¬ f.own k
  inS : ∀ k, S k → k < w.heap.size
  notS : ¬ S bb ∧ ¬ S r
  ne : bb ≠ r
  off : ∀ e ∈ E, ∀ k, e.own k → k ≠ bb ∧ k ≠ r
  ok : BaseOk (cntE E)

section
variable {S S' : Nat → Prop} {w w' : World} {bb r : Nat} {E : List Ent}
theorem BaseAt.kp {F : Nat → Prop} (h : BaseAt S w bb r E) (hk : Kp F w w') (hF : ∀ k, F k → ¬ OwnB bb r E k) (hS : ∀ k, F k → ¬ S k) : BaseAt S w' bb r E :=
  { blk := h.blk.kp hk fun hf => hF _ hf (.inl rfl)
    map := h.map.kp hk fun hf => hF _ hf (.inr (.inl rfl))
    rows := fun e he => (h.rows e he).move hk (fun k hf ho => hF k hf (.inr (.inr ⟨e, he, ho⟩))) hS (fun _ x => x) (fun k hk' => Nat.lt_of_lt_of_le (h.inS k hk') hk.size) (h.rows e he).notS
    apart := h.apart
    inS := fun k hk' => Nat.lt_of_lt_of_le (h.inS k hk') hk.size
    notS := h.notS, ne := h.ne, off := h.off, ok := h.ok }
theorem BaseAt.ext (h : BaseAt S w bb r E) (hk : Ext w w') : BaseAt S w' bb r E := h.kp hk (fun _ x => x.elim) (fun _ x => x.elim)
theorem BaseAt.ownLt (h : BaseAt S w bb r E) : ∀ k, OwnB bb r E k → k < w.heap.size := by
  rintro k (rfl | rfl | ⟨e, he, ho⟩)
  · exact h.blk.lt
  · exact h.map.lt
  · exact (RowsQ.ownLt (z := True) (h.rows e he).q) k ho
theorem BaseAt.notOwn (h : BaseAt S w bb r E) : ∀ k, OwnB bb r E k → ¬ S k := by
  rintro k (rfl | rfl | ⟨e, he, ho⟩)
  · exact h.notS.1
  · exact h.notS.2
  · exact (h.rows e he).notS k ho
theorem BaseAt.strict (h : BaseAt S w bb r E) {e : Ent} (he : e ∈ E) : Strict cmpRow e.LL := (h.ok.all _ (mem_cntE he)).strict
theorem BaseAt.few (h : BaseAt S w bb r E) {e : Ent} (he : e ∈ E) : e.LL.length ≤ 65536 := (h.ok.all _ (mem_cntE he)).few
/-- A wider pool. -/
theorem BaseAt.wide (h : BaseAt S w bb r E) (hs : ∀ k, S k → S' k) (hl : ∀ k, S' k → k < w.heap.size) (hn : ∀ k, OwnB bb r E k → ¬ S' k) : BaseAt S' w bb r E :=
  { blk := h.blk, map := h.map
    rows := fun e he => (h.rows e he).move (F := fun _ => False) (Kp.refl w) (fun _ x => x.elim) (fun _ x => x.elim) hs hl (fun k ho => hn k (.inr (.inr ⟨e, he, ho⟩)))
    apart := h.apart, inS := hl, notS := ⟨hn _ (.inl rfl), hn _ (.inr (.inl rfl))⟩, ne := h.ne, off := h.off, ok := h.ok }
theorem BaseAt.new (S : Nat → Prop) (hS : ∀ k, S k → k < w.heap.size) {wb : World} (hx : Ext w wb) {bb r : Nat} (hb : w.heap.size ≤ bb) (hr : w.heap.size ≤ r) (hne : bb ≠ r) (hB : Blk wb bb [.map (some r), .int .i64 0] 65) (hm : MapIs wb r []) : BaseAt S wb bb r [] :=
  { blk := hB, map := hm, rows := fun e he => by simp at he
    apart := List.Pairwise.nil
    inS := fun k hk => Nat.lt_of_lt_of_le (hS k hk) hx.size
    notS := ⟨fun h => by have := hS _ h; omega, fun h => by have := hS _ h; omega⟩
    ne := hne, off := fun e he => by simp at he, ok := ok_nil }
/-- One's rows turn. -/
theorem BaseAt.turn {pre post : List Ent} {e : Ent} (h : BaseAt S w bb r (pre ++ e :: post)) {iv' : Value} {LL' : List (List ByteArray)} (hk : Kp e.own w w') (hs : ∀ k, S k → S' k) (hnew : ∀ k, S' k → S k ∨ w.heap.size ≤ k)
    (hr : RowsAt S' w' e.b iv' e.ar LL') (hiv : ∀ k, iv'.ownBlock = some k → e.iv.ownBlock = some k ∨ w.heap.size ≤ k) {n : Nat} {W : World} (hW : Kp (fun k => k = bb ∨ k = r) w' W) (hm : MapIs W r (entM (pre ++ e :: post))) (hB : Blk W bb [.map (some r), .int .i64 (n : Nat)] 65) (hn : n = totalC (cntE (pre ++ { e with iv := iv', LL := LL' } :: post))) (hok : BaseOk (cntE (pre ++ { e with iv := iv', LL := LL' } :: post))) :
    BaseAt S' W bb r (pre ++ { e with iv := iv', LL := LL' } :: post) := by
  have hin' := hr.inS
  have hown : ∀ f ∈ pre ++ e :: post, ∀ k, f.own k → k < w.heap.size ∧ ¬ S' k := fun f hf k ho => by
    have h1 := h.ownLt k (.inr (.inr ⟨f, hf, ho⟩))
    refine ⟨h1, fun hs' => ?_⟩
    rcases hnew k hs' with h2 | h2
    · exact (h.rows f hf).notS k ho h2
    · omega
  have hbb := h.ownLt bb (.inl rfl)
  have hrr := h.ownLt r (.inr (.inl rfl))
  have hem : e ∈ pre ++ e :: post := List.mem_append_right _ List.mem_cons_self
  have hebb : ¬ S' bb := fun hs' => by rcases hnew _ hs' with h2 | h2; exact h.notS.1 h2; omega
  have herr : ¬ S' r := fun hs' => by rcases hnew _ hs' with h2 | h2; exact h.notS.2 h2; omega
  have hiv2 : ∀ k, Owns e.b iv' k → e.own k ∨ w.heap.size ≤ k := fun k ho => by
    rcases ho with ho | ho
    · exact .inl (.inl ho)
    · rcases hiv k ho with h2 | h2
      · exact .inl (.inr h2)
      · exact .inr h2
  have hoff' : ∀ k, Owns e.b iv' k → k ≠ bb ∧ k ≠ r := fun k ho => by
    rcases hiv2 k ho with h2 | h2
    · exact h.off e hem k h2
    · omega
  obtain ⟨ap1, ap2, ap3⟩ := List.pairwise_append.1 h.apart
  obtain ⟨ap4, ap5⟩ := List.pairwise_cons.1 ap2
  have hother : ∀ f, (f ∈ pre ∨ f ∈ post) → (∀ k, e.own k → ¬ f.own k) ∧ f ∈ pre ++ e :: post := fun f hf => by
    rcases hf with hf | hf
    · exact ⟨fun k h1 h2 => ap3 f hf e List.mem_cons_self k h2 h1, List.mem_append_left _ hf⟩
    · exact ⟨fun k h1 h2 => ap4 f hf k h1 h2, List.mem_append_right _ (List.mem_cons_of_mem _ hf)⟩
  have hF : ∀ k, k = bb ∨ k = r → ¬ S' k := fun k e => by
    rcases e with rfl | rfl
    · exact hebb
    · exact herr
  have hrows : ∀ f, (f ∈ pre ∨ f ∈ post) → RowsAt S' W f.b f.iv f.ar f.LL := fun f hf => by
    obtain ⟨h1, h2⟩ := hother f hf
    have h3 := (h.rows f h2).move (S' := S') hk h1 (fun k hf => (h.rows e hem).notS k hf) hs (fun k hk' => hin' k hk') (fun k ho => (hown f h2 k ho).2)
    exact h3.move hW (fun k e2 ho => by
      have h4 := h.off f h2 k ho
      rcases e2 with e2 | e2
      · exact h4.1 e2
      · exact h4.2 e2) hF (fun _ x => x) (fun k hk' => Nat.lt_of_lt_of_le (hin' k hk') hW.size) h3.notS
  refine { blk := by rw [hn] at hB; exact hB, map := ?_, rows := fun f hf => ?_, apart := ?_, inS := fun k hk' => Nat.lt_of_lt_of_le (hin' k hk') hW.size, notS := ⟨hebb, herr⟩, ne := h.ne, off := fun f hf => ?_, ok := hok }
  · have h2 : entM (pre ++ { e with iv := iv', LL := LL' } :: post) = entM (pre ++ e :: post) := by simp [entM, Ent.ptr]
    rw [h2]; exact hm
  · rcases List.mem_append.1 hf with hf | hf
    · exact hrows f (.inl hf)
    · rcases List.mem_cons.1 hf with rfl | hf
      · exact hr.move hW (fun k e2 ho => by
          have h4 := hoff' k ho
          rcases e2 with e2 | e2
          · exact h4.1 e2
          · exact h4.2 e2) hF (fun _ x => x) (fun k hk' => Nat.lt_of_lt_of_le (hin' k hk') hW.size) hr.notS
      · exact hrows f (.inr hf)
  · refine List.pairwise_append.2 ⟨ap1, List.pairwise_cons.2 ⟨fun f hf k ho hf2 => ?_, ap5⟩, fun f hf g hg k ho hg2 => ?_⟩
    · rcases hiv2 k ho with h2 | h2
      · exact ap4 f hf k h2 hf2
      · have := (hown f (hother f (.inr hf)).2 k hf2).1; omega
    · rcases List.mem_cons.1 hg with rfl | hg
      · rcases hiv2 k hg2 with h2 | h2
        · exact ap3 f hf e List.mem_cons_self k ho h2
        · have := (hown f (hother f (.inl hf)).2 k ho).1; omega
      · exact ap3 f hf g (List.mem_cons_of_mem _ hg) k ho hg2
  · rcases List.mem_append.1 hf with hf | hf
    · exact h.off f (hother f (.inl hf)).2
    · rcases List.mem_cons.1 hf with rfl | hf
      · exact hoff'
      · exact h.off f (hother f (.inr hf)).2
/-- One comes to it. -/
theorem BaseAt.push (h : BaseAt S w bb r E) {e : Ent} (hx : Ext w w') (hs : ∀ k, S k → S' k) (hnew : ∀ k, S' k → S k ∨ w.heap.size ≤ k) (hr : RowsAt S' w' e.b e.iv e.ar e.LL) (ho : ∀ k, e.own k → w.heap.size ≤ k)
    {n : Nat} {W : World} (hW : Kp (fun k => k = bb ∨ k = r) w' W) (hB : Blk W bb [.map (some r), .int .i64 (n : Nat)] 65) (hm : MapIs W r (entM (E ++ [e]))) (hn : n = totalC (cntE (E ++ [e]))) (hok : BaseOk (cntE (E ++ [e]))) : BaseAt S' W bb r (E ++ [e]) := by
  have hbb := h.ownLt bb (.inl rfl)
  have hrr := h.ownLt r (.inr (.inl rfl))
  have hin' := hr.inS
  have hno : ∀ k, OwnB bb r E k → ¬ S' k := fun k ho hs' => by
    rcases hnew k hs' with h2 | h2
    · exact h.notOwn k ho h2
    · have := h.ownLt k ho; omega
  have hF : ∀ k, k = bb ∨ k = r → ¬ S' k := fun k hk => hno k (hk.elim .inl fun h => .inr (.inl h))
  refine { blk := by rw [hn] at hB; exact hB, map := hm, rows := fun f hf => ?_, apart := ?_, inS := fun k hk' => Nat.lt_of_lt_of_le (hin' k hk') hW.size, notS := ⟨hF _ (.inl rfl), hF _ (.inr rfl)⟩, ne := h.ne, off := fun f hf => ?_, ok := hok }
  · rcases List.mem_append.1 hf with hf | hf
    · have h3 := (h.rows f hf).move (S' := S') hx (fun _ x => x.elim) (fun _ x => x.elim) hs (fun k hk' => hin' k hk') (fun k ho => hno k (.inr (.inr ⟨f, hf, ho⟩)))
      exact h3.move hW (fun k e2 ho => by
        have h4 := h.off f hf k ho
        rcases e2 with e2 | e2
        · exact h4.1 e2
        · exact h4.2 e2) hF (fun _ x => x) (fun k hk' => Nat.lt_of_lt_of_le (hin' k hk') hW.size) h3.notS
    · obtain rfl := List.mem_singleton.1 hf
      exact hr.move hW (fun k e2 ho2 => by have := ho k ho2; omega) hF (fun _ x => x) (fun k hk' => Nat.lt_of_lt_of_le (hin' k hk') hW.size) hr.notS
  · refine List.pairwise_append.2 ⟨h.apart, List.pairwise_singleton _ _, fun f hf g hg k h1 h2 => ?_⟩
    obtain rfl := List.mem_singleton.1 hg
    have h3 := h.ownLt k (.inr (.inr ⟨f, hf, h1⟩))
    have h4 := ho k h2
    omega
  · rcases List.mem_append.1 hf with hf | hf
    · exact h.off f hf
    · obtain rfl := List.mem_singleton.1 hf
      intro k hk
      have := ho k hk
      omega
/-- The first under a name. -/
theorem findE_split {E : List Ent} {s : ByteArray} {e : Ent} (h : findE E s = some e) : ∃ pre post, E = pre ++ e :: post := by
  obtain ⟨_, pre, post, h2, _⟩ := List.find?_eq_some_iff_append.1 h
  exact ⟨pre, post, h2⟩
theorem cntE_set {pre post : List Ent} {e : Ent} {s : ByteArray} (h : findE (pre ++ e :: post) s = some e) (hn : ((cntE (pre ++ e :: post)).map (·.1)).Nodup) (iv' : Value) (LL' : List (List ByteArray)) : setC (cntE (pre ++ e :: post)) s (e.ar, LL') = cntE (pre ++ { e with iv := iv', LL := LL' } :: post) := by
  have hs : e.name = s := (findE_some h).2
  have h1 : (getC (cntE (pre ++ e :: post)) s).isSome = true := by rw [cntE_get, h]; rfl
  unfold setC
  rw [if_pos h1]
  have hid : ∀ q : Ent, q.name ≠ s → (if q.cnt.1 = s then (q.cnt.1, (e.ar, LL')) else q.cnt) = q.cnt := fun q hq => if_neg hq
  unfold cntE at hn ⊢
  rw [List.map_append, List.map_cons, List.map_append, List.map_cons] at hn
  obtain ⟨_, hn2, hn3⟩ := List.nodup_append.1 hn
  obtain ⟨hn4, _⟩ := List.nodup_cons.1 hn2
  rw [List.map_append, List.map_append, List.map_cons, List.map_cons, List.map_append, List.map_cons]
  congr 1
  · rw [List.map_map]
    apply List.map_congr_left
    intro q hq
    refine hid q fun e2 => ?_
    exact hn3 q.name (List.mem_map.2 ⟨q.cnt, List.mem_map.2 ⟨q, hq, rfl⟩, rfl⟩) e.name List.mem_cons_self (by rw [e2, hs])
  · congr 1
    · show (if e.name = s then (e.name, (e.ar, LL')) else e.cnt) = _
      rw [if_pos hs]; rfl
    · rw [List.map_map]
      apply List.map_congr_left
      intro q hq
      refine hid q fun e2 => ?_
      exact hn4 (List.mem_map.2 ⟨q.cnt, List.mem_map.2 ⟨q, hq, rfl⟩, by show q.name = e.name; rw [e2, hs]⟩)
theorem cntE_push {E : List Ent} {s : ByteArray} (h : findE E s = none) (b : Nat) (iv : Value) (ar : Nat) (LL : List (List ByteArray)) : setC (cntE E) s (ar, LL) = cntE (E ++ [{ name := s, b := b, iv := iv, ar := ar, LL := LL }]) := by
  unfold setC
  rw [(findE_none h).1, if_neg (by simp)]
  unfold cntE
  rw [List.map_append]; rfl
/-- Laid anew under its name. -/
theorem entM_put {E : List Ent} {s : ByteArray} {e : Ent} (h : findE E s = some e) (hn : ((entM E).map (·.1)).Nodup) : putM (entM E) s e.ptr = entM E := by
  obtain ⟨pre, post, rfl⟩ := findE_split h
  have hs : e.name = s := (findE_some h).2
  unfold putM
  rw [entM_get, h, if_pos (by rfl)]
  unfold entM at hn ⊢
  rw [List.map_append, List.map_cons, List.map_append, List.map_cons] at hn
  obtain ⟨_, hn2, hn3⟩ := List.nodup_append.1 hn
  obtain ⟨hn4, _⟩ := List.nodup_cons.1 hn2
  rw [List.map_append, List.map_append, List.map_cons, List.map_cons]
  have hid : ∀ q : Ent, q.name ≠ s → (if (q.name, q.ptr).1 = s then ((q.name, q.ptr).1, e.ptr) else (q.name, q.ptr)) = (q.name, q.ptr) := fun q hq => if_neg hq
  congr 1
  · rw [List.map_map]
    apply List.map_congr_left
    intro q hq
    refine hid q fun e2 => ?_
    exact hn3 q.name (List.mem_map.2 ⟨(q.name, q.ptr), List.mem_map.2 ⟨q, hq, rfl⟩, rfl⟩) e.name List.mem_cons_self (by rw [e2, hs])
  · congr 1
    · exact if_pos hs
    · rw [List.map_map]
      apply List.map_congr_left
      intro q hq
      refine hid q fun e2 => ?_
      exact hn4 (List.mem_map.2 ⟨(q.name, q.ptr), List.mem_map.2 ⟨q, hq, rfl⟩, by show q.name = e.name; rw [e2, hs]⟩)
theorem entM_push {E : List Ent} {s : ByteArray} (h : findE E s = none) (b : Nat) (iv : Value) (ar : Nat) (LL : List (List ByteArray)) : putM (entM E) s (.pointer (some ⟨b, 0, none⟩)) = entM (E ++ [{ name := s, b := b, iv := iv, ar := ar, LL := LL }]) := by
  unfold putM
  rw [entM_get, h, if_neg (by simp)]
  unfold entM
  rw [List.map_append]; rfl
end
end Go.Proofs.YtfkhelihepbehaaGreat

/- tuple.Rows: Each, Copy, with: Union, Minus, Meet; Same. -/
namespace Go.Proofs.YtfkhelihepbehaaGreat
open Go.RowKit Go.Shelf
set_option linter.unusedVariables false

/-- An iterator over rows of one's own. -/
def EachRows (lo : Nat) (w : World) (v : Value) (LL : List (List ByteArray)) : Prop :=
  ∃ Bs iv, v = .func (.func 167) #[] #[.pointer (some ⟨Bs, 0, none⟩)] ∧ lo ≤ Bs ∧ Blk w Bs [iv] 22 ∧ OwnRows lo w iv LL ∧ LL.length ≤ 1048576 * 1048576

section
variable {z z1 z2 : Prop} {S : Nat → Prop} {w w' : World} {b b1 b2 : Nat} {iv iv1 iv2 : Value} {arity arity2 : Nat} {LL L1 L2 : List (List ByteArray)}
theorem RowsAt.len (h : RowsAt S w b iv arity LL) : LL.length ≤ 1048576 * 1048576 := by
  obtain ⟨con, zs, hc, hs, hl⟩ := h
  rw [← hl, List.length_map]; exact hs.len
theorem rowsEach_nil (w : World) : Calls Tryz.prog 127 #[.pointer none] w (RetN w fun w' v => EachRows w.heap.size w' v []) := by
  go_enter Tryz.func127, Tryz.ntmps127
  go_wp2_with fail
  refine (rowsAll_nil w).mono ?_
  rintro e w1 ⟨v, rfl, hk, h1⟩
  obtain ⟨ao, cap, ev, _⟩ := h1.shape
  subst ev
  have HK := Lib.hid (And.intro hk h1); clear hk h1
  go_wp2_with fail
  refine (valuesRow_any _ _ _ w1).mono ?_
  rintro e w2 ⟨v, rfl, hk2, rfl, ew⟩
  subst ew
  go_wp2
  go_ret
  exact RetN.mk (HK.out.1.alloc _) ⟨_, _, rfl, HK.out.1.size, Blk.new w1 [_] _, HK.out.2.ext ((Kp.refl w1).alloc _), by simp⟩
theorem rowsEach_q (h : RowsQ z S w b iv arity LL) :
    Calls Tryz.prog 127 #[.pointer (some ⟨b, 0, none⟩)] w (RetF (FQ z b) w fun w' v => RowsAt S w' b iv arity LL ∧ EachRows w.heap.size w' v LL) := by
  have H := Lib.hid (rowsAll_q h); clear h
  go_enter Tryz.func127, Tryz.ntmps127
  go_wp2_with fail
  refine H.out.mono ?_
  rintro e w1 ⟨v, rfl, hk, h1, h2⟩
  obtain ⟨ao, cap, ev, _⟩ := h2.shape
  subst ev
  have HK := Lib.hid (And.intro hk (And.intro h1 h2)); clear hk h1 h2
  go_wp2_with fail
  refine (valuesRow_any _ _ _ w1).mono ?_
  rintro e w2 ⟨v, rfl, hk2, rfl, ew⟩
  subst ew
  go_wp2
  go_ret
  obtain ⟨hk, h1, h2⟩ := HK.out
  exact RetF.mk (hk.alloc _) ⟨h1.ext ((Kp.refl w1).alloc _), _, _, rfl, hk.size, Blk.new w1 [_] _, h2.ext ((Kp.refl w1).alloc _), h1.len⟩

theorem rowsCopy_nil (w : World) : Calls Tryz.prog 122 #[.pointer none] w (Ret (.pointer none) w) := by
  go_enter Tryz.func122, Tryz.ntmps122
  go_wp2
  go_ret
  exact Ret.mk rfl
/-- A set's fields, as those of Rows. -/
theorem RowsAt.boxed {w0 : World} {con : RowZ → List ByteArray} {zs : List RowZ} {te : TypeId} (h : SetAtRow Tryz.prog S w b (.func (Fn.func 41) #[] #[]) iv [] te (RowD S w0) (fun x y => cmpRow (con x) (con y)) zs) (h0 : Ext w0 w)
    (hc : ∀ x ss, ReadsAs w0 x ss → con x = ss) (arity : Nat) : RowsAt S (w.alloc (.cells #[.func (Fn.func 41) #[] #[], iv, .int .i64 arity] 98)) w.heap.size iv arity (zs.map con) := by
  have hk : Ext w (w.alloc (.cells #[.func (Fn.func 41) #[] #[], iv, .int .i64 arity] 98)) := (Kp.refl w).alloc _
  obtain ⟨con', hc'⟩ := con_ex (w.alloc (.cells #[.func (Fn.func 41) #[] #[], iv, .int .i64 arity] 98))
  have e : ∀ x ∈ zs, con' x = con x := fun x hx => by
    obtain ⟨ss, h1, h2, h3⟩ := h.all x hx
    rw [hc x ss h1, hc' x ss ⟨h1.1, h1.2.ext (h0.trans hk)⟩]
  refine ⟨con', zs, hc', ⟨Blk.new w [_, _, _] _, h.row.ext hk, fun e => ?_, fun k hS => ?_, fun k ho hS => ?_, rows_ord hc', fun x hx => ?_, h.len⟩, List.map_congr_left e⟩
  · have := h.row.lt _ e; omega
  · have := h.inS k hS; rw [alloc_size]; omega
  · rcases ho with rfl | ho
    · have := h.inS _ hS; omega
    · exact h.notS k (.inr ho) hS
  · obtain ⟨ss, h1, h2, h3⟩ := h.all x hx
    exact ⟨ss, ⟨h1.1, h1.2.ext (h0.trans hk)⟩, h2, h3⟩
set_option maxRecDepth 100000 in
set_option maxHeartbeats 1000000 in
theorem rowsCopy_q (h : RowsQ z S w b iv arity LL) :
    Calls Tryz.prog 122 #[.pointer (some ⟨b, 0, none⟩)] w (RetF (FQ z b) w fun w' v => RowsAt S w' b iv arity LL ∧
      ∃ b' iv', v = .pointer (some ⟨b', 0, none⟩) ∧ w.heap.size ≤ b' ∧ (∀ k, iv'.ownBlock = some k → w.heap.size ≤ k) ∧ RowsAt S w' b' iv' arity LL) := by
  have c2 := h.ar
  have HS := Lib.hid (fun W (hW : Ext w W) => rowsSet_q (h.ext hW))
  clear h
  go_enter Tryz.func122, Tryz.ntmps122
  go_wp2_with fail
  go_region_with
    (first
      | (go_at_call 110; refine (HS.out _ ((Kp.refl w).drew)).mono ?_; rintro e w1 ⟨v1, rfl, hk1, rfl, h1⟩; have d2 := h1.q (z := False) |>.ar; have HK1 := Lib.hid (And.intro hk1 h1); obtain ⟨con, zs, hc, hs, hl⟩ := h1; have HC := Lib.hid (setCopyRow_any hs); have HE := Lib.hid (And.intro hc hl); clear hk1 hc hs hl)
      | (go_at_call 153; refine HC.out.mono ?_; rintro e w2 ⟨v2, rfl, hk2, b2, iv2, rfl, hb2, hi2, hs2⟩; have e2 := hk2.cell d2 id; obtain ⟨q1, q2⟩ := hs2.cells; obtain ⟨ao2, n2, cap2, ei, _⟩ : ∃ ao n cap, iv2 = .slice ao n cap ∧ True := (by obtain ⟨ao, cap, e, _⟩ := hs2.row.shape; exact ⟨_, _, _, e, trivial⟩); subst ei; have HS2 := Lib.hid (And.intro hk2 (And.intro hb2 (And.intro hi2 hs2))); clear hk2 hb2 hi2 hs2))
  all_goals
    go_wp2
    go_ret
    obtain ⟨hk1, h1⟩ := HK1.out
    obtain ⟨hk2, hb2, hi2, hs2⟩ := HS2.out
    have hz1 := hk1.size
    have hz2 := hk2.size
    have hz0 : w.heap.size ≤ w1.heap.size := hz1
    refine RetF.mk (((Kp.refl w).drew.trans hk1).ext (hk2.alloc _)) ⟨h1.ext (hk2.alloc _), _, _, rfl, by omega, fun k hk => Nat.le_trans hz0 (hi2 k hk), ?_⟩
    have := RowsAt.boxed hs2 hk2 HE.out.1 arity
    rw [HE.out.2] at this
    exact this

/-- What a set's function answers, as rows: res of the contents. -/
def OpTells (f : FuncId) (res : List (List ByteArray) → List (List ByteArray) → List (List ByteArray)) : Prop :=
  ∀ (S : Nat → Prop) (w : World) (b1 b2 : Nat) (iv1 iv2 : Value) (a1 a2 : Nat) (L1 L2 : List (List ByteArray)), RowsAt S w b1 iv1 a1 L1 → RowsAt S w b2 iv2 a2 L2 → L1.length + L2.length ≤ 1048576 * 1048576 →
    Calls Tryz.prog f #[.pointer (some ⟨b1, 0, none⟩), .pointer (some ⟨b2, 0, none⟩)] w (RetN w fun w' v => ∃ b' iv' con zs, v = .pointer (some ⟨b', 0, none⟩) ∧ w.heap.size ≤ b' ∧ (∀ k, iv'.ownBlock = some k → w.heap.size ≤ k) ∧
      SetAtRow Tryz.prog S w' b' (.func (Fn.func 41) #[] #[]) iv' [] 96 (RowD S w) (fun x y => cmpRow (con x) (con y)) zs ∧ (∀ x ss, ReadsAs w x ss → con x = ss) ∧ zs.map con = res L1 L2)
/-- Two Rows of one world, as raw items under one reading. -/
theorem RowsAt.two (h1 : RowsAt S w b1 iv1 arity L1) (h2 : RowsAt S w b2 iv2 arity2 L2) : ∃ con, ∃ zs zs2 : List RowZ, (∀ x ss, ReadsAs w x ss → con x = ss) ∧
    SetAtRow Tryz.prog S w b1 (.func (Fn.func 41) #[] #[]) iv1 [.int .i64 arity] 98 (RowD S w) (fun x y => cmpRow (con x) (con y)) zs ∧
    PtrSetRow Tryz.prog S w (.pointer (some ⟨b2, 0, none⟩)) zs2 ∧ (∀ x ∈ zs2, RowD S w x) ∧ zs.map con = L1 ∧ zs2.map con = L2 := by
  obtain ⟨con, zs, hc, hs, hl⟩ := h1
  obtain ⟨con2, zs2, hc2, hs2, hl2⟩ := h2
  refine ⟨con, zs, zs2, hc, hs, .inr ⟨_, _, _, _, _, _, _, rfl, hs2⟩, hs2.all, hl, ?_⟩
  rw [← hl2]
  refine List.map_congr_left fun x hx => ?_
  obtain ⟨ss, q1, q2, q3⟩ := hs2.all x hx
  rw [hc x ss q1, hc2 x ss q1]
theorem union_tells : OpTells 155 (fun L1 L2 => newS cmpRow (L1 ++ L2)) := by
  intro S w b1 b2 iv1 iv2 a1 a2 L1 L2 h1 h2 hll
  obtain ⟨con, zs, zs2, hc, hs, hp, hd, hl, hl2⟩ := h1.two h2
  refine (setUnionRow_any (cmpRow_law con) hs hp hd (by rw [← hl, ← hl2] at hll; simpa using hll)).mono ?_
  rintro e w' ⟨v, rfl, hk, b', iv', rfl, hb, hi, hs'⟩
  refine RetN.mk hk ⟨b', iv', con, _, rfl, hb, hi, hs', hc, ?_⟩
  rw [← newS_map, List.map_append, hl, hl2]
/-- What with answers, f having made L of the two. -/
def RowsWithQ (S : Nat → Prop) (w : World) (arity : Nat) (L : List (List ByteArray)) (w' : World) (v : Value) : Prop :=
  if 65536 < L.length then v = .tuple #[.pointer none, .int .i64 4]
  else ∃ b' iv', v = .tuple #[.pointer (some ⟨b', 0, none⟩), .int .i64 0] ∧ w.heap.size ≤ b' ∧ (∀ k, iv'.ownBlock = some k → w.heap.size ≤ k) ∧ RowsAt S w' b' iv' arity L
set_option maxRecDepth 100000 in
set_option maxHeartbeats 2000000 in
theorem rowsWith_q {f : FuncId} {res : List (List ByteArray) → List (List ByteArray) → List (List ByteArray)} (hf : OpTells f res) (hent : ∀ args w, (callFunc f args).run Tryz.prog w = .ok (Next.enter f args) w)
    (h1 : RowsQ z1 S w b1 iv1 arity L1) (h2 : RowsQ z2 S w b2 iv2 arity L2) (hap : z1 ∨ z2 → ∀ k, Owns b1 iv1 k → ¬ Owns b2 iv2 k) (hll : L1.length + L2.length ≤ 1048576 * 1048576) :
    Calls Tryz.prog 154 #[.pointer (some ⟨b1, 0, none⟩), .pointer (some ⟨b2, 0, none⟩), .func (Fn.func f) #[] #[]] w
      (RetF (fun k => FQ z1 b1 k ∨ FQ z2 b2 k) w fun w' v => RowsAt S w' b1 iv1 arity L1 ∧ RowsAt S w' b2 iv2 arity L2 ∧ RowsWithQ S w arity (res L1 L2) w' v) := by
  have c1 := h1.ar
  have c2 := h2.ar
  have t : ((arity : Int) != (arity : Int)) = false := by simp
  have HS1 := Lib.hid (fun W (hW : Ext w W) => rowsSet_q (h1.ext hW))
  have HS2 := Lib.hid (fun W (hW : Kp (FQ z1 b1) w W) => rowsSet_q (h2.kp hW (fun k hk ho => hap (.inl hk.1) k (FQ.owns k hk) ho) (fun k hk hS => h1.notS k (FQ.owns k hk) hS)))
  have HMV := Lib.hid (fun W W' (hr : RowsAt S W b1 iv1 arity L1) (hk : Kp (FQ z2 b2) W W') => hr.move hk (fun k hk ho => hap (.inr hk.1) k ho (FQ.owns k hk)) (fun k hk hS => h2.notS k (FQ.owns k hk) hS) (fun _ h => h) (fun k hS => Nat.lt_of_lt_of_le (hr.inS k hS) hk.size) hr.notS)
  have HF := Lib.hid hf
  have HL := Lib.hid hll
  clear h1 h2 hap hll hf
  go_enter Tryz.func154, Tryz.ntmps154
  go_wp2_with fail
  go_region
  all_goals
    go_wp2_with fail
    go_region_with
      (first
        | (go_at_call 110; (with_reducible refine (HS1.out _ ?_).mono ?_); exact Kp.drewN (Kp.refl w) 2; rintro e w1 ⟨v1, rfl, hk1, rfl, hr1⟩; have d1 := (hr1.q (z := False)).ar; have HK1 := Lib.hid (And.intro ((show Kp (FQ z1 b1) w _ from Kp.drewN (Kp.refl w) 2).trans hk1) hr1); clear hk1 hr1)
        | (go_at_call 110; (with_reducible refine (HS2.out _ ?_).mono ?_); exact HK1.out.1; rintro e w2 ⟨v2, rfl, hk2, rfl, hr2⟩; have hr1' := HMV.out _ _ HK1.out.2 hk2; have e1 := (hr1'.q (z := False)).ar; have HK2 := Lib.hid (And.intro hk2 (And.intro hr1' hr2)); have HFF := Lib.hid (HF.out _ _ _ _ _ _ _ _ _ _ hr1' hr2 HL.out); clear hk2 hr1' hr2)
        | (refine HFF.out.mono ?_; rintro e w3 ⟨v3, rfl, hk3, b3, iv3, con, zs, rfl, hb3, hi3, hs3, hc3, hl3⟩; have f1 := hk3.cell e1 id; obtain ⟨q1, q2⟩ := hs3.cells; obtain ⟨ao3, n3, cap3, ei, _⟩ : ∃ ao n cap, iv3 = .slice ao n cap ∧ True := (by obtain ⟨ao, cap, e, _⟩ := hs3.row.shape; exact ⟨_, _, _, e, trivial⟩); subst ei; have HS3 := Lib.hid (And.intro hk3 (And.intro hb3 (And.intro hi3 (And.intro hs3 (And.intro hc3 hl3))))); clear hk3 hb3 hi3 hs3 hc3 hl3))
  all_goals
    obtain ⟨hk3, hb3, hi3, hs3, hc3, hl3⟩ := HS3.out
    have hbx := RowsAt.boxed hs3 hk3 hc3 arity
    rw [hl3] at hbx
    have HBX := Lib.hid hbx
    clear hk3 hb3 hi3 hs3 hc3 hl3 hbx
    go_wp2_with fail
    refine (rowsLen_any HBX.out).mono ?_
    rintro e w5 ⟨rfl, rfl⟩
    have HN := Lib.hid (rfl : (res L1 L2).length = (res L1 L2).length)
    generalize hn : (res L1 L2).length = n at HN ⊢
    have HNN := Lib.hid hn; clear hn
    by_cases h65 : 65536 < n
    · have t1 : decide ((n : Int) > 65536) = true := by simp; omega
      have t2 : decide ((65536 : Int) < (n : Int)) = true := by simp; omega
      go_wp2
      go_ret2
      obtain ⟨hk3, hb3, hi3, hs3, hc3, hl3⟩ := HS3.out
      obtain ⟨hk2, hr1, hr2⟩ := HK2.out
      have hx : Ext _ _ := hk3.alloc (.cells #[.func (Fn.func 41) #[] #[], .slice ao3 n3 cap3, .int .i64 arity] 98)
      refine RetF.mk ((((HK1.out.1.mono fun _ _ h => .inl h).trans (hk2.mono fun _ _ h => .inr h))).ext hx) ⟨hr1.ext hx, hr2.ext hx, ?_⟩
      unfold RowsWithQ
      rw [HNN.out, if_pos h65]
      rfl
    · have t1 : decide ((n : Int) > 65536) = false := by simp; omega
      have t2 : decide ((65536 : Int) < (n : Int)) = false := by simp; omega
      go_wp2
      go_ret2
      obtain ⟨hk3, hb3, hi3, hs3, hc3, hl3⟩ := HS3.out
      obtain ⟨hk2, hr1, hr2⟩ := HK2.out
      have hx : Ext _ _ := hk3.alloc (.cells #[.func (Fn.func 41) #[] #[], .slice ao3 n3 cap3, .int .i64 arity] 98)
      have hz1 := HK1.out.1.size
      have hz2 := hk2.size
      have hz3 := hk3.size
      refine RetF.mk ((((HK1.out.1.mono fun _ _ h => .inl h).trans (hk2.mono fun _ _ h => .inr h))).ext hx) ⟨hr1.ext hx, hr2.ext hx, ?_⟩
      unfold RowsWithQ
      rw [HNN.out, if_neg h65]
      exact ⟨_, _, rfl, by omega, fun k hk => by have := hi3 k hk; omega, HBX.out⟩
end
end Go.Proofs.YtfkhelihepbehaaGreat

/- tuple.Rows: Same; Union, Minus, Meet; NewRows of a bad arity. -/
namespace Go.Proofs.YtfkhelihepbehaaGreat
open Go.RowKit Go.Shelf
set_option linter.unusedVariables false

section
variable {z z1 z2 : Prop} {S : Nat → Prop} {w w' : World} {b b1 b2 : Nat} {iv iv1 iv2 : Value} {arity a1 a2 : Nat} {LL L1 L2 : List (List ByteArray)}
/-- The sets of two Rows. -/
theorem rowsSame_set (h1 : RowsAt S w b1 iv1 a1 L1) (h2 : RowsAt S w b2 iv2 a2 L2) :
    Calls Tryz.prog 112 #[.pointer (some ⟨b1, 0, none⟩), .pointer (some ⟨b2, 0, none⟩)] w (RetN w fun w' v => v = .bool (decide (L1 = L2))) := by
  obtain ⟨con, zs, zs2, hc, hs, hp, hd, hl, hl2⟩ := h1.two h2
  refine (setSameRow_any hs hp hd).mono ?_
  rintro e w' ⟨v, rfl, hk, r, rfl, hr⟩
  refine RetN.mk hk ?_
  have e : r = decide (L1 = L2) := by
    rw [Bool.eq_iff_iff, hr, decide_eq_true_iff, ← hl, ← hl2]
    constructor
    · rintro ⟨h1, h2⟩
      refine List.ext_getElem (by simpa using h1) fun i hi hj => ?_
      rw [List.length_map] at hi hj
      rw [List.getElem_map, List.getElem_map]
      exact cmpRow_zero (h2 i _ _ (List.getElem?_eq_getElem hi) (List.getElem?_eq_getElem hj))
    · intro h
      have hn := congrArg List.length h
      rw [List.length_map, List.length_map] at hn
      refine ⟨hn, fun i x y hx hy => ?_⟩
      have h3 := congrArg (fun l => l[i]?) h
      simp only [List.getElem?_map, hx, hy, Option.map_some, Option.some.injEq] at h3
      rw [h3]; exact cmpRow_self _
  rw [e]

set_option maxRecDepth 100000 in
theorem rowsSame_arity (c1 : w.cell? ⟨b1, 2, none⟩ = some (.int .i64 a1)) (c2 : w.cell? ⟨b2, 2, none⟩ = some (.int .i64 a2)) (hne : a1 ≠ a2) :
    Calls Tryz.prog 61 #[.pointer (some ⟨b1, 0, none⟩), .pointer (some ⟨b2, 0, none⟩)] w (RetD (.bool false) w) := by
  have t : ((a1 : Int) == (a2 : Int)) = false := by simp; omega
  go_enter Tryz.func61, Tryz.ntmps61
  go_wp2
  refine wp_region_held_drew (S := fun w' => w'.cell? ⟨b1, 2, none⟩ = some (.int .i64 a1) ∧ w'.cell? ⟨b2, 2, none⟩ = some (.int .i64 a2)) (by kernel_rfl) ⟨by assumption, by assumption⟩ (fun hHeld => ?_)
  (refine take_in (i := 0) (v := ?_) rfl ?_ ?_; rotate_left; (intro w hSw; (try dsimp only at hSw); go_simp; try with_reducible rfl)); (try simp only [Act.put, List.setIfInBounds_toArray, List.set_cons_zero, List.set_cons_succ])
  (refine take_in (i := 1) (v := ?_) rfl ?_ ?_; rotate_left; (intro w hSw; (try dsimp only at hSw); go_simp; try with_reducible rfl)); (try simp only [Act.put, List.setIfInBounds_toArray, List.set_cons_zero, List.set_cons_succ])
  (refine take_in (i := 2) (v := ?_) rfl ?_ ?_; rotate_left; (intro w hSw; (try dsimp only at hSw); go_simp; try with_reducible rfl)); (try simp only [Act.put, List.setIfInBounds_toArray, List.set_cons_zero, List.set_cons_succ])
  (first | (refine take_in (i := 3) (v := ?_) rfl ?_ ?_; rotate_left; (intro w hSw; (try dsimp only at hSw); go_simp; try with_reducible rfl)) | (refine take_out (i := 3) rfl ?_)); (try simp only [Act.put, List.setIfInBounds_toArray, List.set_cons_zero, List.set_cons_succ])
  (first | (refine take_in (i := 4) (v := ?_) rfl ?_ ?_; rotate_left; (intro w hSw; (try dsimp only at hSw); go_simp; try with_reducible rfl)) | (refine take_out (i := 4) rfl ?_)); (try simp only [Act.put, List.setIfInBounds_toArray, List.set_cons_zero, List.set_cons_succ])
  (refine take_in (i := 5) (v := ?_) rfl ?_ ?_; rotate_left; (intro w hSw; (try dsimp only at hSw); go_simp; try with_reducible rfl)); (try simp only [Act.put, List.setIfInBounds_toArray, List.set_cons_zero, List.set_cons_succ])
  (refine take_in (i := 6) (v := ?_) rfl ?_ ?_; rotate_left; (intro w hSw; (try dsimp only at hSw); go_simp; try with_reducible rfl)); (try simp only [Act.put, List.setIfInBounds_toArray, List.set_cons_zero, List.set_cons_succ])
  (first | (refine take_in (i := 7) (v := ?_) rfl ?_ ?_; rotate_left; (intro w hSw; (try dsimp only at hSw); go_simp; try with_reducible rfl)) | (refine take_out (i := 7) rfl ?_)); (try simp only [Act.put, List.setIfInBounds_toArray, List.set_cons_zero, List.set_cons_succ])
  (first | (refine take_in (i := 8) (v := ?_) rfl ?_ ?_; rotate_left; (intro w hSw; (try dsimp only at hSw); go_simp; try with_reducible rfl)) | (refine take_out (i := 8) rfl ?_)); (try simp only [Act.put, List.setIfInBounds_toArray, List.set_cons_zero, List.set_cons_succ])
  (first | (refine take_in (i := 9) (v := ?_) rfl ?_ ?_; rotate_left; (intro w hSw; (try dsimp only at hSw); go_simp; try with_reducible rfl)) | (refine take_out (i := 9) rfl ?_)); (try simp only [Act.put, List.setIfInBounds_toArray, List.set_cons_zero, List.set_cons_succ])
  (first | (refine take_in (i := 10) (v := ?_) rfl ?_ ?_; rotate_left; (intro w hSw; (try dsimp only at hSw); go_simp; try with_reducible rfl)) | (refine take_out (i := 10) rfl ?_)); (try simp only [Act.put, List.setIfInBounds_toArray, List.set_cons_zero, List.set_cons_succ])
  (first | (refine take_in (i := 11) (v := ?_) rfl ?_ ?_; rotate_left; (intro w hSw; (try dsimp only at hSw); go_simp; try with_reducible rfl)) | (refine take_out (i := 11) rfl ?_)); (try simp only [Act.put, List.setIfInBounds_toArray, List.set_cons_zero, List.set_cons_succ])
  (first | (refine take_in (i := 12) (v := ?_) rfl ?_ ?_; rotate_left; (intro w hSw; (try dsimp only at hSw); go_simp; try with_reducible rfl)) | (refine take_out (i := 12) rfl ?_)); (try simp only [Act.put, List.setIfInBounds_toArray, List.set_cons_zero, List.set_cons_succ])
  (first | (refine take_in (i := 13) (v := ?_) rfl ?_ ?_; rotate_left; (intro w hSw; (try dsimp only at hSw); go_simp; try with_reducible rfl)) | (refine take_out (i := 13) rfl ?_)); (try simp only [Act.put, List.setIfInBounds_toArray, List.set_cons_zero, List.set_cons_succ])
  (first | (refine take_in (i := 14) (v := ?_) rfl ?_ ?_; rotate_left; (intro w hSw; (try dsimp only at hSw); go_simp; try with_reducible rfl)) | (refine take_out (i := 14) rfl ?_)); (try simp only [Act.put, List.setIfInBounds_toArray, List.set_cons_zero, List.set_cons_succ])
  (first | (refine take_in (i := 15) (v := ?_) rfl ?_ ?_; rotate_left; (intro w hSw; (try dsimp only at hSw); go_simp; try with_reducible rfl)) | (refine take_out (i := 15) rfl ?_)); (try simp only [Act.put, List.setIfInBounds_toArray, List.set_cons_zero, List.set_cons_succ])
  (refine take_in (i := 16) (v := ?_) rfl ?_ ?_; rotate_left; (intro w hSw; (try dsimp only at hSw); go_simp; try with_reducible rfl)); (try simp only [Act.put, List.setIfInBounds_toArray, List.set_cons_zero, List.set_cons_succ])
  (refine take_in (i := 17) (v := ?_) rfl ?_ ?_; rotate_left; (intro w hSw; (try dsimp only at hSw); go_simp; try with_reducible rfl)); (try simp only [Act.put, List.setIfInBounds_toArray, List.set_cons_zero, List.set_cons_succ])
  (first | (refine take_in (i := 18) (v := ?_) rfl ?_ ?_; rotate_left; (intro w hSw; (try dsimp only at hSw); go_simp; try with_reducible rfl)) | (refine take_out (i := 18) rfl ?_)); (try simp only [Act.put, List.setIfInBounds_toArray, List.set_cons_zero, List.set_cons_succ])
  (first | (refine take_in (i := 20) (v := ?_) rfl ?_ ?_; rotate_left; (intro w hSw; (try dsimp only at hSw); go_simp; try with_reducible rfl)) | (refine take_out (i := 20) rfl ?_)); (try simp only [Act.put, List.setIfInBounds_toArray, List.set_cons_zero, List.set_cons_succ])
  (first | (refine take_out (i := 19) rfl ?_) | (refine take_call (i := 19) rfl (fun K hK => ?_); go_simp; (fail); go_wp2_with fail; refine hK.out _ _ ?_ (fun hHeld => ?_); (try dsimp only); (exact ⟨by assumption, by assumption⟩); clear hK K)); (try simp only [Act.put, List.setIfInBounds_toArray, List.set_cons_zero, List.set_cons_succ])
  (first | (refine take_out (i := 21) rfl ?_) | (refine take_call (i := 21) rfl (fun K hK => ?_); go_simp; (fail); go_wp2_with fail; refine hK.out _ _ ?_ (fun hHeld => ?_); (try dsimp only); (exact ⟨by assumption, by assumption⟩); clear hK K)); (try simp only [Act.put, List.setIfInBounds_toArray, List.set_cons_zero, List.set_cons_succ])
  (first | (refine take_out (i := 22) rfl ?_) | (refine take_call (i := 22) rfl (fun K hK => ?_); go_simp; (fail); go_wp2_with fail; refine hK.out _ _ ?_ (fun hHeld => ?_); (try dsimp only); (exact ⟨by assumption, by assumption⟩); clear hK K)); (try simp only [Act.put, List.setIfInBounds_toArray, List.set_cons_zero, List.set_cons_succ])
  (refine take_in (i := 23) (v := ?_) rfl ?_ ?_; rotate_left; (intro w hSw; (try dsimp only at hSw); go_simp; try with_reducible rfl)); (try simp only [Act.put, List.setIfInBounds_toArray, List.set_cons_zero, List.set_cons_succ])
  (refine take_in (i := 24) (v := ?_) rfl ?_ ?_; rotate_left; (intro w hSw; (try dsimp only at hSw); go_simp; try with_reducible rfl)); (try simp only [Act.put, List.setIfInBounds_toArray, List.set_cons_zero, List.set_cons_succ])
  refine wpAnyH_done (by kernel_rfl) ?_ _
  go_wp2
  go_ret
  exact RetD.mk rfl 1
set_option maxRecDepth 100000 in
set_option maxHeartbeats 2000000 in
theorem rowsSame_gen (h1 : RowsQ z1 S w b1 iv1 a1 L1) (c2 : w.cell? ⟨b2, 2, none⟩ = some (.int .i64 a2)) (he : a1 = a2)
    (h2 : ∀ W, Kp (FQ z1 b1) w W → RowsAt S W b1 iv1 a1 L1 → RowsQ z2 S W b2 iv2 a2 L2) (h3 : ∀ W W', RowsAt S W b1 iv1 a1 L1 → Kp (FQ z2 b2) W W' → RowsAt S W' b2 iv2 a2 L2 → RowsAt S W' b1 iv1 a1 L1) :
    Calls Tryz.prog 61 #[.pointer (some ⟨b1, 0, none⟩), .pointer (some ⟨b2, 0, none⟩)] w
      (RetF (fun k => FQ z1 b1 k ∨ FQ z2 b2 k) w fun w' v => v = .bool (decide (L1 = L2)) ∧ RowsAt S w' b1 iv1 a1 L1 ∧ RowsAt S w' b2 iv2 a2 L2) := by
  have t : ((a1 : Int) == (a2 : Int)) = true := by simp [he]
  have c1 := h1.ar
  have HS1 := Lib.hid (fun W (hW : Ext w W) => rowsSet_q (h1.ext hW))
  have H2 := Lib.hid h2
  have H1 := Lib.hid h3
  clear h1 h2 h3
  go_enter Tryz.func61, Tryz.ntmps61
  go_wp2
  refine wp_region_held_drew (S := fun w' => w'.cell? ⟨b1, 2, none⟩ = some (.int .i64 a1) ∧ w'.cell? ⟨b2, 2, none⟩ = some (.int .i64 a2)) (by kernel_rfl) ⟨by assumption, by assumption⟩ (fun hHeld => ?_)
  (refine take_in (i := 0) (v := ?_) rfl ?_ ?_; rotate_left; (intro w hSw; (try dsimp only at hSw); go_simp; try with_reducible rfl)); (try simp only [Act.put, List.setIfInBounds_toArray, List.set_cons_zero, List.set_cons_succ])
  (refine take_in (i := 1) (v := ?_) rfl ?_ ?_; rotate_left; (intro w hSw; (try dsimp only at hSw); go_simp; try with_reducible rfl)); (try simp only [Act.put, List.setIfInBounds_toArray, List.set_cons_zero, List.set_cons_succ])
  (refine take_in (i := 2) (v := ?_) rfl ?_ ?_; rotate_left; (intro w hSw; (try dsimp only at hSw); go_simp; try with_reducible rfl)); (try simp only [Act.put, List.setIfInBounds_toArray, List.set_cons_zero, List.set_cons_succ])
  (first | (refine take_in (i := 3) (v := ?_) rfl ?_ ?_; rotate_left; (intro w hSw; (try dsimp only at hSw); go_simp; try with_reducible rfl)) | (refine take_out (i := 3) rfl ?_)); (try simp only [Act.put, List.setIfInBounds_toArray, List.set_cons_zero, List.set_cons_succ])
  (first | (refine take_in (i := 4) (v := ?_) rfl ?_ ?_; rotate_left; (intro w hSw; (try dsimp only at hSw); go_simp; try with_reducible rfl)) | (refine take_out (i := 4) rfl ?_)); (try simp only [Act.put, List.setIfInBounds_toArray, List.set_cons_zero, List.set_cons_succ])
  (refine take_in (i := 5) (v := ?_) rfl ?_ ?_; rotate_left; (intro w hSw; (try dsimp only at hSw); go_simp; try with_reducible rfl)); (try simp only [Act.put, List.setIfInBounds_toArray, List.set_cons_zero, List.set_cons_succ])
  (refine take_in (i := 6) (v := ?_) rfl ?_ ?_; rotate_left; (intro w hSw; (try dsimp only at hSw); go_simp; try with_reducible rfl)); (try simp only [Act.put, List.setIfInBounds_toArray, List.set_cons_zero, List.set_cons_succ])
  (first | (refine take_in (i := 7) (v := ?_) rfl ?_ ?_; rotate_left; (intro w hSw; (try dsimp only at hSw); go_simp; try with_reducible rfl)) | (refine take_out (i := 7) rfl ?_)); (try simp only [Act.put, List.setIfInBounds_toArray, List.set_cons_zero, List.set_cons_succ])
  (first | (refine take_in (i := 8) (v := ?_) rfl ?_ ?_; rotate_left; (intro w hSw; (try dsimp only at hSw); go_simp; try with_reducible rfl)) | (refine take_out (i := 8) rfl ?_)); (try simp only [Act.put, List.setIfInBounds_toArray, List.set_cons_zero, List.set_cons_succ])
  (first | (refine take_in (i := 9) (v := ?_) rfl ?_ ?_; rotate_left; (intro w hSw; (try dsimp only at hSw); go_simp; try with_reducible rfl)) | (refine take_out (i := 9) rfl ?_)); (try simp only [Act.put, List.setIfInBounds_toArray, List.set_cons_zero, List.set_cons_succ])
  (first | (refine take_in (i := 10) (v := ?_) rfl ?_ ?_; rotate_left; (intro w hSw; (try dsimp only at hSw); go_simp; try with_reducible rfl)) | (refine take_out (i := 10) rfl ?_)); (try simp only [Act.put, List.setIfInBounds_toArray, List.set_cons_zero, List.set_cons_succ])
  (first | (refine take_in (i := 11) (v := ?_) rfl ?_ ?_; rotate_left; (intro w hSw; (try dsimp only at hSw); go_simp; try with_reducible rfl)) | (refine take_out (i := 11) rfl ?_)); (try simp only [Act.put, List.setIfInBounds_toArray, List.set_cons_zero, List.set_cons_succ])
  (first | (refine take_in (i := 12) (v := ?_) rfl ?_ ?_; rotate_left; (intro w hSw; (try dsimp only at hSw); go_simp; try with_reducible rfl)) | (refine take_out (i := 12) rfl ?_)); (try simp only [Act.put, List.setIfInBounds_toArray, List.set_cons_zero, List.set_cons_succ])
  (first | (refine take_in (i := 13) (v := ?_) rfl ?_ ?_; rotate_left; (intro w hSw; (try dsimp only at hSw); go_simp; try with_reducible rfl)) | (refine take_out (i := 13) rfl ?_)); (try simp only [Act.put, List.setIfInBounds_toArray, List.set_cons_zero, List.set_cons_succ])
  (first | (refine take_in (i := 14) (v := ?_) rfl ?_ ?_; rotate_left; (intro w hSw; (try dsimp only at hSw); go_simp; try with_reducible rfl)) | (refine take_out (i := 14) rfl ?_)); (try simp only [Act.put, List.setIfInBounds_toArray, List.set_cons_zero, List.set_cons_succ])
  (first | (refine take_in (i := 15) (v := ?_) rfl ?_ ?_; rotate_left; (intro w hSw; (try dsimp only at hSw); go_simp; try with_reducible rfl)) | (refine take_out (i := 15) rfl ?_)); (try simp only [Act.put, List.setIfInBounds_toArray, List.set_cons_zero, List.set_cons_succ])
  (refine take_in (i := 16) (v := ?_) rfl ?_ ?_; rotate_left; (intro w hSw; (try dsimp only at hSw); go_simp; try with_reducible rfl)); (try simp only [Act.put, List.setIfInBounds_toArray, List.set_cons_zero, List.set_cons_succ])
  (refine take_in (i := 17) (v := ?_) rfl ?_ ?_; rotate_left; (intro w hSw; (try dsimp only at hSw); go_simp; try with_reducible rfl)); (try simp only [Act.put, List.setIfInBounds_toArray, List.set_cons_zero, List.set_cons_succ])
  (first | (refine take_in (i := 18) (v := ?_) rfl ?_ ?_; rotate_left; (intro w hSw; (try dsimp only at hSw); go_simp; try with_reducible rfl)) | (refine take_out (i := 18) rfl ?_)); (try simp only [Act.put, List.setIfInBounds_toArray, List.set_cons_zero, List.set_cons_succ])
  (first | (refine take_in (i := 20) (v := ?_) rfl ?_ ?_; rotate_left; (intro w hSw; (try dsimp only at hSw); go_simp; try with_reducible rfl)) | (refine take_out (i := 20) rfl ?_)); (try simp only [Act.put, List.setIfInBounds_toArray, List.set_cons_zero, List.set_cons_succ])
  (first | (refine take_out (i := 19) rfl ?_) | (refine take_call (i := 19) rfl (fun K hK => ?_); go_simp; ((with_reducible refine (HS1.out _ ?_).mono ?_); exact (Kp.refl w).drew; rintro e w1 ⟨v1, rfl, hk1, rfl, hr1⟩; have hk1' : Kp (FQ z1 b1) w w1 := (show Kp (FQ z1 b1) w _ from (Kp.refl w).drew).trans hk1; have hq2 := H2.out _ hk1' hr1; have d1 := (hr1.q (z := False)).ar; have d2 := hq2.ar; have HK1 := Lib.hid (And.intro hk1' hr1); have HS2 := Lib.hid (rowsSet_q hq2); clear hk1 hk1' hr1 hq2); go_wp2_with fail; refine hK.out _ _ ?_ (fun hHeld => ?_); (try dsimp only); (exact ⟨by assumption, by assumption⟩); clear hK K)); (try simp only [Act.put, List.setIfInBounds_toArray, List.set_cons_zero, List.set_cons_succ])
  (first | (refine take_out (i := 21) rfl ?_) | (refine take_call (i := 21) rfl (fun K hK => ?_); go_simp; (refine HS2.out.mono ?_; rintro e w2 ⟨v2, rfl, hk2, rfl, hr2⟩; have hr1' := H1.out _ _ HK1.out.2 hk2 hr2; have e1 := (hr1'.q (z := False)).ar; have e2 := (hr2.q (z := False)).ar; have HK2 := Lib.hid (And.intro hk2 (And.intro hr1' hr2)); have HFF := Lib.hid (rowsSame_set hr1' hr2); clear hk2 hr1' hr2); go_wp2_with fail; refine hK.out _ _ ?_ (fun hHeld => ?_); (try dsimp only); (exact ⟨by assumption, by assumption⟩); clear hK K)); (try simp only [Act.put, List.setIfInBounds_toArray, List.set_cons_zero, List.set_cons_succ])
  (first | (refine take_out (i := 22) rfl ?_) | (refine take_call (i := 22) rfl (fun K hK => ?_); go_simp; (refine HFF.out.mono ?_; rintro e w3 ⟨v3, rfl, hk3, rfl⟩; have f1 := hk3.cell e1 id; have f2 := hk3.cell e2 id; have HK3 := Lib.hid hk3; clear hk3); go_wp2_with fail; refine hK.out _ _ ?_ (fun hHeld => ?_); (try dsimp only); (exact ⟨by assumption, by assumption⟩); clear hK K)); (try simp only [Act.put, List.setIfInBounds_toArray, List.set_cons_zero, List.set_cons_succ])
  (refine take_in (i := 23) (v := ?_) rfl ?_ ?_; rotate_left; (intro w hSw; (try dsimp only at hSw); go_simp; try with_reducible rfl)); (try simp only [Act.put, List.setIfInBounds_toArray, List.set_cons_zero, List.set_cons_succ])
  (refine take_in (i := 24) (v := ?_) rfl ?_ ?_; rotate_left; (intro w hSw; (try dsimp only at hSw); go_simp; try with_reducible rfl)); (try simp only [Act.put, List.setIfInBounds_toArray, List.set_cons_zero, List.set_cons_succ])
  refine wpAnyH_done (by kernel_rfl) ?_ _
  go_wp2
  go_ret
  obtain ⟨hk2, hr1, hr2⟩ := HK2.out
  exact RetF.mk (((HK1.out.1.mono fun _ _ h => .inl h).trans (hk2.mono fun _ _ h => .inr h)).ext HK3.out) ⟨rfl, hr1.ext HK3.out, hr2.ext HK3.out⟩
theorem rowsSame_q (h1 : RowsQ z1 S w b1 iv1 arity L1) (h2 : RowsQ z2 S w b2 iv2 arity L2) (hap : ∀ k, Owns b1 iv1 k → ¬ Owns b2 iv2 k) :
    Calls Tryz.prog 61 #[.pointer (some ⟨b1, 0, none⟩), .pointer (some ⟨b2, 0, none⟩)] w
      (RetF (fun k => FQ z1 b1 k ∨ FQ z2 b2 k) w fun w' v => v = .bool (decide (L1 = L2)) ∧ RowsAt S w' b1 iv1 arity L1 ∧ RowsAt S w' b2 iv2 arity L2) :=
  rowsSame_gen h1 h2.ar rfl (fun W hk _ => h2.kp hk (fun k hk ho => hap k (FQ.owns k hk) ho) (fun k hk hS => h1.notS k (FQ.owns k hk) hS))
    (fun W W' hr hk _ => hr.move hk (fun k hk ho => hap k ho (FQ.owns k hk)) (fun k hk hS => h2.notS k (FQ.owns k hk) hS) (fun _ h => h) (fun k hS => Nat.lt_of_lt_of_le (hr.inS k hS) hk.size) hr.notS)
theorem rowsSame_self (h : RowsQ z S w b iv arity LL) :
    Calls Tryz.prog 61 #[.pointer (some ⟨b, 0, none⟩), .pointer (some ⟨b, 0, none⟩)] w (RetF (FQ z b) w fun w' v => v = .bool true ∧ RowsAt S w' b iv arity LL) := by
  refine (rowsSame_gen (z2 := z) h h.ar rfl (fun W hk hr => hr.q) (fun W W' hr hk h => h)).mono ?_
  rintro e w' ⟨v, rfl, hk, rfl, h1, _⟩
  exact RetF.mk (hk.mono fun _ _ h => by rcases h with h | h <;> exact h) ⟨by simp, h1⟩

theorem rowsUnion_g (h1 : RowsQ z1 S w b1 iv1 arity L1) (h2 : RowsQ z2 S w b2 iv2 arity L2) (hap : z1 ∨ z2 → ∀ k, Owns b1 iv1 k → ¬ Owns b2 iv2 k) (hll : L1.length + L2.length ≤ 1048576 * 1048576) :
    Calls Tryz.prog 123 #[.pointer (some ⟨b1, 0, none⟩), .pointer (some ⟨b2, 0, none⟩)] w
      (RetF (fun k => FQ z1 b1 k ∨ FQ z2 b2 k) w fun w' v => RowsAt S w' b1 iv1 arity L1 ∧ RowsAt S w' b2 iv2 arity L2 ∧ RowsWithQ S w arity (newS cmpRow (L1 ++ L2)) w' v) := by
  have H := Lib.hid (rowsWith_q union_tells (enters_of Tryz.func155 (by kernel_rfl) rfl) h1 h2 hap hll); clear h1 h2 hap
  go_enter Tryz.func123, Tryz.ntmps123
  go_wp2_with fail
  refine H.out.mono ?_
  rintro e w1 ⟨v, rfl, hk, hr1, hr2, hq⟩
  unfold RowsWithQ at hq
  split at hq
  · subst hq
    rename_i hlt
    have HK := Lib.hid (And.intro hk (And.intro hr1 (And.intro hr2 hlt))); clear hk hr1 hr2 hlt
    go_wp2
    go_ret2
    exact RetF.mk HK.out.1 ⟨HK.out.2.1, HK.out.2.2.1, by unfold RowsWithQ; rw [if_pos HK.out.2.2.2]; rfl⟩
  · obtain ⟨b', iv', rfl, hq⟩ := hq
    rename_i hlt
    have HK := Lib.hid (And.intro hk (And.intro hr1 (And.intro hr2 (And.intro hlt hq)))); clear hk hr1 hr2 hlt hq
    go_wp2
    go_ret2
    exact RetF.mk HK.out.1 ⟨HK.out.2.1, HK.out.2.2.1, by unfold RowsWithQ; rw [if_neg HK.out.2.2.2.1]; exact ⟨_, _, rfl, HK.out.2.2.2.2⟩⟩
theorem newRows_bad (a : Int) (w : World) (ha : a < 0 ∨ 64 < a) : Calls Tryz.prog 97 #[.int .i64 a] w (Ret (.tuple #[.pointer none, .int .i64 2]) w) := by
  by_cases h0 : a < 0
  · have t1 : decide (a < 0) = true := by simp [h0]
    go_enter Tryz.func97, Tryz.ntmps97
    go_wp2
    go_ret2
    exact Ret.mk rfl
  · have h1 : 64 < a := by omega
    have t1 : decide (a < 0) = false := by simp; omega
    have t2 : decide (a > 64) = true := by simp; omega
    have t3 : decide (64 < a) = true := by simp; omega
    go_enter Tryz.func97, Tryz.ntmps97
    go_wp2
    go_ret2
    exact Ret.mk rfl
end
end Go.Proofs.YtfkhelihepbehaaGreat

/- tuple.Base: Add, at every base. -/
namespace Go.Proofs.YtfkhelihepbehaaGreat
open Go.RowKit
set_option linter.unusedVariables false

theorem addR_name {C : List CntZ} {s : ByteArray} (row : List ByteArray) (h : namedC s = false) : addR C s row = (false, 32) := if_pos h
theorem addR_long {C : List CntZ} {s : ByteArray} {row : List ByteArray} (h : namedC s = true) (hg : getC C s = none) (hl : 64 < row.length) : addR C s row = (false, 30) := by
  unfold addR
  rw [if_neg (by rw [h]; simp), if_pos (by unfold arOk; rw [hg]; exact decide_eq_false (by omega))]
theorem addR_arity {C : List CntZ} {s : ByteArray} {row : List ByteArray} {v : Nat × Rows2} (h : namedC s = true) (hg : getC C s = some v) (hl : v.1 ≠ row.length) : addR C s row = (false, 30) := by
  unfold addR
  rw [if_neg (by rw [h]; simp), if_pos (by unfold arOk; rw [hg]; exact decide_eq_false hl)]
theorem addR_text {C : List CntZ} {s : ByteArray} {row : List ByteArray} (h : namedC s = true) (hg : arOk C s row = true) (ht : textsC row = false) : addR C s row = (false, 31) := by
  unfold addR
  rw [if_neg (by rw [h]; simp), if_neg (by rw [hg]; simp), if_pos ht]
theorem addR_many {C : List CntZ} {s : ByteArray} {row : List ByteArray} (h : namedC s = true) (hg : arOk C s row = true) (ht : textsC row = true) (hm : 262144 ≤ totalC C) (hi : isIn cmpRow (rowsC C s) row = false) : addR C s row = (false, 4) := by
  unfold addR
  rw [if_neg (by rw [h]; simp), if_neg (by rw [hg]; simp), if_neg (by rw [ht]; simp), if_pos ⟨hm, hi⟩]
theorem addR_rest {C : List CntZ} {s : ByteArray} {row : List ByteArray} (h : namedC s = true) (hg : arOk C s row = true) (ht : textsC row = true) (hm : ¬ (262144 ≤ totalC C ∧ isIn cmpRow (rowsC C s) row = false)) :
    addR C s row = if 65536 ≤ (rowsC C s).length ∧ isIn cmpRow (rowsC C s) row = false then (false, 4) else (!isIn cmpRow (rowsC C s) row, 0) := by
  unfold addR
  rw [if_neg (by rw [h]; simp), if_neg (by rw [hg]; simp), if_neg (by rw [ht]; simp), if_neg hm]
theorem ar_some {C : List CntZ} {s : ByteArray} {row : List ByteArray} {v : Nat × Rows2} (hg : getC C s = some v) (h : v.1 = row.length) : arOk C s row = true := by unfold arOk; rw [hg]; exact decide_eq_true h
theorem ar_none {C : List CntZ} {s : ByteArray} {row : List ByteArray} (hg : getC C s = none) (h : row.length ≤ 64) : arOk C s row = true := by unfold arOk; rw [hg]; exact decide_eq_true h
theorem addC_not {C : List CntZ} {s : ByteArray} {row : List ByteArray} (h : (addR C s row).2 ≠ 0) : addC C s row = C := if_neg h

section
variable {S S' : Nat → Prop} {w w1 w2 w3 w4 : World} {bb r : Nat} {E : List Ent} {s : ByteArray} {ss : List ByteArray} {e : Ent} {iv' : Value}
/-- What Add leaves. -/
def BaseAdded (S : Nat → Prop) (w : World) (bb r : Nat) (E : List Ent) (s : ByteArray) (ss : List ByteArray) (w' : World) (v : Value) : Prop :=
  v = .tuple #[.bool (addR (cntE E) s ss).1, .int .i64 ((addR (cntE E) s ss).2 : Nat)] ∧ ∃ S' E', (∀ k, S k → S' k) ∧ (∀ k, S' k → S k ∨ w.heap.size ≤ k) ∧ BaseAt S' w' bb r E' ∧ cntE E' = addC (cntE E) s ss ∧ ∀ k, OwnB bb r E' k → OwnB bb r E k ∨ w.heap.size ≤ k
theorem BaseAdded.same (h : BaseAt S w bb r E) (hk : Ext w w1) {n : Nat} (hR : addR (cntE E) s ss = (false, n)) (hn : n ≠ 0) {v : Value} (hv : v = .tuple #[.bool false, .int .i64 (n : Nat)]) : BaseAdded S w bb r E s ss w1 v :=
  ⟨by rw [hv, hR], S, E, fun _ h => h, fun _ h => .inl h, h.ext hk, (addC_not (by rw [hR]; exact hn)).symm, fun _ h => .inl h⟩
theorem own_turn {pre post : List Ent} (hiv : ∀ k, iv'.ownBlock = some k → e.iv.ownBlock = some k ∨ w.heap.size ≤ k) (LL' : List (List ByteArray)) : ∀ k, OwnB bb r (pre ++ { e with iv := iv', LL := LL' } :: post) k → OwnB bb r (pre ++ e :: post) k ∨ w.heap.size ≤ k := by
  rintro k (h | h | ⟨f, hf, ho⟩)
  · exact .inl (.inl h)
  · exact .inl (.inr (.inl h))
  · rcases List.mem_append.1 hf with hf | hf
    · exact .inl (.inr (.inr ⟨f, List.mem_append_left _ hf, ho⟩))
    · rcases List.mem_cons.1 hf with rfl | hf
      · rcases ho with ho | ho
        · exact .inl (.inr (.inr ⟨e, List.mem_append_right _ List.mem_cons_self, .inl ho⟩))
        · rcases hiv k ho with h2 | h2
          · exact .inl (.inr (.inr ⟨e, List.mem_append_right _ List.mem_cons_self, .inr h2⟩))
          · exact .inr h2
      · exact .inl (.inr (.inr ⟨f, List.mem_append_right _ (List.mem_cons_of_mem _ hf), ho⟩))
theorem baseMap_own (h : BaseAt S w bb r E) (he : findE E s = some e) (hx : Ext w w2) (hk : Kp e.own w2 w3) : MapIs w3 r (entM E) := (h.map.ext hx).kp hk fun ho => (h.off e (findE_some he).1 r ho).2 rfl
theorem baseBlk_own (h : BaseAt S w bb r E) (he : findE E s = some e) (hx : Ext w w2) (hk : Kp e.own w2 w3) : Blk w3 bb [.map (some r), .int .i64 (totalC (cntE E) : Nat)] 65 := (h.blk.ext hx).kp hk fun ho => (h.off e (findE_some he).1 bb ho).1 rfl

/-- The rows were full. -/
theorem baseAdd_full {LL : List (List ByteArray)} (h : BaseAt S w bb r E) (he : findE E s = some e) (hf : namedC s = true ∧ e.ar = ss.length ∧ textsC ss = true ∧ e.LL = LL ∧ ¬ (262144 ≤ totalC (cntE E) ∧ isIn cmpRow LL ss = false)) (hx : Ext w w2) (hk : Kp e.own w2 w3) (hss : ∀ k, S k → S' k) (hsn : ∀ k, S' k → S k ∨ w2.heap.size ≤ k)
    (hr : RowsAt S' w3 e.b iv' e.ar (rowsAddL e.ar LL ss)) (hiv : ∀ k, iv'.ownBlock = some k → e.iv.ownBlock = some k ∨ w2.heap.size ≤ k) (h0 : rowsAddR e.ar LL ss = if 65536 ≤ LL.length ∧ isIn cmpRow LL ss = false then (false, 4) else (!isIn cmpRow LL ss, 0)) (h4 : 65536 ≤ LL.length ∧ isIn cmpRow LL ss = false) :
    RetF (OwnB bb r E) w (BaseAdded S w bb r E s ss) (.returned (.tuple #[.bool false, .int .i64 4])) w3 := by
  obtain ⟨f1, f2, f3, f4, f5⟩ := hf
  obtain ⟨g1, g2⟩ := findE_rows he
  have hL : rowsAddL e.ar LL ss = LL := by unfold rowsAddL; rw [h0, if_pos h4]; rfl
  rw [hL] at hr
  have hR : addR (cntE E) s ss = (false, 4) := by
    rw [addR_rest f1 (ar_some g1 f2) f3 (by rw [g2, f4]; exact f5), g2, f4, if_pos h4]
  have hC : addC (cntE E) s ss = cntE E := addC_not (by rw [hR]; decide)
  obtain ⟨pre, post, rfl⟩ := findE_split he
  have hem : e ∈ pre ++ e :: post := List.mem_append_right _ List.mem_cons_self
  have hkw : Kp e.own w w3 := (Ext.kp hx).trans hk
  have hz := hx.size
  have hs2 : ∀ k, S' k → S k ∨ w.heap.size ≤ k := fun k hk' => (hsn k hk').imp id fun q => Nat.le_trans hz q
  have hiv2 : ∀ k, iv'.ownBlock = some k → e.iv.ownBlock = some k ∨ w.heap.size ≤ k := fun k hk' => (hiv k hk').imp id fun q => Nat.le_trans hz q
  have hsame : cntE (pre ++ { e with iv := iv', LL := LL } :: post) = cntE (pre ++ e :: post) := by
    rw [← f4]; simp [cntE, Ent.cnt]
  refine RetF.mk (hkw.mono fun k _ ho => .inr (.inr ⟨e, hem, ho⟩)) ⟨by rw [hR]; rfl, S', pre ++ { e with iv := iv', LL := LL } :: post, hss, hs2, ?_, by rw [hC, hsame], own_turn hiv2 LL⟩
  exact h.turn hkw hss hs2 hr hiv2 (Kp.refl _) (baseMap_own h he hx hk) (baseBlk_own h he hx hk) (by rw [hsame]) (by rw [hsame]; exact h.ok)
/-- It was there. -/
theorem baseAdd_had {LL : List (List ByteArray)} (h : BaseAt S w bb r E) (he : findE E s = some e) (hf : namedC s = true ∧ e.ar = ss.length ∧ textsC ss = true ∧ e.LL = LL ∧ ¬ (262144 ≤ totalC (cntE E) ∧ isIn cmpRow LL ss = false)) (hx : Ext w w2) (hk : Kp e.own w2 w3) (hss : ∀ k, S k → S' k) (hsn : ∀ k, S' k → S k ∨ w2.heap.size ≤ k)
    (hr : RowsAt S' w3 e.b iv' e.ar (rowsAddL e.ar LL ss)) (hiv : ∀ k, iv'.ownBlock = some k → e.iv.ownBlock = some k ∨ w2.heap.size ≤ k) (h0 : rowsAddR e.ar LL ss = if 65536 ≤ LL.length ∧ isIn cmpRow LL ss = false then (false, 4) else (!isIn cmpRow LL ss, 0)) (hi : isIn cmpRow LL ss = true)
    (hk4 : Kp (fun k => k = r) w3 w4) (hm4 : MapIs w4 r (putM (entM E) s (.pointer (some ⟨e.b, 0, none⟩)))) : RetF (OwnB bb r E) w (BaseAdded S w bb r E s ss) (.returned (.tuple #[.bool false, .int .i64 0])) w4 := by
  obtain ⟨f1, f2, f3, f4, f5⟩ := hf
  obtain ⟨g1, g2⟩ := findE_rows he
  have hn4 : ¬ (65536 ≤ LL.length ∧ isIn cmpRow LL ss = false) := fun k => by rw [hi] at k; cases k.2
  have hadd : addS cmpRow LL ss = LL := by unfold addS; rw [if_pos hi]
  have hL : rowsAddL e.ar LL ss = LL := by unfold rowsAddL; rw [h0, if_neg hn4]; exact hadd
  rw [hL] at hr
  have hR : addR (cntE E) s ss = (false, 0) := by
    rw [addR_rest f1 (ar_some g1 f2) f3 (by rw [g2, f4]; exact f5), g2, f4, if_neg hn4, hi]; rfl
  have hnd := h.ok.nodup
  rw [show putM (entM E) s (.pointer (some ⟨e.b, 0, none⟩)) = entM E from entM_put he (by rw [entM_names]; exact hnd)] at hm4
  obtain ⟨pre, post, rfl⟩ := findE_split he
  have hem : e ∈ pre ++ e :: post := List.mem_append_right _ List.mem_cons_self
  have hkw : Kp e.own w w3 := (Ext.kp hx).trans hk
  have hz := hx.size
  have hs2 : ∀ k, S' k → S k ∨ w.heap.size ≤ k := fun k hk' => (hsn k hk').imp id fun q => Nat.le_trans hz q
  have hiv2 : ∀ k, iv'.ownBlock = some k → e.iv.ownBlock = some k ∨ w.heap.size ≤ k := fun k hk' => (hiv k hk').imp id fun q => Nat.le_trans hz q
  have hsame : cntE (pre ++ { e with iv := iv', LL := LL } :: post) = cntE (pre ++ e :: post) := by
    rw [← f4]; simp [cntE, Ent.cnt]
  have hC : addC (cntE (pre ++ e :: post)) s ss = cntE (pre ++ { e with iv := iv', LL := LL } :: post) := by
    unfold addC
    rw [if_pos (by rw [hR]), g2, f4, hadd, ← f2]
    exact cntE_set he hnd iv' LL
  refine RetF.mk ((hkw.mono fun k _ ho => .inr (.inr ⟨e, hem, ho⟩)).trans (hk4.mono fun k _ ho => .inr (.inl ho))) ⟨by rw [hR]; rfl, S', pre ++ { e with iv := iv', LL := LL } :: post, hss, hs2, ?_, hC.symm, own_turn hiv2 LL⟩
  exact h.turn hkw hss hs2 hr hiv2 (hk4.mono fun k _ ho => .inr ho) hm4 ((baseBlk_own h he hx hk).kp hk4 h.ne) (by rw [hsame]) (by rw [hsame]; exact h.ok)
/-- It came. -/
theorem baseAdd_got {LL : List (List ByteArray)} {n : Nat} (h : BaseAt S w bb r E) (he : findE E s = some e) (hf : namedC s = true ∧ e.ar = ss.length ∧ textsC ss = true ∧ e.LL = LL ∧ ¬ (262144 ≤ totalC (cntE E) ∧ isIn cmpRow LL ss = false)) (hx : Ext w w2) (hk : Kp e.own w2 w3) (hss : ∀ k, S k → S' k) (hsn : ∀ k, S' k → S k ∨ w2.heap.size ≤ k)
    (hr : RowsAt S' w3 e.b iv' e.ar (rowsAddL e.ar LL ss)) (hiv : ∀ k, iv'.ownBlock = some k → e.iv.ownBlock = some k ∨ w2.heap.size ≤ k) (h0 : rowsAddR e.ar LL ss = if 65536 ≤ LL.length ∧ isIn cmpRow LL ss = false then (false, 4) else (!isIn cmpRow LL ss, 0)) (hi : isIn cmpRow LL ss = false) (hn4 : ¬ (65536 ≤ LL.length ∧ isIn cmpRow LL ss = false))
    (hk4 : Kp (fun k => k = r) w3 w4) (hm4 : MapIs w4 r (putM (entM E) s (.pointer (some ⟨e.b, 0, none⟩)))) (en : totalC (cntE E) = n) : RetF (OwnB bb r E) w (BaseAdded S w bb r E s ss) (.returned (.tuple #[.bool true, .int .i64 0])) (w4.setCell ⟨bb, 1, none⟩ (.int .i64 ((n : Int) + 1))) := by
  obtain ⟨f1, f2, f3, f4, f5⟩ := hf
  obtain ⟨g1, g2⟩ := findE_rows he
  have hL : rowsAddL e.ar LL ss = addS cmpRow LL ss := by unfold rowsAddL; rw [h0, if_neg hn4]; rfl
  rw [hL] at hr
  have hR : addR (cntE E) s ss = (true, 0) := by
    rw [addR_rest f1 (ar_some g1 f2) f3 (by rw [g2, f4]; exact f5), g2, f4, if_neg hn4, hi]; rfl
  have hnd := h.ok.nodup
  rw [show putM (entM E) s (.pointer (some ⟨e.b, 0, none⟩)) = entM E from entM_put he (by rw [entM_names]; exact hnd)] at hm4
  obtain ⟨pre, post, rfl⟩ := findE_split he
  have hem : e ∈ pre ++ e :: post := List.mem_append_right _ List.mem_cons_self
  have hkw : Kp e.own w w3 := (Ext.kp hx).trans hk
  have hz := hx.size
  have hs2 : ∀ k, S' k → S k ∨ w.heap.size ≤ k := fun k hk' => (hsn k hk').imp id fun q => Nat.le_trans hz q
  have hiv2 : ∀ k, iv'.ownBlock = some k → e.iv.ownBlock = some k ∨ w.heap.size ≤ k := fun k hk' => (hiv k hk').imp id fun q => Nat.le_trans hz q
  have hset := cntE_set he hnd iv' (addS cmpRow LL ss)
  have hC : addC (cntE (pre ++ e :: post)) s ss = cntE (pre ++ { e with iv := iv', LL := addS cmpRow LL ss } :: post) := by
    unfold addC
    rw [if_pos (by rw [hR]), g2, f4, ← f2]
    exact hset
  have htot : n + 1 = totalC (cntE (pre ++ { e with iv := iv', LL := addS cmpRow LL ss } :: post)) := by
    have h1 := total_set hnd (s := s) (v := (e.ar, addS cmpRow LL ss))
    rw [hset, g2, f4] at h1
    have h2 := addS_len (c := cmpRow) LL ss
    rw [hi] at h2
    simp only [Bool.false_eq_true, if_false] at h2
    have h3 : (e.ar, addS cmpRow LL ss).2.length = LL.length + 1 := h2
    omega
  have kf : Kp (fun k => k = bb ∨ k = r) w3 (w4.setCell ⟨bb, 1, none⟩ (.int .i64 ((n : Int) + 1))) := (hk4.mono fun k _ ho => .inr ho).trans (Kp.setCell (F := fun k => k = bb ∨ k = r) (Kp.refl w4) (fun _ => .inl rfl) _)
  have hb5 : Blk (w4.setCell ⟨bb, 1, none⟩ (.int .i64 ((n : Int) + 1))) bb [.map (some r), .int .i64 ((n + 1 : Nat) : Int)] 65 := by
    have h1 := ((baseBlk_own h he hx hk).kp hk4 h.ne).set 1 (.int .i64 ((n : Int) + 1))
    exact h1
  have hm5 := hm4.kp (Kp.setCell (F := fun k => k = bb) (Kp.refl w4) (p := ⟨bb, 1, none⟩) (fun _ => rfl) (.int .i64 ((n : Int) + 1))) (fun e2 => h.ne e2.symm)
  refine RetF.mk ((hkw.mono fun k _ ho => .inr (.inr ⟨e, hem, ho⟩)).trans (kf.mono fun k _ ho => ho.elim .inl fun h => .inr (.inl h))) ⟨by rw [hR]; rfl, S', pre ++ { e with iv := iv', LL := addS cmpRow LL ss } :: post, hss, hs2, ?_, hC.symm, own_turn hiv2 _⟩
  exact h.turn hkw hss hs2 hr hiv2 kf hm5 hb5 htot (by rw [← hC]; exact ok_add h.ok s ss)
/-- Rows under a new name. -/
theorem baseAdd_new {n : Nat} {b : Nat} (h : BaseAt S w bb r E) (he : findE E s = none) (hf : namedC s = true ∧ ss.length ≤ 64 ∧ textsC ss = true ∧ ¬ 262144 ≤ totalC (cntE E)) (hx : Ext w w3) (hss : ∀ k, S k → S' k) (hsn : ∀ k, S' k → S k ∨ w.heap.size ≤ k)
    (hr : RowsAt S' w3 b iv' ss.length [ss]) (hb : w.heap.size ≤ b) (hiv : ∀ k, iv'.ownBlock = some k → w.heap.size ≤ k)
    (hk4 : Kp (fun k => k = r) w3 w4) (hm4 : MapIs w4 r (putM (entM E) s (.pointer (some ⟨b, 0, none⟩)))) (en : totalC (cntE E) = n) : RetF (OwnB bb r E) w (BaseAdded S w bb r E s ss) (.returned (.tuple #[.bool true, .int .i64 0])) (w4.setCell ⟨bb, 1, none⟩ (.int .i64 ((n : Int) + 1))) := by
  obtain ⟨f1, f2, f3, f4⟩ := hf
  obtain ⟨g1, g2⟩ := findE_none he
  have hR : addR (cntE E) s ss = (true, 0) := by
    rw [addR_rest f1 (ar_none g1 f2) f3 (fun k => f4 k.1), g2, if_neg (by simp)]; rfl
  have hone : addS cmpRow [] ss = [ss] := by simp [addS, isIn, below]
  have hpush := cntE_push he b iv' ss.length [ss]
  have hC : addC (cntE E) s ss = cntE (E ++ [{ name := s, b := b, iv := iv', ar := ss.length, LL := [ss] }]) := by
    unfold addC
    rw [if_pos (by rw [hR]), g2, hone]
    exact hpush
  have htot : n + 1 = totalC (cntE (E ++ [{ name := s, b := b, iv := iv', ar := ss.length, LL := [ss] }])) := by
    rw [← en]
    simp [totalC, cntE, Ent.cnt]
  rw [entM_push he b iv' ss.length [ss]] at hm4
  have kf : Kp (fun k => k = bb ∨ k = r) w3 (w4.setCell ⟨bb, 1, none⟩ (.int .i64 ((n : Int) + 1))) := (hk4.mono fun k _ ho => .inr ho).trans (Kp.setCell (F := fun k => k = bb ∨ k = r) (Kp.refl w4) (fun _ => .inl rfl) _)
  have hb5 : Blk (w4.setCell ⟨bb, 1, none⟩ (.int .i64 ((n : Int) + 1))) bb [.map (some r), .int .i64 ((n + 1 : Nat) : Int)] 65 := ((h.blk.ext hx).kp hk4 h.ne).set 1 (.int .i64 ((n : Int) + 1))
  have hm5 := hm4.kp (Kp.setCell (F := fun k => k = bb) (Kp.refl w4) (p := ⟨bb, 1, none⟩) (fun _ => rfl) (.int .i64 ((n : Int) + 1))) (fun e2 => h.ne e2.symm)
  have ho : ∀ k, Owns b iv' k → w.heap.size ≤ k := fun k ho => by
    rcases ho with rfl | ho
    · exact hb
    · exact hiv k ho
  refine RetF.mk ((Ext.kp hx).trans (kf.mono fun k _ ho => ho.elim .inl fun h => .inr (.inl h))) ⟨by rw [hR]; rfl, S', E ++ [{ name := s, b := b, iv := iv', ar := ss.length, LL := [ss] }], hss, hsn, ?_, hC.symm, ?_⟩
  · exact h.push (e := { name := s, b := b, iv := iv', ar := ss.length, LL := [ss] }) hx hss hsn hr ho kf hb5 hm5 htot (by rw [← hC]; exact ok_add h.ok s ss)
  · rintro k (h1 | h1 | ⟨f, hf, ho2⟩)
    · exact .inl (.inl h1)
    · exact .inl (.inr (.inl h1))
    · rcases List.mem_append.1 hf with hf | hf
      · exact .inl (.inr (.inr ⟨f, hf, ho2⟩))
      · obtain rfl := List.mem_singleton.1 hf
        exact .inr (ho k ho2)
end
end Go.Proofs.YtfkhelihepbehaaGreat

/- tuple.Base: Add, walked. -/
namespace Go.Proofs.YtfkhelihepbehaaGreat
open Go.RowKit
set_option linter.unusedVariables false

set_option maxRecDepth 100000 in
set_option maxHeartbeats 4000000 in
theorem baseAdd_any {S : Nat → Prop} {w : World} {bb r : Nat} {E : List Ent} (h : BaseAt S w bb r E) (s : ByteArray) {ao : Option Addr} {k cap : Nat} {ss : List ByteArray} (hx : RowIn w (ao, k, cap) ss) (ho : RowOff (ao, k, cap) (OwnB bb r E)) :
    Calls Tryz.prog 40 #[.pointer (some ⟨bb, 0, none⟩), .string s, .slice ao k cap] w (RetF (OwnB bb r E) w (BaseAdded S w bb r E s ss)) := by
  have hkn : k = ss.length := hx.1.1
  have hcs : CellsAt w ao (strs ss) := hx.1.2
  have hkl : k ≤ 8796093021952 := by rw [hkn]; exact hx.2.1
  have c0 : w.cell? ⟨bb, 0, none⟩ = some (.map (some r)) := by rw [h.blk.cell']; rfl
  have hlk := run_lookup_str (P := Tryz.prog) Tryz.underlying63 Tryz.underlying9 (z := .pointer none) (by kernel_rfl) h.map s
  rw [entM_get] at hlk
  have hnm := named_any s w
  rw [show decide (1 ≤ s.size ∧ s.size ≤ 4096) = namedC s from rfl] at hnm
  have HN := Lib.hid hnm; clear hnm
  have HT := Lib.hid (fun w1 (hw : Ext w w1) => texts_any ss ao k cap w1 hkn (hcs.ext hw) (by omega))
  obtain ⟨n, en⟩ : ∃ n, totalC (cntE E) = n := ⟨_, rfl⟩
  have EN := Lib.hid en
  have hnl : n ≤ 262144 := by rw [← en]; exact h.ok.few
  have c1 : w.cell? ⟨bb, 1, none⟩ = some (.int .i64 n) := by rw [h.blk.cell', en]; rfl
  have HC1 := Lib.hid (fun w1 (hw : Ext w w1) => (hw.cell c1 id : w1.cell? ⟨bb, 1, none⟩ = some (.int .i64 n)))
  have H := Lib.hid h
  have HX := Lib.hid (And.intro hx ho)
  have HKN := Lib.hid hkn
  clear h hx ho hcs hkn en c1
  cases hn : namedC s with
  | false =>
    rw [hn] at HN
    have HNM := Lib.hid hn
    clear hn hlk c0
    go_enter Tryz.func40, Tryz.ntmps40
    go_wp2_with fail
    refine HN.out.mono ?_
    rintro e w' ⟨rfl, rfl⟩
    go_wp2
    go_ret2
    exact RetF.mk (Kp.refl _) (BaseAdded.same H.out (Kp.refl _) (addR_name ss HNM.out) (by decide) rfl)
  | true =>
    rw [hn] at HN
    have HNM := Lib.hid hn
    clear hn
    cases he : findE E s with
    | none =>
      rw [he] at hlk
      have hlk' : ∀ w', w' = w → (Instr.lookup 63 (.map (some r)) (.string s) false).run Tryz.prog w' = .ok (.pointer none) w' := fun w' e => by rw [e]; exact hlk
      replace hlk := hlk' w rfl
      clear hlk'
      have HE := Lib.hid he
      clear he
      by_cases hl : 64 < k
      · have HNB := Lib.hid (newRows_bad (k : Int) w (.inr (by omega)))
        go_enter Tryz.func40, Tryz.ntmps40
        go_wp2_with fail
        refine HN.out.mono ?_
        rintro e w' ⟨rfl, rfl⟩
        go_wp2_with fail
        refine HNB.out.mono ?_
        rintro e w' ⟨rfl, rfl⟩
        go_wp2
        go_ret2
        exact RetF.mk (Kp.refl _) (BaseAdded.same H.out (Kp.refl _) (addR_long HNM.out (findE_none HE.out).1 (by rw [← HKN.out]; exact hl)) (by decide) rfl)
      have hk64 : k ≤ 64 := by omega
      have HNR := Lib.hid (newRows_any S w k hk64 H.out.inS)
      have HL := Lib.hid (show ss.length ≤ 64 by rw [← HKN.out]; exact hk64)
      clear hl
      cases ht : textsC ss with
      | false =>
        rw [ht] at HT
        have HTX := Lib.hid ht
        clear ht
        go_enter Tryz.func40, Tryz.ntmps40
        go_wp2_with fail
        refine HN.out.mono ?_
        rintro e w' ⟨rfl, rfl⟩
        go_wp2_with fail
        refine HNR.out.mono ?_
        rintro e w1 ⟨v, rfl, hk1, rfl, hrows⟩
        have d2 : w1.cell? ⟨w.heap.size, 2, none⟩ = some (.int .i64 k) := by rw [hrows.blk.cell']; rfl
        have HK1 := Lib.hid hk1
        clear hk1 hrows
        go_wp2_with fail
        refine (HT.out w1 HK1.out).mono ?_
        rintro e w2 ⟨v, rfl, hk2, rfl⟩
        have HK2 := Lib.hid (HK1.out.trans hk2)
        clear hk2
        go_wp2
        go_ret2
        exact RetF.mk (Ext.kp HK2.out) (BaseAdded.same H.out HK2.out (addR_text HNM.out (ar_none (findE_none HE.out).1 HL.out) HTX.out) (by decide) rfl)
      | true =>
        rw [ht] at HT
        have HTX := Lib.hid ht
        clear ht
        have HAdd := Lib.hid (fun w1 (hw : Ext w w1) (hr : RowsAt S w1 w.heap.size (.slice none 0 0) k []) => rowsAdd_any hr List.Pairwise.nil (ao := ao) (n := k) (cap := cap) (ss := ss) ⟨⟨HKN.out, HX.out.1.1.2.ext hw⟩, HX.out.1.2.1, fun a e => Nat.lt_of_lt_of_le (HX.out.1.2.2 a e) hw.size⟩
          (fun a e ho => by
            have := HX.out.1.2.2 a e
            rcases ho with ho | ho
            · omega
            · cases ho) (by simp))
        by_cases hm : 262144 ≤ n
        · have q2 : decide ((262144 : Int) ≤ (n : Int)) = true := by rw [decide_eq_true_iff]; omega
          have HM := Lib.hid hm
          have HHas := Lib.hid (fun w1 (hw : Ext w w1) (hr : RowsAt S w1 w.heap.size (.slice none 0 0) k []) => rowsHas_any hr List.Pairwise.nil (x := (ao, k, cap)) (ss := ss) ⟨⟨HKN.out, HX.out.1.1.2.ext hw⟩, HX.out.1.2.1, fun a e => Nat.lt_of_lt_of_le (HX.out.1.2.2 a e) hw.size⟩
            (fun a e ho => by
              have := HX.out.1.2.2 a e
              rcases ho with ho | ho
              · omega
              · cases ho))
          clear hm
          go_enter Tryz.func40, Tryz.ntmps40
          go_wp2_with fail
          refine HN.out.mono ?_
          rintro e w' ⟨rfl, rfl⟩
          go_wp2_with fail
          refine HNR.out.mono ?_
          rintro e w1 ⟨v, rfl, hk1, rfl, hrows⟩
          have d2 : w1.cell? ⟨w.heap.size, 2, none⟩ = some (.int .i64 k) := by rw [hrows.blk.cell']; rfl
          have HK1 := Lib.hid (And.intro hk1 hrows)
          clear hk1 hrows
          go_wp2_with fail
          refine (HT.out w1 HK1.out.1).mono ?_
          rintro e w2 ⟨v, rfl, hk2, rfl⟩
          have HK2 := Lib.hid (HK1.out.1.trans hk2)
          have HR2 := Lib.hid (HK1.out.2.ext hk2)
          have c1' := HC1.out w2 HK2.out
          clear hk2 d2
          go_wp2_with fail
          refine (HHas.out w2 HK2.out HR2.out).mono ?_
          rintro e w3 ⟨v, rfl, hk3, rfl⟩
          have HK3 := Lib.hid (HK2.out.trans hk3)
          clear hk3 c1'
          have hni : isIn cmpRow ([] : List (List ByteArray)) ss = false := rfl
          go_wp2
          go_ret2
          exact RetF.mk (Ext.kp HK3.out) (BaseAdded.same H.out HK3.out (addR_many HNM.out (ar_none (findE_none HE.out).1 HL.out) HTX.out (by rw [EN.out]; exact HM.out) (by rw [(findE_none HE.out).2]; rfl)) (by decide) rfl)
        · have q2 : decide ((262144 : Int) ≤ (n : Int)) = false := by rw [decide_eq_false_iff_not]; omega
          have HM := Lib.hid hm
          clear hm
          go_enter Tryz.func40, Tryz.ntmps40
          go_wp2_with fail
          refine HN.out.mono ?_
          rintro e w' ⟨rfl, rfl⟩
          go_wp2_with fail
          refine HNR.out.mono ?_
          rintro e w1 ⟨v, rfl, hk1, rfl, hrows⟩
          have d2 : w1.cell? ⟨w.heap.size, 2, none⟩ = some (.int .i64 k) := by rw [hrows.blk.cell']; rfl
          have HK1 := Lib.hid (And.intro hk1 hrows)
          clear hk1 hrows
          go_wp2_with fail
          refine (HT.out w1 HK1.out.1).mono ?_
          rintro e w2 ⟨v, rfl, hk2, rfl⟩
          have HK2 := Lib.hid (HK1.out.1.trans hk2)
          have HR2 := Lib.hid (HK1.out.2.ext hk2)
          have c1' := HC1.out w2 HK2.out
          clear hk2 d2
          go_wp2_with fail
          refine (HAdd.out w2 HK2.out HR2.out).mono ?_
          rintro e w3 ⟨v, rfl, hk3, hv, S', iv', hss, hsn, hrows3, hiv⟩
          have e0 : rowsAddR k [] ss = (true, 0) := by
            unfold rowsAddR; rw [if_neg (by rw [HKN.out]; simp), if_neg (by rw [HTX.out]; simp), if_neg (by simp)]; simp [isIn]
          have e1 : rowsAddL k [] ss = [ss] := by
            unfold rowsAddL; rw [e0]; simp [addS, isIn, below]
          rw [e0] at hv
          rw [e1] at hrows3
          subst hv
          have hz := HK2.out.size
          have kk3 : Kp (fun g => g = w.heap.size) w2 w3 := hk3.mono fun g _ h => by
            rcases h with h | h
            · exact h
            · cases h
          have hex3 : Ext w w3 := HK2.out.trans' kk3 (fun i hi e => by omega)
          rw [HKN.out] at hrows3
          have HR3 := Lib.hid (And.intro hex3 (And.intro hss (And.intro (fun q (hq : S' q) => (hsn q hq).imp id fun u => Nat.le_trans hz u) (And.intro hrows3 (fun q (hq : iv'.ownBlock = some q) => show w.heap.size ≤ q by
            rcases hiv q hq with u | u
            · cases u
            · exact Nat.le_trans hz u)))))
          have HB3 := Lib.hid (And.intro (H.out.blk.ext hex3) (H.out.map.ext hex3))
          clear hk3 kk3 hex3 hrows3 hss hsn hiv e0 e1 c1' hlk c0 hz
          go_wp2_with fail
          refine (basePut_any HB3.out.1 HB3.out.2 s (some ⟨w.heap.size, 0, none⟩)).mono ?_
          rintro e w4 ⟨v, rfl, hk4, hm4⟩
          have HM4 := Lib.hid (And.intro hk4 hm4)
          have hb4 : Blk w4 bb [.map (some r), .int .i64 (totalC (cntE E) : Nat)] 65 := HB3.out.1.kp hk4 H.out.ne
          have c4 : w4.cell? ⟨bb, 1, none⟩ = some (.int .i64 n) := by rw [hb4.cell', EN.out]; rfl
          have f4 := hb4.free 1
          clear hk4 hm4 hb4
          go_wp2
          go_ret2
          exact baseAdd_new H.out HE.out ⟨HNM.out, HL.out, HTX.out, by rw [EN.out]; exact HM.out⟩ HR3.out.1 HR3.out.2.1 HR3.out.2.2.1 HR3.out.2.2.2.1 (Nat.le_refl _) HR3.out.2.2.2.2 HM4.out.1 HM4.out.2 EN.out
    | some e0 =>
      rw [he] at hlk
      have HE := Lib.hid he
      obtain ⟨hem, hes⟩ := findE_some he
      obtain ⟨b0, eb0⟩ : ∃ b0, e0.b = b0 := ⟨_, rfl⟩
      obtain ⟨ar, ear⟩ : ∃ ar, e0.ar = ar := ⟨_, rfl⟩
      obtain ⟨LL, eLL⟩ : ∃ LL, e0.LL = LL := ⟨_, rfl⟩
      have hlk' : (Instr.lookup 63 (.map (some r)) (.string s) false).run Tryz.prog w = .ok (.pointer (some ⟨b0, 0, none⟩)) w := by rw [← eb0]; exact hlk
      have hra := H.out.rows e0 hem
      have d2 : w.cell? ⟨b0, 2, none⟩ = some (.int .i64 ar) := by rw [← eb0, hra.blk.cell', ear]; rfl
      have HEM := Lib.hid (And.intro hem (And.intro eb0 (And.intro ear eLL)))
      have hoff : RowOff (ao, k, cap) (Owns e0.b e0.iv) := fun a e hown => HX.out.2 a e (.inr (.inr ⟨e0, hem, hown⟩))
      have HOff := Lib.hid hoff
      have HHas := Lib.hid (fun w1 (hw : Ext w w1) => rowsHas_any ((H.out.rows e0 hem).ext hw) (H.out.strict hem) (x := (ao, k, cap)) (ss := ss) ⟨⟨HKN.out, HX.out.1.1.2.ext hw⟩, HX.out.1.2.1, fun a e => Nat.lt_of_lt_of_le (HX.out.1.2.2 a e) hw.size⟩ hoff)
      have HA := Lib.hid (fun w1 (hw : Ext w w1) => rowsAdd_any ((H.out.rows e0 hem).ext hw) (H.out.strict hem) (ao := ao) (n := k) (cap := cap) (ss := ss) ⟨⟨HKN.out, HX.out.1.1.2.ext hw⟩, HX.out.1.2.1, fun a e => Nat.lt_of_lt_of_le (HX.out.1.2.2 a e) hw.size⟩ hoff (by have := H.out.few hem; omega))
      clear he hem hes hra hoff hlk
      rw [HEM.out.2.1, HEM.out.2.2.2] at HHas
      rw [HEM.out.2.1, HEM.out.2.2.1, HEM.out.2.2.2] at HA
      clear eb0 ear eLL
      by_cases ha : ar = k
      · have HAr := Lib.hid ha
        have q1 : ((ar : Int) != (k : Int)) = false := by simp [ha]
        clear ha
        have hnil : Ext w w := Kp.refl w
        cases ht : textsC ss with
        | false =>
          rw [ht] at HT
          have HTX := Lib.hid ht
          clear ht
          go_enter Tryz.func40, Tryz.ntmps40
          go_wp2_with fail
          refine HN.out.mono ?_
          rintro e w' ⟨rfl, rfl⟩
          go_wp2_with fail
          refine (HT.out w hnil).mono ?_
          rintro e w2 ⟨v, rfl, hk2, rfl⟩
          have HK2 := Lib.hid hk2
          clear hk2
          go_wp2
          go_ret2
          exact RetF.mk (Ext.kp HK2.out) (BaseAdded.same H.out HK2.out (addR_text HNM.out (ar_some (findE_rows HE.out).1 (by rw [HEM.out.2.2.1, HAr.out]; exact HKN.out)) HTX.out) (by decide) rfl)
        | true =>
          rw [ht] at HT
          have HTX := Lib.hid ht
          clear ht
          have hR0 : rowsAddR ar LL ss = if 65536 ≤ LL.length ∧ isIn cmpRow LL ss = false then (false, 4) else (!isIn cmpRow LL ss, 0) := by
            unfold rowsAddR
            rw [if_neg (by rw [HAr.out, HKN.out]; simp), if_neg (by rw [HTX.out]; simp)]
          have HR0 := Lib.hid hR0
          clear hR0
          by_cases hm : 262144 ≤ n
          · have q2 : decide ((262144 : Int) ≤ (n : Int)) = true := by rw [decide_eq_true_iff]; omega
            have HM := Lib.hid hm
            clear hm
            cases hi : isIn cmpRow LL ss with
            | false =>
              have HI := Lib.hid hi
              rw [hi] at HHas
              clear hi
              go_enter Tryz.func40, Tryz.ntmps40
              go_wp2_with fail
              refine HN.out.mono ?_
              rintro e w' ⟨rfl, rfl⟩
              go_wp2_with fail
              refine (HT.out w hnil).mono ?_
              rintro e w2 ⟨v, rfl, hk2, rfl⟩
              have HK2 := Lib.hid hk2
              have c1' := HC1.out w2 hk2
              clear hk2
              go_wp2_with fail
              refine (HHas.out w2 HK2.out).mono ?_
              rintro e w3 ⟨v, rfl, hk3, rfl⟩
              have HK3 := Lib.hid (HK2.out.trans hk3)
              clear hk3 c1'
              go_wp2
              go_ret2
              exact RetF.mk (Ext.kp HK3.out) (BaseAdded.same H.out HK3.out (addR_many HNM.out (ar_some (findE_rows HE.out).1 (by rw [HEM.out.2.2.1, HAr.out]; exact HKN.out)) HTX.out (by rw [EN.out]; exact HM.out) (by rw [(findE_rows HE.out).2, HEM.out.2.2.2]; exact HI.out)) (by decide) rfl)
            | true =>
              have HI0 := Lib.hid hi
              rw [hi] at HHas
              clear hi
              have HF := Lib.hid (show (namedC s = true ∧ e0.ar = ss.length ∧ textsC ss = true ∧ e0.LL = LL ∧ ¬ (262144 ≤ totalC (cntE E) ∧ isIn cmpRow LL ss = false)) ∧ True from ⟨⟨HNM.out, by rw [HEM.out.2.2.1, HAr.out]; exact HKN.out, HTX.out, HEM.out.2.2.2, fun q => by rw [HI0.out] at q; cases q.2⟩, trivial⟩)
              go_enter Tryz.func40, Tryz.ntmps40
              go_wp2_with fail
              refine HN.out.mono ?_
              rintro e w' ⟨rfl, rfl⟩
              go_wp2_with fail
              refine (HT.out w hnil).mono ?_
              rintro e w2 ⟨v, rfl, hk2, rfl⟩
              have HK2 := Lib.hid hk2
              have c1' := HC1.out w2 hk2
              clear hk2
              go_wp2_with fail
              refine (HHas.out w2 HK2.out).mono ?_
              rintro e w2b ⟨v, rfl, hk3, rfl⟩
              have HK2b := Lib.hid (HK2.out.trans hk3)
              clear hk3 c1'
              go_wp2_with fail
              refine (HA.out w2b HK2b.out).mono ?_
              rintro e w3 ⟨v, rfl, hk3, hv, S', iv', hss, hsn, hrows3, hiv⟩
              rw [← HEM.out.2.1] at hk3 hrows3
              rw [← HEM.out.2.2.1] at hrows3
              have HX3 := Lib.hid (And.intro hk3 (And.intro hss (And.intro hsn (And.intro hrows3 hiv))))
              rw [HR0.out] at hv
              subst hv
              clear hk3 hss hsn hrows3 hiv
              by_cases h4 : 65536 ≤ LL.length ∧ isIn cmpRow LL ss = false
              · have e4 : (if 65536 ≤ LL.length ∧ isIn cmpRow LL ss = false then (false, 4) else (!isIn cmpRow LL ss, 0)) = (false, 4) := if_pos h4
                have H4 := Lib.hid (And.intro h4 e4)
                rw [e4]
                clear h4 e4
                go_wp2
                go_ret2
                exact baseAdd_full H.out HE.out HF.out.1 HK2b.out HX3.out.1 HX3.out.2.1 HX3.out.2.2.1 HX3.out.2.2.2.1 HX3.out.2.2.2.2 (by rw [HEM.out.2.2.1]; exact HR0.out) H4.out.1
              · have e4 : (if 65536 ≤ LL.length ∧ isIn cmpRow LL ss = false then (false, 4) else (!isIn cmpRow LL ss, 0)) = (!isIn cmpRow LL ss, 0) := if_neg h4
                have H4 := Lib.hid (And.intro h4 e4)
                rw [e4]
                clear h4 e4
                have hm3 := baseMap_own H.out HE.out HK2b.out HX3.out.1
                have hb3 := baseBlk_own H.out HE.out HK2b.out HX3.out.1
                have HB3 := Lib.hid (And.intro hb3 hm3)
                have c31 : w3.cell? ⟨bb, 1, none⟩ = some (.int .i64 n) := by rw [HB3.out.1.cell', EN.out]; rfl
                clear hm3 hb3 c31
                cases hi : isIn cmpRow LL ss with
                | true =>
                  have HI := Lib.hid hi
                  clear hi
                  go_wp2_with fail
                  refine (basePut_any HB3.out.1 HB3.out.2 s (some ⟨b0, 0, none⟩)).mono ?_
                  rintro e w4 ⟨v, rfl, hk4, hm4⟩
                  rw [← HEM.out.2.1] at hm4
                  have HM4 := Lib.hid (And.intro hk4 hm4)
                  clear hk4 hm4
                  go_wp2
                  go_ret2
                  exact baseAdd_had H.out HE.out HF.out.1 HK2b.out HX3.out.1 HX3.out.2.1 HX3.out.2.2.1 HX3.out.2.2.2.1 HX3.out.2.2.2.2 (by rw [HEM.out.2.2.1]; exact HR0.out) HI.out HM4.out.1 HM4.out.2
                | false =>
                  have HI := Lib.hid hi
                  clear hi
                  go_wp2_with fail
                  refine (basePut_any HB3.out.1 HB3.out.2 s (some ⟨b0, 0, none⟩)).mono ?_
                  rintro e w4 ⟨v, rfl, hk4, hm4⟩
                  rw [← HEM.out.2.1] at hm4
                  have HM4 := Lib.hid (And.intro hk4 hm4)
                  have hb4 : Blk w4 bb [.map (some r), .int .i64 (totalC (cntE E) : Nat)] 65 := HB3.out.1.kp hk4 H.out.ne
                  have c4 : w4.cell? ⟨bb, 1, none⟩ = some (.int .i64 n) := by rw [hb4.cell', EN.out]; rfl
                  have f4 := hb4.free 1
                  clear hk4 hm4 hb4
                  go_wp2
                  go_ret2
                  exact baseAdd_got H.out HE.out HF.out.1 HK2b.out HX3.out.1 HX3.out.2.1 HX3.out.2.2.1 HX3.out.2.2.2.1 HX3.out.2.2.2.2 (by rw [HEM.out.2.2.1]; exact HR0.out) HI.out H4.out.1 HM4.out.1 HM4.out.2 EN.out
          · have q2 : decide ((262144 : Int) ≤ (n : Int)) = false := by rw [decide_eq_false_iff_not]; omega
            have HM := Lib.hid hm
            clear hm
            have HF := Lib.hid (show (namedC s = true ∧ e0.ar = ss.length ∧ textsC ss = true ∧ e0.LL = LL ∧ ¬ (262144 ≤ totalC (cntE E) ∧ isIn cmpRow LL ss = false)) ∧ True from ⟨⟨HNM.out, by rw [HEM.out.2.2.1, HAr.out]; exact HKN.out, HTX.out, HEM.out.2.2.2, fun q => HM.out (by rw [← EN.out]; exact q.1)⟩, trivial⟩)
            go_enter Tryz.func40, Tryz.ntmps40
            go_wp2_with fail
            refine HN.out.mono ?_
            rintro e w' ⟨rfl, rfl⟩
            go_wp2_with fail
            refine (HT.out w hnil).mono ?_
            rintro e w2 ⟨v, rfl, hk2, rfl⟩
            have HK2 := Lib.hid hk2
            have c1' := HC1.out w2 hk2
            clear hk2
            go_wp2_with fail
            refine (HA.out w2 HK2.out).mono ?_
            rintro e w3 ⟨v, rfl, hk3, hv, S', iv', hss, hsn, hrows3, hiv⟩
            rw [← HEM.out.2.1] at hk3 hrows3
            rw [← HEM.out.2.2.1] at hrows3
            have HX3 := Lib.hid (And.intro hk3 (And.intro hss (And.intro hsn (And.intro hrows3 hiv))))
            rw [HR0.out] at hv
            subst hv
            clear hk3 hss hsn hrows3 hiv
            by_cases h4 : 65536 ≤ LL.length ∧ isIn cmpRow LL ss = false
            · have e4 : (if 65536 ≤ LL.length ∧ isIn cmpRow LL ss = false then (false, 4) else (!isIn cmpRow LL ss, 0)) = (false, 4) := if_pos h4
              have H4 := Lib.hid (And.intro h4 e4)
              rw [e4]
              clear h4 e4
              go_wp2
              go_ret2
              exact baseAdd_full H.out HE.out HF.out.1 HK2.out HX3.out.1 HX3.out.2.1 HX3.out.2.2.1 HX3.out.2.2.2.1 HX3.out.2.2.2.2 (by rw [HEM.out.2.2.1]; exact HR0.out) H4.out.1
            · have e4 : (if 65536 ≤ LL.length ∧ isIn cmpRow LL ss = false then (false, 4) else (!isIn cmpRow LL ss, 0)) = (!isIn cmpRow LL ss, 0) := if_neg h4
              have H4 := Lib.hid (And.intro h4 e4)
              rw [e4]
              clear h4 e4
              have hm3 := baseMap_own H.out HE.out HK2.out HX3.out.1
              have hb3 := baseBlk_own H.out HE.out HK2.out HX3.out.1
              have HB3 := Lib.hid (And.intro hb3 hm3)
              have c31 : w3.cell? ⟨bb, 1, none⟩ = some (.int .i64 n) := by rw [HB3.out.1.cell', EN.out]; rfl
              clear hm3 hb3 c31
              cases hi : isIn cmpRow LL ss with
              | true =>
                have HI := Lib.hid hi
                clear hi
                go_wp2_with fail
                refine (basePut_any HB3.out.1 HB3.out.2 s (some ⟨b0, 0, none⟩)).mono ?_
                rintro e w4 ⟨v, rfl, hk4, hm4⟩
                rw [← HEM.out.2.1] at hm4
                have HM4 := Lib.hid (And.intro hk4 hm4)
                clear hk4 hm4
                go_wp2
                go_ret2
                exact baseAdd_had H.out HE.out HF.out.1 HK2.out HX3.out.1 HX3.out.2.1 HX3.out.2.2.1 HX3.out.2.2.2.1 HX3.out.2.2.2.2 (by rw [HEM.out.2.2.1]; exact HR0.out) HI.out HM4.out.1 HM4.out.2
              | false =>
                have HI := Lib.hid hi
                clear hi
                go_wp2_with fail
                refine (basePut_any HB3.out.1 HB3.out.2 s (some ⟨b0, 0, none⟩)).mono ?_
                rintro e w4 ⟨v, rfl, hk4, hm4⟩
                rw [← HEM.out.2.1] at hm4
                have HM4 := Lib.hid (And.intro hk4 hm4)
                have hb4 : Blk w4 bb [.map (some r), .int .i64 (totalC (cntE E) : Nat)] 65 := HB3.out.1.kp hk4 H.out.ne
                have c4 : w4.cell? ⟨bb, 1, none⟩ = some (.int .i64 n) := by rw [hb4.cell', EN.out]; rfl
                have f4 := hb4.free 1
                clear hk4 hm4 hb4
                go_wp2
                go_ret2
                exact baseAdd_got H.out HE.out HF.out.1 HK2.out HX3.out.1 HX3.out.2.1 HX3.out.2.2.1 HX3.out.2.2.2.1 HX3.out.2.2.2.2 (by rw [HEM.out.2.2.1]; exact HR0.out) HI.out H4.out.1 HM4.out.1 HM4.out.2 EN.out
      · have HAr := Lib.hid ha
        have q1 : ((ar : Int) != (k : Int)) = true := by rw [bne_iff_ne]; omega
        clear ha
        go_enter Tryz.func40, Tryz.ntmps40
        go_wp2_with fail
        refine HN.out.mono ?_
        rintro e w' ⟨rfl, rfl⟩
        go_wp2
        go_ret2
        exact RetF.mk (Kp.refl _) (BaseAdded.same H.out (Kp.refl _) (addR_arity HNM.out (findE_rows HE.out).1 (by show e0.ar ≠ ss.length; rw [HEM.out.2.2.1, ← HKN.out]; exact HAr.out)) (by decide) rfl)
end Go.Proofs.YtfkhelihepbehaaGreat
