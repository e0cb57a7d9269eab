/- tuple.Rows: rows of texts in a set: what a row reads as, their order, set, Len, NewRows, named, texts. -/
import Derived.Test.YtfkhelihepbehaaIterRow
import Derived.Test.YtfkhelihepbehaaIndexStr
import Derived.Test.YtfkhelihepbehaaCmp
import Derived.Test.YtfkhelihepbehaaSetLaw2
import Derived.Test.YtfkhelihepbehaaGenStr
import Derived.Test.YtfkhelihepbehaaLend
namespace Go.Proofs.Ytfkhelihepbehaa
open Go.RowKit
set_option linter.unusedVariables false

/-- A row, as an element of a slice: address, length, capacity. -/
abbrev RowZ := Option Addr × Nat × Nat
/-- It reads as these texts. -/
def ReadsAs (w : World) (x : RowZ) (ss : List ByteArray) : Prop := x.2.1 = ss.length ∧ CellsAt w x.1 (strs ss)
theorem ReadsAs.unique {w : World} {x : RowZ} {a b : List ByteArray} (h : ReadsAs w x a) (h' : ReadsAs w x b) : a = b := by
  obtain ⟨h1, h2⟩ := h
  obtain ⟨h3, h4⟩ := h'
  refine List.ext_getElem (by omega) fun i hi hj => ?_
  obtain ⟨b1, o1, e1, c1⟩ := h2.str hi
  obtain ⟨b2, o2, e2, c2⟩ := h4.str hj
  rw [e1] at e2
  cases e2
  rw [c1] at c2
  simpa using c2
theorem con_ex (w : World) : ∃ con : RowZ → List ByteArray, ∀ x ss, ReadsAs w x ss → con x = ss := by
  have h : ∀ x : RowZ, ∃ l : List ByteArray, ∀ ss, ReadsAs w x ss → l = ss := fun x => by
    by_cases hx : ∃ ss, ReadsAs w x ss
    · obtain ⟨ss, hs⟩ := hx
      exact ⟨ss, fun ss' hs' => hs.unique hs'⟩
    · exact ⟨[], fun ss hs => absurd ⟨ss, hs⟩ hx⟩
  exact ⟨fun x => Classical.choose (h x), fun x => Classical.choose_spec (h x)⟩

/-- A row that is read from the pool S, and no longer than a row may be. -/
def RowD (S : Nat → Prop) (w : World) (x : RowZ) : Prop := ∃ ss, ReadsAs w x ss ∧ ss.length ≤ 8796093021952 ∧ ∀ a, x.1 = some a → S a.block
theorem ReadsAs.same {S : Nat → Prop} {w w' : World} {x : RowZ} {ss : List ByteArray} (h : ReadsAs w x ss) (hs : Same S w w') (ha : ∀ a, x.1 = some a → S a.block) : ReadsAs w' x ss := by
  refine ⟨h.1, fun i u hu => ?_⟩
  obtain ⟨b, o, e, c⟩ := h.2 i u hu
  refine ⟨b, o, e, ?_⟩
  rw [World.cell?_of_block (w := w) (hs b (ha _ e)).2]; exact c
theorem RowD.same {S : Nat → Prop} {w w' : World} {x : RowZ} (h : RowD S w x) (hs : Same S w w') : RowD S w' x := by
  obtain ⟨ss, h1, h2, h3⟩ := h
  exact ⟨ss, h1.same hs h3, h2, h3⟩

theorem cmpRow_law {α : Type} (f : α → List ByteArray) : OrdLaw (fun x y => cmpRow (f x) (f y)) :=
  ⟨fun x y => by have := cmpRow_swap (f x) (f y); omega, fun x y z h h' => cmpRow_trans h h'⟩

/-- Rows' order, as a set's. -/
theorem rows_ord {S : Nat → Prop} {w : World} {con : RowZ → List ByteArray} (hc : ∀ x ss, ReadsAs w x ss → con x = ss) :
    OrdVRow Try.prog S w (.func (Fn.func 8) #[] #[]) (RowD S w) (fun x y => cmpRow (con x) (con y)) := by
  refine .inr ⟨_, _, _, rfl, enters_of Try.func8 (by kernel_rfl) rfl, fun w' hw x y hx hy => ?_⟩
  obtain ⟨xs, hx1, hx2, hx3⟩ := hx
  obtain ⟨ys, hy1, hy2, hy3⟩ := hy
  have ex := hc x xs hx1
  have ey := hc y ys hy1
  have hx' := hx1.same hw hx3
  have hy' := hy1.same hw hy3
  obtain ⟨ax, nx, cx⟩ := x
  obtain ⟨ay, ny, cy⟩ := y
  obtain ⟨h1, h2⟩ := hx'
  obtain ⟨h3, h4⟩ := hy'
  simp only at h1 h2 h3 h4
  subst h1 h3
  simp only [ex, ey]
  refine (tupleCompare_any xs ys ax ay cx cy w' h2 h4 (by unfold maxLen; omega) (by unfold maxLen; omega)).mono ?_
  rintro e w2 ⟨rfl, rfl⟩
  exact ⟨rfl, Kp.refl w'⟩

/-- Rows in memory: their arity, their texts in order; the pool S holds the rows themselves. -/
def RowsAt (S : Nat → Prop) (w : World) (b : Nat) (iv : Value) (arity : Nat) (LL : List (List ByteArray)) : Prop :=
  ∃ con zs, (∀ x ss, ReadsAs w x ss → con x = ss) ∧ SetAtRow Try.prog S w b (.func (Fn.func 8) #[] #[]) iv [.int .i64 arity] 68 (RowD S w) (fun x y => cmpRow (con x) (con y)) zs ∧ zs.map con = LL

theorem named_any (s : ByteArray) (w : World) : Calls Try.prog 98 #[.string s] w (Ret (.bool (decide (1 ≤ s.size ∧ s.size ≤ 4096))) w) := by
  by_cases h1 : 1 ≤ s.size
  · have q1 : (1 : Int) ≤ (s.size : Int) := by omega
    by_cases h2 : s.size ≤ 4096
    · have q2 : (s.size : Int) ≤ 4096 := by omega
      have H := Lib.hid (And.intro h1 h2)
      go_enter Try.func98, Try.ntmps98
      go_wp2
      go_ret
      exact Ret.mk (by simp [H.out.1, H.out.2])
    · have q2 : ¬ (s.size : Int) ≤ 4096 := by omega
      have H := Lib.hid h2
      go_enter Try.func98, Try.ntmps98
      go_wp2
      go_ret
      exact Ret.mk (by simp [H.out])
  · have q1 : ¬ (1 : Int) ≤ (s.size : Int) := by omega
    have H := Lib.hid h1
    go_enter Try.func98, Try.ntmps98
    go_wp2
    go_ret
    exact Ret.mk (by simp [H.out])
theorem textsFn_any (s : ByteArray) (w : World) : Calls Try.prog 129 #[.string s] w (Ret (.bool (decide (4096 < s.size))) w) := by
  by_cases h : 4096 < s.size
  · have q : (4096 : Int) < (s.size : Int) := by omega
    have H := Lib.hid h
    go_enter Try.func129, Try.ntmps129
    go_wp2
    go_ret
    exact Ret.mk (by simp [H.out])
  · have q : ¬ (4096 : Int) < (s.size : Int) := by omega
    have H := Lib.hid h
    go_enter Try.func129, Try.ntmps129
    go_wp2
    go_ret
    exact Ret.mk (by simp [H.out])
/-- May these be a row's? -/
def textsC (ss : List ByteArray) : Bool := ss.all fun s => decide (s.size ≤ 4096)
theorem texts_any (ss : List ByteArray) (ao : Option Addr) (n c : Nat) (w : World) (hn : n = ss.length) (hc : CellsAt w ao (strs ss)) (hl : n ≤ 4611686018427387904) :
    Calls Try.prog 99 #[.slice ao n c] w (RetN w fun w' v => v = .bool (textsC ss)) := by
  have hent : ∀ args w, (callFunc 129 args).run Try.prog w = .ok (.enter 129 args) w := enters_of Try.func129 (by kernel_rfl) rfl
  have hi := containsFuncStr_any (strs ss) ao c 129 #[] #[] (fun i => decide (4096 < (ss[i]?.getD ⟨#[]⟩).size)) w n (by simp [strs, hn]) hc ⟨hent, fun w' _ i u hu => by
    rw [strs, List.getElem?_map] at hu
    cases hs : ss[i]? with
    | none => rw [hs] at hu; cases hu
    | some s =>
      rw [hs] at hu
      cases hu
      refine (textsFn_any s w').mono ?_
      rintro e w2 ⟨rfl, rfl⟩
      exact ⟨by simp [hs], Kp.refl _⟩⟩ hl
  have key : (!(List.range n).any fun i => decide (4096 < (ss[i]?.getD ⟨#[]⟩).size)) = textsC ss := by
    rw [Bool.eq_iff_iff]
    simp only [Bool.not_eq_true', List.any_eq_false, List.mem_range, decide_eq_true_eq, textsC, List.all_eq_true]
    constructor
    · intro h s hs
      obtain ⟨i, hi, rfl⟩ := List.mem_iff_getElem.1 hs
      have := h i (by omega)
      simp only [List.getElem?_eq_getElem hi, Option.getD_some] at this
      omega
    · intro h i hi
      have hi' : i < ss.length := by omega
      have := h ss[i] (List.getElem_mem _)
      simp only [List.getElem?_eq_getElem hi', Option.getD_some]
      omega
  have HI := Lib.hid (And.intro hi key); clear hi key hent hc hn
  go_enter Try.func99, Try.ntmps99
  go_wp2_with fail
  refine HI.out.1.mono ?_
  rintro e w1 ⟨v, rfl, hk, rfl⟩
  have HK := Lib.hid hk; clear hk
  go_wp2
  go_ret
  exact RetN.mk HK.out (by rw [← HI.out.2]; rfl)
end Go.Proofs.Ytfkhelihepbehaa

namespace Go.Proofs.Ytfkhelihepbehaa
open Go.RowKit
set_option linter.unusedVariables false

section
variable {S S' : Nat → Prop} {w w' : World} {b : Nat} {iv : Value} {arity : Nat} {LL : List (List ByteArray)}

theorem RowsAt.move {F : Nat → Prop} (h : RowsAt S w b iv arity LL) (hk : Kp F w w') (hF : ∀ k, F k → ¬ Owns b iv k) (hS : ∀ k, F k → ¬ S k) (hsub : ∀ k, S k → S' k) (hin : ∀ k, S' k → k < w'.heap.size) (hno : ∀ k, Owns b iv k → ¬ S' k) :
    RowsAt S' w' b iv arity LL := by
  obtain ⟨con, zs, hc, hs, hl⟩ := h
  obtain ⟨con', hc'⟩ := con_ex w'
  have hs' := hs.kp hk hF hS
  have hsame : Same S w w' := hk.same hs.inS fun k h1 h2 => hS k h2 h1
  have all : ∀ z ∈ zs, RowD S' w' z ∧ con' z = con z := fun z hz => by
    obtain ⟨ss, h1, h2, h3⟩ := hs.all z hz
    have h1' := h1.same hsame h3
    exact ⟨⟨ss, h1', h2, fun a e => hsub _ (h3 a e)⟩, by rw [hc' z ss h1', hc z ss h1]⟩
  refine ⟨con', zs, hc', ⟨hs'.blk, hs'.row, hs'.apart, hin, hno, rows_ord hc', fun z hz => (all z hz).1, hs.len⟩, ?_⟩
  rw [← hl]
  exact List.map_congr_left fun z hz => (all z hz).2
theorem RowsAt.ext (h : RowsAt S w b iv arity LL) (hk : Ext w w') : RowsAt S w' b iv arity LL := by
  have hb := h
  obtain ⟨con, zs, hc, hs, hl⟩ := hb
  exact h.move hk (fun _ x => x.elim) (fun _ x => x.elim) (fun _ h => h) (fun k hk' => Nat.lt_of_lt_of_le (hs.inS k hk') hk.size) hs.notS
theorem RowsAt.blk (h : RowsAt S w b iv arity LL) : Blk w b [.func (Fn.func 8) #[] #[], iv, .int .i64 arity] 68 := by
  obtain ⟨con, zs, hc, hs, hl⟩ := h
  exact hs.blk

theorem rowsSet_nil (w : World) : Calls Try.prog 101 #[.pointer none] w (Ret (.pointer none) w) := by
  go_enter Try.func101, Try.ntmps101
  go_wp2
  go_ret
  exact Ret.mk rfl
theorem rowsSet_any (h : RowsAt S w b iv arity LL) : Calls Try.prog 101 #[.pointer (some ⟨b, 0, none⟩)] w (Ret (.pointer (some ⟨b, 0, none⟩)) w) := by
  have c0 : w.cell? ⟨b, 0, none⟩ = some (.func (Fn.func 8) #[] #[]) := by rw [h.blk.cell']; rfl
  have hq : ∀ w : World, (binOp .eql 24 (.func (Fn.func 8) #[] #[]) .nilFunc).run Try.prog w = .ok (.bool false) w := fun _ => by kernel_rfl
  clear h
  go_enter Try.func101, Try.ntmps101
  go_wp2
  go_ret
  exact Ret.mk rfl
theorem rowsLen_nil (w : World) : Calls Try.prog 76 #[.pointer none] w (Ret (.int .i64 0) w) := by
  go_enter Try.func76, Try.ntmps76
  go_wp2_with fail
  refine (rowsSet_nil w).mono ?_
  rintro e w' ⟨rfl, rfl⟩
  go_wp2_with fail
  refine (setLenRow_nil w).mono ?_
  rintro e w' ⟨rfl, rfl⟩
  go_wp2
  go_ret
  exact Ret.mk rfl
theorem rowsLen_any (h : RowsAt S w b iv arity LL) : Calls Try.prog 76 #[.pointer (some ⟨b, 0, none⟩)] w (Ret (.int .i64 (LL.length : Nat)) w) := by
  have H := Lib.hid h
  obtain ⟨con, zs, hc, hs, hl⟩ := h
  have HS := Lib.hid hs
  have HL := Lib.hid (show zs.length = LL.length by rw [← hl]; simp)
  clear hs hc hl
  go_enter Try.func76, Try.ntmps76
  go_wp2_with fail
  refine (rowsSet_any H.out).mono ?_
  rintro e w' ⟨rfl, rfl⟩
  go_wp2_with fail
  refine (setLenRow_any HS.out).mono ?_
  rintro e w' ⟨rfl, rfl⟩
  go_wp2
  go_ret
  exact Ret.mk (by rw [← HL.out]; rfl)

theorem rowsAt_new (S : Nat → Prop) (w : World) (a : Nat) (hS : ∀ k, S k → k < w.heap.size) :
    RowsAt S (w.alloc (.cells #[.func (Fn.func 8) #[] #[], .slice none 0 0, .int .i64 a] 68)) w.heap.size (.slice none 0 0) a [] := by
  obtain ⟨con, hc⟩ := con_ex (w.alloc (.cells #[.func (Fn.func 8) #[] #[], .slice none 0 0, .int .i64 a] 68))
  refine ⟨con, [], hc, ⟨Blk.new w [.func (Fn.func 8) #[] #[], .slice none 0 0, .int .i64 a] 68, Row.nil _ _ _ _, by simp [Value.ownBlock], fun k hk => by rw [alloc_size]; have := hS k hk; omega, fun k ho hs => ?_, rows_ord hc, by simp, by simp⟩, rfl⟩
  rcases ho with rfl | ho
  · have := hS _ hs; omega
  · cases ho
theorem newRows_any (S : Nat → Prop) (w : World) (a : Nat) (ha : a ≤ 64) (hS : ∀ k, S k → k < w.heap.size) :
    Calls Try.prog 21 #[.int .i64 a] w (RetN w fun w' v => v = .tuple #[.pointer (some ⟨w.heap.size, 0, none⟩), .int .i64 0] ∧ RowsAt S w' w.heap.size (.slice none 0 0) a []) := by
  have HR := Lib.hid (rowsAt_new S w a hS)
  have q1 : ¬ (a : Int) < 0 := by omega
  have q2 : ¬ (64 : Int) < (a : Int) := by omega
  clear hS
  go_enter Try.func21, Try.ntmps21
  go_wp2
  go_ret2
  exact RetN.mk ((Kp.refl w).alloc _) ⟨rfl, HR.out⟩
end
end Go.Proofs.Ytfkhelihepbehaa

namespace Go.Proofs.Ytfkhelihepbehaa
open Go.RowKit
set_option linter.unusedVariables false

/-- A row that is handed in: where it lies, what it reads as. -/
def RowIn (w : World) (x : RowZ) (ss : List ByteArray) : Prop := ReadsAs w x ss ∧ ss.length ≤ 8796093021952 ∧ ∀ a, x.1 = some a → a.block < w.heap.size
/-- It lies off these blocks. -/
def RowOff (x : RowZ) (F : Nat → Prop) : Prop := ∀ a, x.1 = some a → ¬ F a.block
/-- The pool with a row's block. -/
def poolOf (S : Nat → Prop) (x : RowZ) : Nat → Prop := fun k => S k ∨ ∃ a, x.1 = some a ∧ a.block = k

section
variable {S : Nat → Prop} {w w' : World} {b : Nat} {iv : Value} {arity : Nat} {LL : List (List ByteArray)}
theorem RowsAt.inS (h : RowsAt S w b iv arity LL) : ∀ k, S k → k < w.heap.size := by
  obtain ⟨con, zs, hc, hs, hl⟩ := h
  exact hs.inS
theorem RowsAt.notS (h : RowsAt S w b iv arity LL) : ∀ k, Owns b iv k → ¬ S k := by
  obtain ⟨con, zs, hc, hs, hl⟩ := h
  exact hs.notS
/-- A row's block goes to the pool. -/
theorem RowsAt.pool (h : RowsAt S w b iv arity LL) {x : RowZ} {ss : List ByteArray} (hx : RowIn w x ss) (ho : RowOff x (Owns b iv)) : RowsAt (poolOf S x) w b iv arity LL := by
  refine h.move (F := fun _ => False) (Kp.refl w) (fun _ x => x.elim) (fun _ x => x.elim) (fun k hk => .inl hk) (fun k hk => ?_) (fun k hk hs => ?_)
  · rcases hk with hk | ⟨a, e, rfl⟩
    · exact h.inS k hk
    · exact hx.2.2 a e
  · rcases hs with hs | ⟨a, e, rfl⟩
    · exact h.notS k hk hs
    · exact ho a e hk
/-- The set behind the rows, and a row held against it. -/
theorem RowsAt.open (h : RowsAt S w b iv arity LL) (hst : Strict cmpRow LL) {x : RowZ} {ss : List ByteArray} (hx : RowIn w x ss) (ho : RowOff x (Owns b iv)) :
    ∃ con zs, (∀ x ss, ReadsAs w x ss → con x = ss) ∧ SetAtRow Try.prog (poolOf S x) w b (.func (Fn.func 8) #[] #[]) iv [.int .i64 arity] 68 (RowD (poolOf S x) w) (fun x y => cmpRow (con x) (con y)) zs ∧ zs.map con = LL ∧
      RowD (poolOf S x) w x ∧ con x = ss ∧ Strict (fun x y => cmpRow (con x) (con y)) zs ∧ isIn (fun x y => cmpRow (con x) (con y)) zs x = isIn cmpRow LL ss ∧ below (fun x y => cmpRow (con x) (con y)) zs x = below cmpRow LL ss := by
  obtain ⟨con, zs, hc, hs, hl⟩ := h.pool hx ho
  have ex := hc x ss hx.1
  refine ⟨con, zs, hc, hs, hl, ⟨ss, hx.1, hx.2.1, fun a e => .inr ⟨a, e, rfl⟩⟩, ex, ?_, ?_, ?_⟩
  · rw [← hl] at hst
    exact List.pairwise_map.1 hst
  · rw [← hl, ← ex]; simp [isIn, List.any_map, Function.comp_def]
  · rw [← hl, ← ex]; simp [below, List.filter_map, Function.comp_def]

theorem rowsHas_any (h : RowsAt S w b iv arity LL) (hst : Strict cmpRow LL) {x : RowZ} {ss : List ByteArray} (hx : RowIn w x ss) (ho : RowOff x (Owns b iv)) :
    Calls Try.prog 65 #[.pointer (some ⟨b, 0, none⟩), .slice x.1 x.2.1 x.2.2] w (RetN w fun w' v => v = .bool (isIn cmpRow LL ss)) := by
  have H := Lib.hid h
  obtain ⟨con, zs, hc, hs, hl, hd, ex, hz, e1, e2⟩ := h.open hst hx ho
  have HF := Lib.hid (setHasRow_any (cmpRow_law con) x hd hz hs)
  rw [e1] at HF
  clear h hst hx ho hc hs hl hd ex hz e1 e2
  go_enter Try.func65, Try.ntmps65
  go_wp2_with fail
  refine (rowsSet_any H.out).mono ?_
  rintro e w' ⟨rfl, rfl⟩
  go_wp2_with fail
  refine HF.out.mono ?_
  rintro e w1 ⟨v, rfl, hk, rfl⟩
  have HK := Lib.hid hk; clear hk
  go_wp2
  go_ret
  exact RetN.mk HK.out rfl

theorem RowsAt.of_set {S' : Nat → Prop} {w1 w2 : World} {con : RowZ → List ByteArray} {zs : List RowZ} (hc : ∀ x ss, ReadsAs w1 x ss → con x = ss) (hsame : Same S' w1 w2)
    (h : SetAtRow Try.prog S' w2 b (.func (Fn.func 8) #[] #[]) iv [.int .i64 arity] 68 (RowD S' w1) (fun x y => cmpRow (con x) (con y)) zs) : RowsAt S' w2 b iv arity (zs.map con) := by
  obtain ⟨con', hc'⟩ := con_ex w2
  have all : ∀ z ∈ zs, RowD S' w2 z ∧ con' z = con z := fun z hz => by
    have hd := h.all z hz
    obtain ⟨ss, h1, h2, h3⟩ := hd
    have h1' := h1.same hsame h3
    exact ⟨⟨ss, h1', h2, h3⟩, by rw [hc' z ss h1', hc z ss h1]⟩
  exact ⟨con', zs, hc', ⟨h.blk, h.row, h.apart, h.inS, h.notS, rows_ord hc', fun z hz => (all z hz).1, h.len⟩, List.map_congr_left fun z hz => (all z hz).2⟩

/-- What Add answers. -/
def rowsAddR (arity : Nat) (LL : List (List ByteArray)) (ss : List ByteArray) : Bool × Nat :=
  if ss.length ≠ arity then (false, 30) else if textsC ss = false then (false, 31) else if 65536 ≤ LL.length ∧ isIn cmpRow LL ss = false then (false, 4) else (!isIn cmpRow LL ss, 0)
/-- What is there behind it. -/
def rowsAddL (arity : Nat) (LL : List (List ByteArray)) (ss : List ByteArray) : List (List ByteArray) := if (rowsAddR arity LL ss).2 = 0 then addS cmpRow LL ss else LL

/-- Add's last lines: the row's clone goes to the set. -/
theorem rowsPut (h : RowsAt S w b iv arity LL) (hst : Strict cmpRow LL) {ao : Option Addr} {n cap : Nat} {ss : List ByteArray} {w1 : World} (hk : Ext w w1) (hr : Row w1 9 1 (.slice ao n cap) n (strs ss) (New w)) (hn : n = ss.length) (hl : n ≤ 8796093021952) (hLL : LL.length + 1 ≤ 1048576 * 1048576) :
    Calls Try.prog 102 #[.pointer (some ⟨b, 0, none⟩), .slice ao n cap] w1 (RetF (Owns b iv) w1 fun w' v => v = .bool (!isIn cmpRow LL ss) ∧
      ∃ iv', RowsAt (poolOf S (ao, n, cap)) w' b iv' arity (addS cmpRow LL ss) ∧ ∀ k, iv'.ownBlock = some k → iv.ownBlock = some k ∨ w1.heap.size ≤ k) := by
  have hx : RowIn w1 (ao, n, cap) ss := by
    obtain ⟨ao', cap', e, hc, _⟩ := hr.shape
    cases e
    refine ⟨⟨hn, hc⟩, by omega, fun a e => ?_⟩
    have e' : ao = some a := e
    subst e'
    exact hr.lt a.block rfl
  have ho : RowOff (ao, n, cap) (Owns b iv) := fun a e ho => by
    have e' : ao = some a := e
    subst e'
    have h1 : w.heap.size ≤ a.block := hr.block a.block rfl
    have h2 : a.block < w.heap.size := by
      obtain ⟨con, zs, hc, hs, hl⟩ := h
      rcases ho with ho | ho
      · rw [ho]; exact hs.blk.lt
      · exact hs.row.lt _ ho
    omega
  obtain ⟨con, zs, hc, hs, hlz, hd, ex, hz, e1, e2⟩ := (h.ext hk).open hst hx ho
  have hzl : zs.length = LL.length := by rw [← hlz]; simp
  refine (setAddRow_any (cmpRow_law con) (ao, n, cap) hd hz hs (by omega)).mono ?_
  rintro e w2 ⟨v, rfl, hk2, rfl, iv', hs2, hiv⟩
  refine RetF.mk hk2 ⟨by rw [e1], iv', ?_, hiv⟩
  have hsame : Same (poolOf S (ao, n, cap)) w1 w2 := hk2.same hs.inS fun k h1 h2 => hs.notS k h2 h1
  have := RowsAt.of_set hc hsame hs2
  rwa [← addS_map con zs (ao, n, cap), hlz, ex] at this
end
end Go.Proofs.Ytfkhelihepbehaa

namespace Go.Proofs.Ytfkhelihepbehaa
open Go.RowKit
set_option linter.unusedVariables false

section
variable {S : Nat → Prop} {w w' : World} {b : Nat} {iv : Value} {arity : Nat} {LL : List (List ByteArray)}
/-- What Add leaves. -/
def RowsAdded (S : Nat → Prop) (w : World) (b : Nat) (iv : Value) (arity : Nat) (LL : List (List ByteArray)) (ss : List ByteArray) (w' : World) (v : Value) : Prop :=
  v = .tuple #[.bool (rowsAddR arity LL ss).1, .int .i64 ((rowsAddR arity LL ss).2 : Nat)] ∧
    ∃ S' iv', (∀ k, S k → S' k) ∧ (∀ k, S' k → S k ∨ w.heap.size ≤ k) ∧ RowsAt S' w' b iv' arity (rowsAddL arity LL ss) ∧ ∀ k, iv'.ownBlock = some k → iv.ownBlock = some k ∨ w.heap.size ≤ k
theorem RowsAdded.same (h : RowsAt S w b iv arity LL) {ss : List ByteArray} {w1 : World} (hk : Ext w w1) {v : Value} (hv : v = .tuple #[.bool (rowsAddR arity LL ss).1, .int .i64 ((rowsAddR arity LL ss).2 : Nat)]) (h0 : rowsAddL arity LL ss = LL) : RowsAdded S w b iv arity LL ss w1 v :=
  ⟨hv, S, iv, fun _ h => h, fun _ h => .inl h, by rw [h0]; exact h.ext hk, fun _ h => .inl h⟩

set_option maxRecDepth 100000 in
set_option maxHeartbeats 2000000 in
theorem rowsAdd_any (h : RowsAt S w b iv arity LL) (hst : Strict cmpRow LL) {ao : Option Addr} {n cap : Nat} {ss : List ByteArray} (hx : RowIn w (ao, n, cap) ss) (ho : RowOff (ao, n, cap) (Owns b iv)) (hLL : LL.length + 1 ≤ 1048576 * 1048576) :
    Calls Try.prog 61 #[.pointer (some ⟨b, 0, none⟩), .slice ao n cap] w (RetF (Owns b iv) w (RowsAdded S w b iv arity LL ss)) := by
  have hn : n = ss.length := hx.1.1
  have hcs : CellsAt w ao (strs ss) := hx.1.2
  have hl : ss.length ≤ 8796093021952 := hx.2.1
  have c2 : w.cell? ⟨b, 2, none⟩ = some (.int .i64 arity) := by rw [h.blk.cell']; rfl
  have HT := Lib.hid (texts_any ss ao n cap w hn hcs (by omega))
  have HH := Lib.hid (fun w1 (hw : Ext w w1) => rowsHas_any (h.ext hw) hst (x := (ao, n, cap)) (ss := ss) ⟨⟨hn, hcs.ext hw⟩, hl, fun a e => Nat.lt_of_lt_of_le (hx.2.2 a e) hw.size⟩ ho)
  have HLN := Lib.hid (fun w1 (hw : Ext w w1) => rowsLen_any (h.ext hw))
  have HS := Lib.hid (fun w1 (hw : Ext w w1) => rowsSet_any (h.ext hw))
  have HCL := Lib.hid (fun w1 (hw : Ext w w1) => cloneStr_any (strs ss) ao cap w1 n (by simp [strs, hn]) (hcs.ext hw) (strs_one ss) (by omega))
  have HP := Lib.hid (fun w0 w1 ao1 cap1 (hw : Ext w w0) (hk : Ext w0 w1) hr => rowsPut (w := w0) (w1 := w1) (ao := ao1) (n := n) (cap := cap1) (h.ext hw) hst hk hr hn (by omega) hLL)
  have H := Lib.hid h
  have HN := Lib.hid hn
  clear h hst hx ho hcs hn
  obtain ⟨m, em⟩ : ∃ m, m = LL.length := ⟨_, rfl⟩
  rw [← em] at HLN hLL
  have EM := Lib.hid em; clear em hLL
  by_cases h1 : n = arity
  · have q1 : ((n : Int) != (arity : Int)) = false := by simp [h1]
    have H1 := Lib.hid h1; clear h1
    cases ht : textsC ss with
    | false =>
      have HTX := Lib.hid ht
      rw [ht] at HT; clear ht
      go_enter Try.func61, Try.ntmps61
      go_wp2_with fail
      refine HT.out.mono ?_
      rintro e w1 ⟨v, rfl, hk, rfl⟩
      have HK := Lib.hid hk; clear hk
      go_wp2
      go_ret2
      have e0 : rowsAddR arity LL ss = (false, 31) := by unfold rowsAddR; rw [if_neg (by rw [← HN.out, H1.out]; simp), if_pos HTX.out]
      exact RetF.mk (Ext.kp HK.out) (RowsAdded.same H.out HK.out (by rw [e0]; rfl) (by unfold rowsAddL; rw [e0]; rfl))
    | true =>
      have HTX := Lib.hid ht
      rw [ht] at HT; clear ht
      by_cases hf : 65536 ≤ m
      · have q2 : decide ((65536 : Int) ≤ (m : Int)) = true := by rw [decide_eq_true_iff]; omega
        have HF := Lib.hid hf; clear hf
        cases hi : isIn cmpRow LL ss with
        | false =>
          have HI := Lib.hid hi
          rw [hi] at HH; clear hi
          go_enter Try.func61, Try.ntmps61
          go_wp2_with fail
          refine HT.out.mono ?_
          rintro e w0 ⟨v, rfl, hk0, rfl⟩
          go_wp2_with fail
          refine (HLN.out w0 hk0).mono ?_
          rintro e w' ⟨rfl, rfl⟩
          go_wp2_with fail
          refine (HH.out w0 hk0).mono ?_
          rintro e w1 ⟨v, rfl, hk01, rfl⟩
          have hk1 := hk0.trans hk01
          clear hk0 hk01
          have HK := Lib.hid hk1; clear hk1
          go_wp2
          go_ret2
          have e0 : rowsAddR arity LL ss = (false, 4) := by unfold rowsAddR; rw [if_neg (by rw [← HN.out, H1.out]; simp), if_neg (by rw [HTX.out]; simp), if_pos ⟨EM.out ▸ HF.out, HI.out⟩]
          exact RetF.mk (Ext.kp HK.out) (RowsAdded.same H.out HK.out (by rw [e0]; rfl) (by unfold rowsAddL; rw [e0]; rfl))
        | true =>
          have HI := Lib.hid hi
          rw [hi] at HH; clear hi
          go_enter Try.func61, Try.ntmps61
          go_wp2_with fail
          refine HT.out.mono ?_
          rintro e w0 ⟨v, rfl, hk0, rfl⟩
          go_wp2_with fail
          refine (HLN.out w0 hk0).mono ?_
          rintro e w' ⟨rfl, rfl⟩
          go_wp2_with fail
          refine (HH.out w0 hk0).mono ?_
          rintro e w1 ⟨v, rfl, hk01, rfl⟩
          have hk1 := hk0.trans hk01
          clear hk0 hk01
          go_wp2_with fail
          refine (HS.out w1 hk1).mono ?_
          rintro e w' ⟨rfl, rfl⟩
          go_wp2_with fail
          refine (HCL.out w1 hk1).mono ?_
          rintro e w2 ⟨v, rfl, hk2, hr2⟩
          obtain ⟨ao2, cap2, ev, _, _⟩ := hr2.shape
          subst ev
          go_wp2_with fail
          refine (HP.out w1 w2 ao2 cap2 hk1 hk2 hr2).mono ?_
          rintro e w3 ⟨v, rfl, hk3, rfl, iv', hrows, hiv⟩
          have HR := Lib.hid (And.intro hk3 (And.intro hrows hiv))
          have hb2 := hr2.block
          clear hk3 hrows hiv hr2
          go_wp2
          go_ret2
          have e0 : rowsAddR arity LL ss = (!isIn cmpRow LL ss, 0) := by unfold rowsAddR; rw [if_neg (by rw [← HN.out, H1.out]; simp), if_neg (by rw [HTX.out]; simp), if_neg (fun h => by rw [HI.out] at h; cases h.2)]
          have z1 := hk1.size
          have z2 := hk2.size
          refine RetF.mk ((Ext.kp (hk1.trans hk2)).trans HR.out.1) ⟨by rw [e0]; rfl, poolOf S (ao2, n, cap2), iv', fun k h => .inl h, fun k h => ?_, by unfold rowsAddL; rw [e0]; exact HR.out.2.1, fun k h => (HR.out.2.2 k h).imp id (fun h => by omega)⟩
          rcases h with h | ⟨a, e, rfl⟩
          · exact .inl h
          · have e' : ao2 = some a := e
            subst e'
            have := hb2 a.block rfl
            exact .inr (Nat.le_trans z1 this)
      · have q2 : decide ((65536 : Int) ≤ (m : Int)) = false := by rw [decide_eq_false_iff_not]; omega
        have HF := Lib.hid hf; clear hf
        go_enter Try.func61, Try.ntmps61
        go_wp2_with fail
        refine HT.out.mono ?_
        rintro e w1 ⟨v, rfl, hk1, rfl⟩
        go_wp2_with fail
        refine (HLN.out w1 hk1).mono ?_
        rintro e w' ⟨rfl, rfl⟩
        go_wp2_with fail
        refine (HS.out w1 hk1).mono ?_
        rintro e w' ⟨rfl, rfl⟩
        go_wp2_with fail
        refine (HCL.out w1 hk1).mono ?_
        rintro e w2 ⟨v, rfl, hk2, hr2⟩
        obtain ⟨ao2, cap2, ev, _, _⟩ := hr2.shape
        subst ev
        go_wp2_with fail
        refine (HP.out w1 w2 ao2 cap2 hk1 hk2 hr2).mono ?_
        rintro e w3 ⟨v, rfl, hk3, rfl, iv', hrows, hiv⟩
        have HR := Lib.hid (And.intro hk3 (And.intro hrows hiv))
        have hb2 := hr2.block
        clear hk3 hrows hiv hr2
        go_wp2
        go_ret2
        have e0 : rowsAddR arity LL ss = (!isIn cmpRow LL ss, 0) := by unfold rowsAddR; rw [if_neg (by rw [← HN.out, H1.out]; simp), if_neg (by rw [HTX.out]; simp), if_neg (fun h => HF.out (EM.out ▸ h.1))]
        have z1 := hk1.size
        have z2 := hk2.size
        refine RetF.mk ((Ext.kp (hk1.trans hk2)).trans HR.out.1) ⟨by rw [e0]; rfl, poolOf S (ao2, n, cap2), iv', fun k h => .inl h, fun k h => ?_, by unfold rowsAddL; rw [e0]; exact HR.out.2.1, fun k h => (HR.out.2.2 k h).imp id (fun h => by omega)⟩
        rcases h with h | ⟨a, e, rfl⟩
        · exact .inl h
        · have e' : ao2 = some a := e
          subst e'
          have := hb2 a.block rfl
          exact .inr (Nat.le_trans z1 this)
  · have q1 : ((n : Int) != (arity : Int)) = true := by rw [bne_iff_ne]; omega
    have H1 := Lib.hid h1; clear h1
    go_enter Try.func61, Try.ntmps61
    go_wp2
    go_ret2
    have e0 : rowsAddR arity LL ss = (false, 30) := by unfold rowsAddR; rw [if_pos (by rw [← HN.out]; exact H1.out)]
    exact RetF.mk (Kp.refl _) (RowsAdded.same H.out (Kp.refl _) (by rw [e0]; rfl) (by unfold rowsAddL; rw [e0]; rfl))
end
end Go.Proofs.Ytfkhelihepbehaa
