/- Texts joined for a claim (RowSet, BaseC, TriePlain, JoinTree, JoinPlain, JoinEnv, JoinEnv2, LeapPlain, TrieSpan, TriePath, JoinSol, JoinStep, IndexX, BaseC2, BasePut, RowQ, RowQ2, RowQ3, RowOwn, RowAll). -/
import Derived.Test.YtinnmeiphbdogaaGreatOr2
import Derived.Laws.EntriesVeiled
set_option linter.unusedVariables false
set_option linter.unusedSimpArgs false
/- tuple.Rows: rows of texts in a set: what a row reads as, their order, set, Len, NewRows, named, texts. -/
namespace Go.Proofs.YtinnmeiphbdogaaGreat
open Go.RowKit
abbrev iN := Option Addr × Nat × Nat
def ReadsAs (w : World) (x : iN) (ss : List ByteArray) : Prop := x.2.1 = ss.length /\ CellsAt w x.1 (strs ss)
theorem ReadsAs.unique {w : World} {x : iN} {a b : List ByteArray} (h : ReadsAs w x a) (h' : ReadsAs w x b) : a = b := by
 obtain ⟨h1, h2⟩ := h
 obtain ⟨h3, h4⟩ := h'
 refine List.ext_getElem (by omega) fun i hi hj => ?_
 obtain ⟨b1, o1, e1, c1⟩ := h2.str hi
 obtain ⟨b2, o2, e2, c2⟩ := h4.str hj
 rw [e1] at e2
 cases e2
 rw [c1] at c2
 simpa using c2
theorem zV (w : World) : ∃ con : iN -> List ByteArray, ∀ x ss, ReadsAs w x ss -> con x = ss := by
 have h : ∀ x : iN, ∃ l : List ByteArray, ∀ ss, ReadsAs w x ss -> l = ss := fun x => by
  by_cases hx : ∃ ss, ReadsAs w x ss
  ·obtain ⟨ss, hs⟩ := hx
   exact ⟨ss, fun ss' hs' => hs.unique hs'⟩
  ·exact ⟨[], fun ss hs => absurd ⟨ss, hs⟩ hx⟩
 exact ⟨fun x => Classical.choose (h x), fun x => Classical.choose_spec (h x)⟩
def aE2 (S : Nat -> Prop) (w : World) (x : iN) : Prop := ∃ ss, ReadsAs w x ss /\ ss.length ≤ 8796093021952 /\ ∀ a, x.1 = some a -> x.2.1 ≠ 0 -> S a.block
theorem ReadsAs.same {S : Nat -> Prop} {w w' : World} {x : iN} {ss : List ByteArray} (h : ReadsAs w x ss) (hs : Same S w w') (ha : ∀ a, x.1 = some a -> x.2.1 ≠ 0 -> S a.block) : ReadsAs w' x ss := by
 refine ⟨h.1, fun i u hu => ?_⟩
 have hne : x.2.1 ≠ 0 := by
  have h1 := (List.getElem?_eq_some_iff.1 hu).1
  simp only [strs, List.length_map] at h1
  rw [h.1]; omega
 obtain ⟨b, o, e, c⟩ := h.2 i u hu
 refine ⟨b, o, e, ?_⟩
 rw [World.cell?_of_block (w := w) (hs b (ha _ e hne)).2]; exact c
theorem lT {α : Type} (f : α -> List ByteArray) : OrdLaw (fun x y => aC (f x) (f y)) :=
 ⟨fun x y => by have := nG (f x) (f y); omega, fun x y z h h' => lS h h'⟩
theorem mL {S : Nat -> Prop} {w : World} {con : iN -> List ByteArray} (hc : ∀ x ss, ReadsAs w x ss -> con x = ss) :
 OrdVRow Tryz.prog S w (.func (Fn.func 124) #[] #[]) (aE2 S w) (fun x y => aC (con x) (con y)) := by
 refine .inr ⟨_, _, _, rfl, enters_of Tryz.func124 (by kernel_rfl) rfl, fun w' hw x y hx hy => ?_⟩
 obtain ⟨xs, hx1, hx2, hx3⟩ := hx
 obtain ⟨ys, hy1, hy2, hy3⟩ := hy
 have ex := hc x xs hx1
 have ey := hc y ys hy1
 have hx' := hx1.same hw hx3
 have hy' := hy1.same hw hy3
 obtain ⟨ax, nx, cx⟩ := x
 obtain ⟨ay, ny, cy⟩ := y
 obtain ⟨h1, h2⟩ := hx'
 obtain ⟨h3, h4⟩ := hy'
 simp only at h1 h2 h3 h4
 subst h1 h3
 simp only [ex, ey]
 refine (qS xs ys ax ay cx cy w' h2 h4 (by unfold maxLen; omega) (by unfold maxLen; omega)).mono ?_
 rintro e w2 ⟨rfl, rfl⟩
 exact ⟨rfl, Kp.refl w'⟩
def RowsAt (S : Nat -> Prop) (w : World) (b : Nat) (iv : Value) (arity : Nat) (LL : List (List ByteArray)) : Prop :=
 ∃ con zs, (∀ x ss, ReadsAs w x ss -> con x = ss) /\ SetAtRow Tryz.prog S w b (.func (Fn.func 124) #[] #[]) iv [.int .i64 arity] 135 (aE2 S w) (fun x y => aC (con x) (con y)) zs /\ zs.map con = LL
theorem xR (s : ByteArray) (w : World) : Calls Tryz.prog 84 #[.string s] w (Ret (.bool (decide (1 ≤ s.size /\ s.size ≤ 4096))) w) := by
 by_cases h1 : 1 ≤ s.size
 ·have q1 : (1 : Int) ≤ (s.size : Int) := by omega
  by_cases h2 : s.size ≤ 4096
  ·have q2 : (s.size : Int) ≤ 4096 := by omega
   have H := qH (And.intro h1 h2)
   go_enter Tryz.func84, Tryz.ntmps84
   go_wp2
   go_ret
   exact Ret.mk (by simp [H.out.1, H.out.2])
  ·have q2 : ¬ (s.size : Int) ≤ 4096 := by omega
   have H := qH h2
   go_enter Tryz.func84, Tryz.ntmps84
   go_wp2
   go_ret
   exact Ret.mk (by simp)
 ·have q1 : ¬ (1 : Int) ≤ (s.size : Int) := by omega
  have H := qH h1
  go_enter Tryz.func84, Tryz.ntmps84
  go_wp2
  go_ret
  exact Ret.mk (by simp)
theorem aAm (s : ByteArray) (w : World) : Calls Tryz.prog 126 #[.string s] w (Ret (.bool (decide (4096 < s.size))) w) := by
 by_cases h : 4096 < s.size
 ·have q : (4096 : Int) < (s.size : Int) := by omega
  have H := qH h
  go_enter Tryz.func126, Tryz.ntmps126
  go_wp2
  go_ret
  exact Ret.mk (by simp [H.out])
 ·have q : ¬ (4096 : Int) < (s.size : Int) := by omega
  have H := qH h
  go_enter Tryz.func126, Tryz.ntmps126
  go_wp2
  go_ret
  exact Ret.mk (by simp)
def bP (ss : List ByteArray) : Bool := ss.all fun s => decide (s.size ≤ 4096)
theorem qT (ss : List ByteArray) (ao : Option Addr) (n c : Nat) (w : World) (hn : n = ss.length) (hc : CellsAt w ao (strs ss)) (hl : n ≤ 4611686018427387904) :
 Calls Tryz.prog 86 #[.slice ao n c] w (RetN w fun w' v => v = .bool (bP ss)) := by
 have hent : ∀ args w, (callFunc 126 args).run Tryz.prog w = .ok (.enter 126 args) w := enters_of Tryz.func126 (by kernel_rfl) rfl
 have hi := oF (strs ss) ao c 126 #[] #[] (fun i => decide (4096 < (ss[i]?.getD ⟨#[]⟩).size)) w n (by simp [strs, hn]) hc ⟨hent, fun w' _ i u hu => by
  rw [strs, List.getElem?_map] at hu
  cases hs : ss[i]? with
  | none => rw [hs] at hu; cases hu
  | some s =>
   rw [hs] at hu
   cases hu
   refine (aAm s w').mono ?_
   rintro e w2 ⟨rfl, rfl⟩
   exact ⟨by simp [hs], Kp.refl _⟩⟩ hl
 have key : (!(List.range n).any fun i => decide (4096 < (ss[i]?.getD ⟨#[]⟩).size)) = bP ss := by
  rw [Bool.eq_iff_iff]
  simp only [Bool.not_eq_true', List.any_eq_false, List.mem_range, decide_eq_true_eq, bP, List.all_eq_true]
  constructor
  ·intro h s hs
   obtain ⟨i, hi, rfl⟩ := List.mem_iff_getElem.1 hs
   have := h i (by omega)
   simp only [qG hi, Option.getD_some] at this
   omega
  ·intro h i hi
   have hi' : i < ss.length := by omega
   have := h ss[i] (List.getElem_mem _)
   simp only [qG hi', Option.getD_some]
   omega
 have HI := qH (And.intro hi key); clear hi key hent hc hn
 go_enter Tryz.func86, Tryz.ntmps86
 go_wp2_with fail
 refine HI.out.1.mono ?_
 rintro e w1 ⟨v, rfl, hk, rfl⟩
 have HK := qH hk; clear hk
 go_wp2
 go_ret
 exact RetN.mk HK.out (by rw [<- HI.out.2]; rfl)
end Go.Proofs.YtinnmeiphbdogaaGreat
namespace Go.Proofs.YtinnmeiphbdogaaGreat
open Go.RowKit
section
variable {S S' : Nat -> Prop} {w w' : World} {b : Nat} {iv : Value} {arity : Nat} {LL : List (List ByteArray)}
theorem RowsAt.move {F : Nat -> Prop} (h : RowsAt S w b iv arity LL) (hk : Kp F w w') (hF : ∀ k, F k -> ¬ fZ b iv k) (hS : ∀ k, F k -> ¬ S k) (hsub : ∀ k, S k -> S' k) (hin : ∀ k, S' k -> k < w'.heap.size) (hno : ∀ k, fZ b iv k -> ¬ S' k) :
 RowsAt S' w' b iv arity LL := by
 obtain ⟨con, zs, hc, hs, hl⟩ := h
 obtain ⟨con', hc'⟩ := zV w'
 have hs' := hs.kp hk hF hS
 have hsame : Same S w w' := hk.same hs.inS fun k h1 h2 => hS k h2 h1
 have all : ∀ z ∈ zs, aE2 S' w' z /\ con' z = con z := fun z hz => by
  obtain ⟨ss, h1, h2, h3⟩ := hs.all z hz
  have h1' := h1.same hsame h3
  exact ⟨⟨ss, h1', h2, fun a e hne => hsub _ (h3 a e hne)⟩, by rw [hc' z ss h1', hc z ss h1]⟩
 refine ⟨con', zs, hc', ⟨hs'.blk, hs'.row, hs'.apart, hin, hno, mL hc', fun z hz => (all z hz).1, hs.len⟩, ?_⟩
 rw [<- hl]
 exact List.map_congr_left fun z hz => (all z hz).2
theorem RowsAt.ext (h : RowsAt S w b iv arity LL) (hk : Ext w w') : RowsAt S w' b iv arity LL := by
 have hb := h
 obtain ⟨con, zs, hc, hs, hl⟩ := hb
 exact h.move hk (fun _ x => x.elim) (fun _ x => x.elim) (fun _ h => h) (fun k hk' => Nat.lt_of_lt_of_le (hs.inS k hk') hk.size) hs.notS
theorem RowsAt.blk (h : RowsAt S w b iv arity LL) : Blk w b [.func (Fn.func 124) #[] #[], iv, .int .i64 arity] 135 := by
 obtain ⟨con, zs, hc, hs, hl⟩ := h
 exact hs.blk
theorem rP (w : World) : Calls Tryz.prog 99 #[.pointer none] w (Ret (.pointer none) w) := by
 go_enter Tryz.func99, Tryz.ntmps99
 go_wp2
 go_ret
 exact Ret.mk rfl
theorem gU (h : RowsAt S w b iv arity LL) : Calls Tryz.prog 99 #[.pointer (some ⟨b, 0, none⟩)] w (Ret (.pointer (some ⟨b, 0, none⟩)) w) := by
 have c0 : w.cell? ⟨b, 0, none⟩ = some (.func (Fn.func 124) #[] #[]) := by rw [h.blk.cell']; rfl
 have hq : ∀ w : World, (binOp .eql 131 (.func (Fn.func 124) #[] #[]) .nilFunc).run Tryz.prog w = .ok (.bool false) w := fun _ => by kernel_rfl
 clear h
 go_enter Tryz.func99, Tryz.ntmps99
 go_wp2
 go_ret
 exact Ret.mk rfl
theorem aAy (w : World) : Calls Tryz.prog 105 #[.pointer none] w (Ret (.int .i64 0) w) := by
 go_enter Tryz.func105, Tryz.ntmps105
 go_wp2_with fail
 refine (rP w).mono ?_
 rintro e w' ⟨rfl, rfl⟩
 go_wp2_with fail
 refine (wH w).mono ?_
 rintro e w' ⟨rfl, rfl⟩
 go_wp2
 go_ret
 exact Ret.mk rfl
theorem aAz (h : RowsAt S w b iv arity LL) : Calls Tryz.prog 105 #[.pointer (some ⟨b, 0, none⟩)] w (Ret (.int .i64 (LL.length : Nat)) w) := by
 have H := qH h
 obtain ⟨con, zs, hc, hs, hl⟩ := h
 have HS := qH hs
 have HL := qH (show zs.length = LL.length by rw [<- hl]; simp)
 clear hs hc hl
 go_enter Tryz.func105, Tryz.ntmps105
 go_wp2_with fail
 refine (gU H.out).mono ?_
 rintro e w' ⟨rfl, rfl⟩
 go_wp2_with fail
 refine (oI HS.out).mono ?_
 rintro e w' ⟨rfl, rfl⟩
 go_wp2
 go_ret
 exact Ret.mk (by rw [<- HL.out]; rfl)
theorem aDd (S : Nat -> Prop) (w : World) (a : Nat) (hS : ∀ k, S k -> k < w.heap.size) :
 RowsAt S (w.alloc (.cells #[.func (Fn.func 124) #[] #[], .slice none 0 0, .int .i64 a] 135)) w.heap.size (.slice none 0 0) a [] := by
 obtain ⟨con, hc⟩ := zV (w.alloc (.cells #[.func (Fn.func 124) #[] #[], .slice none 0 0, .int .i64 a] 135))
 refine ⟨con, [], hc, ⟨Blk.new w [.func (Fn.func 124) #[] #[], .slice none 0 0, .int .i64 a] 135, Row.nil _ _ _ _, by simp [Value.ownBlock], fun k hk => by rw [aK]; have := hS k hk; omega, fun k ho hs => ?_, mL hc, by simp, by simp⟩, rfl⟩
 rcases ho with rfl | ho
 ·have := hS _ hs; omega
 ·cases ho
theorem mR (S : Nat -> Prop) (w : World) (a : Nat) (ha : a ≤ 64) (hS : ∀ k, S k -> k < w.heap.size) :
 Calls Tryz.prog 85 #[.int .i64 a] w (RetN w fun w' v => v = .tuple #[.pointer (some ⟨w.heap.size, 0, none⟩), .int .i64 0] /\ RowsAt S w' w.heap.size (.slice none 0 0) a []) := by
 have HR := qH (aDd S w a hS)
 have q1 : ¬ (a : Int) < 0 := by omega
 have q2 : ¬ (64 : Int) < (a : Int) := by omega
 clear hS
 go_enter Tryz.func85, Tryz.ntmps85
 go_wp2
 go_ret2
 exact RetN.mk ((Kp.refl w).alloc _) ⟨rfl, HR.out⟩
end
end Go.Proofs.YtinnmeiphbdogaaGreat
namespace Go.Proofs.YtinnmeiphbdogaaGreat
open Go.RowKit
def RowIn (w : World) (x : iN) (ss : List ByteArray) : Prop := ReadsAs w x ss /\ ss.length ≤ 8796093021952 /\ ∀ a, x.1 = some a -> x.2.1 ≠ 0 -> a.block < w.heap.size
def jL (x : iN) (F : Nat -> Prop) : Prop := ∀ a, x.1 = some a -> x.2.1 ≠ 0 -> ¬ F a.block
def lJ (S : Nat -> Prop) (x : iN) : Nat -> Prop := fun k => S k \/ ∃ a, x.1 = some a /\ x.2.1 ≠ 0 /\ a.block = k
section
variable {S : Nat -> Prop} {w w' : World} {b : Nat} {iv : Value} {arity : Nat} {LL : List (List ByteArray)}
theorem RowsAt.inS (h : RowsAt S w b iv arity LL) : ∀ k, S k -> k < w.heap.size := by
 obtain ⟨con, zs, hc, hs, hl⟩ := h
 exact hs.inS
theorem RowsAt.notS (h : RowsAt S w b iv arity LL) : ∀ k, fZ b iv k -> ¬ S k := by
 obtain ⟨con, zs, hc, hs, hl⟩ := h
 exact hs.notS
theorem RowsAt.pool (h : RowsAt S w b iv arity LL) {x : iN} {ss : List ByteArray} (hx : RowIn w x ss) (ho : jL x (fZ b iv)) : RowsAt (lJ S x) w b iv arity LL := by
 refine h.move (F := fun _ => False) (Kp.refl w) (fun _ x => x.elim) (fun _ x => x.elim) (fun k hk => .inl hk) (fun k hk => ?_) (fun k hk hs => ?_)
 ·rcases hk with hk | ⟨a, e, hne, rfl⟩
  ·exact h.inS k hk
  ·exact hx.2.2 a e hne
 ·rcases hs with hs | ⟨a, e, hne, rfl⟩
  ·exact h.notS k hk hs
  ·exact ho a e hne hk
theorem RowsAt.open (h : RowsAt S w b iv arity LL) (hst : Strict aC LL) {x : iN} {ss : List ByteArray} (hx : RowIn w x ss) (ho : jL x (fZ b iv)) :
 ∃ con zs, (∀ x ss, ReadsAs w x ss -> con x = ss) /\ SetAtRow Tryz.prog (lJ S x) w b (.func (Fn.func 124) #[] #[]) iv [.int .i64 arity] 135 (aE2 (lJ S x) w) (fun x y => aC (con x) (con y)) zs /\ zs.map con = LL /\
  aE2 (lJ S x) w x /\ con x = ss /\ Strict (fun x y => aC (con x) (con y)) zs /\ bF (fun x y => aC (con x) (con y)) zs x = bF aC LL ss /\ below (fun x y => aC (con x) (con y)) zs x = below aC LL ss := by
 obtain ⟨con, zs, hc, hs, hl⟩ := h.pool hx ho
 have ex := hc x ss hx.1
 refine ⟨con, zs, hc, hs, hl, ⟨ss, hx.1, hx.2.1, fun a e hne => .inr ⟨a, e, hne, rfl⟩⟩, ex, ?_, ?_, ?_⟩
 ·rw [<- hl] at hst
  exact List.pairwise_map.1 hst
 ·rw [<- hl, <- ex]; simp [bF, List.any_map, Function.comp_def]
 ·rw [<- hl, <- ex]; simp [below, List.filter_map, Function.comp_def]
theorem mM (h : RowsAt S w b iv arity LL) (hst : Strict aC LL) {x : iN} {ss : List ByteArray} (hx : RowIn w x ss) (ho : jL x (fZ b iv)) :
 Calls Tryz.prog 87 #[.pointer (some ⟨b, 0, none⟩), .slice x.1 x.2.1 x.2.2] w (RetN w fun w' v => v = .bool (bF aC LL ss)) := by
 have H := qH h
 obtain ⟨con, zs, hc, hs, hl, hd, ex, hz, e1, e2⟩ := h.open hst hx ho
 have HF := qH (oJ (lT con) x hd hz hs)
 rw [e1] at HF
 clear h hst hx ho hc hs hl hd ex hz e1 e2
 go_enter Tryz.func87, Tryz.ntmps87
 go_wp2_with fail
 refine (gU H.out).mono ?_
 rintro e w' ⟨rfl, rfl⟩
 go_wp2_with fail
 refine HF.out.mono ?_
 rintro e w1 ⟨v, rfl, hk, rfl⟩
 have HK := qH hk; clear hk
 go_wp2
 go_ret
 exact RetN.mk HK.out rfl
theorem RowsAt.of_set {S' : Nat -> Prop} {w1 w2 : World} {con : iN -> List ByteArray} {zs : List iN} (hc : ∀ x ss, ReadsAs w1 x ss -> con x = ss) (hsame : Same S' w1 w2)
 (h : SetAtRow Tryz.prog S' w2 b (.func (Fn.func 124) #[] #[]) iv [.int .i64 arity] 135 (aE2 S' w1) (fun x y => aC (con x) (con y)) zs) : RowsAt S' w2 b iv arity (zs.map con) := by
 obtain ⟨con', hc'⟩ := zV w2
 have all : ∀ z ∈ zs, aE2 S' w2 z /\ con' z = con z := fun z hz => by
  have hd := h.all z hz
  obtain ⟨ss, h1, h2, h3⟩ := hd
  have h1' := h1.same hsame h3
  exact ⟨⟨ss, h1', h2, h3⟩, by rw [hc' z ss h1', hc z ss h1]⟩
 exact ⟨con', zs, hc', ⟨h.blk, h.row, h.apart, h.inS, h.notS, mL hc', fun z hz => (all z hz).1, h.len⟩, List.map_congr_left fun z hz => (all z hz).2⟩
def aX (arity : Nat) (LL : List (List ByteArray)) (ss : List ByteArray) : Bool × Nat :=
 if ss.length ≠ arity then (false, 30) else if bP ss = false then (false, 31) else if 65536 ≤ LL.length /\ bF aC LL ss = false then (false, 4) else (!bF aC LL ss, 0)
def bJ (arity : Nat) (LL : List (List ByteArray)) (ss : List ByteArray) : List (List ByteArray) := if (aX arity LL ss).2 = 0 then bM aC LL ss else LL
theorem aFd (h : RowsAt S w b iv arity LL) (hst : Strict aC LL) {ao : Option Addr} {n cap : Nat} {ss : List ByteArray} {w1 : World} (hk : Ext w w1) (hr : Row w1 9 1 (.slice ao n cap) n (strs ss) (New w)) (hn : n = ss.length) (hl : n ≤ 8796093021952) (hLL : LL.length + 1 ≤ 1048576 * 1048576) :
 Calls Tryz.prog 128 #[.pointer (some ⟨b, 0, none⟩), .slice ao n cap] w1 (RetF (fZ b iv) w1 fun w' v => v = .bool (!bF aC LL ss) /\
  ∃ iv', RowsAt (lJ S (ao, n, cap)) w' b iv' arity (bM aC LL ss) /\ ∀ k, iv'.ownBlock = some k -> iv.ownBlock = some k \/ w1.heap.size ≤ k) := by
 have hx : RowIn w1 (ao, n, cap) ss := by
  obtain ⟨ao', cap', e, hc, _⟩ := hr.shape
  cases e
  refine ⟨⟨hn, hc⟩, by omega, fun a e _ => ?_⟩
  have e' : ao = some a := e
  subst e'
  exact hr.lt a.block rfl
 have ho : jL (ao, n, cap) (fZ b iv) := fun a e _ ho => by
  have e' : ao = some a := e
  subst e'
  have h1 : w.heap.size ≤ a.block := hr.block a.block rfl
  have h2 : a.block < w.heap.size := by
   obtain ⟨con, zs, hc, hs, hl⟩ := h
   rcases ho with ho | ho
   ·rw [ho]; exact hs.blk.lt
   ·exact hs.row.lt _ ho
  omega
 obtain ⟨con, zs, hc, hs, hlz, hd, ex, hz, e1, e2⟩ := (h.ext hk).open hst hx ho
 have hzl : zs.length = LL.length := by rw [<- hlz]; simp
 refine (wJ (lT con) (ao, n, cap) hd hz hs (by omega)).mono ?_
 rintro e w2 ⟨v, rfl, hk2, rfl, iv', hs2, hiv⟩
 refine RetF.mk hk2 ⟨by rw [e1], iv', ?_, hiv⟩
 have hsame : Same (lJ S (ao, n, cap)) w1 w2 := hk2.same hs.inS fun k h1 h2 => hs.notS k h2 h1
 have := RowsAt.of_set hc hsame hs2
 rwa [<- aJg con zs (ao, n, cap), hlz, ex] at this
end
end Go.Proofs.YtinnmeiphbdogaaGreat
namespace Go.Proofs.YtinnmeiphbdogaaGreat
open Go.RowKit
section
variable {S : Nat -> Prop} {w w' : World} {b : Nat} {iv : Value} {arity : Nat} {LL : List (List ByteArray)}
def RowsAdded (S : Nat -> Prop) (w : World) (b : Nat) (iv : Value) (arity : Nat) (LL : List (List ByteArray)) (ss : List ByteArray) (w' : World) (v : Value) : Prop :=
 v = .tuple #[.bool (aX arity LL ss).1, .int .i64 ((aX arity LL ss).2 : Nat)] /\
  ∃ S' iv', (∀ k, S k -> S' k) /\ (∀ k, S' k -> S k \/ w.heap.size ≤ k) /\ RowsAt S' w' b iv' arity (bJ arity LL ss) /\ ∀ k, iv'.ownBlock = some k -> iv.ownBlock = some k \/ w.heap.size ≤ k
theorem RowsAdded.same (h : RowsAt S w b iv arity LL) {ss : List ByteArray} {w1 : World} (hk : Ext w w1) {v : Value} (hv : v = .tuple #[.bool (aX arity LL ss).1, .int .i64 ((aX arity LL ss).2 : Nat)]) (h0 : bJ arity LL ss = LL) : RowsAdded S w b iv arity LL ss w1 v :=
 ⟨hv, S, iv, fun _ h => h, fun _ h => .inl h, by rw [h0]; exact h.ext hk, fun _ h => .inl h⟩
set_option maxRecDepth 100000 in
set_option maxHeartbeats 2000000 in
theorem mN (h : RowsAt S w b iv arity LL) (hst : Strict aC LL) {ao : Option Addr} {n cap : Nat} {ss : List ByteArray} (hx : RowIn w (ao, n, cap) ss) (ho : jL (ao, n, cap) (fZ b iv)) (hLL : LL.length + 1 ≤ 1048576 * 1048576) :
 Calls Tryz.prog 88 #[.pointer (some ⟨b, 0, none⟩), .slice ao n cap] w (RetF (fZ b iv) w (RowsAdded S w b iv arity LL ss)) := by
 have hn : n = ss.length := hx.1.1
 have hcs : CellsAt w ao (strs ss) := hx.1.2
 have hl : ss.length ≤ 8796093021952 := hx.2.1
 have c2 : w.cell? ⟨b, 2, none⟩ = some (.int .i64 arity) := by rw [h.blk.cell']; rfl
 have HT := qH (qT ss ao n cap w hn hcs (by omega))
 have HH := qH (fun w1 (hw : Ext w w1) => mM (h.ext hw) hst (x := (ao, n, cap)) (ss := ss) ⟨⟨hn, hcs.ext hw⟩, hl, fun a e hne => Nat.lt_of_lt_of_le (hx.2.2 a e hne) hw.size⟩ ho)
 have HLN := qH (fun w1 (hw : Ext w w1) => aAz (h.ext hw))
 have HS := qH (fun w1 (hw : Ext w w1) => gU (h.ext hw))
 have HCL := qH (fun w1 (hw : Ext w w1) => iM (strs ss) ao cap w1 n (by simp [strs, hn]) (hcs.ext hw) (kG ss) (by omega))
 have HP := qH (fun w0 w1 ao1 cap1 (hw : Ext w w0) (hk : Ext w0 w1) hr => aFd (w := w0) (w1 := w1) (ao := ao1) (n := n) (cap := cap1) (h.ext hw) hst hk hr hn (by omega) hLL)
 have H := qH h
 have HN := qH hn
 clear h hst hx ho hcs hn
 obtain ⟨m, em⟩ : ∃ m, m = LL.length := ⟨_, rfl⟩
 rw [<- em] at HLN hLL
 have EM := qH em; clear em hLL
 by_cases h1 : n = arity
 ·have q1 : ((n : Int) != (arity : Int)) = false := by simp [h1]
  have H1 := qH h1; clear h1
  cases ht : bP ss with
  | false =>
   have HTX := qH ht
   rw [ht] at HT; clear ht
   go_enter Tryz.func88, Tryz.ntmps88
   go_wp2_with fail
   refine HT.out.mono ?_
   rintro e w1 ⟨v, rfl, hk, rfl⟩
   have HK := qH hk; clear hk
   go_wp2
   go_ret2
   have e0 : aX arity LL ss = (false, 31) := by unfold aX; rw [if_neg (by rw [<- HN.out, H1.out]; simp), if_pos HTX.out]
   exact RetF.mk (Ext.kp HK.out) (RowsAdded.same H.out HK.out (by rw [e0]; rfl) (by unfold bJ; rw [e0]; rfl))
  | true =>
   have HTX := qH ht
   rw [ht] at HT; clear ht
   by_cases hf : 65536 ≤ m
   ·have q2 : decide ((65536 : Int) ≤ (m : Int)) = true := by rw [decide_eq_true_iff]; omega
    have HF := qH hf; clear hf
    cases hi : bF aC LL ss with
    | false =>
     have HI := qH hi
     rw [hi] at HH; clear hi
     go_enter Tryz.func88, Tryz.ntmps88
     go_wp2_with fail
     refine HT.out.mono ?_
     rintro e w0 ⟨v, rfl, hk0, rfl⟩
     go_wp2_with fail
     refine (HLN.out w0 hk0).mono ?_
     rintro e w' ⟨rfl, rfl⟩
     go_wp2_with fail
     refine (HH.out w0 hk0).mono ?_
     rintro e w1 ⟨v, rfl, hk01, rfl⟩
     have hk1 := hk0.trans hk01
     clear hk0 hk01
     have HK := qH hk1; clear hk1
     go_wp2
     go_ret2
     have e0 : aX arity LL ss = (false, 4) := by unfold aX; rw [if_neg (by rw [<- HN.out, H1.out]; simp), if_neg (by rw [HTX.out]; simp), if_pos ⟨EM.out ▸ HF.out, HI.out⟩]
     exact RetF.mk (Ext.kp HK.out) (RowsAdded.same H.out HK.out (by rw [e0]; rfl) (by unfold bJ; rw [e0]; rfl))
    | true =>
     have HI := qH hi
     rw [hi] at HH; clear hi
     go_enter Tryz.func88, Tryz.ntmps88
     go_wp2_with fail
     refine HT.out.mono ?_
     rintro e w0 ⟨v, rfl, hk0, rfl⟩
     go_wp2_with fail
     refine (HLN.out w0 hk0).mono ?_
     rintro e w' ⟨rfl, rfl⟩
     go_wp2_with fail
     refine (HH.out w0 hk0).mono ?_
     rintro e w1 ⟨v, rfl, hk01, rfl⟩
     have hk1 := hk0.trans hk01
     clear hk0 hk01
     go_wp2_with fail
     refine (HS.out w1 hk1).mono ?_
     rintro e w' ⟨rfl, rfl⟩
     go_wp2_with fail
     refine (HCL.out w1 hk1).mono ?_
     rintro e w2 ⟨v, rfl, hk2, hr2⟩
     obtain ⟨ao2, cap2, ev, _, _⟩ := hr2.shape
     subst ev
     go_wp2_with fail
     refine (HP.out w1 w2 ao2 cap2 hk1 hk2 hr2).mono ?_
     rintro e w3 ⟨v, rfl, hk3, rfl, iv', hrows, hiv⟩
     have HR := qH (And.intro hk3 (And.intro hrows hiv))
     have hb2 := hr2.block
     clear hk3 hrows hiv hr2
     go_wp2
     go_ret2
     have e0 : aX arity LL ss = (!bF aC LL ss, 0) := by unfold aX; rw [if_neg (by rw [<- HN.out, H1.out]; simp), if_neg (by rw [HTX.out]; simp), if_neg (fun h => by rw [HI.out] at h; cases h.2)]
     have z1 := hk1.size
     have z2 := hk2.size
     refine RetF.mk ((Ext.kp (hk1.trans hk2)).trans HR.out.1) ⟨by rw [e0]; rfl, lJ S (ao2, n, cap2), iv', fun k h => .inl h, fun k h => ?_, by unfold bJ; rw [e0]; exact HR.out.2.1, fun k h => (HR.out.2.2 k h).imp id (fun h => by omega)⟩
     rcases h with h | ⟨a, e, _, rfl⟩
     ·exact .inl h
     ·have e' : ao2 = some a := e
      subst e'
      have := hb2 a.block rfl
      exact .inr (Nat.le_trans z1 this)
   ·have q2 : decide ((65536 : Int) ≤ (m : Int)) = false := by rw [decide_eq_false_iff_not]; omega
    have HF := qH hf; clear hf
    go_enter Tryz.func88, Tryz.ntmps88
    go_wp2_with fail
    refine HT.out.mono ?_
    rintro e w1 ⟨v, rfl, hk1, rfl⟩
    go_wp2_with fail
    refine (HLN.out w1 hk1).mono ?_
    rintro e w' ⟨rfl, rfl⟩
    go_wp2_with fail
    refine (HS.out w1 hk1).mono ?_
    rintro e w' ⟨rfl, rfl⟩
    go_wp2_with fail
    refine (HCL.out w1 hk1).mono ?_
    rintro e w2 ⟨v, rfl, hk2, hr2⟩
    obtain ⟨ao2, cap2, ev, _, _⟩ := hr2.shape
    subst ev
    go_wp2_with fail
    refine (HP.out w1 w2 ao2 cap2 hk1 hk2 hr2).mono ?_
    rintro e w3 ⟨v, rfl, hk3, rfl, iv', hrows, hiv⟩
    have HR := qH (And.intro hk3 (And.intro hrows hiv))
    have hb2 := hr2.block
    clear hk3 hrows hiv hr2
    go_wp2
    go_ret2
    have e0 : aX arity LL ss = (!bF aC LL ss, 0) := by unfold aX; rw [if_neg (by rw [<- HN.out, H1.out]; simp), if_neg (by rw [HTX.out]; simp), if_neg (fun h => HF.out (EM.out ▸ h.1))]
    have z1 := hk1.size
    have z2 := hk2.size
    refine RetF.mk ((Ext.kp (hk1.trans hk2)).trans HR.out.1) ⟨by rw [e0]; rfl, lJ S (ao2, n, cap2), iv', fun k h => .inl h, fun k h => ?_, by unfold bJ; rw [e0]; exact HR.out.2.1, fun k h => (HR.out.2.2 k h).imp id (fun h => by omega)⟩
    rcases h with h | ⟨a, e, _, rfl⟩
    ·exact .inl h
    ·have e' : ao2 = some a := e
     subst e'
     have := hb2 a.block rfl
     exact .inr (Nat.le_trans z1 this)
 ·have q1 : ((n : Int) != (arity : Int)) = true := by rw [bne_iff_ne]; omega
  have H1 := qH h1; clear h1
  go_enter Tryz.func88, Tryz.ntmps88
  go_wp2
  go_ret2
  have e0 : aX arity LL ss = (false, 30) := by unfold aX; rw [if_pos (by rw [<- HN.out]; exact H1.out)]
  exact RetF.mk (Kp.refl _) (RowsAdded.same H.out (Kp.refl _) (by rw [e0]; rfl) (by unfold bJ; rw [e0]; rfl))
end
end Go.Proofs.YtinnmeiphbdogaaGreat
/- Bases in plain Lean: names, each with its rows: what is declared, what is added, what relations make. No program in sight. -/
namespace Go.Proofs.YtinnmeiphbdogaaGreat
abbrev bG := ByteArray × Nat × List (List ByteArray)
abbrev jN := ByteArray × Int × List (List ByteArray) × Unit
abbrev aE := List (List ByteArray)
theorem dP : OrdLaw aC := lT id
theorem qI : aFp aC := fun _ _ h => jW h
def dR (C : List bG) (s : ByteArray) : Option (Nat × aE) := (C.find? fun p => decide (p.1 = s)).map (·.2)
def tA (C : List bG) (s : ByteArray) (v : Nat × aE) : List bG := if (dR C s).isSome then C.map fun p => if p.1 = s then (p.1, v) else p else C ++ [(s, v)]
def bH (C : List bG) : Nat := (C.map fun p => p.2.2.length).sum
def cI (s : ByteArray) : Bool := decide (1 ≤ s.size /\ s.size ≤ 4096)
def eY (C : List bG) (s : ByteArray) (a : Int) : Nat := if cI s = false then 32 else if a < 0 \/ 64 < a then 2 else match dR C s with | some v => if (v.1 : Int) = a then 0 else 30 | none => 0
def iC (C : List bG) (s : ByteArray) (a : Int) : List bG := if eY C s a = 0 /\ dR C s = none then C ++ [(s, a.toNat, [])] else C
def bT (C : List bG) (s : ByteArray) : aE := match dR C s with | some v => v.2 | none => []
def rJ (C : List bG) (s : ByteArray) (row : List ByteArray) : Bool := match dR C s with | some v => decide (v.1 = row.length) | none => decide (row.length ≤ 64)
def fP (C : List bG) (s : ByteArray) (row : List ByteArray) : Bool × Nat :=
 if cI s = false then (false, 32) else
 if rJ C s row = false then (false, 30) else
 if bP row = false then (false, 31) else
 if 262144 ≤ bH C /\ bF aC (bT C s) row = false then (false, 4) else
 if 65536 ≤ (bT C s).length /\ bF aC (bT C s) row = false then (false, 4) else (!bF aC (bT C s) row, 0)
def rL (C : List bG) (s : ByteArray) (row : List ByteArray) : List bG := if (fP C s row).2 = 0 then tA C s (row.length, bM aC (bT C s) row) else C
def gH (C : List bG) (s : ByteArray) : aE -> List bG × Nat
 | [] => (C, 0)
 | r :: rs => if (fP C s r).2 = 0 then gH (rL C s r) s rs else (C, (fP C s r).2)
def eV (C : List bG) : List jN -> List bG × Nat
 | [] => (C, 0)
 | r :: rs => if eY C r.1 r.2.1 = 0 then (if (gH (iC C r.1 r.2.1) r.1 r.2.2.1).2 = 0 then eV (gH (iC C r.1 r.2.1) r.1 r.2.2.1).1 rs else gH (iC C r.1 r.2.1) r.1 r.2.2.1) else (C, eY C r.1 r.2.1)
structure CntOk (p : bG) : Prop where
 name : cI p.1 = true
 ar : p.2.1 ≤ 64
 strict : Strict aC p.2.2
 len : ∀ r ∈ p.2.2, r.length = p.2.1
 txt : ∀ r ∈ p.2.2, bP r = true
 few : p.2.2.length ≤ 65536
structure BaseOk (C : List bG) : Prop where
 nodup : (C.map (·.1)).Nodup
 all : ∀ p ∈ C, CntOk p
 few : bH C ≤ 262144
theorem kS {C : List bG} (h : (C.map (·.1)).Nodup) {s : ByteArray} {v : Nat × aE} : dR C s = some v ↔ (s, v) ∈ C := by
 unfold dR
 induction C with
 | nil => simp
 | cons p C ih =>
  rw [List.map_cons, List.nodup_cons] at h
  by_cases e : p.1 = s
  ·rw [List.find?_cons_of_pos (by simp [e])]
   subst e
   simp only [Option.map_some, Option.some.injEq, List.mem_cons]
   constructor
   ·rintro rfl; exact .inl rfl
   ·rintro (h1 | h1)
    ·rw [<- h1]
    ·exact absurd (List.mem_map.2 ⟨_, h1, rfl⟩) h.1
  ·rw [List.find?_cons_of_neg (by simp [e]), ih h.2, List.mem_cons]
   constructor
   ·exact .inr
   ·rintro (h1 | h1)
    ·exact absurd (by rw [<- h1]) e
    ·exact h1
theorem yC {C : List bG} {s : ByteArray} : dR C s = none ↔ s ∉ C.map (·.1) := by
 unfold dR
 rw [Option.map_eq_none_iff, List.find?_eq_none]
 constructor
 ·intro h hm
  obtain ⟨p, hp, rfl⟩ := List.mem_map.1 hm
  exact h p hp (by simp)
 ·intro h p hp hd
  exact h (List.mem_map.2 ⟨p, hp, by simpa using hd⟩)
theorem aFz {C : List bG} {s : ByteArray} {v : Nat × aE} : (tA C s v).map (·.1) = if (dR C s).isSome then C.map (·.1) else C.map (·.1) ++ [s] := by
 unfold tA
 split
 ·rw [List.map_map]
  apply List.map_congr_left
  intro p _
  simp only [Function.comp]; split <;> rfl
 ·simp
theorem aGh {C : List bG} (h : (C.map (·.1)).Nodup) (s : ByteArray) (v : Nat × aE) : ((tA C s v).map (·.1)).Nodup := by
 rw [aFz]
 split
 ·exact h
 ·rename_i hn
  have h0 : dR C s = none := by
   cases hg : dR C s with
   | none => rfl
   | some u => rw [hg] at hn; simp at hn
  exact List.nodup_append.2 ⟨h, by simp, fun a ha b hb e => yC.1 h0 (by rw [List.mem_singleton] at hb; rw [<- hb, <- e]; exact ha)⟩
theorem aJ1 {C : List bG} {s : ByteArray} {v : Nat × aE} {p : bG} (h : p ∈ tA C s v) : p = (s, v) \/ p ∈ C := by
 unfold tA at h
 split at h
 ·obtain ⟨q, hq, e⟩ := List.mem_map.1 h
  split at e
  ·rename_i e2; left; rw [<- e, e2]
  ·right; rw [<- e]; exact hq
 ·rcases List.mem_append.1 h with h | h
  ·exact .inr h
  ·left; simpa using h
theorem kI {C : List bG} {s : ByteArray} (h : dR C s = none) : bT C s = [] := by unfold bT; rw [h]
theorem kH {C : List bG} {s : ByteArray} {v : Nat × aE} (h : dR C s = some v) : bT C s = v.2 := by unfold bT; rw [h]
theorem aKc {C : List bG} {s : ByteArray} {row : List ByteArray} (h : (fP C s row).2 = 0) : cI s = true /\ rJ C s row = true := by
 unfold fP at h
 split at h
 ·cases h
 ·rename_i h1
  split at h
  ·cases h
  ·rename_i h2
   exact ⟨by simpa using h1, by simpa using h2⟩
theorem aEz {C : List bG} {s : ByteArray} {row : List ByteArray} (h : (fP C s row).2 = 0) : bP row = true /\ (262144 ≤ bH C -> bF aC (bT C s) row = true) /\ (65536 ≤ (bT C s).length -> bF aC (bT C s) row = true) := by
 unfold fP at h
 split at h
 ·cases h
 ·split at h
  ·cases h
  ·split at h
   ·cases h
   ·rename_i h3
    split at h
    ·cases h
    ·rename_i h4
     split at h
     ·cases h
     ·rename_i h5
      refine ⟨by simpa using h3, fun h6 => ?_, fun h6 => ?_⟩
      ·cases hi : bF aC (bT C s) row with
       | true => rfl
       | false => exact absurd ⟨h6, hi⟩ h4
      ·cases hi : bF aC (bT C s) row with
       | true => rfl
       | false => exact absurd ⟨h6, hi⟩ h5
theorem aAx {C : List bG} (h : BaseOk C) (s : ByteArray) : Strict aC (bT C s) := by
 cases hg : dR C s with
 | none => rw [kI hg]; exact gN
 | some v => rw [kH hg]; exact (h.all _ ((kS h.nodup).1 hg)).strict
theorem wZ {C : List bG} (hn : (C.map (·.1)).Nodup) {s : ByteArray} {v : Nat × aE} : bH (tA C s v) + (bT C s).length = bH C + v.2.length := by
 unfold tA
 cases hg : dR C s with
 | none => rw [if_neg (by simp), kI hg]; simp [bH]
 | some u =>
  rw [if_pos (by simp), kH hg]
  have hm : ∀ (D : List bG), (D.map (·.1)).Nodup -> (s, u) ∈ D -> bH (D.map fun p => if p.1 = s then (p.1, v) else p) + u.2.length = bH D + v.2.length := by
   intro D
   induction D with
   | nil => intro _ h; cases h
   | cons p D ih =>
    intro hnd hin
    rw [List.map_cons, List.nodup_cons] at hnd
    simp only [bH, List.map_cons, List.sum_cons] at ih ⊢
    by_cases e : p.1 = s
    ·have hp : p = (s, u) := by
      rcases List.mem_cons.1 hin with h | h
      ·exact h.symm
      ·exact absurd (List.mem_map.2 ⟨_, h, rfl⟩) (by rw [<- e] at h ⊢; exact hnd.1)
     have hid : (D.map fun q : bG => if q.1 = s then (q.1, v) else q) = D := by
      conv => rhs; rw [<- List.map_id D]
      apply List.map_congr_left
      intro q hq
      have : ¬ q.1 = s := fun e2 => hnd.1 (List.mem_map.2 ⟨q, hq, by rw [e2, e]⟩)
      rw [if_neg this]; rfl
     rw [hid, if_pos e, hp]; dsimp only; omega
    ·have h1 : (s, u) ∈ D := by
      rcases List.mem_cons.1 hin with h | h
      ·exact absurd (by rw [<- h]) e
      ·exact h
     have := ih hnd.2 h1
     rw [if_neg e]; omega
  exact hm C hn ((kS hn).1 hg)
theorem aJz {C : List bG} (h : BaseOk C) (s : ByteArray) (a : Int) : BaseOk (iC C s a) := by
 unfold iC
 split
 ·rename_i hc
  obtain ⟨h1, h2⟩ := hc
  have hn : cI s = true /\ 0 ≤ a /\ a ≤ 64 := by
   unfold eY at h1
   split at h1
   ·cases h1
   ·rename_i e1
    split at h1
    ·cases h1
    ·rename_i e2
     exact ⟨by simpa using e1, by omega, by omega⟩
  refine ⟨?_, fun p hp => ?_, ?_⟩
  ·rw [List.map_append]
   exact List.nodup_append.2 ⟨h.nodup, by simp, fun x hx y hy e => yC.1 h2 (by
    have : y = s := by simpa using hy
    rw [<- this, <- e]; exact hx)⟩
  ·rcases List.mem_append.1 hp with hp | hp
   ·exact h.all p hp
   ·have e : p = (s, a.toNat, []) := by simpa using hp
    subst e
    exact ⟨hn.1, show a.toNat ≤ 64 by omega, gN, fun r hr => (by cases hr), fun r hr => (by cases hr), Nat.zero_le _⟩
  ·have e : bH (C ++ [(s, a.toNat, [])]) = bH C := by simp [bH]
   rw [e]; exact h.few
 ·exact h
theorem aIn {C : List bG} (h : BaseOk C) (s : ByteArray) (row : List ByteArray) : BaseOk (rL C s row) := by
 unfold rL
 split
 ·rename_i h0
  obtain ⟨t1, t2, t3⟩ := aEz h0
  obtain ⟨n1, n4⟩ := aKc h0
  have n2 : ∀ v, dR C s = some v -> v.1 = row.length := fun v hv => by
   unfold rJ at n4; rw [hv] at n4; exact of_decide_eq_true n4
  have n3 : row.length ≤ 64 := by
   cases hg : dR C s with
   | none => unfold rJ at n4; rw [hg] at n4; exact of_decide_eq_true n4
   | some v =>
    have h1 : v.1 ≤ 64 := (h.all _ ((kS h.nodup).1 hg)).ar
    have := n2 v hg
    omega
  ·have hst := aAx h s
   have hlen : ∀ r ∈ bT C s, r.length = row.length /\ bP r = true := fun r hr => by
    cases hg : dR C s with
    | none => rw [kI hg] at hr; cases hr
    | some v =>
     rw [kH hg] at hr
     have hp := h.all _ ((kS h.nodup).1 hg)
     exact ⟨(hp.len r hr).trans (n2 v hg), hp.txt r hr⟩
   have hfew : (bT C s).length ≤ 65536 := by
    cases hg : dR C s with
    | none => rw [kI hg]; exact Nat.zero_le _
    | some v => rw [kH hg]; exact (h.all _ ((kS h.nodup).1 hg)).few
   have hl := qP (c := aC) (bT C s) row
   refine ⟨aGh h.nodup _ _, fun p hp => ?_, ?_⟩
   ·rcases aJ1 hp with rfl | hp
    ·refine ⟨n1, n3, hst.add dP row, fun r hr => ?_, fun r hr => ?_, ?_⟩
     ·rcases (kM (c := aC)).1 hr with hr | ⟨rfl, _⟩
      ·exact (hlen r hr).1
      ·rfl
     ·rcases (kM (c := aC)).1 hr with hr | ⟨rfl, _⟩
      ·exact (hlen r hr).2
      ·exact t1
     ·show (bM aC (bT C s) row).length ≤ 65536
      rw [hl]
      split
      ·omega
      ·rename_i hi
       have : ¬ 65536 ≤ (bT C s).length := fun k => hi (t3 k)
       omega
    ·exact h.all p hp
   ·have := wZ h.nodup (s := s) (v := (row.length, bM aC (bT C s) row))
    have hf := h.few
    rw [hl] at this
    split at this
    ·omega
    ·rename_i hi
     have : ¬ 262144 ≤ bH C := fun k => hi (t2 k)
     omega
 ·exact h
structure InC (C D : List bG) : Prop where
 ar : ∀ s v, dR C s = some v -> ∃ LL, dR D s = some (v.1, LL)
 rows : ∀ s r, r ∈ bT C s -> r ∈ bT D s
end Go.Proofs.YtinnmeiphbdogaaGreat
/- Tries as levels of starts: plain. -/
namespace Go.Proofs.YtinnmeiphbdogaaGreat
def cY (W : aE) (i n : Nat) : Bool := n == 0 || decide ((W.getD (n - 1) []).take i ≠ (W.getD n []).take i)
def aV (W : aE) (d i n : Nat) : List Nat := if i < d then (List.range n).filter fun k => cY W (i + 1) k else List.range n
theorem mC (W : aE) {d i n : Nat} (hi : i < d) : aV W d i (n + 1) = aV W d i n ++ if cY W (i + 1) n then [n] else [] := by
 unfold aV
 rw [if_pos hi, if_pos hi, List.range_succ, List.filter_append]
 congr 1
 simp only [List.filter_cons, List.filter_nil]
theorem mD (W : aE) {d i n : Nat} (hi : ¬ i < d) : aV W d i n = List.range n := if_neg hi
theorem dG (W : aE) (d i n : Nat) : (aV W d i n).length ≤ n := by
 unfold aV
 split
 ·exact Nat.le_trans (List.length_filter_le _ _) (by rw [List.length_range]; exact Nat.le_refl _)
 ·rw [List.length_range]; exact Nat.le_refl _
def bN (W : aE) (d i n : Nat) : List ByteArray := (aV W d i n).map fun k => (W.getD k []).getD i ByteArray.empty
def aP (W : aE) (d i n : Nat) : Nat := (aV W d i n).length
def bX (W : aE) (d i n : Nat) : List Int := (aV W d i n).map fun k => (aP W d (i + 1) k : Int)
theorem fK (W : aE) (d i n : Nat) : (bN W d i n).length = aP W d i n := by unfold bN aP; rw [List.length_map]
theorem hU (W : aE) (d i n : Nat) : (bX W d i n).length = aP W d i n := by unfold bX aP; rw [List.length_map]
theorem aBd (W : aE) (i : Nat) : cY W i 0 = true := rfl
theorem eM {W : aE} {i n : Nat} : cY W i n = true ↔ n = 0 \/ (W.getD (n - 1) []).take i ≠ (W.getD n []).take i := by
 unfold cY
 rw [Bool.or_eq_true, decide_eq_true_iff, beq_iff_eq]
theorem bC {α : Type} {l : List α} {i : Nat} {x d : α} (h : l[i]? = some x) : l.getD i d = x := by rw [List.getD_eq_getElem?_getD, h]; rfl
theorem aDm {W : aE} {i n : Nat} {x y : List ByteArray} (hn : 0 < n) (hx : W[n - 1]? = some x) (hy : W[n]? = some y) (h1 : i < x.length) (h2 : i < y.length) : cY W (i + 1) n = (cY W i n || decide (x[i] ≠ y[i])) := by
 rw [Bool.eq_iff_iff, Bool.or_eq_true, decide_eq_true_iff, eM, eM, bC hx, bC hy]
 have ex : x.take (i + 1) = x.take i ++ [x[i]] := by rw [List.take_add_one, qG h1]; rfl
 have ey : y.take (i + 1) = y.take i ++ [y[i]] := by rw [List.take_add_one, qG h2]; rfl
 rw [ex, ey]
 have hl : (x.take i).length = (y.take i).length := by rw [List.length_take, List.length_take]; omega
 refine ⟨fun h => ?_, fun h => .inr fun e => ?_⟩
 ·by_cases h3 : x.take i = y.take i
  ·refine .inr fun h4 => ?_
   rcases h with h | h
   ·omega
   ·exact h (by rw [h3, h4])
  ·exact .inl (.inr h3)
 ·obtain ⟨e1, e2⟩ := List.append_inj e hl
  rcases h with (h | h) | h
  ·omega
  ·exact h e1
  ·exact h (by simpa using e2)
structure WaysOk (W : aE) (d : Nat) : Prop where
 len : ∀ r ∈ W, r.length = d
 rise : Strict aC W
theorem jX : ∀ (j : Nat) {x y : List ByteArray}, x.length = y.length -> aC x y ≤ 0 -> aC (x.take j) (y.take j) ≤ 0
 | 0, _, _, _, _ => by simp [aC]
 | j + 1, [], [], _, _ => by simp [aC]
 | j + 1, [], _ :: _, h, _ => by simp at h
 | j + 1, _ :: _, [], h, _ => by simp at h
 | j + 1, a :: x, b :: y, hl, h => by
  simp only [List.take_succ_cons]
  unfold aC at h ⊢
  split at h
  ·rename_i h1
   rw [if_pos h1]; exact h
  ·rename_i h1
   rw [if_neg h1]
   exact jX j (by simpa using hl) h
theorem sK : ∀ (q : List ByteArray) (a b : ByteArray), aC (q ++ [a]) (q ++ [b]) = bB a.toList b.toList
 | [], a, b => by
  show (if bB a.toList b.toList ≠ 0 then bB a.toList b.toList else aC [] []) = _
  split
  ·rfl
  ·rename_i h
   have : bB a.toList b.toList = 0 := Classical.not_not.1 h
   rw [this]; rfl
 | c :: q, a, b => by
  show (if bB c.toList c.toList ≠ 0 then bB c.toList c.toList else aC (q ++ [a]) (q ++ [b])) = _
  rw [if_neg (by rw [eS]; simp)]
  exact sK q a b
theorem WaysOk.le {W : aE} {d : Nat} (h : WaysOk W d) {m n : Nat} {x y : List ByteArray} (hx : W[m]? = some x) (hy : W[n]? = some y) (hmn : m ≤ n) : aC x y ≤ 0 := by
 rcases Nat.lt_or_eq_of_le hmn with h1 | h1
 ·obtain ⟨l1, e1⟩ := List.getElem?_eq_some_iff.1 hx
  obtain ⟨l2, e2⟩ := List.getElem?_eq_some_iff.1 hy
  have := List.pairwise_iff_getElem.1 h.rise m n l1 l2 h1
  rw [e1, e2] at this; omega
 ·subst h1
  rw [hx] at hy; cases hy
  rw [sL]; omega
theorem WaysOk.between {W : aE} {d : Nat} (h : WaysOk W d) {m k n j : Nat} {x y z : List ByteArray} (hx : W[m]? = some x) (hy : W[k]? = some y) (hz : W[n]? = some z) (h1 : m ≤ k) (h2 : k ≤ n) (he : x.take j = z.take j) : y.take j = x.take j := by
 have lx := h.len x (List.mem_of_getElem? hx)
 have ly := h.len y (List.mem_of_getElem? hy)
 have lz := h.len z (List.mem_of_getElem? hz)
 have a1 := jX j (lx.trans ly.symm) (h.le hx hy h1)
 have a2 := jX j (ly.trans lz.symm) (h.le hy hz h2)
 rw [<- he] at a2
 have a3 := nG (x.take j) (y.take j)
 exact (jW (xs := x.take j) (ys := y.take j) (by omega)).symm
structure Iv (W : aE) (q : List ByteArray) (lo hi : Nat) : Prop where
 le : lo < hi
 few : hi ≤ W.length
 iff : ∀ n x, W[n]? = some x -> (x.take q.length = q ↔ lo ≤ n /\ n < hi)
theorem lG {W : aE} {d i n k : Nat} (hi : i < d) : k ∈ aV W d i n ↔ k < n /\ cY W (i + 1) k = true := by
 unfold aV
 rw [if_pos hi, List.mem_filter, List.mem_range]
theorem fQ (W : aE) (d i n : Nat) : (aV W d i n).Pairwise (· < ·) := by
 unfold aV
 split
 ·exact List.Pairwise.filter _ List.pairwise_lt_range
 ·exact List.pairwise_lt_range
theorem mB (W : aE) (d i : Nat) {m n : Nat} (h : m ≤ n) : ∃ r, aV W d i n = aV W d i m ++ r /\ ∀ k ∈ r, m ≤ k := by
 induction n with
 | zero => exact ⟨[], by rw [show m = 0 by omega]; simp, by simp⟩
 | succ n ih =>
  by_cases e : m = n + 1
  ·subst e; exact ⟨[], by simp, by simp⟩
  ·obtain ⟨r, h1, h2⟩ := ih (by omega)
   by_cases hi : i < d
   ·rw [mC W hi, h1]
    refine ⟨r ++ (if cY W (i + 1) n then [n] else []), by rw [List.append_assoc], fun k hk => ?_⟩
    rcases List.mem_append.1 hk with hk | hk
    ·exact h2 k hk
    ·split at hk
     ·rw [List.mem_singleton] at hk; omega
     ·simp at hk
   ·rw [mD W hi] at h1 ⊢
    rw [mD W hi] at *
    rw [List.range_succ, h1]
    refine ⟨r ++ [n], by rw [List.append_assoc], fun k hk => ?_⟩
    rcases List.mem_append.1 hk with hk | hk
    ·exact h2 k hk
    ·rw [List.mem_singleton] at hk; omega
theorem lF {W : aE} {d i n k s : Nat} (h : (aV W d i n)[k]? = some s) : aP W d i s = k /\ s < n := by
 have hk := (List.getElem?_eq_some_iff.1 h).1
 have hs : s < n := by
  have hm := List.mem_of_getElem? h
  unfold aV at hm
  split at hm
  ·exact List.mem_range.1 (List.mem_filter.1 hm).1
  ·exact List.mem_range.1 hm
 obtain ⟨r, h1, h2⟩ := mB W d i (Nat.le_of_lt hs)
 refine ⟨?_, hs⟩
 unfold aP
 have hp := fQ W d i n
 rcases Nat.lt_trichotomy (aV W d i s).length k with h3 | h3 | h3
 ·-- the element at the border is s or above, yet below s
  have hl : (aV W d i s).length < (aV W d i n).length := by omega
  have h4 := List.pairwise_iff_getElem.1 hp _ k hl hk h3
  rw [(List.getElem?_eq_some_iff.1 h).2] at h4
  have h5 : (aV W d i n)[(aV W d i s).length]'hl ∈ r := by
   have : (aV W d i n)[(aV W d i s).length]? = r[0]? := by rw [h1, List.getElem?_append_right (Nat.le_refl _), Nat.sub_self]
   rw [qG hl] at this
   exact List.mem_of_getElem? this.symm
  have := h2 _ h5
  omega
 ·exact h3
 ·rw [h1, List.getElem?_append_left h3] at h
  have hm := List.mem_of_getElem? h
  have : s < s := by
   unfold aV at hm
   split at hm
   ·exact List.mem_range.1 (List.mem_filter.1 hm).1
   ·exact List.mem_range.1 hm
  omega
end Go.Proofs.YtinnmeiphbdogaaGreat
/- Bindings, found variable by variable: plain. -/
namespace Go.Proofs.YtinnmeiphbdogaaGreat
section
variable {Sol : List ByteArray -> Prop} {v : Nat} {p : List ByteArray}
structure AllB (Sol : List ByteArray -> Prop) (p : List ByteArray) (L : aE) : Prop where
 rise : Strict aC L
 iff : ∀ V, V ∈ L ↔ Sol V /\ V.take p.length = p
structure PartB (Sol : List ByteArray -> Prop) (p : List ByteArray) (D : ByteArray -> Prop) (L : aE) : Prop where
 rise : Strict aC L
 iff : ∀ V, V ∈ L ↔ Sol V /\ V.take p.length = p /\ ∃ x, V[p.length]? = some x /\ D x
theorem AllB.none (h : ∀ V, Sol V -> V.take p.length = p -> False) : AllB Sol p [] :=
 ⟨gN, fun V => ⟨fun h => by simp at h, fun h1 => (h V h1.1 h1.2).elim⟩⟩
theorem AllB.one (hs : Sol p) (hl : ∀ V, Sol V -> V.length = p.length) : AllB Sol p [p] :=
 ⟨List.pairwise_singleton _ _, fun V => ⟨fun h => by
  rw [List.mem_singleton] at h; subst h
  exact ⟨hs, List.take_length⟩, fun ⟨h1, h2⟩ => by
  rw [List.mem_singleton, <- h2, List.take_of_length_le (Nat.le_of_eq (hl V h1))]⟩⟩
theorem AllB.unique {L L' : aE} (h : AllB Sol p L) (h' : AllB Sol p L') : L = L' := Strict.unique dP h.rise h'.rise fun V => (h.iff V).trans (h'.iff V).symm
theorem PartB.none {D : ByteArray -> Prop} (h : ∀ V, Sol V -> V.take p.length = p -> ∀ x, V[p.length]? = some x -> ¬ D x) : PartB Sol p D [] :=
 ⟨gN, fun V => ⟨fun h => by simp at h, fun ⟨h1, h2, x, h3, h4⟩ => (h V h1 h2 x h3 h4).elim⟩⟩
theorem PartB.all {D : ByteArray -> Prop} {L : aE} (h : PartB Sol p D L) (hd : ∀ V, Sol V -> V.take p.length = p -> ∃ x, V[p.length]? = some x /\ D x) : AllB Sol p L :=
 ⟨h.rise, fun V => (h.iff V).trans ⟨fun ⟨h1, h2, _⟩ => ⟨h1, h2⟩, fun ⟨h1, h2⟩ => ⟨h1, h2, hd V h1 h2⟩⟩⟩
theorem nH : ∀ (q : List ByteArray) (a b : ByteArray) (r s : List ByteArray), bB a.toList b.toList < 0 -> aC (q ++ a :: r) (q ++ b :: s) < 0
 | [], a, b, r, s, h => by
  show (if bB a.toList b.toList ≠ 0 then bB a.toList b.toList else aC r s) < 0
  rw [if_pos (by omega)]; exact h
 | c :: q, a, b, r, s, h => by
  show (if bB c.toList c.toList ≠ 0 then bB c.toList c.toList else aC (q ++ a :: r) (q ++ b :: s)) < 0
  rw [if_neg (by rw [eS]; simp)]
  exact nH q a b r s h
theorem pF {V q : List ByteArray} {x : ByteArray} (h : V.take q.length = q) (hx : V[q.length]? = some x) : ∃ r, V = q ++ x :: r := by
 refine ⟨V.drop (q.length + 1), ?_⟩
 have hl := (List.getElem?_eq_some_iff.1 hx)
 conv => lhs; rw [<- List.take_append_drop q.length V, h, List.drop_eq_getElem_cons hl.1, hl.2]
theorem PartB.next {D : ByteArray -> Prop} {L L' : aE} {x : ByteArray} (h : PartB Sol p D L) (h' : AllB Sol (p ++ [x]) L') (hx : ∀ V, Sol V -> V.take p.length = p -> ∀ y, V[p.length]? = some y -> D y -> bB y.toList x.toList < 0) : PartB Sol p (fun y => D y \/ y = x) (L ++ L') := by
 have key : ∀ V, V ∈ L' ↔ Sol V /\ V.take p.length = p /\ V[p.length]? = some x := fun V => by
  rw [h'.iff V, List.length_append, List.length_singleton]
  refine ⟨fun ⟨h1, h2⟩ => ?_, fun ⟨h1, h2, h3⟩ => ⟨h1, by rw [List.take_add_one, h2, h3]; rfl⟩⟩
  have h3 : V.take p.length = p := by
   have := congrArg (List.take p.length) h2
   rw [List.take_take, List.take_left, show min p.length (p.length + 1) = p.length by omega] at this
   exact this
  refine ⟨h1, h3, ?_⟩
  rw [List.take_add_one, h3] at h2
  have h4 := (List.append_right_inj p).1 h2
  cases h5 : V[p.length]? with
  | none => rw [h5] at h4; simp at h4
  | some y => rw [h5] at h4; simpa using h4
 refine ⟨List.pairwise_append.2 ⟨h.rise, h'.rise, fun a ha b hb => ?_⟩, fun V => ?_⟩
 ·obtain ⟨a1, a2, y, a3, a4⟩ := (h.iff a).1 ha
  obtain ⟨b1, b2, b3⟩ := (key b).1 hb
  obtain ⟨r, rfl⟩ := pF a2 a3
  obtain ⟨s, rfl⟩ := pF b2 b3
  exact nH p y x r s (hx _ a1 a2 y a3 a4)
 ·rw [List.mem_append, h.iff V, key V]
  refine ⟨fun h1 => ?_, fun ⟨h1, h2, y, h3, h4⟩ => ?_⟩
  ·rcases h1 with ⟨h1, h2, y, h3, h4⟩ | ⟨h1, h2, h3⟩
   ·exact ⟨h1, h2, y, h3, .inl h4⟩
   ·exact ⟨h1, h2, x, h3, .inr rfl⟩
  ·rcases h4 with h4 | h4
   ·exact .inl ⟨h1, h2, y, h3, h4⟩
   ·subst h4; exact .inr ⟨h1, h2, h3⟩
structure PartQ (Sol : List ByteArray -> Prop) (p : List ByteArray) (m : Nat) (D : List ByteArray -> Prop) (L : aE) : Prop where
 rise : Strict aC L
 iff : ∀ V, V ∈ L ↔ Sol V /\ V.take p.length = p /\ D (V.take m)
theorem sM : ∀ (m : Nat) {x y : List ByteArray}, m ≤ x.length -> m ≤ y.length -> aC (x.take m) (y.take m) < 0 -> aC x y < 0
 | 0, x, y, _, _, h => by simp [aC] at h
 | m + 1, [], _, h, _, _ => by simp at h
 | m + 1, _ :: _, [], _, h, _ => by simp at h
 | m + 1, a :: x, b :: y, hx, hy, h => by
  simp only [List.take_succ_cons] at h
  unfold aC at h ⊢
  split at h
  ·rename_i h1
   rw [if_pos h1]; exact h
  ·rename_i h1
   rw [if_neg h1]
   exact sM m (by simpa using hx) (by simpa using hy) h
theorem PartQ.none {m : Nat} : PartQ Sol p m (fun _ => False) [] := ⟨gN, fun V => ⟨fun h => by simp at h, fun h => h.2.2.elim⟩⟩
theorem PartQ.next {m : Nat} {D : List ByteArray -> Prop} {L L' : aE} {q : List ByteArray} (h : PartQ Sol p m D L) (hq : q.length = m) (hp : q.take p.length = p) (hm : p.length ≤ m) (hl : ∀ V, Sol V -> m ≤ V.length) (h' : AllB Sol q L') (hx : ∀ y, D y -> aC y q < 0) : PartQ Sol p m (fun y => D y \/ y = q) (L ++ L') := by
 refine ⟨List.pairwise_append.2 ⟨h.rise, h'.rise, fun a ha b hb => ?_⟩, fun V => ?_⟩
 ·obtain ⟨a1, a2, a3⟩ := (h.iff a).1 ha
  obtain ⟨b1, b2⟩ := (h'.iff b).1 hb
  rw [hq] at b2
  exact sM m (hl a a1) (hl b b1) (by rw [b2]; exact hx _ a3)
 ·rw [List.mem_append, h.iff V, h'.iff V, hq]
  refine ⟨fun h1 => ?_, fun ⟨h1, h2, h3⟩ => ?_⟩
  ·rcases h1 with ⟨h1, h2, h3⟩ | ⟨h1, h2⟩
   ·exact ⟨h1, h2, .inl h3⟩
   ·refine ⟨h1, ?_, .inr h2⟩
    have := congrArg (List.take p.length) h2
    rw [List.take_take, hp, show min p.length m = p.length by omega] at this
    exact this
  ·rcases h3 with h3 | h3
   ·exact .inl ⟨h1, h2, h3⟩
   ·exact .inr ⟨h1, h3⟩
theorem PartQ.all {m : Nat} {D : List ByteArray -> Prop} {L : aE} (h : PartQ Sol p m D L) (hd : ∀ V, Sol V -> V.take p.length = p -> D (V.take m)) : AllB Sol p L :=
 ⟨h.rise, fun V => (h.iff V).trans ⟨fun ⟨h1, h2, _⟩ => ⟨h1, h2⟩, fun ⟨h1, h2⟩ => ⟨h1, h2, hd V h1 h2⟩⟩⟩
theorem PartQ.congr {m : Nat} {D D' : List ByteArray -> Prop} {L : aE} (h : PartQ Sol p m D L) (hd : ∀ y, D y ↔ D' y) : PartQ Sol p m D' L := ⟨h.rise, fun V => (h.iff V).trans (by rw [hd])⟩
end
end Go.Proofs.YtinnmeiphbdogaaGreat
/- What a join means: plain. -/
namespace Go.Proofs.YtinnmeiphbdogaaGreat
def isV (s : ByteArray) (t : aF) : Bool := decide (t.1 = 1 /\ t.2.1 = s)
def fF (ts : List aF) (s : ByteArray) : Nat := ts.findIdx (isV s)
def aN (N : List ByteArray) (ts : List aF) : List Nat := (List.range N.length).filter fun i => ts.any (isV (N.getD i ByteArray.empty))
def aY (x : List ByteArray) (i : Nat) : ByteArray := x.getD i ByteArray.empty
def oK (ts : List aF) (x : List ByteArray) : Prop := ∀ (i : Nat) (t : aF), ts[i]? = some t -> (t.1 = 3 -> aY x i = t.2.1) /\ (t.1 = 1 -> aY x (fF ts t.2.1) = aY x i)
def gV (N : List ByteArray) (ts : List aF) (x : List ByteArray) : List ByteArray := (aN N ts).map fun v => aY x (fF ts (aY N v))
def pA (N V : List ByteArray) (ts : List aF) (x : List ByteArray) : Prop := ∀ (i : Nat) (t : aF), ts[i]? = some t -> (t.1 = 3 -> aY x i = t.2.1) /\ (t.1 = 1 -> ∃ v : Nat, N[v]? = some t.2.1 /\ V[v]? = some (aY x i))
theorem aCb {ts : List aF} {s : ByteArray} {i : Nat} {t : aF} (hi : ts[i]? = some t) (ht : t.1 = 1) (hs : t.2.1 = s) : ∃ u, ts[fF ts s]? = some u /\ u.1 = 1 /\ u.2.1 = s := by
 have h : fF ts s < ts.length := List.findIdx_lt_length_of_exists ⟨t, List.mem_of_getElem? hi, by unfold isV; exact decide_eq_true ⟨ht, hs⟩⟩
 have h2 := List.findIdx_getElem (w := h)
 refine ⟨_, qG h, ?_⟩
 unfold isV at h2
 exact of_decide_eq_true h2
theorem cG {N : List ByteArray} {ts : List aF} {v : Nat} : v ∈ aN N ts ↔ v < N.length /\ ∃ (i : Nat) (t : aF), ts[i]? = some t /\ t.1 = 1 /\ t.2.1 = aY N v := by
 unfold aN
 rw [List.mem_filter, List.mem_range, List.any_eq_true]
 refine and_congr_right fun _ => ⟨fun ⟨t, ht, h⟩ => ?_, fun ⟨i, t, hi, h1, h2⟩ => ⟨t, List.mem_of_getElem? hi, by unfold isV; exact decide_eq_true ⟨h1, h2⟩⟩⟩
 obtain ⟨i, hi⟩ := List.mem_iff_getElem?.1 ht
 unfold isV at h
 have h' := of_decide_eq_true h
 exact ⟨i, t, hi, h'.1, h'.2⟩
theorem wU (N : List ByteArray) (ts : List aF) : (aN N ts).Pairwise (· < ·) := List.Pairwise.filter _ List.pairwise_lt_range
theorem aA7 {N V : List ByteArray} {ts : List aF} (hN : N.Nodup) (hV : V.length = N.length) (hin : ∀ t ∈ ts, t.1 = 1 -> t.2.1 ∈ N) (x : List ByteArray) :
 oK ts x /\ gV N ts x = (aN N ts).map (aY V) ↔ pA N V ts x := by
 have get : ∀ {v : Nat} {s : ByteArray}, N[v]? = some s -> aY N v = s := fun h => bC h
 have getv : ∀ {v : Nat} {s : ByteArray}, N[v]? = some s -> V[v]? = some (aY V v) := fun {v s} h => by
  have hv : v < V.length := by rw [hV]; exact (List.getElem?_eq_some_iff.1 h).1
  unfold aY
  rw [List.getD_eq_getElem?_getD, qG hv]; rfl
 have proj : gV N ts x = (aN N ts).map (aY V) ↔ ∀ v ∈ aN N ts, aY x (fF ts (aY N v)) = aY V v := by
  unfold gV
  exact List.map_inj_left
 rw [proj]
 refine ⟨fun ⟨h1, h2⟩ i t hi => ⟨(h1 i t hi).1, fun ht => ?_⟩, fun h => ⟨fun i t hi => ⟨(h i t hi).1, fun ht => ?_⟩, fun v hv => ?_⟩⟩
 ·obtain ⟨v, hv⟩ := List.mem_iff_getElem?.1 (hin t (List.mem_of_getElem? hi) ht)
  refine ⟨v, hv, ?_⟩
  have hm : v ∈ aN N ts := cG.2 ⟨(List.getElem?_eq_some_iff.1 hv).1, i, t, hi, ht, (get hv).symm⟩
  have h3 := h2 v hm
  rw [get hv, (h1 i t hi).2 ht] at h3
  rw [h3]; exact getv hv
 ·obtain ⟨v, hv, e⟩ := (h i t hi).2 ht
  obtain ⟨u, hu, u1, u2⟩ := aCb hi ht rfl
  obtain ⟨v', hv', e'⟩ := (h _ u hu).2 u1
  rw [u2] at hv'
  have : v = v' := (List.getElem?_inj (List.getElem?_eq_some_iff.1 hv).1 hN).1 (hv.trans hv'.symm)
  subst this
  rw [e] at e'
  exact (Option.some.inj e').symm
 ·obtain ⟨hl, i, t, hi, h1, h2⟩ := cG.1 hv
  obtain ⟨u, hu, u1, u2⟩ := aCb hi h1 h2
  obtain ⟨v', hv', e'⟩ := (h _ u hu).2 u1
  have hv0 : N[v]? = some (aY N v) := by unfold aY; rw [List.getD_eq_getElem?_getD, qG hl]; rfl
  rw [u2] at hv'
  have : v = v' := (List.getElem?_inj hl hN).1 (hv0.trans hv'.symm)
  subst this
  rw [getv hv0] at e'
  exact (Option.some.inj e').symm
open Classical in
noncomputable def cL (N : List ByteArray) (ts : List aF) (R : aE) : aE := oX aC ((R.filter fun x => decide (x.length = ts.length /\ oK ts x)).map (gV N ts))
theorem yE {x : List ByteArray} : ∀ (xs acc : aE), x ∈ xs \/ x ∈ acc -> x ∈ xs.foldl (bM aC) acc
 | [], acc, h => by
  rcases h with h | h
  ·simp at h
  ·exact h
 | y :: xs, acc, h => by
  refine yE xs (bM aC acc y) ?_
  by_cases hx : x ∈ xs
  ·exact .inl hx
  ·refine .inr (kM.2 ?_)
   rcases h with h | h
   ·rcases List.mem_cons.1 h with h | h
    ·subst h
     by_cases hi : bF aC acc x = true
     ·obtain ⟨z, hz, e⟩ := kR.1 hi
      rw [<- jW e]; exact .inl hz
     ·exact .inr ⟨rfl, by simpa using hi⟩
    ·exact absurd h hx
   ·exact .inl h
theorem aBl {xs : aE} {x : List ByteArray} : x ∈ oX aC xs ↔ x ∈ xs := ⟨aBk, fun h => yE xs [] (.inl h)⟩
open Classical in
theorem aFb {N V : List ByteArray} {ts : List aF} (R : aE) (hN : N.Nodup) (hV : V.length = N.length) (hin : ∀ t ∈ ts, t.1 = 1 -> t.2.1 ∈ N) :
 (aN N ts).map (aY V) ∈ cL N ts R ↔ ∃ x ∈ R, x.length = ts.length /\ pA N V ts x := by
 unfold cL
 rw [aBl, List.mem_map]
 refine ⟨fun ⟨x, hx, e⟩ => ?_, fun ⟨x, hx, hl, hf⟩ => ?_⟩
 ·obtain ⟨h1, h2⟩ := List.mem_filter.1 hx
  obtain ⟨h3, h4⟩ := of_decide_eq_true h2
  exact ⟨x, h1, h3, (aA7 hN hV hin x).1 ⟨h4, e⟩⟩
 ·obtain ⟨h1, h2⟩ := (aA7 hN hV hin x).2 hf
  exact ⟨x, List.mem_filter.2 ⟨hx, decide_eq_true ⟨hl, h1⟩⟩, h2⟩
theorem nP {N : List ByteArray} {ts : List aF} {R : aE} {x : List ByteArray} (h : x ∈ cL N ts R) : x.length = (aN N ts).length := by
 unfold cL at h
 obtain ⟨y, _, rfl⟩ := List.mem_map.1 (aBk h)
 unfold gV
 rw [List.length_map]
theorem tW (N : List ByteArray) (ts : List aF) (R : aE) : Strict aC (cL N ts R) := Strict.new dP _
def kF (N V : List ByteArray) (t : aF) : ByteArray := if t.1 = 1 then aY V (N.findIdx fun s => decide (s = t.2.1)) else t.2.1
def oB (op : Int) (x y : ByteArray) : Prop := if op = 1 then x = y else if op = 2 then x ≠ y else if op = 3 then Op.bytesLess x.toList y.toList = true else Op.bytesLess y.toList x.toList = false
def fD (N V : List ByteArray) (R : aE) (l : aJ) : Prop :=
 if l.1 = 1 then ∃ x ∈ R, x.length = (aA l).length /\ pA N V (aA l) x
 else if l.1 = 2 then ¬ ∃ x ∈ R, x.length = (aA l).length /\ pA N V (aA l) x
 else oB (fC l) (kF N V (leftOf l)) (kF N V (aL l))
def bS (ls : List aJ) (R : Nat -> aE) (V : List ByteArray) : Prop := V.length = (aB ls).length /\ ∀ (i : Nat) (l : aJ), ls[i]? = some l -> fD (aB ls) V (R i) l
def IsBinds (ls : List aJ) (R : Nat -> aE) (L : aE) : Prop := AllB (bS ls R) [] L
theorem IsBinds.unique {ls : List aJ} {R : Nat -> aE} {L L' : aE} (h : IsBinds ls R L) (h' : IsBinds ls R L') : L = L' := AllB.unique h h'
theorem IsBinds.iff {ls : List aJ} {R : Nat -> aE} {L : aE} (h : IsBinds ls R L) (V : List ByteArray) : V ∈ L ↔ bS ls R V := (AllB.iff h V).trans ⟨fun h => h.1, fun h => ⟨h, rfl⟩⟩
end Go.Proofs.YtinnmeiphbdogaaGreat
/- What variables are, as the document keeps it: plain. -/
namespace Go.Proofs.YtinnmeiphbdogaaGreat
abbrev dJ := List ByteArray × List ByteArray
def ofE (e : dJ) (s : ByteArray) : Option ByteArray := if jM e.1 s = true then some (aY e.2 (e.1.findIdx fun x => decide (x = s))) else none
def vO (e : dJ) (t : aF) (y : ByteArray) : Option dJ :=
 if t.1 = 3 /\ t.2.1 ≠ y then none
 else if t.1 ≠ 1 then some e
 else match ofE e t.2.1 with
  | some s => if s = y then some e else none
  | none => some (e.1 ++ [t.2.1], e.2 ++ [y])
def jT (e : dJ) (ts : List aF) (x : List ByteArray) : Nat -> Option dJ
 | 0 => some e
 | k + 1 => match jT e ts x k, ts[k]? with
  | some f, some t => vO f t (aY x k)
  | _, _ => none
structure EnvOk (e : dJ) : Prop where
 nodup : e.1.Nodup
 len : e.2.length = e.1.length
theorem aIx {N : List ByteArray} {s : ByteArray} (h : s ∈ N) : N[N.findIdx fun x => decide (x = s)]? = some s := by
 have h1 : (N.findIdx fun x => decide (x = s)) < N.length := List.findIdx_lt_length_of_exists ⟨s, h, decide_eq_true rfl⟩
 have h2 := List.findIdx_getElem (w := h1)
 rw [qG h1]
 exact congrArg some (of_decide_eq_true h2)
theorem aBi {e : dJ} {s y : ByteArray} (he : EnvOk e) : ofE e s = some y ↔ ∃ v : Nat, e.1[v]? = some s /\ e.2[v]? = some y := by
 unfold ofE
 by_cases h : jM e.1 s = true
 ·rw [if_pos h]
  have hi := aIx (bW.1 h)
  have hl := (List.getElem?_eq_some_iff.1 hi).1
  have hv : e.2[e.1.findIdx fun x => decide (x = s)]? = some (aY e.2 (e.1.findIdx fun x => decide (x = s))) := by
   unfold aY
   rw [List.getD_eq_getElem?_getD, qG (by rw [he.len]; exact hl)]; rfl
  refine ⟨fun h1 => ⟨_, hi, by rw [hv]; exact h1⟩, fun ⟨v, h1, h2⟩ => ?_⟩
  have : (e.1.findIdx fun x => decide (x = s)) = v := (List.getElem?_inj hl he.nodup).1 (hi.trans h1.symm)
  rw [this] at hv
  rw [this, <- hv]; exact h2
 ·rw [if_neg h]
  refine ⟨fun h1 => (by cases h1), fun ⟨v, h1, h2⟩ => absurd (bW.2 (List.mem_of_getElem? h1)) h⟩
theorem aBj {e : dJ} {s : ByteArray} : ofE e s = none ↔ s ∉ e.1 := by
 unfold ofE
 rw [<- bW]
 split
 ·rename_i h; simp [h]
 ·rename_i h; simp [h]
def yI (e : dJ) (t : aF) (y : ByteArray) : Prop := (t.1 = 3 -> y = t.2.1) /\ (t.1 = 1 -> ∃ v : Nat, e.1[v]? = some t.2.1 /\ e.2[v]? = some y)
structure EnvLe (e f : dJ) : Prop where
 names : f.1.take e.1.length = e.1
 vals : f.2.take e.2.length = e.2
theorem EnvLe.refl (e : dJ) : EnvLe e e := ⟨List.take_length, List.take_length⟩
theorem mA {l k : List ByteArray} (h : l.take k.length = k) {i : Nat} {x : ByteArray} (hx : k[i]? = some x) : l[i]? = some x := by
 have hi := (List.getElem?_eq_some_iff.1 hx).1
 rw [<- h, List.getElem?_take_of_lt hi] at hx
 exact hx
theorem EnvLe.fit {e f : dJ} (h : EnvLe e f) {t : aF} {y : ByteArray} (ht : yI e t y) : yI f t y :=
 ⟨ht.1, fun h1 => by obtain ⟨v, a, b⟩ := ht.2 h1; exact ⟨v, mA h.names a, mA h.vals b⟩⟩
theorem iY {a b c : List ByteArray} (h : b.take a.length = a) (h' : c.take b.length = b) : c.take a.length = a := by
 have hl : a.length ≤ b.length := by have := congrArg List.length h; rw [List.length_take] at this; omega
 have h2 : (c.take b.length).take a.length = c.take a.length := by rw [List.take_take]; congr 1; omega
 rw [<- h2, h', h]
theorem EnvLe.trans {e f g : dJ} (h : EnvLe e f) (h' : EnvLe f g) : EnvLe e g := ⟨iY h.names h'.names, iY h.vals h'.vals⟩
theorem aCa {e f : dJ} {t : aF} {y : ByteArray} (he : EnvOk e) (h : vO e t y = some f) : EnvOk f /\ EnvLe e f /\ f.1 = aZ e.1 t /\ yI f t y := by
 unfold vO at h
 split at h
 ·cases h
 ·rename_i h1
  have h3 : t.1 = 3 -> y = t.2.1 := fun h3 => Classical.byContradiction fun hn => h1 ⟨h3, fun e => hn e.symm⟩
  split at h
  ·rename_i h2
   cases h
   exact ⟨he, EnvLe.refl _, by unfold aZ; rw [if_neg (fun h => h2 h.1)], h3, fun h => absurd h h2⟩
  ·rename_i h2
   have h2' : t.1 = 1 := Classical.not_not.1 h2
   split at h
   ·rename_i s hs
    split at h
    ·rename_i e1
     cases h
     subst e1
     have h4 := (aBi he).1 hs
     refine ⟨he, EnvLe.refl _, ?_, h3, fun _ => h4⟩
     obtain ⟨v, h5, _⟩ := h4
     unfold aZ
     rw [if_neg fun h => by have := bW.2 (List.mem_of_getElem? h5); rw [this] at h; cases h.2]
    ·cases h
   ·rename_i hs
    cases h
    have h4 := aBj.1 hs
    refine ⟨⟨?_, by simp [he.len]⟩, ⟨List.take_left, List.take_left⟩, ?_, h3, fun _ => ⟨e.1.length, by simp, by rw [<- he.len]; simp⟩⟩
    ·refine List.nodup_append.2 ⟨he.nodup, by simp, fun a ha b hb => ?_⟩
     rw [List.mem_singleton] at hb
     subst hb
     intro e; subst e; exact h4 ha
    ·unfold aZ
     rw [if_pos ⟨h2', by rw [<- Bool.not_eq_true, bW]; exact h4⟩]
theorem aEc {e g : dJ} {t : aF} {y : ByteArray} (he : EnvOk e) (hg : EnvOk g) (hle : EnvLe e g) (hn : g.1.take (aZ e.1 t).length = aZ e.1 t) (h : yI g t y) : ∃ f, vO e t y = some f /\ EnvLe f g := by
 unfold vO
 rw [if_neg (fun h1 => h1.2 (h.1 h1.1).symm)]
 by_cases h2 : t.1 ≠ 1
 ·rw [if_pos h2]; exact ⟨e, rfl, hle⟩
 ·rw [if_neg h2]
  have h2' : t.1 = 1 := Classical.not_not.1 h2
  obtain ⟨v, hv, hy⟩ := h.2 h2'
  cases hs : ofE e t.2.1 with
  | some s =>
   obtain ⟨u, hu, hs'⟩ := (aBi he).1 hs
   have h3 := mA hle.names hu
   have : u = v := (List.getElem?_inj (List.getElem?_eq_some_iff.1 h3).1 hg.nodup).1 (h3.trans hv.symm)
   subst this
   have h4 := mA hle.vals hs'
   rw [hy] at h4
   cases h4
   exact ⟨e, by simp, hle⟩
  | none =>
   refine ⟨_, rfl, ?_⟩
   have h4 := aBj.1 hs
   have ea : aZ e.1 t = e.1 ++ [t.2.1] := by unfold aZ; rw [if_pos ⟨h2', by rw [<- Bool.not_eq_true, bW]; exact h4⟩]
   rw [ea] at hn
   refine ⟨hn, ?_⟩
   have h5 : g.1[e.1.length]? = some t.2.1 := mA hn (by simp)
   have : e.1.length = v := (List.getElem?_inj (List.getElem?_eq_some_iff.1 h5).1 hg.nodup).1 (h5.trans hv.symm)
   subst this
   have h6 := hle.vals
   show g.2.take (e.2 ++ [y]).length = e.2 ++ [y]
   rw [List.length_append, List.length_singleton, List.take_add_one, h6, he.len, hy]; rfl
end Go.Proofs.YtinnmeiphbdogaaGreat
/- The document's way through a rule's literals: plain. -/
namespace Go.Proofs.YtinnmeiphbdogaaGreat
theorem uQ (a : List ByteArray) (ts : List aF) (t : aF) : bZ a (ts ++ [t]) = aZ (bZ a ts) t := by unfold bZ; rw [List.foldl_append]; rfl
theorem aFo (a : List ByteArray) (t : aF) : (aZ a t).take a.length = a := by
 unfold aZ
 split
 ·exact List.take_left
 ·exact List.take_length
theorem qZ : ∀ (ts : List aF) (a : List ByteArray), (bZ a ts).take a.length = a
 | [], a => List.take_length
 | t :: ts, a => iY (aFo a t) (qZ ts (aZ a t))
theorem aDv (a : List ByteArray) (l : aJ) : (bI a l).take a.length = a := by
 unfold bI
 split
 ·exact qZ _ _
 ·exact List.take_length
theorem yF : ∀ (ls : List aJ) (a : List ByteArray), (ls.foldl bI a).take a.length = a
 | [], a => List.take_length
 | l :: ls, a => iY (aDv a l) (yF ls (bI a l))
theorem lL (ls : List aJ) (i : Nat) : (aB ls).take (aB (ls.take i)).length = aB (ls.take i) := by
 have h := yF (ls.drop i) (aB (ls.take i))
 have e : (ls.drop i).foldl bI (aB (ls.take i)) = aB ls := by
  unfold aB
  rw [<- List.foldl_append, List.take_append_drop]
 rw [e] at h; exact h
theorem gW {ls : List aJ} {i : Nat} {l : aJ} (h : ls[i]? = some l) : aB (ls.take (i + 1)) = bI (aB (ls.take i)) l := by
 rw [List.take_add_one, h]
 unfold aB
 rw [List.foldl_append]; rfl
theorem aHs {a : List ByteArray} (h : a.Nodup) (t : aF) : (aZ a t).Nodup := by
 unfold aZ
 split
 ·rename_i h1
  refine List.nodup_append.2 ⟨h, by simp, fun x hx y hy => ?_⟩
  rw [List.mem_singleton] at hy
  subst hy
  intro e; subst e
  have := bW.2 hx
  rw [h1.2] at this; cases this
 ·exact h
theorem pO : ∀ (ts : List aF) {a : List ByteArray}, a.Nodup -> (bZ a ts).Nodup
 | [], _, h => h
 | t :: ts, _, h => pO ts (aHs h t)
theorem pP : ∀ (ls : List aJ) {a : List ByteArray}, a.Nodup -> (ls.foldl bI a).Nodup
 | [], _, h => h
 | l :: ls, _, h => pP ls (by unfold bI; split; exact pO _ h; exact h)
theorem bE (ls : List aJ) : (aB ls).Nodup := pP ls List.nodup_nil
theorem lR {e : dJ} {ts : List aF} {x : List ByteArray} (he : EnvOk e) : ∀ {k : Nat} {f : dJ}, jT e ts x k = some f -> EnvOk f /\ EnvLe e f /\ f.1 = bZ e.1 (ts.take k) /\ ∀ (i : Nat) (t : aF), i < k -> ts[i]? = some t -> yI f t (aY x i)
 | 0, f, h => by
  cases h
  exact ⟨he, EnvLe.refl _, by rw [List.take_zero]; rfl, fun i t hi => by omega⟩
 | k + 1, f, h => by
  unfold jT at h
  split at h
  ·rename_i g t hg ht
   obtain ⟨h1, h2, h3, h4⟩ := lR he hg
   obtain ⟨h5, h6, h7, h8⟩ := aCa h1 h
   refine ⟨h5, h2.trans h6, ?_, fun i u hi hu => ?_⟩
   ·rw [h7, h3, List.take_add_one, ht]
    exact (uQ _ _ _).symm
   ·rcases Nat.lt_or_eq_of_le (Nat.le_of_lt_succ hi) with h9 | h9
    ·exact h6.fit (h4 i u h9 hu)
    ·subst h9
     rw [ht] at hu; cases hu
     exact h8
  ·cases h
theorem rF {e g : dJ} {ts : List aF} {x : List ByteArray} (he : EnvOk e) (hg : EnvOk g) (hle : EnvLe e g) : ∀ {k : Nat}, k ≤ ts.length -> g.1.take (bZ e.1 (ts.take k)).length = bZ e.1 (ts.take k) -> (∀ (i : Nat) (t : aF), ts[i]? = some t -> yI g t (aY x i)) -> ∃ f, jT e ts x k = some f /\ EnvLe f g
 | 0, _, _, _ => ⟨e, rfl, hle⟩
 | k + 1, hk, hn, h => by
  obtain ⟨t, ht⟩ : ∃ t, ts[k]? = some t := ⟨_, qG (by omega)⟩
  have e1 : ts.take (k + 1) = ts.take k ++ [t] := by rw [List.take_add_one, ht]; rfl
  rw [e1, uQ] at hn
  obtain ⟨f, hf, hle2⟩ := rF he hg hle (by omega) (iY (aFo _ _) hn) h
  obtain ⟨h1, h2, h3, h4⟩ := lR he hf
  obtain ⟨f2, hf2, hle3⟩ := aEc h1 hg hle2 (by rw [h3]; exact hn) (h k t ht)
  refine ⟨f2, ?_, hle3⟩
  unfold jT
  rw [hf, ht]; exact hf2
structure FromOk (ls : List aJ) (R : Nat -> aE) (i : Nat) (e : dJ) : Prop where
 ok : EnvOk e
 names : e.1 = aB (ls.take i)
 done : ∀ (j : Nat) (l : aJ), j < i -> ls[j]? = some l -> l.1 = 1 -> ∃ x ∈ R j, x.length = (aA l).length /\ pA e.1 e.2 (aA l) x
theorem FromOk.start (ls : List aJ) (R : Nat -> aE) : FromOk ls R 0 ([], []) := ⟨⟨List.nodup_nil, rfl⟩, by rw [List.take_zero]; rfl, fun j l hj => by omega⟩
theorem FromOk.skip {ls : List aJ} {R : Nat -> aE} {i : Nat} {e : dJ} (h : FromOk ls R i e) {l : aJ} (hl : ls[i]? = some l) (hk : l.1 ≠ 1) : FromOk ls R (i + 1) e :=
 ⟨h.ok, by rw [h.names, gW hl]; unfold bI; rw [if_neg hk], fun j m hj hm h1 => by
  rcases Nat.lt_or_eq_of_le (Nat.le_of_lt_succ hj) with h2 | h2
  ·exact h.done j m h2 hm h1
  ·subst h2; rw [hl] at hm; cases hm; exact absurd h1 hk⟩
theorem EnvLe.fitA {e f : dJ} (h : EnvLe e f) {ts : List aF} {x : List ByteArray} (hx : pA e.1 e.2 ts x) : pA f.1 f.2 ts x := fun i t hi => h.fit (hx i t hi)
theorem FromOk.next {ls : List aJ} {R : Nat -> aE} {i : Nat} {e f : dJ} (h : FromOk ls R i e) {l : aJ} (hl : ls[i]? = some l) (hk : l.1 = 1) {x : List ByteArray} (hx : x ∈ R i) (hxl : x.length = (aA l).length) (hf : jT e (aA l) x (aA l).length = some f) : FromOk ls R (i + 1) f /\ EnvLe e f := by
 obtain ⟨h1, h2, h3, h4⟩ := lR h.ok hf
 rw [List.take_length] at h3
 refine ⟨⟨h1, ?_, fun j m hj hm hm1 => ?_⟩, h2⟩
 ·rw [h3, h.names, gW hl]; unfold bI; rw [if_pos hk]
 ·rcases Nat.lt_or_eq_of_le (Nat.le_of_lt_succ hj) with h5 | h5
  ·obtain ⟨y, hy, hyl, hyf⟩ := h.done j m h5 hm hm1
   exact ⟨y, hy, hyl, h2.fitA hyf⟩
  ·subst h5; rw [hl] at hm; cases hm
   exact ⟨x, hx, hxl, fun j t hj2 => h4 j t (List.getElem?_eq_some_iff.1 hj2).1 hj2⟩
theorem FromOk.has {ls : List aJ} {R : Nat -> aE} {i : Nat} {e : dJ} (h : FromOk ls R i e) {l : aJ} (hl : ls[i]? = some l) (hk : l.1 = 1) {V : List ByteArray} (hV : bS ls R V) (hp : V.take e.2.length = e.2) :
 ∃ x ∈ R i, x.length = (aA l).length /\ ∃ f, jT e (aA l) x (aA l).length = some f /\ V.take f.2.length = f.2 := by
 have h1 := hV.2 i l hl
 unfold fD at h1
 rw [if_pos hk] at h1
 obtain ⟨x, hx, hxl, hxf⟩ := h1
 have hg : EnvOk (aB ls, V) := ⟨bE ls, hV.1⟩
 have hle : EnvLe e (aB ls, V) := ⟨by rw [h.names]; exact lL ls i, hp⟩
 obtain ⟨f, hf, hle2⟩ := rF (x := x) h.ok hg hle (Nat.le_refl (aA l).length) (by
  rw [List.take_length, h.names]
  have := lL ls (i + 1)
  rw [gW hl] at this
  unfold bI at this
  rw [if_pos hk] at this
  exact this) hxf
 exact ⟨x, hx, hxl, f, hf, hle2.vals⟩
theorem FromOk.len {ls : List aJ} {R : Nat -> aE} {i : Nat} {e : dJ} (h : FromOk ls R i e) : e.2.length = (aB (ls.take i)).length := by rw [h.ok.len, h.names]
theorem FromOk.last {ls : List aJ} {R : Nat -> aE} {e : dJ} (h : FromOk ls R ls.length e) : e.1 = aB ls /\ (bS ls R e.2 ↔ ∀ (i : Nat) (l : aJ), ls[i]? = some l -> l.1 ≠ 1 -> fD (aB ls) e.2 (R i) l) /\ ∀ V, bS ls R V -> V.length = e.2.length := by
 have hn : e.1 = aB ls := by rw [h.names, List.take_length]
 have hl : e.2.length = (aB ls).length := by rw [h.ok.len, hn]
 refine ⟨hn, ⟨fun hB i l hi _ => hB.2 i l hi, fun hB => ⟨hl, fun i l hi => ?_⟩⟩, fun V hV => by rw [hV.1, hl]⟩
 by_cases hk : l.1 = 1
 ·unfold fD
  rw [if_pos hk]
  have := h.done i l (List.getElem?_eq_some_iff.1 hi).1 hi hk
  rw [hn] at this; exact this
 ·exact hB i l hi hk
end Go.Proofs.YtinnmeiphbdogaaGreat
/- Leaping through followers of several tries: plain. -/
namespace Go.Proofs.YtinnmeiphbdogaaGreat
structure CurZ where
 keys : List ByteArray
 lo : Nat
 hi : Nat
structure CurOk (c : CurZ) : Prop where
 le : c.lo ≤ c.hi
 few : c.hi ≤ c.keys.length
 rise : ∀ (k l : Nat) (x y : ByteArray), c.lo ≤ k -> k < l -> l < c.hi -> c.keys[k]? = some x -> c.keys[l]? = some y -> bB x.toList y.toList < 0
def kY (c : CurZ) (p : Nat) (x : ByteArray) : Prop := ∃ k, p ≤ k /\ k < c.hi /\ c.keys[k]? = some x
theorem jJ {a b c : ByteArray} (h : bB a.toList b.toList < 0) (h' : bB b.toList c.toList < 0) : bB a.toList c.toList < 0 := by
 rw [eG] at h h' ⊢
 exact fM h h'
theorem wS {a b c : ByteArray} (h : bB a.toList b.toList < 0) (h' : ¬ bB c.toList b.toList < 0) : bB a.toList c.toList < 0 := by
 rcases jK b.toList c.toList with h2 | h2 | h2
 ·exact jJ h (by omega)
 ·rw [<- dY (fV h2)]; exact h
 ·have := fW b.toList c.toList
  omega
section
variable {Sol : List ByteArray -> Prop} {p : List ByteArray} {Cs : List CurZ}
structure LeapInv (Sol : List ByteArray -> Prop) (p : List ByteArray) (Cs : List CurZ) (pos : Nat -> Nat) (i : Nat) (D : ByteArray -> Prop) (L : aE) : Prop where
 ok : ∀ c ∈ Cs, CurOk c
 here : i < Cs.length
 inn : ∀ j c, Cs[j]? = some c -> c.lo ≤ pos j /\ pos j ≤ c.hi
 told : PartB Sol p D L
 common : ∀ V, Sol V -> V.take p.length = p -> ∃ x, V[p.length]? = some x /\ (D x \/ ∀ (j : Nat) (c : CurZ), Cs[j]? = some c -> kY c (pos j) x)
 below : ∀ c x y, Cs[i]? = some c -> D x -> kY c (pos i) y -> bB x.toList y.toList < 0
theorem LeapInv.start (hok : ∀ c ∈ Cs, CurOk c) (hne : 0 < Cs.length) (hc : ∀ V, Sol V -> V.take p.length = p -> ∃ x, V[p.length]? = some x /\ ∀ (j : Nat) (c : CurZ), Cs[j]? = some c -> kY c c.lo x) : LeapInv Sol p Cs (fun j => (Cs.getD j ⟨[], 0, 0⟩).lo) 0 (fun _ => False) [] := by
 refine ⟨hok, hne, fun j c hj => ?_, PartB.none fun V _ _ x _ h => h, fun V h1 h2 => ?_, fun c x y _ h => h.elim⟩
 ·have e : Cs.getD j ⟨[], 0, 0⟩ = c := by rw [List.getD_eq_getElem?_getD, hj]; rfl
  show _ ≤ (Cs.getD j ⟨[], 0, 0⟩).lo /\ (Cs.getD j ⟨[], 0, 0⟩).lo ≤ _
  rw [e]
  exact ⟨Nat.le_refl _, (hok c (List.mem_of_getElem? hj)).le⟩
 ·obtain ⟨x, hx, h3⟩ := hc V h1 h2
  refine ⟨x, hx, .inr fun j c hj => ?_⟩
  have e : Cs.getD j ⟨[], 0, 0⟩ = c := by rw [List.getD_eq_getElem?_getD, hj]; rfl
  show kY c (Cs.getD j ⟨[], 0, 0⟩).lo x
  rw [e]; exact h3 j c hj
theorem LeapInv.end {pos : Nat -> Nat} {i : Nat} {D : ByteArray -> Prop} {L : aE} (h : LeapInv Sol p Cs pos i D L) {j : Nat} {c : CurZ} (hj : Cs[j]? = some c) (he : pos j = c.hi) : AllB Sol p L := by
 refine h.told.all fun V h1 h2 => ?_
 obtain ⟨x, hx, h3⟩ := h.common V h1 h2
 refine ⟨x, hx, ?_⟩
 rcases h3 with h3 | h3
 ·exact h3
 ·obtain ⟨k, h4, h5, _⟩ := h3 j c hj
  omega
theorem LeapInv.seek {pos : Nat -> Nat} {i : Nat} {D : ByteArray -> Prop} {L : aE} (h : LeapInv Sol p Cs pos i D L) {ci : CurZ} (hi : Cs[i]? = some ci) (hlt : pos i < ci.hi) {key : ByteArray} (hk : ci.keys[pos i]? = some key) {j : Nat} {c : CurZ} (hj : Cs[j]? = some c) {q : Nat} (hq : pos j ≤ q) (hq2 : q ≤ c.hi) (hb : ∀ k x, pos j ≤ k -> k < q -> c.keys[k]? = some x -> bB x.toList key.toList < 0) (hij : j = i -> q = pos i) :
 LeapInv Sol p Cs (fun m => if m = j then q else pos m) i D L := by
 have hp := h.inn j c hj
 refine ⟨h.ok, h.here, fun m d hm => ?_, h.told, fun V h1 h2 => ?_, fun d x y hd hx hy => ?_⟩
 ·show _ ≤ (if m = j then q else pos m) /\ (if m = j then q else pos m) ≤ _
  split
  ·rename_i e; subst e
   rw [hj] at hm; cases hm
   exact ⟨by omega, hq2⟩
  ·exact h.inn m d hm
 ·obtain ⟨x, hx, h3⟩ := h.common V h1 h2
  refine ⟨x, hx, ?_⟩
  rcases h3 with h3 | h3
  ·exact .inl h3
  ·refine .inr fun m d hm => ?_
   show kY d (if m = j then q else pos m) x
   split
   ·rename_i e; subst e
    rw [hj] at hm; cases hm
    obtain ⟨k, h4, h5, h6⟩ := h3 m c hj
    obtain ⟨k', h7, h8, h9⟩ := h3 i ci hi
    refine ⟨k, ?_, h5, h6⟩
    rcases Nat.lt_or_ge k q with h10 | h10
    ·exfalso
     have h11 := hb k x h4 h10 h6
     rcases Nat.lt_or_eq_of_le h7 with h12 | h12
     ·have h13 := (h.ok ci (List.mem_of_getElem? hi)).rise (pos i) k' key x (h.inn i ci hi).1 h12 h8 hk h9
      have := fW x.toList key.toList
      omega
     ·subst h12
      rw [hk] at h9; cases h9
      rw [eS] at h11; omega
    ·exact h10
   ·exact h3 m d hm
 ·have e : (if i = j then q else pos i) = pos i := by
   split
   ·rename_i e; exact hij e.symm
   ·rfl
  have hy' : kY d (pos i) y := by
   have h0 : kY d (if i = j then q else pos i) y := hy
   rw [e] at h0; exact h0
  exact h.below d x y hd hx hy'
theorem LeapInv.lead {pos : Nat -> Nat} {i : Nat} {D : ByteArray -> Prop} {L : aE} (h : LeapInv Sol p Cs pos i D L) {ci : CurZ} (hi : Cs[i]? = some ci) (hlt : pos i < ci.hi) {key : ByteArray} (hk : ci.keys[pos i]? = some key) {j : Nat} {c : CurZ} (hj : Cs[j]? = some c) (hl2 : pos j < c.hi) {key2 : ByteArray} (hk2 : c.keys[pos j]? = some key2) (hge : ¬ bB key2.toList key.toList < 0) : LeapInv Sol p Cs pos j D L := by
 refine ⟨h.ok, (List.getElem?_eq_some_iff.1 hj).1, h.inn, h.told, h.common, fun d x y hd hx hy => ?_⟩
 rw [hj] at hd; cases hd
 have h1 := h.below ci x key hi hx ⟨pos i, Nat.le_refl _, hlt, hk⟩
 have h2 := wS h1 hge
 obtain ⟨k, h3, h4, h5⟩ := hy
 rcases Nat.lt_or_eq_of_le h3 with h6 | h6
 ·exact jJ h2 ((h.ok c (List.mem_of_getElem? hj)).rise (pos j) k key2 y (h.inn j c hj).1 h6 h4 hk2 h5)
 ·subst h6
  rw [hk2] at h5; cases h5
  exact h2
theorem LeapInv.next {pos : Nat -> Nat} {i : Nat} {D : ByteArray -> Prop} {L L' : aE} (h : LeapInv Sol p Cs pos i D L) {ci : CurZ} (hi : Cs[i]? = some ci) (hlt : pos i < ci.hi) {key : ByteArray} (hk : ci.keys[pos i]? = some key) (h' : AllB Sol (p ++ [key]) L') : LeapInv Sol p Cs (fun m => if m = i then pos i + 1 else pos m) i (fun y => D y \/ y = key) (L ++ L') := by
 refine ⟨h.ok, h.here, fun m d hm => ?_, h.told.next h' fun V h1 h2 y hy hD => h.below ci y key hi hD ⟨pos i, Nat.le_refl _, hlt, hk⟩, fun V h1 h2 => ?_, fun d x y hd hx hy => ?_⟩
 ·show _ ≤ (if m = i then pos i + 1 else pos m) /\ (if m = i then pos i + 1 else pos m) ≤ _
  split
  ·rename_i e; subst e
   rw [hi] at hm; cases hm
   have := (h.inn m ci hi).1
   exact ⟨by omega, hlt⟩
  ·exact h.inn m d hm
 ·obtain ⟨x, hx, h3⟩ := h.common V h1 h2
  refine ⟨x, hx, ?_⟩
  rcases h3 with h3 | h3
  ·exact .inl (.inl h3)
  ·by_cases e : x = key
   ·exact .inl (.inr e)
   ·refine .inr fun m d hm => ?_
    show kY d (if m = i then pos i + 1 else pos m) x
    split
    ·rename_i e2; subst e2
     rw [hi] at hm; cases hm
     obtain ⟨k, h4, h5, h6⟩ := h3 m ci hi
     refine ⟨k, ?_, h5, h6⟩
     rcases Nat.lt_or_eq_of_le h4 with h7 | h7
     ·exact h7
     ·subst h7; rw [hk] at h6; cases h6; exact absurd rfl e
    ·exact h3 m d hm
 ·rw [hi] at hd; cases hd
  have hy' : kY ci (pos i + 1) y := by
   have h0 : kY ci (if i = i then pos i + 1 else pos i) y := hy
   rw [if_pos rfl] at h0; exact h0
  obtain ⟨k, h3, h4, h5⟩ := hy'
  have h6 := (h.ok ci (List.mem_of_getElem? hi)).rise (pos i) k key y (h.inn i ci hi).1 (by omega) h4 hk h5
  rcases hx with hx | hx
  ·exact h.below ci x y hi hx ⟨k, by omega, h4, h5⟩
  ·rw [hx]; exact h6
end
end Go.Proofs.YtinnmeiphbdogaaGreat
/- Tries: the followers of a beginning are places side by side. Plain. -/
namespace Go.Proofs.YtinnmeiphbdogaaGreat
section
variable {W : aE} {d : Nat}
def SpanOf (W : aE) (d : Nat) (q : List ByteArray) (a b : Nat) : Prop := ∃ lo hi, Iv W q lo hi /\ a = aP W d q.length lo /\ b = aP W d q.length hi
theorem aC2 (i : Nat) : aP W d i 0 = 0 := by
 have := dG W d i 0
 unfold aP; omega
theorem lB (i : Nat) {m n : Nat} (h : m ≤ n) : aP W d i m ≤ aP W d i n := by
 obtain ⟨r, e, _⟩ := mB W d i h
 unfold aP
 rw [e, List.length_append]; omega
theorem aFy (hne : 0 < W.length) : SpanOf W d [] 0 (aP W d 0 W.length) :=
 ⟨0, W.length, ⟨hne, Nat.le_refl _, fun n x hx => ⟨fun _ => ⟨Nat.zero_le _, (List.getElem?_eq_some_iff.1 hx).1⟩, fun _ => rfl⟩⟩, (aC2 0).symm, rfl⟩
theorem mE {i n k s : Nat} (h : (aV W d i n)[k]? = some s) {m : Nat} (hm : m ≤ n) : k < aP W d i m ↔ s < m := by
 obtain ⟨r, e, hr⟩ := mB W d i hm
 rw [e] at h
 unfold aP
 refine ⟨fun hk => ?_, fun hs => ?_⟩
 ·rw [List.getElem?_append_left hk] at h
  exact (lF h).2
 ·rcases Nat.lt_or_ge k (aV W d i m).length with h1 | h1
  ·exact h1
  ·rw [List.getElem?_append_right h1] at h
   have := hr _ (List.mem_of_getElem? h)
   omega
theorem WaysOk.cell (h : WaysOk W d) {n : Nat} {r : List ByteArray} (hr : W[n]? = some r) {i : Nat} (hi : i < d) : ∃ x, r[i]? = some x /\ r.take (i + 1) = r.take i ++ [x] := by
 have hl : i < r.length := by rw [h.len r (List.mem_of_getElem? hr)]; exact hi
 refine ⟨_, qG hl, ?_⟩
 rw [List.take_add_one, qG hl]; rfl
theorem SpanOf.place (hW : WaysOk W d) {q : List ByteArray} {a b : Nat} (h : SpanOf W d q a b) (hq : q.length < d) {k : Nat} (ha : a ≤ k) (hb : k < b) :
 ∃ s r x, (aV W d q.length W.length)[k]? = some s /\ W[s]? = some r /\ r.take (q.length + 1) = q ++ [x] /\ (bN W d q.length W.length)[k]? = some x /\ Iv W (q ++ [x]) s ((aV W d q.length W.length).getD (k + 1) W.length) := by
 obtain ⟨lo, hi, hI, rfl, rfl⟩ := h
 have hkS : k < (aV W d q.length W.length).length := Nat.lt_of_lt_of_le hb (lB _ hI.few)
 obtain ⟨s, hs⟩ : ∃ s, (aV W d q.length W.length)[k]? = some s := ⟨_, qG hkS⟩
 have hsn := (lF hs).2
 have h1 : s < hi := (mE hs hI.few).1 hb
 have h2 : ¬ s < lo := fun h => Nat.not_lt.2 ha ((mE hs (Nat.le_trans (Nat.le_of_lt hI.le) hI.few)).2 h)
 obtain ⟨r, hr⟩ : ∃ r, W[s]? = some r := ⟨_, qG hsn⟩
 obtain ⟨x, hx, et⟩ := hW.cell hr hq
 have eq : r.take q.length = q := (hI.iff s r hr).2 ⟨by omega, h1⟩
 rw [eq] at et
 have hst := (lG hq).1 (List.mem_of_getElem? hs)
 refine ⟨s, r, x, hs, hr, et, ?_, ?_, ?_, ?_⟩
 ·unfold bN
  rw [List.getElem?_map, hs]
  show some ((W.getD s []).getD q.length ByteArray.empty) = some x
  rw [bC hr, bC hx]
 ·rw [List.getD_eq_getElem?_getD]
  cases h4 : (aV W d q.length W.length)[k + 1]? with
  | none => exact hsn
  | some e =>
   obtain ⟨l1, e1⟩ := List.getElem?_eq_some_iff.1 hs
   obtain ⟨l2, e2⟩ := List.getElem?_eq_some_iff.1 h4
   have := List.pairwise_iff_getElem.1 (fQ W d q.length W.length) k (k + 1) l1 l2 (by omega)
   rw [e1, e2] at this
   exact this
 ·rw [List.getD_eq_getElem?_getD]
  cases h4 : (aV W d q.length W.length)[k + 1]? with
  | none => exact Nat.le_refl _
  | some e => exact Nat.le_of_lt (lF h4).2
 ·intro n y hy
  have hn := (List.getElem?_eq_some_iff.1 hy).1
  rw [List.length_append, List.length_singleton, <- et]
  refine ⟨fun he => ⟨?_, ?_⟩, fun ⟨h3, h4⟩ => ?_⟩
  ·rcases Nat.lt_or_ge n s with h3 | h3
   ·exfalso
    rcases eM.1 hst.2 with h4 | h4
    ·omega
    ·obtain ⟨z, hz⟩ : ∃ z, W[s - 1]? = some z := ⟨_, qG (by omega)⟩
     rw [bC hz, bC hr] at h4
     exact h4 ((hW.between hy hz hr (by omega) (by omega) he).trans he)
   ·exact h3
  ·rcases Nat.lt_or_ge n ((aV W d q.length W.length).getD (k + 1) W.length) with h3 | h3
   ·exact h3
   ·exfalso
    rw [List.getD_eq_getElem?_getD] at h3
    cases h4 : (aV W d q.length W.length)[k + 1]? with
    | none =>
     rw [h4] at h3
     have h5 : W.length ≤ n := h3
     omega
    | some e =>
     rw [h4] at h3
     have h5 : e ≤ n := h3
     have h6 := (lG hq).1 (List.mem_of_getElem? h4)
     obtain ⟨l1, e1⟩ := List.getElem?_eq_some_iff.1 hs
     obtain ⟨l2, e2⟩ := List.getElem?_eq_some_iff.1 h4
     have h7 := List.pairwise_iff_getElem.1 (fQ W d q.length W.length) k (k + 1) l1 l2 (by omega)
     rw [e1, e2] at h7
     obtain ⟨z, hz⟩ : ∃ z, W[e - 1]? = some z := ⟨_, qG (by omega)⟩
     obtain ⟨u, hu⟩ : ∃ u, W[e]? = some u := ⟨_, qG (by omega)⟩
     rcases eM.1 h6.2 with h8 | h8
     ·omega
     ·rw [bC hz, bC hu] at h8
      exact h8 ((hW.between hr hz hy (by omega) (by omega) he.symm).trans (hW.between hr hu hy (by omega) h5 he.symm).symm)
  ·-- no start lies between
   have key : ∀ m, s ≤ m -> m ≤ n -> ∀ z, W[m]? = some z -> z.take (q.length + 1) = r.take (q.length + 1) := by
    intro m
    induction m with
    | zero =>
     intro h5 _ z hz
     have : s = 0 := by omega
     rw [this] at hr
     rw [hr] at hz; cases hz; rfl
    | succ m ih =>
     intro h5 h6 z hz
     rcases Nat.lt_or_eq_of_le h5 with h7 | h7
     ·obtain ⟨u, hu⟩ : ∃ u, W[m]? = some u := ⟨_, qG (by omega)⟩
      have h8 := ih (by omega) (by omega) u hu
      have h9 : ¬ cY W (q.length + 1) (m + 1) = true := fun h10 => by
       have hm := (lG (W := W) (n := W.length) hq).2 ⟨(List.getElem?_eq_some_iff.1 hz).1, h10⟩
       obtain ⟨j, hj⟩ := List.mem_iff_getElem?.1 hm
       obtain ⟨l1, e1⟩ := List.getElem?_eq_some_iff.1 hs
       obtain ⟨l2, e2⟩ := List.getElem?_eq_some_iff.1 hj
       have hjk : k < j := by
        rcases Nat.lt_trichotomy k j with h | h | h
        ·exact h
        ·subst h; rw [hs] at hj; cases hj; omega
        ·have := List.pairwise_iff_getElem.1 (fQ W d q.length W.length) j k l2 l1 h
         rw [e1, e2] at this; omega
       rw [List.getD_eq_getElem?_getD, qG (by omega : k + 1 < _)] at h4
       have h11 : n < (aV W d q.length W.length)[k + 1] := h4
       rcases Nat.lt_or_eq_of_le (show k + 1 ≤ j from hjk) with h | h
       ·have := List.pairwise_iff_getElem.1 (fQ W d q.length W.length) (k + 1) j (by omega) l2 h
        rw [e2] at this; omega
       ·subst h; rw [e2] at h11; omega
      have h12 : u.take (q.length + 1) = z.take (q.length + 1) := by
       refine Classical.byContradiction fun h13 => h9 (eM.2 (.inr ?_))
       rw [Nat.add_sub_cancel, bC hu, bC hz]; exact h13
      rw [<- h12]; exact h8
     ·rw [<- h7] at hz
      rw [hr] at hz; cases hz; rfl
   exact key n h3 (Nat.le_refl _) y hy
theorem SpanOf.all (hW : WaysOk W d) {q : List ByteArray} {a b : Nat} (h : SpanOf W d q a b) (hq : q.length < d) {x : ByteArray} {r : List ByteArray} (hr : r ∈ W) (he : r.take (q.length + 1) = q ++ [x]) :
 ∃ k, a ≤ k /\ k < b /\ (bN W d q.length W.length)[k]? = some x := by
 have hS := h
 obtain ⟨lo, hi, hI, ea, eb⟩ := h
 obtain ⟨n, hn⟩ := List.mem_iff_getElem?.1 hr
 have hnl := (List.getElem?_eq_some_iff.1 hn).1
 have e1 : r.take q.length = q := by
  have := congrArg (List.take q.length) he
  rw [List.take_take, List.take_left] at this
  rw [show min q.length (q.length + 1) = q.length by omega] at this
  exact this
 obtain ⟨h1, h2⟩ := (hI.iff n r hn).1 e1
 have hlo : cY W (q.length + 1) lo = true := by
  refine eM.2 ?_
  by_cases h0 : lo = 0
  ·exact .inl h0
  ·refine .inr fun h3 => ?_
   obtain ⟨z, hz⟩ : ∃ z, W[lo - 1]? = some z := ⟨_, qG (by omega)⟩
   obtain ⟨u, hu⟩ : ∃ u, W[lo]? = some u := ⟨_, qG (by omega)⟩
   rw [bC hz, bC hu] at h3
   have h4 : z.take q.length = u.take q.length := by
    have := congrArg (List.take q.length) h3
    rw [List.take_take, List.take_take] at this
    rw [show min q.length (q.length + 1) = q.length by omega] at this
    exact this
   have h5 := (hI.iff lo u hu).2 ⟨Nat.le_refl _, hI.le⟩
   have h6 := ((hI.iff (lo - 1) z hz).1 (h4.trans h5)).1
   omega
 have hml : lo ∈ aV W d q.length (n + 1) := (lG hq).2 ⟨by omega, hlo⟩
 obtain ⟨j, hj⟩ := List.mem_iff_getElem?.1 hml
 have hjl := (List.getElem?_eq_some_iff.1 hj).1
 obtain ⟨k, ek⟩ : ∃ k, aP W d q.length (n + 1) = k + 1 := ⟨aP W d q.length (n + 1) - 1, by unfold aP; omega⟩
 have hka : a ≤ k := by
  have h3 : ¬ j < aP W d q.length lo := fun h => absurd ((mE hj (by omega)).1 h) (by omega)
  have h4 : j < aP W d q.length (n + 1) := hjl
  omega
 have hkb : k < b := by
  have := lB (W := W) (d := d) q.length (show n + 1 ≤ hi from h2)
  omega
 obtain ⟨s, r', x', hs, hr', he', hk', hI'⟩ := hS.place hW hq hka hkb
 refine ⟨k, hka, hkb, ?_⟩
 have hsn : s < n + 1 := (mE hs (by omega)).1 (by omega)
 have hne : n < (aV W d q.length W.length).getD (k + 1) W.length := by
  rw [List.getD_eq_getElem?_getD]
  cases h4 : (aV W d q.length W.length)[k + 1]? with
  | none => exact hnl
  | some e =>
   have h5 : ¬ e < n + 1 := fun h => absurd ((mE h4 (by omega)).2 h) (by omega)
   show n < e
   omega
 have h7 := (hI'.iff n r hn).2 ⟨by omega, hne⟩
 rw [List.length_append, List.length_singleton, he] at h7
 have h8 := (List.append_inj h7 rfl).2
 rw [hk']
 simpa using h8.symm
theorem SpanOf.rise (hW : WaysOk W d) {q : List ByteArray} {a b : Nat} (h : SpanOf W d q a b) (hq : q.length < d) {k l : Nat} (ha : a ≤ k) (hl : k < l) (hb : l < b) {x y : ByteArray} (hx : (bN W d q.length W.length)[k]? = some x) (hy : (bN W d q.length W.length)[l]? = some y) : bB x.toList y.toList < 0 := by
 obtain ⟨s, r, x', hs, hr, he, hk, hI⟩ := h.place hW hq ha (by omega)
 obtain ⟨t, u, y', ht, hu, he2, hk2, hI2⟩ := h.place hW hq (show a ≤ l by omega) hb
 rw [hk] at hx; cases hx
 rw [hk2] at hy; cases hy
 obtain ⟨l1, e1⟩ := List.getElem?_eq_some_iff.1 hs
 obtain ⟨l2, e2⟩ := List.getElem?_eq_some_iff.1 ht
 have hst := List.pairwise_iff_getElem.1 (fQ W d q.length W.length) k l l1 l2 hl
 rw [e1, e2] at hst
 have h1 := jX (q.length + 1) ((hW.len r (List.mem_of_getElem? hr)).trans (hW.len u (List.mem_of_getElem? hu)).symm) (hW.le hr hu (Nat.le_of_lt hst))
 rw [he, he2, sK] at h1
 have h2 : bB x.toList y.toList ≠ 0 := fun e => by
  have exy : x = y := dY (fV e)
  subst exy
  have h3 := ((hI2.iff s r hr).1 (by rw [List.length_append, List.length_singleton]; exact he)).1
  omega
 omega
theorem SpanOf.down (hW : WaysOk W d) {q : List ByteArray} {a b : Nat} (h : SpanOf W d q a b) (hq : q.length < d) {k : Nat} (ha : a ≤ k) (hb : k < b) {x : ByteArray} (hx : (bN W d q.length W.length)[k]? = some x) :
 ∃ f t, (bX W d q.length W.length ++ [(aP W d (q.length + 1) W.length : Int)])[k]? = some ((f : Nat) : Int) /\ (bX W d q.length W.length ++ [(aP W d (q.length + 1) W.length : Int)])[k + 1]? = some ((t : Nat) : Int) /\ SpanOf W d (q ++ [x]) f t := by
 obtain ⟨s, r, x', hs, hr, he, hk, hI⟩ := h.place hW hq ha hb
 rw [hk] at hx; cases hx
 refine ⟨aP W d (q.length + 1) s, aP W d (q.length + 1) ((aV W d q.length W.length).getD (k + 1) W.length), ?_, ?_, s, _, hI, by rw [List.length_append, List.length_singleton], by rw [List.length_append, List.length_singleton]⟩
 ·have hkl : k < (bX W d q.length W.length).length := by rw [hU]; exact (List.getElem?_eq_some_iff.1 hs).1
  rw [List.getElem?_append_left hkl]
  unfold bX
  rw [List.getElem?_map, hs]; rfl
 ·rw [List.getD_eq_getElem?_getD]
  cases h4 : (aV W d q.length W.length)[k + 1]? with
  | none =>
   have h5 := List.getElem?_eq_none_iff.1 h4
   have h6 := (List.getElem?_eq_some_iff.1 hs).1
   have h7 : (bX W d q.length W.length).length = k + 1 := by rw [hU]; unfold aP; omega
   rw [List.getElem?_append_right (by omega), h7, Nat.sub_self]; rfl
  | some e =>
   have hkl : k + 1 < (bX W d q.length W.length).length := by rw [hU]; exact (List.getElem?_eq_some_iff.1 h4).1
   rw [List.getElem?_append_left hkl]
   unfold bX
   rw [List.getElem?_map, h4]; rfl
theorem SpanOf.le {q : List ByteArray} {a b : Nat} (h : SpanOf W d q a b) : a ≤ b /\ b ≤ aP W d q.length W.length := by
 obtain ⟨lo, hi, hI, rfl, rfl⟩ := h
 exact ⟨lB _ (Nat.le_of_lt hI.le), lB _ hI.few⟩
theorem SpanOf.some (hW : WaysOk W d) {q : List ByteArray} {a b : Nat} (h : SpanOf W d q a b) (hq : q.length < d) : a < b := by
 have hS := h
 obtain ⟨lo, hi, hI, ea, eb⟩ := h
 obtain ⟨r, hr⟩ : ∃ r, W[lo]? = .some r := ⟨_, qG (Nat.lt_of_lt_of_le hI.le hI.few)⟩
 obtain ⟨x, hx, et⟩ := hW.cell hr hq
 have e := (hI.iff lo r hr).2 ⟨Nat.le_refl _, hI.le⟩
 rw [e] at et
 obtain ⟨k, h1, h2, _⟩ := hS.all hW hq (List.mem_of_getElem? hr) et
 omega
end
end Go.Proofs.YtinnmeiphbdogaaGreat
/- Tries: how levels grow, way by way; where a cursor stands. Plain. -/
namespace Go.Proofs.YtinnmeiphbdogaaGreat
section
variable {W : aE} {d : Nat}
theorem rC {i n : Nat} (hi : i < d) {r : List ByteArray} {x : ByteArray} (hr : W[n]? = some r) (hx : r[i]? = some x) : bN W d i (n + 1) = bN W d i n ++ if cY W (i + 1) n then [x] else [] := by
 unfold bN
 rw [mC W hi, List.map_append]
 congr 1
 split
 ·rw [List.map_singleton, bC hr, bC hx]
 ·rfl
theorem rE {i n : Nat} (hi : i < d) : bX W d i (n + 1) = bX W d i n ++ if cY W (i + 1) n then [(aP W d (i + 1) n : Int)] else [] := by
 unfold bX
 rw [mC W hi, List.map_append]
 congr 1
 split
 ·rfl
 ·rfl
theorem oP {n : Nat} : aP W d d n = n := by unfold aP; rw [mD W (Nat.lt_irrefl d), List.length_range]
theorem aDl {n : Nat} : cY W 0 n = (n == 0) := by
 unfold cY
 rw [List.take_zero, List.take_zero]
 simp
structure PathOk (W : aE) (d : Nat) (q : List ByteArray) (st : List (Nat × Nat)) : Prop where
 len : st.length = q.length
 at_ : ∀ (j : Nat) (e : Nat × Nat), st[j]? = some e -> ∃ a x, SpanOf W d (q.take j) a e.2 /\ a ≤ e.1 /\ e.1 < e.2 /\ q[j]? = some x /\ (bN W d j W.length)[e.1]? = some x
 few : q.length ≤ d
theorem PathOk.nil : PathOk W d [] [] := ⟨rfl, fun j e h => by simp at h, Nat.zero_le _⟩
theorem PathOk.push {q : List ByteArray} {st : List (Nat × Nat)} (h : PathOk W d q st) (hq : q.length < d) {a b k : Nat} {x : ByteArray} (hs : SpanOf W d q a b) (ha : a ≤ k) (hb : k < b) (hx : (bN W d q.length W.length)[k]? = some x) : PathOk W d (q ++ [x]) (st ++ [(k, b)]) := by
 refine ⟨by simp [h.len], fun j e he => ?_, by simp; omega⟩
 rcases Nat.lt_trichotomy j st.length with h1 | h1 | h1
 ·rw [List.getElem?_append_left h1] at he
  obtain ⟨a', x', h2, h3, h4, h5, h6⟩ := h.at_ j e he
  have hj : j < q.length := by rw [<- h.len]; exact h1
  exact ⟨a', x', by rw [List.take_append_of_le_length (by omega)]; exact h2, h3, h4, by rw [List.getElem?_append_left hj]; exact h5, h6⟩
 ·subst h1
  rw [List.getElem?_append_right (Nat.le_refl _), Nat.sub_self] at he
  cases he
  refine ⟨a, x, ?_, ha, hb, ?_, ?_⟩
  ·rw [h.len, List.take_left]; exact hs
  ·rw [h.len, List.getElem?_append_right (Nat.le_refl _), Nat.sub_self]; rfl
  ·rw [h.len]; exact hx
 ·rw [List.getElem?_append_right (by omega)] at he
  have : j - st.length ≠ 0 := by omega
  cases hj : j - st.length with
  | zero => omega
  | succ m => rw [hj] at he; simp at he
theorem PathOk.open (hW : WaysOk W d) (hne : 0 < W.length) {q : List ByteArray} {st : List (Nat × Nat)} (h : PathOk W d q st) (hq : q.length < d) :
 ∃ a b, SpanOf W d q a b /\ a < b /\ ((q = [] /\ a = 0 /\ b = aP W d 0 W.length) \/
  ∃ (m : Nat) (e : Nat × Nat), q.length = m + 1 /\ st[m]? = some e /\ (bX W d m W.length ++ [(aP W d (m + 1) W.length : Int)])[e.1]? = some ((a : Nat) : Int) /\ (bX W d m W.length ++ [(aP W d (m + 1) W.length : Int)])[e.1 + 1]? = some ((b : Nat) : Int)) := by
 cases hl : q.length with
 | zero =>
  have e : q = [] := List.eq_nil_of_length_eq_zero hl
  subst e
  have hs := aFy (W := W) (d := d) hne
  exact ⟨0, _, hs, hs.some hW hq, .inl ⟨rfl, rfl, rfl⟩⟩
 | succ m =>
  obtain ⟨e, he⟩ : ∃ e, st[m]? = some e := ⟨_, qG (by rw [h.len, hl]; omega)⟩
  obtain ⟨a', x, h1, h2, h3, h4, h5⟩ := h.at_ m e he
  have hlen : (q.take m).length = m := by rw [List.length_take]; omega
  have hd := h1.down hW (by rw [hlen]; omega) h2 h3 (x := x) (by rw [hlen]; exact h5)
  rw [hlen] at hd
  obtain ⟨f, t, h6, h7, h8⟩ := hd
  have eq : q.take m ++ [x] = q := by
   have : q.take (m + 1) = q.take m ++ [x] := by rw [List.take_add_one, h4]; rfl
   rw [<- this, <- hl, List.take_length]
  rw [eq] at h8
  exact ⟨f, t, h8, h8.some hW hq, .inr ⟨m, e, rfl, he, h6, h7⟩⟩
end
end Go.Proofs.YtinnmeiphbdogaaGreat
/- The program's tables and tests, and what a rule's bindings are: plain. -/
namespace Go.Proofs.YtinnmeiphbdogaaGreat
def gG (N V : List ByteArray) (R : aE) (l : aJ) : Prop :=
 if l.1 = 1 then (aN N (aA l)).map (aY V) ∈ cL N (aA l) R
 else if l.1 = 2 then ¬ (aN N (aA l)).map (aY V) ∈ cL N (aA l) R
 else oB (fC l) (kF N V (leftOf l)) (kF N V (aL l))
theorem aCt {N V : List ByteArray} {R : aE} {l : aJ} (hN : N.Nodup) (hV : V.length = N.length) (hin : l.1 = 1 \/ l.1 = 2 -> ∀ t ∈ aA l, t.1 = 1 -> t.2.1 ∈ N) : gG N V R l ↔ fD N V R l := by
 unfold gG fD
 by_cases h1 : l.1 = 1
 ·rw [if_pos h1, if_pos h1]; exact aFb R hN hV (hin (.inl h1))
 ·rw [if_neg h1, if_neg h1]
  by_cases h2 : l.1 = 2
  ·rw [if_pos h2, if_pos h2, aFb R hN hV (hin (.inr h2))]
  ·rw [if_neg h2, if_neg h2]
theorem xQ : ∀ (ts : List aF) (a : List ByteArray) (t : aF), t ∈ ts -> t.1 = 1 -> t.2.1 ∈ bZ a ts
 | [], _, _, h, _ => by simp at h
 | u :: ts, a, t, h, h1 => by
  show t.2.1 ∈ bZ (aZ a u) ts
  rcases List.mem_cons.1 h with h | h
  ·subst h
   have hm : t.2.1 ∈ aZ a t := by
    unfold aZ
    split
    ·simp
    ·rename_i h2
     rw [<- bW]
     cases h3 : jM a t.2.1 with
     | true => rfl
     | false => exact absurd ⟨h1, h3⟩ h2
   have hp := qZ ts (aZ a t)
   rw [<- hp] at hm
   exact List.mem_of_mem_take hm
  ·exact xQ ts (aZ a u) t h h1
theorem uW {ls : List aJ} {l : aJ} (hl : l ∈ ls) (h1 : l.1 = 1) {t : aF} (ht : t ∈ aA l) (h : t.1 = 1) : t.2.1 ∈ aB ls := by
 obtain ⟨i, hi⟩ := List.mem_iff_getElem?.1 hl
 have e := gW hi
 have hm : t.2.1 ∈ aB (ls.take (i + 1)) := by
  rw [e]; unfold bI; rw [if_pos h1]
  exact xQ _ _ _ ht h
 rw [<- lL ls (i + 1)] at hm
 exact List.mem_of_mem_take hm
theorem zG {r : cK} (h : aS r = 0) {l : aJ} (hl : l ∈ r.2.1) (hk : l.1 = 1 \/ l.1 = 2) : ∀ t ∈ aA l, t.1 = 1 -> t.2.1 ∈ aB r.2.1 := fun t ht h1 => by
 rcases hk with hk | hk
 ·exact uW hl hk ht h1
 ·unfold aS at h
  split at h
  ·split at h
   ·rename_i hp hs
    unfold jD at hs
    rw [Bool.and_eq_true] at hs
    have h2 := List.all_eq_true.1 hs.2 l hl
    unfold dL at h2
    rw [if_neg (by omega), if_pos hk] at h2
    have h3 := List.all_eq_true.1 h2 t ht
    unfold cA at h3
    rw [if_neg (by omega)] at h3
    rcases of_decide_eq_true h3 with h4 | h4 | h4
    ·omega
    ·omega
    ·exact bW.1 h4
   ·cases h
  ·cases h
theorem nI {r : cK} (h : aS r = 0) {R : Nat -> aE} {V : List ByteArray} : bS r.2.1 R V ↔ V.length = (aB r.2.1).length /\ ∀ (i : Nat) (l : aJ), r.2.1[i]? = some l -> gG (aB r.2.1) V (R i) l := by
 unfold bS
 refine and_congr_right fun hV => ⟨fun h1 i l hl => (aCt (bE _) hV fun hk => zG h (List.mem_of_getElem? hl) hk).2 (h1 i l hl), fun h1 i l hl => (aCt (bE _) hV fun hk => zG h (List.mem_of_getElem? hl) hk).1 (h1 i l hl)⟩
theorem uR : ∀ (ts : List aF) (a : List ByteArray) (s : ByteArray), s ∈ bZ a ts -> s ∈ a \/ ∃ t ∈ ts, t.1 = 1 /\ t.2.1 = s
 | [], a, s, h => .inl h
 | t :: ts, a, s, h => by
  rcases uR ts (aZ a t) s h with h1 | ⟨u, hu, h1⟩
  ·unfold aZ at h1
   split at h1
   ·rename_i h2
    rcases List.mem_append.1 h1 with h1 | h1
    ·exact .inl h1
    ·rw [List.mem_singleton] at h1
     exact .inr ⟨t, List.mem_cons_self .., h2.1, h1.symm⟩
   ·exact .inl h1
  ·exact .inr ⟨u, List.mem_cons_of_mem _ hu, h1⟩
theorem rV : ∀ (ls : List aJ) (a : List ByteArray) (s : ByteArray), s ∈ ls.foldl bI a -> s ∈ a \/ ∃ l ∈ ls, l.1 = 1 /\ ∃ t ∈ aA l, t.1 = 1 /\ t.2.1 = s
 | [], a, s, h => .inl h
 | l :: ls, a, s, h => by
  rcases rV ls (bI a l) s h with h1 | ⟨m, hm, h1⟩
  ·unfold bI at h1
   split at h1
   ·rename_i h2
    rcases uR _ _ _ h1 with h3 | h3
    ·exact .inl h3
    ·exact .inr ⟨l, List.mem_cons_self .., h2, h3⟩
   ·exact .inl h1
  ·exact .inr ⟨m, List.mem_cons_of_mem _ hm, h1⟩
theorem jF {ls : List aJ} {v : Nat} (hv : v < (aB ls).length) : ∃ l ∈ ls, l.1 = 1 /\ v ∈ aN (aB ls) (aA l) := by
 have hg : (aB ls)[v]? = some (aY (aB ls) v) := by unfold aY; rw [List.getD_eq_getElem?_getD, qG hv]; rfl
 rcases rV ls [] _ (List.mem_of_getElem? hg) with h | ⟨l, hl, h1, t, ht, h2, h3⟩
 ·simp at h
 ·obtain ⟨i, hi⟩ := List.mem_iff_getElem?.1 ht
  exact ⟨l, hl, h1, cG.2 ⟨hv, i, t, hi, h2, h3⟩⟩
theorem aC4 {vs : List Nat} (hr : vs.Pairwise (· < ·)) {m v : Nat} (hm : vs[m]? = some v) {p V : List ByteArray} (hp : V.take v = p) (hV : v < V.length) :
 (vs.map (aY V)).take (m + 1) = (vs.take m).map (aY p) ++ [aY V v] := by
 have hml := (List.getElem?_eq_some_iff.1 hm)
 rw [List.take_add_one, List.getElem?_map, hm]
 show (vs.map (aY V)).take m ++ [aY V v] = _
 rw [<- List.map_take]
 congr 1
 refine List.map_congr_left fun u hu => ?_
 obtain ⟨j, hj⟩ := List.mem_iff_getElem?.1 hu
 have hjm : j < m := by
  have := (List.getElem?_eq_some_iff.1 hj).1
  rw [List.length_take] at this; omega
 rw [List.getElem?_take_of_lt hjm] at hj
 obtain ⟨l1, e1⟩ := List.getElem?_eq_some_iff.1 hj
 have huv := List.pairwise_iff_getElem.1 hr j m l1 hml.1 hjm
 rw [e1, hml.2] at huv
 unfold aY
 rw [List.getD_eq_getElem?_getD, List.getD_eq_getElem?_getD, <- hp, List.getElem?_take_of_lt huv]
end Go.Proofs.YtinnmeiphbdogaaGreat
/- The program's way from variable to variable: plain. -/
namespace Go.Proofs.YtinnmeiphbdogaaGreat
theorem aKw {W : aE} {d : Nat} (hW : WaysOk W d) {q : List ByteArray} {a b : Nat} (h : SpanOf W d q a b) (hq : q.length < d) : CurOk ⟨bN W d q.length W.length, a, b⟩ :=
 ⟨h.le.1, by show b ≤ (bN W d q.length W.length).length; rw [fK]; exact h.le.2, fun k l x y h1 h2 h3 h4 h5 => h.rise hW hq h1 h2 h3 h4 h5⟩
theorem aEn {W : aE} {d : Nat} (hW : WaysOk W d) {q : List ByteArray} {a b : Nat} (h : SpanOf W d q a b) (hq : q.length < d) {r : List ByteArray} {x : ByteArray} (hr : r ∈ W) (he : r.take (q.length + 1) = q ++ [x]) : kY ⟨bN W d q.length W.length, a, b⟩ a x := by
 obtain ⟨k, h1, h2, h3⟩ := h.all hW hq hr he
 exact ⟨k, h1, h2, h3⟩
def pY (N : List ByteArray) (t : aF) : Int := if t.1 = 1 /\ jM N t.2.1 = true then ((N.findIdx fun s => decide (s = t.2.1) : Nat) : Int) else -1
def fJ (N : List ByteArray) (l : aJ) : Int :=
 if l.1 = 2 then match (aN N (aA l)).getLast? with | some v => (v : Int) | none => -1
 else max (pY N (leftOf l)) (pY N (aL l))
theorem aB4 {V V' : List ByteArray} {k v : Nat} (h : V.take k = V'.take k) (hv : v < k) : aY V v = aY V' v := by
 unfold aY
 rw [List.getD_eq_getElem?_getD, List.getD_eq_getElem?_getD, <- List.getElem?_take_of_lt hv, h, List.getElem?_take_of_lt hv]
theorem aAj {N V V' : List ByteArray} {k : Nat} (h : V.take k = V'.take k) {t : aF} (hk : pY N t < k) (hin : t.1 = 1 -> t.2.1 ∈ N) : kF N V t = kF N V' t := by
 unfold kF
 split
 ·rename_i h1
  refine aB4 h ?_
  unfold pY at hk
  rw [if_pos ⟨h1, bW.2 (hin h1)⟩] at hk
  omega
 ·rfl
theorem aHp {N V V' : List ByteArray} {R : aE} {l : aJ} {k : Nat} (h : V.take k = V'.take k) (h1 : l.1 ≠ 1) (hk : fJ N l < k) (hin : l.1 ≠ 2 -> (leftOf l).1 = 1 -> (leftOf l).2.1 ∈ N) (hin2 : l.1 ≠ 2 -> (aL l).1 = 1 -> (aL l).2.1 ∈ N) : gG N V R l ↔ gG N V' R l := by
 unfold gG
 rw [if_neg h1, if_neg h1]
 by_cases h2 : l.1 = 2
 ·rw [if_pos h2, if_pos h2]
  unfold fJ at hk
  rw [if_pos h2] at hk
  have e : (aN N (aA l)).map (aY V) = (aN N (aA l)).map (aY V') := by
   refine List.map_congr_left fun v hv => aB4 h ?_
   obtain ⟨j, hj⟩ := List.mem_iff_getElem?.1 hv
   have hjl := List.getElem?_eq_some_iff.1 hj
   have hlast : (aN N (aA l)).getLast? = (aN N (aA l))[(aN N (aA l)).length - 1]? := List.getLast?_eq_getElem?
   obtain ⟨u, hu⟩ : ∃ u, (aN N (aA l))[(aN N (aA l)).length - 1]? = some u := ⟨_, qG (by have := hjl.1; omega)⟩
   rw [hlast, hu] at hk
   have hul := List.getElem?_eq_some_iff.1 hu
   have hk' : (u : Int) < k := hk
   rcases Nat.lt_or_ge j ((aN N (aA l)).length - 1) with h3 | h3
   ·have := List.pairwise_iff_getElem.1 (wU N (aA l)) j _ hjl.1 hul.1 h3
    rw [hjl.2, hul.2] at this
    omega
   ·have : j = (aN N (aA l)).length - 1 := by have := hjl.1; omega
    subst this
    rw [hj] at hu; cases hu
    omega
  rw [e]
 ·rw [if_neg h2, if_neg h2]
  unfold fJ at hk
  rw [if_neg h2] at hk
  rw [aAj h (by omega) (hin h2), aAj h (by omega) (hin2 h2)]
theorem tK {N : List ByteArray} {l : aJ} : fJ N l < N.length := by
 have hi : ∀ t, pY N t < N.length := fun t => by
  unfold pY
  split
  ·rename_i h
   have := (List.getElem?_eq_some_iff.1 (aIx (bW.1 h.2))).1
   omega
  ·omega
 unfold fJ
 split
 ·split
  ·rename_i v hv
   have := (cG.1 (List.mem_of_getLast? hv)).1
   omega
  ·omega
 ·have h1 := hi (leftOf l)
  have h2 := hi (aL l)
  omega
end Go.Proofs.YtinnmeiphbdogaaGreat
/- slices.Index at texts and at terms, to the place. -/
namespace Go.Proofs.YtinnmeiphbdogaaGreat
open Go.RowKit
def dA {α : Type} (q : α -> Bool) (l : List α) : Int := if l.any q = true then ((l.findIdx q : Nat) : Int) else -1
theorem yK {α : Type} {q : α -> Bool} {l : List α} {i : Nat} {u : α} (hno : ∀ (j : Nat) x, j < i -> l[j]? = some x -> q x = false) (hi : l[i]? = some u) (hq : q u = true) : dA q l = i := by
 unfold dA
 rw [if_pos (nK hi hq)]
 have hl := List.getElem?_eq_some_iff.1 hi
 congr 1
 have h1 : l.findIdx q ≤ i := by
  refine Nat.not_lt.1 fun h => ?_
  have := List.not_of_lt_findIdx h
  rw [hl.2, hq] at this
  exact absurd this (by simp)
 rcases Nat.lt_or_eq_of_le h1 with h2 | h2
 ·have h3 : l.findIdx q < l.length := Nat.lt_trans h2 hl.1
  have h4 := List.findIdx_getElem (w := h3)
  rw [hno _ _ h2 (qG h3)] at h4
  cases h4
 ·exact h2
theorem sH {α : Type} {q : α -> Bool} {l : List α} (hno : ∀ (j : Nat) x, j < l.length -> l[j]? = some x -> q x = false) : dA q l = -1 := by
 unfold dA
 rw [rK rfl hno]; rfl
set_option maxRecDepth 100000 in
set_option maxHeartbeats 1000000 in
theorem sF (ss : List ByteArray) (s : ByteArray) (ao : Option Addr) (n cap : Nat) (w : World) (hn : n = ss.length) (h : CellsAt w ao (strs ss)) (hl : n ≤ 4611686018427387904) :
 Calls Tryz.prog 75 #[.slice ao n cap, .string s] w (RetN w fun w' v => v = .int .i64 (dA (fun x => decide (x = s)) ss)) := by
 have HN := qH hn; have HE := qH h; clear hn h
 go_enter Tryz.func75, Tryz.ntmps75
 go_wp2
 go_loopw [8] (fun iv wr => aKm w ss s n iv wr) (fun iv _ => n - (intOf iv).toNat)
 case atStart => exact ⟨0, Nat.zero_le _, rfl, fun j u h => by omega, Kp.refl w⟩
 case round =>
  obtain ⟨i, hi, rfl, hno, hex⟩ := hrel
  by_cases hlt : i < n
  ·have hlt' : i < ss.length := by rw [<- HN.out]; exact hlt
   obtain ⟨b, off, eao, hc0⟩ := (HE.out.ext hex.out).str hlt'
   subst eao
   have ht : ss[i]? = some ss[i] := qG hlt'
   generalize ss[i] = u at *
   by_cases hu : s = u
   ·have HT := qH (And.intro ht hu)
    clear ht hlt'
    subst hu
    have hb := str_eq s
    go_wp2
    go_ret
    exact RetN.mk hex.out (by rw [yK hno.out HT.out.1 (by simp)]; rfl)
   ·have HT := qH (And.intro ht hu)
    have hb := iZ hu
    clear ht hlt' hu
    go_wp2
    go_roundw
    case rel =>
     refine ⟨i + 1, by omega, by first | rfl | (congr 1; done) | (congr 1; omega), fun j u hj hu => ?_, hex⟩
     by_cases e : j = i
     ·subst e; rw [HT.out.1] at hu; cases hu; exact decide_eq_false (fun e => HT.out.2 e.symm)
     ·exact hno.out j u (by omega) hu
    case measure => simp [intOf]; omega
  ·go_wp2
   go_ret
   exact RetN.mk hex.out (by rw [sH fun j u hj => hno.out j u (by have := HN.out; omega)]; rfl)
def isT (k : Int) (s : ByteArray) (t : aF) : Bool := decide (t.1 = k /\ t.2.1 = s)
def NoneX (w0 : World) (ts : List aF) (q : aF -> Bool) (n : Nat) (iv : Value) (w : World) : Prop := ∃ i : Nat, i ≤ n /\ iv = .int .i64 i /\ Hid (∀ (j : Nat) u, j < i -> ts[j]? = some u -> q u = false) /\ Hid (Ext w0 w)
set_option maxRecDepth 100000 in
set_option maxHeartbeats 2000000 in
theorem mX (ts : List aF) (k : Int) (s : ByteArray) (ao : Option Addr) (n cap : Nat) (w : World) (G : Nat -> Prop) (hn : n = ts.length) (h : aQ w G ao ts) (hl : n ≤ 1048576) :
 Calls Tryz.prog 150 #[.slice ao n cap, iX k s] w (RetN w fun w' v => v = .int .i64 (dA (isT k s) ts)) := by
 have HN := qH hn; have HE := qH h; clear hn h
 go_enter Tryz.func150, Tryz.ntmps150
 obtain ⟨w1, e1⟩ : ∃ w1, w.alloc (.cells #[.int .i64 k, .string s] 38) = w1 := ⟨_, rfl⟩
 obtain ⟨g0, eg0⟩ : ∃ g, w.heap.size = g := ⟨_, rfl⟩
 have hB : Blk w1 g0 [.int .i64 k, .string s] 38 := by rw [<- e1, <- eg0]; exact Blk.new w _ _
 have hx : Ext w w1 := by rw [<- e1]; exact (Kp.refl w).alloc _
 have H1 := qH (And.intro hx hB)
 clear hx hB
 go_wp2
 clear e1 eg0
 go_loopw [8] (fun iv wr => NoneX w1 ts (isT k s) n iv wr) (fun iv _ => n - (intOf iv).toNat)
 case atStart => exact ⟨0, Nat.zero_le _, rfl, fun j u h => by omega, Kp.refl w1⟩
 case round =>
  obtain ⟨i, hi, rfl, hno, hex⟩ := hrel
  by_cases hlt : i < n
  ·obtain ⟨t, ht⟩ : ∃ t, ts[i]? = some t := ⟨_, qG (by rw [<- HN.out]; exact hlt)⟩
   obtain ⟨b, off, eao, f0, f1, -, -⟩ := gR ((HE.out.ext H1.out.1).ext hex.out) ht
   subst eao
   have hB := H1.out.2.ext hex.out
   have b0 : wr.cell? ⟨g0, 0, none⟩ = some (.int .i64 k) := by rw [hB.cell']; rfl
   have b1 : wr.cell? ⟨g0, 1, none⟩ = some (.string s) := by rw [hB.cell']; rfl
   obtain ⟨kt, st, ⟨⟩⟩ := t
   simp only at f0 f1
   clear hB
   by_cases hq : kt = k /\ st = s
   ·have HT := qH (And.intro ht (show isT k s (kt, st, ()) = true from decide_eq_true hq))
    obtain ⟨rfl, rfl⟩ := hq
    have hb := str_eq st
    clear ht
    go_wp2
    go_quiet (fail)
    go_wp2
    go_ret
    exact RetN.mk ((H1.out.1.trans hex.out).drewN _) (by rw [yK hno.out HT.out.1 HT.out.2]; rfl)
   ·have HT := qH (And.intro ht (show isT k s (kt, st, ()) = false from decide_eq_false hq))
    clear ht
    by_cases h1 : k = kt
    ·subst h1
     have hb := iZ (a := s) (b := st) (fun e => hq ⟨rfl, e.symm⟩)
     have hb2 : (k == k) = true := by simp
     clear hq
     go_wp2
     go_quiet (fail)
     go_wp2
     go_roundw
     case rel =>
      refine ⟨i + 1, by omega, by first | rfl | (congr 1; done) | (congr 1; omega), fun j u hj hu => ?_, qH (hex.out.drewN _)⟩
      by_cases e : j = i
      ·subst e; rw [HT.out.1] at hu; cases hu; exact HT.out.2
      ·exact hno.out j u (by omega) hu
     case measure => simp [intOf]; omega
    ·have hb : (k == kt) = false := by simp [h1]
     clear hq h1
     go_wp2
     go_quiet (fail)
     go_wp2
     go_roundw
     case rel =>
      refine ⟨i + 1, by omega, by first | rfl | (congr 1; done) | (congr 1; omega), fun j u hj hu => ?_, qH (hex.out.drewN _)⟩
      by_cases e : j = i
      ·subst e; rw [HT.out.1] at hu; cases hu; exact HT.out.2
      ·exact hno.out j u (by omega) hu
     case measure => simp [intOf]; omega
  ·go_wp2
   go_ret
   exact RetN.mk (H1.out.1.trans hex.out) (by rw [sH fun j u hj => hno.out j u (by have := HN.out; omega)]; rfl)
set_option maxRecDepth 100000 in
theorem vW (ts : List aF) (k : Int) (s : ByteArray) (ao : Option Addr) (n cap : Nat) (w : World) (G : Nat -> Prop) (hn : n = ts.length) (h : aQ w G ao ts) (hl : n ≤ 1048576) :
 Calls Tryz.prog 148 #[.slice ao n cap, iX k s] w (RetN w fun w' v => v = .bool (ts.any (isT k s))) := by
 have HI := qH (fun W (hW : Ext w W) => mX ts k s ao n cap W G hn (h.ext hW) hl)
 clear hn h hl
 go_enter Tryz.func148, Tryz.ntmps148
 obtain ⟨w1, e1⟩ : ∃ w1, w.alloc (.cells #[.int .i64 k, .string s] 38) = w1 := ⟨_, rfl⟩
 obtain ⟨g0, eg0⟩ : ∃ g, w.heap.size = g := ⟨_, rfl⟩
 have hB : Blk w1 g0 [.int .i64 k, .string s] 38 := by rw [<- e1, <- eg0]; exact Blk.new w _ _
 have hx : Ext w w1 := by rw [<- e1]; exact (Kp.refl w).alloc _
 have b0 : w1.cell? ⟨g0, 0, none⟩ = some (.int .i64 k) := by rw [hB.cell']; rfl
 have b1 : w1.cell? ⟨g0, 1, none⟩ = some (.string s) := by rw [hB.cell']; rfl
 have H1 := qH hx
 clear hx hB
 go_wp2_with fail
 refine (HI.out w1 H1.out).mono ?_
 rintro e w2 ⟨v, rfl, hk, rfl⟩
 go_wp2
 go_ret
 refine RetN.mk (H1.out.trans hk) (congrArg Value.bool ?_)
 unfold dA
 cases h2 : ts.any (isT k s)
 ·simp
 ·simp
end Go.Proofs.YtinnmeiphbdogaaGreat
/- Bases in plain Lean: what relations make, in whatever order; what is told of a base. No program in sight. -/
namespace Go.Proofs.YtinnmeiphbdogaaGreat
theorem aDr : BaseOk [] := ⟨List.nodup_nil, fun p hp => by simp at hp, Nat.zero_le _⟩
def cQ (a b : ByteArray) : Int := bB a.toList b.toList
theorem kU : OrdLaw cQ := ⟨fun x y => by
 have := fW x.toList y.toList
 unfold cQ; omega, fun x y z => by
 intro h1 h2
 have := lS (xs := [x]) (ys := [y]) (zs := [z])
 have e : ∀ a b : ByteArray, aC [a] [b] = cQ a b := fun a b => by
  unfold cQ
  simp only [aC]
  split
  ·rfl
  ·rename_i h; rw [Classical.not_not.1 h]
 rw [e, e, e] at this
 exact this h1 h2⟩
end Go.Proofs.YtinnmeiphbdogaaGreat
/- tuple.Base: put, NewBase, Len. -/
namespace Go.Proofs.YtinnmeiphbdogaaGreat
open Go.RowKit
section
variable {w w' : World} {bb r : Nat} {n : Int} {m : List (ByteArray × Value)}
theorem fY (hB : Blk w bb [.map (some r), .int .i64 n] 129) (hm : MapIs w r m) (s : ByteArray) (p : Option Addr) :
 Calls Tryz.prog 89 #[.pointer (some ⟨bb, 0, none⟩), .string s, .pointer p] w (RetF (fun k => k = r) w fun w' v => MapIs w' r (oE m s (.pointer p))) := by
 have c0 : w.cell? ⟨bb, 0, none⟩ = some (.map (some r)) := by rw [hB.cell']; rfl
 obtain ⟨w2, hrun, hm2, hk2⟩ := uC (P := Tryz.prog) Tryz.underlying127 Tryz.underlying9 hm s (.pointer p)
 have hq : ∀ w : World, (binOp .eql 127 (.map (some r)) (.map none)).run Tryz.prog w = .ok (.bool false) w := fun w => by kernel_rfl
 have HM := qH (And.intro hm2 hk2)
 clear hB hm hm2 hk2
 go_enter Tryz.func89, Tryz.ntmps89
 go_wp2
 go_end0
 exact RetF.mk HM.out.2 HM.out.1
theorem aBm (w : World) : Calls Tryz.prog 106 #[] w (RetN w fun w' v => v = .pointer (some ⟨w.heap.size + 1, 0, none⟩) /\ Blk w' (w.heap.size + 1) [.map (some w.heap.size), .int .i64 0] 129 /\ MapIs w' w.heap.size []) := by
 have hmm := @run_makeMap Tryz.prog
 go_enter Tryz.func106, Tryz.ntmps106
 go_wp2
 go_ret
 have hB := Blk.new (w.alloc (.map #[] 0)) [.map (some w.heap.size), .int .i64 0] 129
 rw [aK] at hB
 exact RetN.mk (((Kp.refl w).alloc _).alloc _) ⟨rfl, hB, (MapIs.new w).ext ((Kp.refl _).alloc _)⟩
theorem aCq (hB : Blk w bb [.map (some r), .int .i64 n] 129) : Calls Tryz.prog 60 #[.pointer (some ⟨bb, 0, none⟩)] w (Ret (.int .i64 n) w) := by
 have c0 : w.cell? ⟨bb, 1, none⟩ = some (.int .i64 n) := by rw [hB.cell']; rfl
 clear hB
 go_enter Tryz.func60, Tryz.ntmps60
 go_wp2
 go_ret
 exact Ret.mk rfl
end
end Go.Proofs.YtinnmeiphbdogaaGreat
/- tuple.Rows whose order may still be nil (a zero value): set lays it; Len, Has, Below, At, Arity, Drop. -/
namespace Go.Proofs.YtinnmeiphbdogaaGreat
open Go.RowKit
def RowsQ (z : Prop) (S : Nat -> Prop) (w : World) (b : Nat) (iv : Value) (arity : Nat) (LL : List (List ByteArray)) : Prop :=
 RowsAt S w b iv arity LL \/ (z /\ iv = .slice none 0 0 /\ LL = [] /\ Blk w b [.nilFunc, .slice none 0 0, .int .i64 arity] 135 /\ (∀ k, S k -> k < w.heap.size) /\ ¬ S b)
abbrev FQ (z : Prop) (b : Nat) : Nat -> Prop := fun k => z /\ k = b
theorem FQ.owns {z : Prop} {b : Nat} {iv : Value} : ∀ k, FQ z b k -> fZ b iv k := fun k h => .inl h.2
theorem Kp.fq {b : Nat} {w w' : World} (h : Kp (FQ False b) w w') : Ext w w' := h.mono fun _ _ h => h.1
section
variable {z : Prop} {S : Nat -> Prop} {w w' : World} {b : Nat} {iv : Value} {arity : Nat} {LL : List (List ByteArray)}
theorem RowsAt.q (h : RowsAt S w b iv arity LL) : RowsQ z S w b iv arity LL := .inl h
theorem RowsQ.kp {F : Nat -> Prop} (h : RowsQ z S w b iv arity LL) (hk : Kp F w w') (hF : ∀ k, F k -> ¬ fZ b iv k) (hS : ∀ k, F k -> ¬ S k) : RowsQ z S w' b iv arity LL := by
 rcases h with h | ⟨hz, e, el, hB, h1, h2⟩
 ·exact .inl (h.move hk hF hS (fun _ h => h) (fun k hk' => Nat.lt_of_lt_of_le (h.inS k hk') hk.size) h.notS)
 ·exact .inr ⟨hz, e, el, hB.kp hk (fun hf => hF _ hf (.inl rfl)), fun k hk' => Nat.lt_of_lt_of_le (h1 k hk') hk.size, h2⟩
theorem RowsQ.ext (h : RowsQ z S w b iv arity LL) (hk : Ext w w') : RowsQ z S w' b iv arity LL := h.kp hk (fun _ x => x.elim) (fun _ x => x.elim)
theorem RowsQ.blk' (h : RowsQ z S w b iv arity LL) : ∃ ov, Blk w b [ov, iv, .int .i64 arity] 135 := by
 rcases h with h | ⟨_, e, _, hB, _⟩
 ·exact ⟨_, h.blk⟩
 ·exact ⟨_, by rw [e]; exact hB⟩
theorem RowsQ.lt (h : RowsQ z S w b iv arity LL) : b < w.heap.size := by obtain ⟨ov, h⟩ := h.blk'; exact h.lt
theorem RowsQ.ar (h : RowsQ z S w b iv arity LL) : w.cell? ⟨b, 2, none⟩ = some (.int .i64 arity) := by obtain ⟨ov, h⟩ := h.blk'; rw [h.cell']; rfl
theorem RowsQ.inS (h : RowsQ z S w b iv arity LL) : ∀ k, S k -> k < w.heap.size := by
 rcases h with h | ⟨_, _, _, _, h, _⟩
 ·exact h.inS
 ·exact h
theorem qW (h : RowsQ z S w b iv arity LL) :
 Calls Tryz.prog 99 #[.pointer (some ⟨b, 0, none⟩)] w (RetF (FQ z b) w fun w' v => v = .pointer (some ⟨b, 0, none⟩) /\ RowsAt S w' b iv arity LL) := by
 rcases h with h | ⟨hz, rfl, rfl, hB, h1, h2⟩
 ·refine (gU h).mono ?_
  rintro e w' ⟨rfl, rfl⟩
  exact RetF.mk (Kp.refl _) ⟨rfl, h⟩
 ·have c0 : w.cell? ⟨b, 0, none⟩ = some .nilFunc := by rw [hB.cell']; rfl
  have f0 := hB.free 0
  have hq : ∀ w : World, (binOp .eql 131 .nilFunc .nilFunc).run Tryz.prog w = .ok (.bool true) w := fun _ => by kernel_rfl
  have HB := qH (And.intro hB (And.intro h1 h2))
  have HZ := qH hz
  clear hB h1 h2 hz
  go_enter Tryz.func99, Tryz.ntmps99
  go_wp2
  go_ret
  obtain ⟨hB, h1, h2⟩ := HB.out
  have hset := hB.set 0 (.func (Fn.func 124) #[] #[])
  have hk : Kp (FQ z b) w (w.setCell ⟨b, 0, none⟩ (.func (Fn.func 124) #[] #[])) := Kp.setCell (Kp.refl w) (fun _ => ⟨HZ.out, rfl⟩) _
  obtain ⟨con, hc⟩ := zV (w.setCell ⟨b, 0, none⟩ (.func (Fn.func 124) #[] #[]))
  refine RetF.mk hk ⟨rfl, con, [], hc, ⟨hset, Row.nil _ _ _ _, by simp [Value.ownBlock], fun k hk' => Nat.lt_of_lt_of_le (h1 k hk') hk.size, fun k ho hs => ?_, mL hc, by simp, by simp⟩, rfl⟩
  rcases ho with rfl | ho
  ·exact h2 hs
  ·cases ho
theorem iP (h : RowsQ z S w b iv arity LL) : Calls Tryz.prog 105 #[.pointer (some ⟨b, 0, none⟩)] w (RetF (FQ z b) w fun w' v => v = .int .i64 (LL.length : Nat) /\ RowsAt S w' b iv arity LL) := by
 have HS := qH (qW h); clear h
 go_enter Tryz.func105, Tryz.ntmps105
 go_wp2_with fail
 refine HS.out.mono ?_
 rintro e w1 ⟨v, rfl, hk, rfl, h1⟩
 have HK := qH (And.intro hk h1)
 obtain ⟨con, zs, hc, hs, hl⟩ := h1
 have HS1 := qH hs
 have HL := qH (show zs.length = LL.length by rw [<- hl]; simp)
 clear hk hs hc hl
 go_wp2_with fail
 refine (oI HS1.out).mono ?_
 rintro e w' ⟨rfl, rfl⟩
 go_wp2
 go_ret
 exact RetF.mk HK.out.1 ⟨by rw [<- HL.out]; rfl, HK.out.2⟩
theorem RowIn.kp {F : Nat -> Prop} {x : iN} {ss : List ByteArray} (h : RowIn w x ss) (hk : Kp F w w') (ho : jL x F) : RowIn w' x ss :=
 ⟨⟨h.1.1, fun i u hu => by
  have hne : x.2.1 ≠ 0 := by
   have h1 := (List.getElem?_eq_some_iff.1 hu).1
   simp only [strs, List.length_map] at h1
   rw [h.1.1]; omega
  obtain ⟨b, o, e, c⟩ := h.1.2 i u hu
  exact ⟨b, o, e, hk.cell c (ho _ e hne)⟩⟩, h.2.1, fun a e hne => Nat.lt_of_lt_of_le (h.2.2 a e hne) hk.size⟩
theorem aF4 (h : RowsQ z S w b iv arity LL) (hst : Strict aC LL) {x : iN} {ss : List ByteArray} (hx : RowIn w x ss) (ho : jL x (fZ b iv)) :
 Calls Tryz.prog 87 #[.pointer (some ⟨b, 0, none⟩), .slice x.1 x.2.1 x.2.2] w (RetF (FQ z b) w fun w' v => v = .bool (bF aC LL ss) /\ RowsAt S w' b iv arity LL) := by
 have HS := qH (qW h); clear h
 have HX := qH (And.intro hst (And.intro hx ho)); clear hst hx ho
 go_enter Tryz.func87, Tryz.ntmps87
 go_wp2_with fail
 refine HS.out.mono ?_
 rintro e w1 ⟨v, rfl, hk, rfl, h1⟩
 have hx1 := HX.out.2.1.kp hk (fun a e hne hf => HX.out.2.2 a e hne (.inl hf.2))
 obtain ⟨con, zs, hc, hs, hl, hd, ex, hz, e1, e2⟩ := h1.open HX.out.1 hx1 HX.out.2.2
 have HF := qH (oJ (lT con) x hd hz hs)
 rw [e1] at HF
 have HK := qH (And.intro hk h1)
 clear hc hs hl hd ex hz e1 e2 hk h1 hx1
 go_wp2_with fail
 refine HF.out.mono ?_
 rintro e w2 ⟨v, rfl, hk2, rfl⟩
 have HK2 := qH hk2; clear hk2
 go_wp2
 go_ret
 exact RetF.mk (HK.out.1.ext HK2.out) ⟨rfl, HK.out.2.ext HK2.out⟩
theorem aA1 (h : RowsQ z S w b iv arity LL) : Calls Tryz.prog 51 #[.pointer (some ⟨b, 0, none⟩)] w (Ret (.int .i64 arity) w) := by
 have c2 := h.ar
 clear h
 go_enter Tryz.func51, Tryz.ntmps51
 go_wp2
 go_ret
 exact Ret.mk rfl
end
end Go.Proofs.YtinnmeiphbdogaaGreat
/- tuple.Rows whose order may still be nil: Add. -/
namespace Go.Proofs.YtinnmeiphbdogaaGreat
open Go.RowKit
section
variable {z : Prop} {S : Nat -> Prop} {w w' : World} {b : Nat} {iv : Value} {arity : Nat} {LL : List (List ByteArray)}
def RowsAddedQ (z : Prop) (S : Nat -> Prop) (w : World) (b : Nat) (iv : Value) (arity : Nat) (LL : List (List ByteArray)) (ss : List ByteArray) (w' : World) (v : Value) : Prop :=
 v = .tuple #[.bool (aX arity LL ss).1, .int .i64 ((aX arity LL ss).2 : Nat)] /\
  ∃ S' iv', (∀ k, S k -> S' k) /\ (∀ k, S' k -> S k \/ w.heap.size ≤ k) /\ RowsQ z S' w' b iv' arity (bJ arity LL ss) /\ ∀ k, iv'.ownBlock = some k -> iv.ownBlock = some k \/ w.heap.size ≤ k
theorem RowsAddedQ.same (h : RowsQ z S w b iv arity LL) {ss : List ByteArray} {w1 : World} (hk : Ext w w1) {v : Value} (hv : v = .tuple #[.bool (aX arity LL ss).1, .int .i64 ((aX arity LL ss).2 : Nat)]) (h0 : bJ arity LL ss = LL) : RowsAddedQ z S w b iv arity LL ss w1 v :=
 ⟨hv, S, iv, fun _ h => h, fun _ h => .inl h, by rw [h0]; exact h.ext hk, fun _ h => .inl h⟩
set_option maxRecDepth 100000 in
set_option maxHeartbeats 2000000 in
theorem aF6 (h : RowsQ z S w b iv arity LL) (hst : Strict aC LL) {ao : Option Addr} {n cap : Nat} {ss : List ByteArray} (hx : RowIn w (ao, n, cap) ss) (ho : jL (ao, n, cap) (fZ b iv)) (hLL : LL.length + 1 ≤ 1048576 * 1048576) :
 Calls Tryz.prog 88 #[.pointer (some ⟨b, 0, none⟩), .slice ao n cap] w (RetF (fZ b iv) w (RowsAddedQ z S w b iv arity LL ss)) := by
 rcases h with h | h0
 ·refine (mN h hst hx ho hLL).mono ?_
  rintro e w' ⟨v, rfl, hk, e1, S', iv', h1, h2, h3, h4⟩
  exact RetF.mk hk ⟨e1, S', iv', h1, h2, .inl h3, h4⟩
 have eLL : LL = [] := h0.2.2.1
 have h : RowsQ z S w b iv arity LL := .inr h0
 clear h0
 subst eLL
 have hn : n = ss.length := hx.1.1
 have hcs : CellsAt w ao (strs ss) := hx.1.2
 have hl : ss.length ≤ 8796093021952 := hx.2.1
 have c2 : w.cell? ⟨b, 2, none⟩ = some (.int .i64 arity) := h.ar
 have HT := qH (qT ss ao n cap w hn hcs (by omega))
 have HLN := qH (fun w1 (hw : Ext w w1) => iP (h.ext hw))
 have hob : jL (ao, n, cap) (FQ z b) := fun a e hne hf => ho a e hne (.inl hf.2)
 have HCL := qH (fun w1 (hw : Kp (FQ z b) w w1) => iM (strs ss) ao cap w1 n (by simp [strs, hn]) (RowIn.kp hx hw hob).1.2 (kG ss) (by omega))
 have HP := qH (fun w0 w1 ao1 cap1 (h0 : RowsAt S w0 b iv arity []) (hk : Ext w0 w1) hr => aFd (w := w0) (w1 := w1) (ao := ao1) (n := n) (cap := cap1) h0 hst hk hr hn (by omega) hLL)
 have H := qH h
 have HN := qH hn
 clear h hst hx ho hcs hn hLL hob
 by_cases h1 : n = arity
 ·have q1 : ((n : Int) != (arity : Int)) = false := by simp [h1]
  have H1 := qH h1; clear h1
  cases ht : bP ss with
  | false =>
   have HTX := qH ht
   rw [ht] at HT; clear ht
   go_enter Tryz.func88, Tryz.ntmps88
   go_wp2_with fail
   refine HT.out.mono ?_
   rintro e w1 ⟨v, rfl, hk, rfl⟩
   have HK := qH hk; clear hk
   go_wp2
   go_ret2
   have e0 : aX arity [] ss = (false, 31) := by unfold aX; rw [if_neg (by rw [<- HN.out, H1.out]; simp), if_pos HTX.out]
   exact RetF.mk (Ext.kp HK.out) (RowsAddedQ.same H.out HK.out (by rw [e0]; rfl) (by unfold bJ; rw [e0]; rfl))
  | true =>
   have HTX := qH ht
   rw [ht] at HT; clear ht
   go_enter Tryz.func88, Tryz.ntmps88
   go_wp2_with fail
   refine HT.out.mono ?_
   rintro e w0 ⟨v, rfl, hk0, rfl⟩
   have HK0 := qH hk0; clear hk0
   go_wp2_with fail
   refine (HLN.out w0 HK0.out).mono ?_
   rintro e w1 ⟨v, rfl, hk1, rfl, hr1⟩
   have HK1 := qH (And.intro hk1 hr1); clear hk1 hr1
   go_wp2_with fail
   refine (gU HK1.out.2).mono ?_
   rintro e w' ⟨rfl, rfl⟩
   go_wp2_with fail
   refine (HCL.out w1 ((Ext.kp HK0.out).trans HK1.out.1)).mono ?_
   rintro e w2 ⟨v, rfl, hk2, hr2⟩
   obtain ⟨ao2, cap2, ev, _, _⟩ := hr2.shape
   subst ev
   go_wp2_with fail
   refine (HP.out w1 w2 ao2 cap2 HK1.out.2 hk2 hr2).mono ?_
   rintro e w3 ⟨v, rfl, hk3, rfl, iv', hrows, hiv⟩
   have HR := qH (And.intro hk3 (And.intro hrows hiv))
   have HB := qH (And.intro hk2 hr2.block)
   clear hk3 hrows hiv hr2 hk2
   go_wp2
   go_ret2
   have e0 : aX arity [] ss = (!bF aC [] ss, 0) := by unfold aX; rw [if_neg (by rw [<- HN.out, H1.out]; simp), if_neg (by rw [HTX.out]; simp), if_neg (fun h => by simp at h)]
   have z0 := HK0.out.size
   have z1 := HK1.out.1.size
   have z2 := HB.out.1.size
   refine RetF.mk ((((Ext.kp HK0.out).trans (HK1.out.1.mono fun k _ h => FQ.owns k h)).trans (Ext.kp HB.out.1)).trans HR.out.1) ⟨by rw [e0]; rfl, lJ S (ao2, n, cap2), iv', fun k h => .inl h, fun k h => ?_, .inl (by unfold bJ; rw [e0]; exact HR.out.2.1), fun k h => (HR.out.2.2 k h).imp id (fun h => by omega)⟩
   rcases h with h | ⟨a, e, _, rfl⟩
   ·exact .inl h
   ·have e' : ao2 = some a := e
    subst e'
    have := HB.out.2 a.block rfl
    exact .inr (by unfold New at this; omega)
 ·have q1 : ((n : Int) != (arity : Int)) = true := by rw [bne_iff_ne]; omega
  have HN1 := qH (show ss.length ≠ arity by have := HN.out; omega)
  clear h1
  go_enter Tryz.func88, Tryz.ntmps88
  go_wp2
  go_ret2
  have e0 : aX arity [] ss = (false, 30) := by unfold aX; rw [if_pos HN1.out]
  exact RetF.mk (Kp.refl _) (RowsAddedQ.same H.out (Kp.refl _) (by rw [e0]; rfl) (by unfold bJ; rw [e0]; rfl))
end
end Go.Proofs.YtinnmeiphbdogaaGreat
/- tuple.Rows whose order may still be nil: At. -/
namespace Go.Proofs.YtinnmeiphbdogaaGreat
open Go.RowKit
section
variable {z : Prop} {S : Nat -> Prop} {w w' : World} {b : Nat} {iv : Value} {arity : Nat} {LL : List (List ByteArray)}
end
end Go.Proofs.YtinnmeiphbdogaaGreat
/- Lists of rows in memory: such as can be read; such as are one's own. -/
namespace Go.Proofs.YtinnmeiphbdogaaGreat
open Go.RowKit
abbrev gJ := iN × List ByteArray
def fH (ps : List gJ) : List Value := ps.map fun p => .slice p.1.1 p.1.2.1 p.1.2.2
theorem xH (ps : List gJ) (k : Nat) (p : gJ) (h : ps[k]? = some p) : (fH ps)[k]? = some (.slice p.1.1 p.1.2.1 p.1.2.2) := by simp [fH, h]
theorem zJ (ps qs : List gJ) : fH (ps ++ qs) = fH ps ++ fH qs := by simp [fH]
def RowsIn (S : Nat -> Prop) (w : World) (ao : Option Addr) (LL : List (List ByteArray)) : Prop :=
 ∃ ps : List gJ, LL = ps.map Prod.snd /\ CellsAt w ao (fH ps) /\ (∀ a, ao = some a -> S a.block) /\
  ∀ p ∈ ps, ReadsAs w p.1 p.2 /\ p.2.length ≤ 8796093021952 /\ ∀ a, p.1.1 = some a -> S a.block
def OwnRows (lo : Nat) (w : World) (v : Value) (LL : List (List ByteArray)) : Prop :=
 ∃ ps : List gJ, LL = ps.map Prod.snd /\ Row w 34 1 v ps.length (fH ps) (fun g => lo ≤ g) /\
  (∀ p ∈ ps, Row w 9 1 (.slice p.1.1 p.1.2.1 p.1.2.2) p.2.length (strs p.2) (fun g => lo ≤ g) /\ p.2.length ≤ 8796093021952) /\
  ps.Pairwise fun p q => ∀ g, (Value.slice p.1.1 p.1.2.1 p.1.2.2).ownBlock = some g -> (Value.slice q.1.1 q.1.2.1 q.1.2.2).ownBlock ≠ some g
section
variable {S S' : Nat -> Prop} {w w' : World} {ao : Option Addr} {LL : List (List ByteArray)} {v : Value} {lo : Nat}
theorem RowsIn.kp {F : Nat -> Prop} (h : RowsIn S w ao LL) (hk : Kp F w w') (hF : ∀ k, F k -> ¬ S k) : RowsIn S w' ao LL := by
 obtain ⟨ps, h1, h2, h3, h4⟩ := h
 exact ⟨ps, h1, h2.kp hk (fun a e hf => hF _ hf (h3 a e)), h3, fun p hp => ⟨⟨(h4 p hp).1.1, (h4 p hp).1.2.kp hk (fun a e hf => hF _ hf ((h4 p hp).2.2 a e))⟩, (h4 p hp).2⟩⟩
theorem RowsIn.ext (h : RowsIn S w ao LL) (hk : Ext w w') : RowsIn S w' ao LL := h.kp hk fun _ x => x.elim
theorem RowsIn.get (h : RowsIn S w ao LL) {k : Nat} {ss : List ByteArray} (hk : LL[k]? = some ss) :
 ∃ g o x cap, ao = some ⟨g, o, none⟩ /\ w.cell? ⟨g, o + k, none⟩ = some (.slice x ss.length cap) /\ CellsAt w x (strs ss) /\ ss.length ≤ 8796093021952 /\ ∀ a, x = some a -> S a.block := by
 obtain ⟨ps, rfl, h2, h3, h4⟩ := h
 rw [List.getElem?_map] at hk
 cases hp : ps[k]? with
 | none => rw [hp] at hk; cases hk
 | some p =>
  rw [hp] at hk; cases hk
  obtain ⟨g, o, e, c⟩ := h2 k _ (xH ps k p hp)
  obtain ⟨⟨h5, h6⟩, h7, h8⟩ := h4 p (List.mem_of_getElem? hp)
  exact ⟨g, o, p.1.1, p.1.2.2, e, by rw [c, h5], h6, h7, h8⟩
theorem Row.has {e : TypeId} {k : Nat} {n : Nat} {xs : List Value} {M : Nat -> Prop} (h : Row w e k v n xs M) {g : Nat} (hg : v.ownBlock = some g) : ∃ cs, Blk w g cs e /\ n * k ≤ cs.length /\ M g := by
 obtain ⟨h1, ⟨rfl, rfl⟩ | ⟨g', cap, rest, rfl, b, c, d, e, f⟩⟩ := h
 ·cases hg
 ·cases hg
  exact ⟨_, c, by simp at d ⊢; omega, b⟩
theorem Row.sort_ne {e e' : TypeId} {k k' : Nat} {n n' : Nat} {xs xs' : List Value} {M M' : Nat -> Prop} {v' : Value} (h : Row w e k v n xs M) (h' : Row w e' k' v' n' xs' M') (he : e ≠ e') {g : Nat} (hg : v.ownBlock = some g) : v'.ownBlock ≠ some g := by
 intro hg'
 obtain ⟨cs, hb, _⟩ := h.has hg
 obtain ⟨cs', hb', _⟩ := h'.has hg'
 unfold Blk at hb hb'
 rw [hb] at hb'
 simp only [Option.some.injEq, Obj.cells.injEq] at hb'
 exact he hb'.2.1
theorem OwnRows.nil (lo : Nat) (w : World) : OwnRows lo w (.slice none 0 0) [] := ⟨[], rfl, Row.nil _ _ _ _, by simp, List.Pairwise.nil⟩
theorem OwnRows.kp {F : Nat -> Prop} (h : OwnRows lo w v LL) (hk : Kp F w w') (hF : ∀ g, lo ≤ g -> ¬ F g) : OwnRows lo w' v LL := by
 obtain ⟨ps, h1, h2, h3, h4⟩ := h
 exact ⟨ps, h1, h2.kp hk hF, fun p hp => ⟨(h3 p hp).1.kp hk hF, (h3 p hp).2⟩, h4⟩
theorem OwnRows.ext (h : OwnRows lo w v LL) (hk : Ext w w') : OwnRows lo w' v LL := h.kp hk fun _ _ => id
theorem OwnRows.mono {lo' : Nat} (h : OwnRows lo w v LL) (hl : lo' ≤ lo) : OwnRows lo' w v LL := by
 obtain ⟨ps, h1, h2, h3, h4⟩ := h
 exact ⟨ps, h1, Row.mono h2 fun g hg => Nat.le_trans hl hg, fun p hp => ⟨Row.mono (h3 p hp).1 fun g hg => Nat.le_trans hl hg, (h3 p hp).2⟩, h4⟩
theorem Row.readsAs {e : TypeId} {x : iN} {ss : List ByteArray} {M : Nat -> Prop} (h : Row w e 1 (.slice x.1 x.2.1 x.2.2) ss.length (strs ss) M) : ReadsAs w x ss /\ ∀ a, x.1 = some a -> M a.block /\ a.block < w.heap.size := by
 have hb := h.block
 have hl := h.lt
 obtain ⟨ao, cap, e, hc, _⟩ := h.shape
 obtain ⟨x1, x2, x3⟩ := x
 simp only [Value.slice.injEq] at e
 obtain ⟨rfl, e2, rfl⟩ := e
 refine ⟨⟨e2, hc⟩, fun a ea => ?_⟩
 simp only at ea
 subst ea
 exact ⟨hb a.block rfl, hl a.block rfl⟩
theorem OwnRows.shape (h : OwnRows lo w v LL) : ∃ ao cap, v = .slice ao LL.length cap /\ RowsIn (fun g => lo ≤ g /\ g < w.heap.size) w ao LL := by
 obtain ⟨ps, rfl, h2, h3, h4⟩ := h
 have hb := h2.block
 have hl := h2.lt
 obtain ⟨ao, cap, rfl, hc, _⟩ := h2.shape
 refine ⟨ao, cap, by simp, ps, rfl, hc, fun a e => ?_, fun p hp => ?_⟩
 ·subst e; exact ⟨hb a.block rfl, hl a.block rfl⟩
 ·obtain ⟨h5, h6⟩ := h3 p hp
  exact ⟨h5.readsAs.1, h6, fun a e => h5.readsAs.2 a e⟩
theorem OwnRows.push {ps : List gJ} (h2 : Row w 34 1 v ps.length (fH ps) (fun g => lo ≤ g))
 (h3 : ∀ p ∈ ps, Row w 9 1 (.slice p.1.1 p.1.2.1 p.1.2.2) p.2.length (strs p.2) (fun g => lo ≤ g) /\ p.2.length ≤ 8796093021952)
 (h4 : ps.Pairwise fun p q => ∀ g, (Value.slice p.1.1 p.1.2.1 p.1.2.2).ownBlock = some g -> (Value.slice q.1.1 q.1.2.1 q.1.2.2).ownBlock ≠ some g)
 {B : Nat} (hB : ∀ p ∈ ps, ∀ g, (Value.slice p.1.1 p.1.2.1 p.1.2.2).ownBlock = some g -> g < B) (hlo : lo ≤ B) {x : iN} {ss : List ByteArray} (hx : Row w 9 1 (.slice x.1 x.2.1 x.2.2) ss.length (strs ss) (fun g => B ≤ g)) (hss : ss.length ≤ 8796093021952)
 {v' : Value} (hr : Row w' 34 1 v' (ps.length + 1) (fH ps ++ [.slice x.1 x.2.1 x.2.2]) (fun g => lo ≤ g)) (hk : Kp (fun g => v.ownBlock = some g) w w') : OwnRows lo w' v' (ps.map Prod.snd ++ [ss]) := by
 have hne : 9 ≠ 34 := by decide
 refine ⟨ps ++ [(x, ss)], by simp, ?_, fun p hp => ?_, ?_⟩
 ·rw [zJ]; simpa [fH] using hr
 ·rcases List.mem_append.1 hp with hp | hp
  ·exact ⟨(h3 p hp).1.kp' hk fun g hg _ hf => (h3 p hp).1.sort_ne h2 hne hg hf, (h3 p hp).2⟩
  ·obtain rfl := List.mem_singleton.1 hp
   exact ⟨Row.mono (hx.kp' hk fun g hg _ hf => hx.sort_ne h2 hne hg hf) fun g hg => Nat.le_trans hlo hg, hss⟩
 ·refine List.pairwise_append.2 ⟨h4, List.pairwise_singleton _ _, fun p hp q hq g hg hg' => ?_⟩
  obtain rfl := List.mem_singleton.1 hq
  have h1 := hB p hp g hg
  have h2 : B ≤ g := hx.block g hg'
  omega
end
end Go.Proofs.YtinnmeiphbdogaaGreat
/- tuple.Rows: All: the rows, each in memory of its own. -/
namespace Go.Proofs.YtinnmeiphbdogaaGreat
open Go.RowKit Go.Shelf
attribute [local go_sem] Oper.semAt_some
def GotRows {α : Type} (f : α -> List ByteArray) (m : Nat) (w0 : World) (b : Nat) (pre : List α) (W : World) : Prop :=
 pre.length ≤ m /\ Kp (fun g => g = b) w0 W /\ ∃ v, Blk W b [v] 69 /\ OwnRows w0.heap.size W v (pre.map f)
theorem OwnRows.grown {lo : Nat} {W W' : World} {v : Value} {LL : List (List ByteArray)} {row : Option Nat} (h : OwnRows lo W v LL) (hg : W.grownBy W' row) (hr : ∀ r, row = some r -> ∃ o : Obj, W.heap[r]? = some o /\ o.isCells = false) : OwnRows lo W' v LL := by
 obtain ⟨ps, h1, h2, h3, h4⟩ := h
 exact ⟨ps, h1, h2.grown hg hr, fun p hp => ⟨(h3 p hp).1.grown hg hr, (h3 p hp).2⟩, h4⟩
theorem OwnRows.kpc {F : Nat -> Prop} {lo : Nat} {w w' : World} {v : Value} {LL : List (List ByteArray)} (h : OwnRows lo w v LL) (hk : Kp F w w') (hF : ∀ g, F g -> ¬ ∃ o : Obj, w.heap[g]? = some o /\ o.isCells = true) : OwnRows lo w' v LL := by
 obtain ⟨ps, h1, h2, h3, h4⟩ := h
 have key : ∀ {e : TypeId} {k n : Nat} {v : Value} {xs : List Value} {M : Nat -> Prop}, Row w e k v n xs M -> Row w' e k v n xs M := fun h => h.kp' hk fun g hg _ hf => by
  obtain ⟨cs, hb, _⟩ := h.has hg
  exact hF g hf ⟨_, hb, rfl⟩
 exact ⟨ps, h1, key h2, fun p hp => ⟨key (h3 p hp).1, (h3 p hp).2⟩, h4⟩
theorem GotRows.own {α : Type} {f : α -> List ByteArray} {m : Nat} {w0 : World} {b B : Nat} (hB : w0.heap.size ≤ B) : OwnFrom B (GotRows f m w0 b) := fun pre W W' row hs hg hr => by
 obtain ⟨h1, h2, v, h3, h4⟩ := hs
 refine ⟨h1, h2.grown hg fun k e hk => ?_, v, h3.grown hg fun r e => (hr r e).2, h4.grown hg fun r e => (hr r e).2⟩
 have := (hr k e).1
 omega
theorem KeepsOthers.of_ext {W W' : World} (h : Ext W W') : KeepsOthers W W' := ⟨h.size, fun k o hk _ => (h.block k (lt_of_block hk) id).trans hk⟩
theorem jS {α : Type} {f : α -> List ByteArray} {m : Nat} {w0 X X1 : World} {B : Nat} {ao : Option Addr} {n cap : Nat} {pre : List α} {x : iN} {ss : List ByteArray} (hm : pre.length ≤ m /\ m ≤ 1048576 * 1048576) (hpk : Kp (fun g => g = B) w0 X) (hBlt : B < w0.heap.size)
 (hB : Blk X B [.slice ao n cap] 69) (hr : OwnRows w0.heap.size X (.slice ao n cap) (pre.map f)) (hk : Ext X X1) (hx : Row X1 9 1 (.slice x.1 x.2.1 x.2.2) ss.length (strs ss) (New X)) (hss : ss.length ≤ 8796093021952) :
 ∃ ao3 n3 cap3 w3, (Builtin.append_ #[69, 69] 69 #[.slice ao n cap, .slice (some ⟨X1.heap.size, 0, none⟩) 1 1]).run Tryz.prog (X1.alloc (.cells #[.slice x.1 x.2.1 x.2.2] 34)) = .ok (.slice ao3 n3 cap3) w3 /\
  w3.cell? ⟨B, 0, none⟩ = some (.slice ao n cap) /\ w3.frozen? ⟨B, 0, none⟩ = false /\ ∀ y, f y = ss -> KeepsOthers X (w3.setCell ⟨B, 0, none⟩ (.slice ao3 n3 cap3)) /\ Kp (fun g => g = B \/ w0.heap.size ≤ g) X (w3.setCell ⟨B, 0, none⟩ (.slice ao3 n3 cap3)) /\
   Kp (fun g => g = B) w0 (w3.setCell ⟨B, 0, none⟩ (.slice ao3 n3 cap3)) /\ ∃ v, Blk (w3.setCell ⟨B, 0, none⟩ (.slice ao3 n3 cap3)) B [v] 69 /\ OwnRows w0.heap.size (w3.setCell ⟨B, 0, none⟩ (.slice ao3 n3 cap3)) v ((pre ++ [y]).map f) := by
 obtain ⟨ps, e1, h2, h3, h4⟩ := hr
 have hlen : ps.length = pre.length := by have := congrArg List.length e1; simpa using this.symm
 obtain ⟨w2, ew2⟩ : ∃ w2, X1.alloc (.cells #[.slice x.1 x.2.1 x.2.2] 34) = w2 := ⟨_, rfl⟩
 have hk2 : Ext X w2 := by rw [<- ew2]; exact hk.alloc _
 have hx2 : Row w2 9 1 (.slice x.1 x.2.1 x.2.2) ss.length (strs ss) (New X) := by rw [<- ew2]; exact hx.alloc _
 have hsrc : CellsAt w2 (some ⟨X1.heap.size, 0, none⟩) [.slice x.1 x.2.1 x.2.2] := by rw [<- ew2]; exact CellsAt.one X1 _ _
 have h2' := h2.ext hk2
 obtain ⟨v3, w3, hrun, hr3, hk3, _⟩ := nW (P := Tryz.prog) iK 69 h2' (m := 1) (c := 1) rfl hsrc (by simp; rfl) (by omega) (by unfold maxLen; omega)
 obtain ⟨ao3, cap3, ev, _, _⟩ := hr3.shape
 subst ev
 have hBne : (Value.slice ao n cap).ownBlock ≠ some B := fun e => by have := h2.block B e; omega
 have hB3 : Blk w3 B [.slice ao n cap] 69 := (hB.ext hk2).kp hk3 hBne
 have hsz0 := hpk.size
 refine ⟨ao3, _, cap3, w3, by rw [ew2]; exact hrun, by rw [hB3.cell']; rfl, hB3.free 0, fun y hy => ?_⟩
 have hko : KeepsOthers w2 w3 := ⟨hk3.size, fun k o hk' ho => (hk3.block k (lt_of_block hk') (fun hg => by
  obtain ⟨cs, hb, _⟩ := h2'.has hg
  unfold Blk at hb
  rw [hb] at hk'; cases hk'; cases ho)).trans hk'⟩
 have kX : Kp (fun g => g = B \/ w0.heap.size ≤ g) X w3 := (Ext.kp hk2).trans (hk3.mono fun g _ hg => .inr (h2.block g hg))
 have k0 : Kp (fun g => g = B) w0 w3 := hpk.trans' kX fun i hi hg => by rcases hg with hg | hg; exact hg; omega
 refine ⟨((KeepsOthers.of_ext hk2).trans hko).trans (KeepsOthers.setCell _ _ _), kX.setCell (fun _ => .inl rfl) _, k0.setCell (fun _ => rfl) _, _, hB3.set 0 _, ?_⟩
 have hown : OwnRows w0.heap.size w3 (.slice ao3 (ps.length + 1) cap3) (ps.map Prod.snd ++ [ss]) :=
  OwnRows.push h2' (fun p hp => ⟨(h3 p hp).1.ext hk2, (h3 p hp).2⟩) h4 (B := X.heap.size) (fun p hp g hg => (h3 p hp).1.lt g hg) hsz0 hx2 hss
   (hr3.mono fun g hg => by rcases hg with hg | hg; exact h2.block g hg; exact Nat.le_trans hsz0 (Nat.le_trans hk2.size hg)) hk3
 rw [List.map_append, List.map_singleton, hy, e1]
 exact hown.kp (Kp.setCell (F := fun g => g = B) (Kp.refl _) (fun _ => rfl) _) fun g hg e => by omega
theorem lE {F : Fence} {n : Nat} {P : Program} {o : Oper} {a : Act} {w w' : World} {K : Act -> World -> Prop} {Q : Exit -> Act -> World -> Prop} {b : Bool} {p : Prop} [Decidable (b = true)] (s x : Operand) {t : TypeId} {v vx v' : Value}
 (ho : o.op = .call { callee := .builtin .append, args := #[s, x], argTypes := #[t, t] }) (hs : a.eval s = v) (hx : a.eval x = vx) (hb : b = true) (hrun : (Builtin.append_ #[t, t] o.type #[v, vx]).run P w = .ok v' w') (hK : K (a.put o.dst v') w') : if b = true then Oper.wpIn F n P o a w K Q else p := by
 rw [if_pos hb]
 unfold Oper.wpIn
 refine ⟨by simp [Oper.about, ho, resolve, Target.leads, Sem.run_pure], ?_⟩
 rw [Oper.semAt_plain F _ _ (by rw [ho]; intro c hc'; cases hc')]
 simp only [execOp, ho, resolve, invoke, builtin, Sem.run_bind, Sem.run_pure, Result.andThen_ok, List.map_toArray, List.map_cons, List.map_nil, hs, hx, hrun]
 exact hK
theorem aA2 {F : Nat -> Prop} {w W : World} {P : World -> Value -> Prop} {tmps : Array Value} {ds : List Deferred} {lo : Nat} (hm : Marks lo W ds) (hk : Kp F w W) (hlo : w.heap.size ≤ lo) {v : Value} (ht : tmps.getD 2 undef = v)
 (hP : ∀ w', Kp (fun k => lo ≤ k /\ ¬ ∃ o : Obj, W.heap[k]? = some o /\ o.isCells = true) W w' -> P w' v) :
 bodyPostM Fence.wide 4 Tryz.prog Tryz.f53 (RetF F w P) .ret { tmps := tmps, defers := ds } W := by
 refine gE hm fun w' e1 e2 e3 e4 e5 e6 => ?_
 have kx : Kp (fun k => lo ≤ k /\ ¬ ∃ o : Obj, W.heap[k]? = some o /\ o.isCells = true) W w' := ⟨e1, e2, e3, by omega, fun k hk hf => by
  by_cases h : lo ≤ k
  ·by_cases h2 : ∃ o : Obj, W.heap[k]? = some o /\ o.isCells = true
   ·obtain ⟨o, h2, h3⟩ := h2
    rw [h2]; exact e6 k o h2 h3
   ·exact absurd ⟨h, h2⟩ hf
  ·exact e5 k (by omega)⟩
 refine ⟨v, ?_, RetF.mk (hk.trans' kx fun i hi h => absurd h.1 (by omega)) (hP w' kx)⟩
 have ht' : tmps[2]?.getD undef = v := by simpa using ht
 simp [results, Tryz.f53, go_sem, ht']
section
variable {z : Prop} {S : Nat -> Prop} {w w' : World} {b : Nat} {iv : Value} {arity : Nat} {LL : List (List ByteArray)}
theorem RowsQ.ownLt (h : RowsQ z S w b iv arity LL) : ∀ k, fZ b iv k -> k < w.heap.size := by
 rcases h with ⟨con, zs, hc, hs, hl⟩ | ⟨hz, rfl, rfl, hB, h1, h2⟩
 ·rintro k (rfl | hk)
  ·exact hs.blk.lt
  ·exact hs.row.lt k hk
 ·rintro k (rfl | hk)
  ·exact hB.lt
  ·cases hk
def aJi (w : World) (F : Nat -> Prop) (R : World -> Prop) (LL : List (List ByteArray)) (rv : Value) : Prop :=
 ∀ W, Ext w W -> Calls Tryz.prog 99 #[rv] W (RetF F W fun w' v => R w' /\ ∃ S con, ∃ zs : List iN, PtrSetRow Tryz.prog S w' v zs /\ (∀ k, S k -> k < w.heap.size) /\ zs.map con = LL /\
  ∀ x ∈ zs, ∃ ss, ReadsAs w' x ss /\ ss.length ≤ 8796093021952 /\ (∀ a, x.1 = some a -> x.2.1 ≠ 0 -> S a.block) /\ con x = ss)
set_option maxRecDepth 100000 in
set_option maxHeartbeats 2000000 in
theorem uE {F : Nat -> Prop} {R : World -> Prop} {rv : Value} (hset : aJi w F R LL rv) (hF : ∀ k, F k -> k < w.heap.size) (hR : ∀ {W W' : World}, R W -> Kp (fun g => w.heap.size ≤ g) W W' -> R W') :
 Calls Tryz.prog 53 #[rv] w (RetF F w fun w' v => R w' /\ OwnRows w.heap.size w' v LL) := by
 refine callsIn_wide.1 (callsIn_of_wp_marks (n := 4) Tryz.func53 rfl trivial ?_ rfl)
 refine wpIn_wide.2 ?_
 obtain ⟨Q, eQ⟩ : ∃ Q, Q = bodyPostM Fence.wide 4 Tryz.prog Tryz.f53 (RetF F w fun w' v => R w' /\ OwnRows w.heap.size w' v LL) := ⟨_, rfl⟩
 rw [<- eQ]
 have EQ := qH eQ; clear eQ
 have H := qH hset
 have HR := qH (And.intro hF (@hR)); clear hset hF hR
 simp only [Tryz.ntmps53, List.size_toArray, List.length_cons, List.length_nil, Nat.reduceAdd, Nat.reduceSub, Array.replicate_succ, Array.replicate_zero, List.push_toArray, List.append_toArray, List.nil_append, List.cons_append]
 go_wp2_with fail
 have x0 : Ext w (w.alloc (.cells #[.slice none 0 0] 69)) := (Kp.refl w).alloc _
 have b0 : Blk (w.alloc (.cells #[.slice none 0 0] 69)) w.heap.size [.slice none 0 0] 69 := Blk.new w [_] _
 refine (H.out _ x0).mono ?_
 rintro e w1 ⟨v1, rfl, hk1, hR1, S, con, zs, hp, hSw, hl, hall⟩
 have k01 : Kp F w w1 := (Ext.kp x0).trans hk1
 have b1 := b0.kp hk1 (fun e => by have := HR.out.1 _ e; omega)
 have HK1 := qH (And.intro k01 hR1)
 have hlen := hp.len
 have HS := qH (And.intro hall hl)
 have HE := qH (tY hp)
 have B1 := qH b1
 have hsz1 := b1.lt
 clear hall hp hl b0 b1 hk1 k01 x0 H hR1
 go_wp2_with fail
 refine HE.out.mono ?_
 rintro e w2 ⟨v2, rfl, hk2, hit⟩
 obtain ⟨Bs, hv2, hseq⟩ := hit.sub.stops Fence.wide 3 trivial rfl (by omega)
 subst hv2
 have HQ := qH hseq; clear hseq hit
 have B2 := qH (B1.out.ext hk2)
 have HK2 := qH hk2
 have hsz2 := hk2.size
 have hn0 : zs.attach.length = zs.length := List.length_attach
 have HSW := qH hSw
 clear hk2 HE B1 hSw
 go_wp2_with fail
 refine' wpIn_wide.1 (wpIn_rangeFunc_ownG (F := Fence.wide) (n := 4) (w0 := w2) rfl (by omega) (gf := 171) (lb := #[.pointer (some ⟨Bs, 0, none⟩)]) rfl trivial (enters_of Tryz.func171 (by kernel_rfl) rfl)
  HQ.out SameOn.trans (SameOn.put (fun k h => h.2)) (Kp.refl w2).below (fun _ => rfl) (GotRows (fun x => con x.1) zs.length w2 w.heap.size) (fun _ _ _ => False) (GotRows.own (Nat.le_refl _)) (fun _ _ _ _ _ h _ _ => h) ⟨by simp, Kp.refl _, _, B2.out, OwnRows.nil _ _⟩ _ ?assign ?body ?done ?stop)
 case assign =>
  intro l x W K hK
  gi_wp2
  exact hK
 case body =>
  rintro l pre x X ⟨hpl, hpk, v, hB, hr⟩ hlen'
  obtain ⟨xv, xm⟩ := x
  obtain ⟨ao1, n1, cap1, ev, _⟩ : ∃ ao n cap, v = .slice ao n cap /\ True := by obtain ⟨ao, cap, e, _⟩ := hr.shape; exact ⟨_, _, _, e, trivial⟩
  subst ev
  have HPL := qH (And.intro hpl hlen)
  obtain ⟨ss, hrd, hss, hxS, hcx⟩ := HS.out.1 xv xm
  have hrd2 : ReadsAs X xv ss := ⟨hrd.1, fun i u hu => by
   have hne : xv.2.1 ≠ 0 := by
    have h1 := (List.getElem?_eq_some_iff.1 hu).1
    simp only [strs, List.length_map] at h1
    rw [hrd.1]; omega
   obtain ⟨b, o, e, c⟩ := (hrd.2.ext HK2.out) i u hu
   exact ⟨b, o, e, hpk.cell c fun hf => by have h8 : b < _ := HSW.out _ (hxS _ e hne); omega⟩⟩
  clear hrd hxS
  obtain ⟨ao, n, cap⟩ := xv
  obtain ⟨hn, hcs⟩ := hrd2
  simp only at hn hcs
  have hmix : Tryz.prog.follows .mixedOrders = true := by kernel_rfl
  have HCL := qH (iM (strs ss) ao cap X.drew n (by simp [strs, hn]) (hcs.ext (Kp.refl X).drew) (kG ss) (by omega))
  have hc0 := hB.cell 0 (by simp)
  have hf0 := hB.free 0
  simp only [List.getElem_cons_zero] at hc0
  have HB := qH (And.intro hB hr)
  have HCX := qH (And.intro hcx hn)
  clear hB hr hcx hn hcs
  gi_wp2
  refine wpIn_region_any (by kernel_rfl) ?_
  change wpAnyIn _ _ _ _ _ _ _ _ _ (World.drew _)
  refine wpAnyIn_ready (rs := [0, 1]) (by kernel_rfl) (by simp) (AllReadyIn.cons rfl (fun K hK => ?_) (AllReadyIn.cons rfl (fun K hK => ?_) AllReadyIn.nil))
  ·go_simp
   refine hK _ _ ?_
   clear hK K
   refine wpAnyIn_ready (rs := [1]) (by kernel_rfl) (by simp) (AllReadyIn.cons rfl (fun K hK => ?_) AllReadyIn.nil)
   go_simp
   refine hK _ _ ?_
   clear hK K
   refine wpAnyIn_ready (rs := [2]) (by kernel_rfl) (by simp) (AllReadyIn.cons rfl (fun K hK => ?_) AllReadyIn.nil)
   go_simp
   refine And.intro trivial ?_
   refine (CallsIn.inRound l (callsIn_wide.2 HCL.out)).mono ?_
   rintro e X1 ⟨v1, rfl, hk1, hr1⟩
   obtain ⟨ao2, cap2, ev, _, _⟩ := hr1.shape
   subst ev
   rw [HCX.out.2] at hr1
   obtain ⟨ao3, n3, cap3, w3, hrunA, d1, d2, HFIN⟩ := jS (x := (ao2, ss.length, cap2)) HPL.out hpk (by omega) HB.out.1 HB.out.2 ((Kp.refl X).drew.trans hk1) hr1 hss
   rw [<- HCX.out.2] at hrunA
   have HFI := qH HFIN
   clear HFIN hr1
   have e0 := hk1.cell (w := X.drew) hc0 id
   have e1 := (hk1.alloc (.cells #[.slice ao2 n cap2] 34)).cell (w := X.drew) hc0 id
   change K _ _
   refine hK _ _ ?_
   clear hK K
   refine wpAnyIn_ready (rs := [3]) (by kernel_rfl) (by simp) (AllReadyIn.cons rfl (fun K hK => ?_) AllReadyIn.nil)
   go_simp
   refine hK _ _ ?_
   clear hK K
   refine wpAnyIn_ready (rs := [4]) (by kernel_rfl) (by simp) (AllReadyIn.cons rfl (fun K hK => ?_) AllReadyIn.nil)
   refine lE (.tmp 9) (.tmp 12) rfl rfl rfl rfl hrunA ?_
   refine hK _ _ ?_
   clear hK K
   refine wpAnyIn_ready (rs := [5]) (by kernel_rfl) (by simp) (AllReadyIn.cons rfl (fun K hK => ?_) AllReadyIn.nil)
   go_simp
   refine hK _ _ ?_
   clear hK K
   refine wpAnyIn_done (by kernel_rfl) ?_ _
   obtain ⟨q1, q2, q3, q4⟩ := HFI.out ⟨(ao, n, cap), xm⟩ HCX.out.1
   refine And.intro (q1.from _) (And.intro (SameOn.of_kp q2 (fun k h => Nat.lt_of_lt_of_le h.2 hpk.size) (fun k h h' => by omega)) ⟨by rw [List.length_append]; simp; omega, q3, q4⟩)
  ·go_simp
   refine hK _ _ ?_
   clear hK K
   refine wpAnyIn_ready (rs := [0, 2]) (by kernel_rfl) (by simp) (AllReadyIn.cons rfl (fun K hK => ?_) (AllReadyIn.cons rfl (fun K hK => ?_) AllReadyIn.nil))
   ·go_simp
    refine hK _ _ ?_
    clear hK K
    refine wpAnyIn_ready (rs := [2]) (by kernel_rfl) (by simp) (AllReadyIn.cons rfl (fun K hK => ?_) AllReadyIn.nil)
    go_simp
    refine And.intro trivial ?_
    refine (CallsIn.inRound l (callsIn_wide.2 HCL.out)).mono ?_
    rintro e X1 ⟨v1, rfl, hk1, hr1⟩
    obtain ⟨ao2, cap2, ev, _, _⟩ := hr1.shape
    subst ev
    rw [HCX.out.2] at hr1
    obtain ⟨ao3, n3, cap3, w3, hrunA, d1, d2, HFIN⟩ := jS (x := (ao2, ss.length, cap2)) HPL.out hpk (by omega) HB.out.1 HB.out.2 ((Kp.refl X).drew.trans hk1) hr1 hss
    rw [<- HCX.out.2] at hrunA
    have HFI := qH HFIN
    clear HFIN hr1
    have e0 := hk1.cell (w := X.drew) hc0 id
    have e1 := (hk1.alloc (.cells #[.slice ao2 n cap2] 34)).cell (w := X.drew) hc0 id
    change K _ _
    refine hK _ _ ?_
    clear hK K
    refine wpAnyIn_ready (rs := [3]) (by kernel_rfl) (by simp) (AllReadyIn.cons rfl (fun K hK => ?_) AllReadyIn.nil)
    go_simp
    refine hK _ _ ?_
    clear hK K
    refine wpAnyIn_ready (rs := [4]) (by kernel_rfl) (by simp) (AllReadyIn.cons rfl (fun K hK => ?_) AllReadyIn.nil)
    refine lE (.tmp 9) (.tmp 12) rfl rfl rfl rfl hrunA ?_
    refine hK _ _ ?_
    clear hK K
    refine wpAnyIn_ready (rs := [5]) (by kernel_rfl) (by simp) (AllReadyIn.cons rfl (fun K hK => ?_) AllReadyIn.nil)
    go_simp
    refine hK _ _ ?_
    clear hK K
    refine wpAnyIn_done (by kernel_rfl) ?_ _
    obtain ⟨q1, q2, q3, q4⟩ := HFI.out ⟨(ao, n, cap), xm⟩ HCX.out.1
    refine And.intro (q1.from _) (And.intro (SameOn.of_kp q2 (fun k h => Nat.lt_of_lt_of_le h.2 hpk.size) (fun k h h' => by omega)) ⟨by rw [List.length_append]; simp; omega, q3, q4⟩)
   ·go_simp
    refine And.intro trivial ?_
    refine (CallsIn.inRound l (callsIn_wide.2 HCL.out)).mono ?_
    rintro e X1 ⟨v1, rfl, hk1, hr1⟩
    obtain ⟨ao2, cap2, ev, _, _⟩ := hr1.shape
    subst ev
    rw [HCX.out.2] at hr1
    obtain ⟨ao3, n3, cap3, w3, hrunA, d1, d2, HFIN⟩ := jS (x := (ao2, ss.length, cap2)) HPL.out hpk (by omega) HB.out.1 HB.out.2 ((Kp.refl X).drew.trans hk1) hr1 hss
    rw [<- HCX.out.2] at hrunA
    have HFI := qH HFIN
    clear HFIN hr1
    have e0 := hk1.cell (w := X.drew) hc0 id
    have e1 := (hk1.alloc (.cells #[.slice ao2 n cap2] 34)).cell (w := X.drew) hc0 id
    change K _ _
    refine hK _ _ ?_
    clear hK K
    refine wpAnyIn_ready (rs := [0, 3]) (by kernel_rfl) (by simp) (AllReadyIn.cons rfl (fun K hK => ?_) (AllReadyIn.cons rfl (fun K hK => ?_) AllReadyIn.nil))
    ·go_simp
     refine hK _ _ ?_
     clear hK K
     refine wpAnyIn_ready (rs := [3]) (by kernel_rfl) (by simp) (AllReadyIn.cons rfl (fun K hK => ?_) AllReadyIn.nil)
     go_simp
     refine hK _ _ ?_
     clear hK K
     refine wpAnyIn_ready (rs := [4]) (by kernel_rfl) (by simp) (AllReadyIn.cons rfl (fun K hK => ?_) AllReadyIn.nil)
     refine lE (.tmp 9) (.tmp 12) rfl rfl rfl rfl hrunA ?_
     refine hK _ _ ?_
     clear hK K
     refine wpAnyIn_ready (rs := [5]) (by kernel_rfl) (by simp) (AllReadyIn.cons rfl (fun K hK => ?_) AllReadyIn.nil)
     go_simp
     refine hK _ _ ?_
     clear hK K
     refine wpAnyIn_done (by kernel_rfl) ?_ _
     obtain ⟨q1, q2, q3, q4⟩ := HFI.out ⟨(ao, n, cap), xm⟩ HCX.out.1
     refine And.intro (q1.from _) (And.intro (SameOn.of_kp q2 (fun k h => Nat.lt_of_lt_of_le h.2 hpk.size) (fun k h h' => by omega)) ⟨by rw [List.length_append]; simp; omega, q3, q4⟩)
    ·go_simp
     refine hK _ _ ?_
     clear hK K
     refine wpAnyIn_ready (rs := [0]) (by kernel_rfl) (by simp) (AllReadyIn.cons rfl (fun K hK => ?_) AllReadyIn.nil)
     go_simp
     refine hK _ _ ?_
     clear hK K
     refine wpAnyIn_ready (rs := [4]) (by kernel_rfl) (by simp) (AllReadyIn.cons rfl (fun K hK => ?_) AllReadyIn.nil)
     refine lE (.tmp 9) (.tmp 12) rfl rfl rfl rfl hrunA ?_
     refine hK _ _ ?_
     clear hK K
     refine wpAnyIn_ready (rs := [5]) (by kernel_rfl) (by simp) (AllReadyIn.cons rfl (fun K hK => ?_) AllReadyIn.nil)
     go_simp
     refine hK _ _ ?_
     clear hK K
     refine wpAnyIn_done (by kernel_rfl) ?_ _
     obtain ⟨q1, q2, q3, q4⟩ := HFI.out ⟨(ao, n, cap), xm⟩ HCX.out.1
     refine And.intro (q1.from _) (And.intro (SameOn.of_kp q2 (fun k h => Nat.lt_of_lt_of_le h.2 hpk.size) (fun k h h' => by omega)) ⟨by rw [List.length_append]; simp; omega, q3, q4⟩)
 case stop =>
  rintro D c pre W _ _ h _
  exact h.elim
 case done =>
  rintro D ys W2 hD hys ⟨hl2, hkd, v, hBd, hrd⟩ hd
  subst hys
  have kw : Kp F w W2 := (HK1.out.1.ext HK2.out).trans' hkd fun k hk e => by omega
  have hra : R W2 := HR.out.2 HK1.out.2 ((Ext.kp HK2.out).trans (hkd.mono fun g _ e => by omega))
  have hown : OwnRows w.heap.size W2 v LL := by
   have e : zs.attach.map (fun x => con x.1) = LL := by
    rw [<- HS.out.2]
    have h : (zs.attach.map fun x : { x // x ∈ zs } => con x.1) = (zs.attach.map Subtype.val).map con := by rw [List.map_map]; rfl
    rw [h, List.attach_map_subtype_val]
   rw [e] at hrd
   exact hrd.mono (by omega)
  have hmk := (Marks.nil w2.heap.size w2).push (w' := W2) (D := D) (fun k o h ho => (hkd.block k (lt_of_block h) (fun e => by
   subst e; have hb := B2.out; unfold Blk at hb; rw [hb] at h; cases h; cases ho)).trans h) hD hD hd
  obtain ⟨ao4, cap4, ev, _⟩ := hown.shape
  subst ev
  have c0 := hBd.cell 0 (by simp)
  simp only [List.getElem_cons_zero] at c0
  have HF := qH (And.intro kw (And.intro hra (And.intro hown hmk)))
  clear kw hra hown hmk hrd hBd hkd hd
  go_wp2
  rw [EQ.out]
  obtain ⟨kw, hra, hown, hmk⟩ := HF.out
  refine aA2 hmk kw (by omega) rfl fun w' kx => ⟨HR.out.2 hra (kx.mono fun g _ h => by omega), hown.kpc kx fun g h => h.2⟩
theorem RowsAt.tells (h : RowsAt S w b iv arity LL) : ∃ con, ∃ zs : List iN, PtrSetRow Tryz.prog S w (.pointer (some ⟨b, 0, none⟩)) zs /\ zs.map con = LL /\
 ∀ x ∈ zs, ∃ ss, ReadsAs w x ss /\ ss.length ≤ 8796093021952 /\ (∀ a, x.1 = some a -> x.2.1 ≠ 0 -> S a.block) /\ con x = ss := by
 obtain ⟨con, zs, hc, hs, hl⟩ := h
 refine ⟨con, zs, .inr ⟨_, _, _, _, _, _, _, rfl, hs⟩, hl, fun x hx => ?_⟩
 obtain ⟨ss, h1, h2, h3⟩ := hs.all x hx
 exact ⟨ss, h1, h2, h3, hc x ss h1⟩
theorem aF5 (h : RowsQ z S w b iv arity LL) :
 Calls Tryz.prog 53 #[.pointer (some ⟨b, 0, none⟩)] w (RetF (FQ z b) w fun w' v => RowsAt S w' b iv arity LL /\ OwnRows w.heap.size w' v LL) := by
 refine uE (R := fun W => RowsAt S W b iv arity LL) (fun W hW => ?_) (fun k hk => by rw [hk.2]; exact h.lt) (fun {W W'} hr hk => ?_)
 ·refine (qW (h.ext hW)).mono ?_
  rintro e w1 ⟨v, rfl, hk, rfl, h1⟩
  obtain ⟨con, zs, hp, hl, hall⟩ := h1.tells
  exact RetF.mk hk ⟨h1, S, con, zs, hp, h.inS, hl, hall⟩
 ·exact hr.move hk (fun k hg ho => by have := h.ownLt k ho; omega) (fun k hg hS => by have := h.inS k hS; omega) (fun _ h => h) (fun k hS => Nat.lt_of_lt_of_le (hr.inS k hS) hk.size) hr.notS
theorem aA3 (w : World) : Calls Tryz.prog 53 #[.pointer none] w (RetN w fun w' v => OwnRows w.heap.size w' v []) := by
 refine (uE (w := w) (F := fun _ => False) (R := fun _ => True) (LL := []) (fun W hW => ?_) (fun k hk => hk.elim) (fun _ _ => trivial)).mono ?_
 ·refine (rP W).mono ?_
  rintro e w1 ⟨rfl, rfl⟩
  exact RetF.mk (Kp.refl _) ⟨trivial, fun _ => False, fun _ => [], [], .inl ⟨rfl, rfl⟩, fun k hk => hk.elim, rfl, by simp⟩
 ·rintro e w' ⟨v, rfl, hk, _, h⟩
  exact RetN.mk hk h
end
end Go.Proofs.YtinnmeiphbdogaaGreat
