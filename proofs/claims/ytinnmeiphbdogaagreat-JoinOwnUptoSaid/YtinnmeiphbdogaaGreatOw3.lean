/- Texts joined for a claim (RowSet, BaseC, TriePlain, JoinTree, JoinPlain, JoinEnv, JoinEnv2, LeapPlain, TrieSpan, TriePath, JoinSol, JoinStep, IndexX, BaseC2, BasePut, RowQ, RowQ2, RowQ3, RowOwn). -/
import Derived.Test.YtinnmeiphbdogaaGreatOw2
import Derived.Laws.EntriesVeiled
set_option linter.unusedVariables false
set_option linter.unusedSimpArgs false
/- tuple.Rows: rows of texts in a set: what a row reads as, their order, set, Len, NewRows, named, texts. -/
namespace Go.Proofs.YtinnmeiphbdogaaGreat
open Go.RowKit
abbrev fR := Option Addr × Nat × Nat
def ReadsAs (w : World) (x : fR) (ss : List ByteArray) : Prop := x.2.1 = ss.length /\ CellsAt w x.1 (strs ss)
theorem ReadsAs.unique {w : World} {x : fR} {a b : List ByteArray} (h : ReadsAs w x a) (h' : ReadsAs w x b) : a = b := by
 obtain ⟨h1, h2⟩ := h
 obtain ⟨h3, h4⟩ := h'
 refine List.ext_getElem (by omega) fun i hi hj => ?_
 obtain ⟨b1, o1, e1, c1⟩ := h2.str hi
 obtain ⟨b2, o2, e2, c2⟩ := h4.str hj
 rw [e1] at e2
 cases e2
 rw [c1] at c2
 simpa using c2
theorem vD (w : World) : ∃ con : fR -> List ByteArray, ∀ x ss, ReadsAs w x ss -> con x = ss := by
 have h : ∀ x : fR, ∃ l : List ByteArray, ∀ ss, ReadsAs w x ss -> l = ss := fun x => by
  by_cases hx : ∃ ss, ReadsAs w x ss
  ·obtain ⟨ss, hs⟩ := hx
   exact ⟨ss, fun ss' hs' => hs.unique hs'⟩
  ·exact ⟨[], fun ss hs => absurd ⟨ss, hs⟩ hx⟩
 exact ⟨fun x => Classical.choose (h x), fun x => Classical.choose_spec (h x)⟩
def vX (S : Nat -> Prop) (w : World) (x : fR) : Prop := ∃ ss, ReadsAs w x ss /\ ss.length ≤ 8796093021952 /\ ∀ a, x.1 = some a -> x.2.1 ≠ 0 -> S a.block
theorem ReadsAs.same {S : Nat -> Prop} {w w' : World} {x : fR} {ss : List ByteArray} (h : ReadsAs w x ss) (hs : Same S w w') (ha : ∀ a, x.1 = some a -> x.2.1 ≠ 0 -> S a.block) : ReadsAs w' x ss := by
 refine ⟨h.1, fun i u hu => ?_⟩
 have hne : x.2.1 ≠ 0 := by
  have h1 := (List.getElem?_eq_some_iff.1 hu).1
  simp only [strs, List.length_map] at h1
  rw [h.1]; omega
 obtain ⟨b, o, e, c⟩ := h.2 i u hu
 refine ⟨b, o, e, ?_⟩
 rw [World.cell?_of_block (w := w) (hs b (ha _ e hne)).2]; exact c
theorem lL {α : Type} (f : α -> List ByteArray) : OrdLaw (fun x y => aC (f x) (f y)) :=
 ⟨fun x y => by have := nC (f x) (f y); omega, fun x y z h h' => lJ h h'⟩
theorem jS {S : Nat -> Prop} {w : World} {con : fR -> List ByteArray} (hc : ∀ x ss, ReadsAs w x ss -> con x = ss) :
 OrdVRow Tryz.prog S w (.func (Fn.func 124) #[] #[]) (vX S w) (fun x y => aC (con x) (con y)) := by
 refine .inr ⟨_, _, _, rfl, enters_of Tryz.func124 (by kernel_rfl) rfl, fun w' hw x y hx hy => ?_⟩
 obtain ⟨xs, hx1, hx2, hx3⟩ := hx
 obtain ⟨ys, hy1, hy2, hy3⟩ := hy
 have ex := hc x xs hx1
 have ey := hc y ys hy1
 have hx' := hx1.same hw hx3
 have hy' := hy1.same hw hy3
 obtain ⟨ax, nx, cx⟩ := x
 obtain ⟨ay, ny, cy⟩ := y
 obtain ⟨h1, h2⟩ := hx'
 obtain ⟨h3, h4⟩ := hy'
 simp only at h1 h2 h3 h4
 subst h1 h3
 simp only [ex, ey]
 refine (qQ xs ys ax ay cx cy w' h2 h4 (by unfold maxLen; omega) (by unfold maxLen; omega)).mono ?_
 rintro e w2 ⟨rfl, rfl⟩
 exact ⟨rfl, Kp.refl w'⟩
def RowsAt (S : Nat -> Prop) (w : World) (b : Nat) (iv : Value) (arity : Nat) (LL : List (List ByteArray)) : Prop :=
 ∃ con zs, (∀ x ss, ReadsAs w x ss -> con x = ss) /\ SetAtRow Tryz.prog S w b (.func (Fn.func 124) #[] #[]) iv [.int .i64 arity] 135 (vX S w) (fun x y => aC (con x) (con y)) zs /\ zs.map con = LL
theorem wW (s : ByteArray) (w : World) : Calls Tryz.prog 84 #[.string s] w (Ret (.bool (decide (1 ≤ s.size /\ s.size ≤ 4096))) w) := by
 by_cases h1 : 1 ≤ s.size
 ·have q1 : (1 : Int) ≤ (s.size : Int) := by omega
  by_cases h2 : s.size ≤ 4096
  ·have q2 : (s.size : Int) ≤ 4096 := by omega
   have H := qH (And.intro h1 h2)
   go_enter Tryz.func84, Tryz.ntmps84
   go_wp2
   go_ret
   exact Ret.mk (by simp [H.out.1, H.out.2])
  ·have q2 : ¬ (s.size : Int) ≤ 4096 := by omega
   have H := qH h2
   go_enter Tryz.func84, Tryz.ntmps84
   go_wp2
   go_ret
   exact Ret.mk (by simp)
 ·have q1 : ¬ (1 : Int) ≤ (s.size : Int) := by omega
  have H := qH h1
  go_enter Tryz.func84, Tryz.ntmps84
  go_wp2
  go_ret
  exact Ret.mk (by simp)
theorem zT (s : ByteArray) (w : World) : Calls Tryz.prog 126 #[.string s] w (Ret (.bool (decide (4096 < s.size))) w) := by
 by_cases h : 4096 < s.size
 ·have q : (4096 : Int) < (s.size : Int) := by omega
  have H := qH h
  go_enter Tryz.func126, Tryz.ntmps126
  go_wp2
  go_ret
  exact Ret.mk (by simp [H.out])
 ·have q : ¬ (4096 : Int) < (s.size : Int) := by omega
  have H := qH h
  go_enter Tryz.func126, Tryz.ntmps126
  go_wp2
  go_ret
  exact Ret.mk (by simp)
def bO (ss : List ByteArray) : Bool := ss.all fun s => decide (s.size ≤ 4096)
theorem qR (ss : List ByteArray) (ao : Option Addr) (n c : Nat) (w : World) (hn : n = ss.length) (hc : CellsAt w ao (strs ss)) (hl : n ≤ 4611686018427387904) :
 Calls Tryz.prog 86 #[.slice ao n c] w (RetN w fun w' v => v = .bool (bO ss)) := by
 have hent : ∀ args w, (callFunc 126 args).run Tryz.prog w = .ok (.enter 126 args) w := enters_of Tryz.func126 (by kernel_rfl) rfl
 have hi := oC (strs ss) ao c 126 #[] #[] (fun i => decide (4096 < (ss[i]?.getD ⟨#[]⟩).size)) w n (by simp [strs, hn]) hc ⟨hent, fun w' _ i u hu => by
  rw [strs, List.getElem?_map] at hu
  cases hs : ss[i]? with
  | none => rw [hs] at hu; cases hu
  | some s =>
   rw [hs] at hu
   cases hu
   refine (zT s w').mono ?_
   rintro e w2 ⟨rfl, rfl⟩
   exact ⟨by simp [hs], Kp.refl _⟩⟩ hl
 have key : (!(List.range n).any fun i => decide (4096 < (ss[i]?.getD ⟨#[]⟩).size)) = bO ss := by
  rw [Bool.eq_iff_iff]
  simp only [Bool.not_eq_true', List.any_eq_false, List.mem_range, decide_eq_true_eq, bO, List.all_eq_true]
  constructor
  ·intro h s hs
   obtain ⟨i, hi, rfl⟩ := List.mem_iff_getElem.1 hs
   have := h i (by omega)
   simp only [qG hi, Option.getD_some] at this
   omega
  ·intro h i hi
   have hi' : i < ss.length := by omega
   have := h ss[i] (List.getElem_mem _)
   simp only [qG hi', Option.getD_some]
   omega
 have HI := qH (And.intro hi key); clear hi key hent hc hn
 go_enter Tryz.func86, Tryz.ntmps86
 go_wp2_with fail
 refine HI.out.1.mono ?_
 rintro e w1 ⟨v, rfl, hk, rfl⟩
 have HK := qH hk; clear hk
 go_wp2
 go_ret
 exact RetN.mk HK.out (by rw [<- HI.out.2]; rfl)
end Go.Proofs.YtinnmeiphbdogaaGreat
namespace Go.Proofs.YtinnmeiphbdogaaGreat
open Go.RowKit
section
variable {S S' : Nat -> Prop} {w w' : World} {b : Nat} {iv : Value} {arity : Nat} {LL : List (List ByteArray)}
theorem RowsAt.move {F : Nat -> Prop} (h : RowsAt S w b iv arity LL) (hk : Kp F w w') (hF : ∀ k, F k -> ¬ dW b iv k) (hS : ∀ k, F k -> ¬ S k) (hsub : ∀ k, S k -> S' k) (hin : ∀ k, S' k -> k < w'.heap.size) (hno : ∀ k, dW b iv k -> ¬ S' k) :
 RowsAt S' w' b iv arity LL := by
 obtain ⟨con, zs, hc, hs, hl⟩ := h
 obtain ⟨con', hc'⟩ := vD w'
 have hs' := hs.kp hk hF hS
 have hsame : Same S w w' := hk.same hs.inS fun k h1 h2 => hS k h2 h1
 have all : ∀ z ∈ zs, vX S' w' z /\ con' z = con z := fun z hz => by
  obtain ⟨ss, h1, h2, h3⟩ := hs.all z hz
  have h1' := h1.same hsame h3
  exact ⟨⟨ss, h1', h2, fun a e hne => hsub _ (h3 a e hne)⟩, by rw [hc' z ss h1', hc z ss h1]⟩
 refine ⟨con', zs, hc', ⟨hs'.blk, hs'.row, hs'.apart, hin, hno, jS hc', fun z hz => (all z hz).1, hs.len⟩, ?_⟩
 rw [<- hl]
 exact List.map_congr_left fun z hz => (all z hz).2
theorem RowsAt.ext (h : RowsAt S w b iv arity LL) (hk : Ext w w') : RowsAt S w' b iv arity LL := by
 have hb := h
 obtain ⟨con, zs, hc, hs, hl⟩ := hb
 exact h.move hk (fun _ x => x.elim) (fun _ x => x.elim) (fun _ h => h) (fun k hk' => Nat.lt_of_lt_of_le (hs.inS k hk') hk.size) hs.notS
theorem RowsAt.blk (h : RowsAt S w b iv arity LL) : Blk w b [.func (Fn.func 124) #[] #[], iv, .int .i64 arity] 135 := by
 obtain ⟨con, zs, hc, hs, hl⟩ := h
 exact hs.blk
theorem rJ (w : World) : Calls Tryz.prog 99 #[.pointer none] w (Ret (.pointer none) w) := by
 go_enter Tryz.func99, Tryz.ntmps99
 go_wp2
 go_ret
 exact Ret.mk rfl
theorem fX (h : RowsAt S w b iv arity LL) : Calls Tryz.prog 99 #[.pointer (some ⟨b, 0, none⟩)] w (Ret (.pointer (some ⟨b, 0, none⟩)) w) := by
 have c0 : w.cell? ⟨b, 0, none⟩ = some (.func (Fn.func 124) #[] #[]) := by rw [h.blk.cell']; rfl
 have hq : ∀ w : World, (binOp .eql 131 (.func (Fn.func 124) #[] #[]) .nilFunc).run Tryz.prog w = .ok (.bool false) w := fun _ => by kernel_rfl
 clear h
 go_enter Tryz.func99, Tryz.ntmps99
 go_wp2
 go_ret
 exact Ret.mk rfl
theorem aAg (w : World) : Calls Tryz.prog 105 #[.pointer none] w (Ret (.int .i64 0) w) := by
 go_enter Tryz.func105, Tryz.ntmps105
 go_wp2_with fail
 refine (rJ w).mono ?_
 rintro e w' ⟨rfl, rfl⟩
 go_wp2_with fail
 refine (vJ w).mono ?_
 rintro e w' ⟨rfl, rfl⟩
 go_wp2
 go_ret
 exact Ret.mk rfl
theorem aAh (h : RowsAt S w b iv arity LL) : Calls Tryz.prog 105 #[.pointer (some ⟨b, 0, none⟩)] w (Ret (.int .i64 (LL.length : Nat)) w) := by
 have H := qH h
 obtain ⟨con, zs, hc, hs, hl⟩ := h
 have HS := qH hs
 have HL := qH (show zs.length = LL.length by rw [<- hl]; simp)
 clear hs hc hl
 go_enter Tryz.func105, Tryz.ntmps105
 go_wp2_with fail
 refine (fX H.out).mono ?_
 rintro e w' ⟨rfl, rfl⟩
 go_wp2_with fail
 refine (oI HS.out).mono ?_
 rintro e w' ⟨rfl, rfl⟩
 go_wp2
 go_ret
 exact Ret.mk (by rw [<- HL.out]; rfl)
theorem aCx (S : Nat -> Prop) (w : World) (a : Nat) (hS : ∀ k, S k -> k < w.heap.size) :
 RowsAt S (w.alloc (.cells #[.func (Fn.func 124) #[] #[], .slice none 0 0, .int .i64 a] 135)) w.heap.size (.slice none 0 0) a [] := by
 obtain ⟨con, hc⟩ := vD (w.alloc (.cells #[.func (Fn.func 124) #[] #[], .slice none 0 0, .int .i64 a] 135))
 refine ⟨con, [], hc, ⟨Blk.new w [.func (Fn.func 124) #[] #[], .slice none 0 0, .int .i64 a] 135, Row.nil _ _ _ _, by simp [Value.ownBlock], fun k hk => by rw [aJ]; have := hS k hk; omega, fun k ho hs => ?_, jS hc, by simp, by simp⟩, rfl⟩
 rcases ho with rfl | ho
 ·have := hS _ hs; omega
 ·cases ho
theorem mM (S : Nat -> Prop) (w : World) (a : Nat) (ha : a ≤ 64) (hS : ∀ k, S k -> k < w.heap.size) :
 Calls Tryz.prog 85 #[.int .i64 a] w (RetN w fun w' v => v = .tuple #[.pointer (some ⟨w.heap.size, 0, none⟩), .int .i64 0] /\ RowsAt S w' w.heap.size (.slice none 0 0) a []) := by
 have HR := qH (aCx S w a hS)
 have q1 : ¬ (a : Int) < 0 := by omega
 have q2 : ¬ (64 : Int) < (a : Int) := by omega
 clear hS
 go_enter Tryz.func85, Tryz.ntmps85
 go_wp2
 go_ret2
 exact RetN.mk ((Kp.refl w).alloc _) ⟨rfl, HR.out⟩
end
end Go.Proofs.YtinnmeiphbdogaaGreat
namespace Go.Proofs.YtinnmeiphbdogaaGreat
open Go.RowKit
def RowIn (w : World) (x : fR) (ss : List ByteArray) : Prop := ReadsAs w x ss /\ ss.length ≤ 8796093021952 /\ ∀ a, x.1 = some a -> x.2.1 ≠ 0 -> a.block < w.heap.size
def jB (x : fR) (F : Nat -> Prop) : Prop := ∀ a, x.1 = some a -> x.2.1 ≠ 0 -> ¬ F a.block
def kV (S : Nat -> Prop) (x : fR) : Nat -> Prop := fun k => S k \/ ∃ a, x.1 = some a /\ x.2.1 ≠ 0 /\ a.block = k
section
variable {S : Nat -> Prop} {w w' : World} {b : Nat} {iv : Value} {arity : Nat} {LL : List (List ByteArray)}
theorem RowsAt.inS (h : RowsAt S w b iv arity LL) : ∀ k, S k -> k < w.heap.size := by
 obtain ⟨con, zs, hc, hs, hl⟩ := h
 exact hs.inS
theorem RowsAt.notS (h : RowsAt S w b iv arity LL) : ∀ k, dW b iv k -> ¬ S k := by
 obtain ⟨con, zs, hc, hs, hl⟩ := h
 exact hs.notS
theorem RowsAt.pool (h : RowsAt S w b iv arity LL) {x : fR} {ss : List ByteArray} (hx : RowIn w x ss) (ho : jB x (dW b iv)) : RowsAt (kV S x) w b iv arity LL := by
 refine h.move (F := fun _ => False) (Kp.refl w) (fun _ x => x.elim) (fun _ x => x.elim) (fun k hk => .inl hk) (fun k hk => ?_) (fun k hk hs => ?_)
 ·rcases hk with hk | ⟨a, e, hne, rfl⟩
  ·exact h.inS k hk
  ·exact hx.2.2 a e hne
 ·rcases hs with hs | ⟨a, e, hne, rfl⟩
  ·exact h.notS k hk hs
  ·exact ho a e hne hk
theorem RowsAt.open (h : RowsAt S w b iv arity LL) (hst : Strict aC LL) {x : fR} {ss : List ByteArray} (hx : RowIn w x ss) (ho : jB x (dW b iv)) :
 ∃ con zs, (∀ x ss, ReadsAs w x ss -> con x = ss) /\ SetAtRow Tryz.prog (kV S x) w b (.func (Fn.func 124) #[] #[]) iv [.int .i64 arity] 135 (vX (kV S x) w) (fun x y => aC (con x) (con y)) zs /\ zs.map con = LL /\
  vX (kV S x) w x /\ con x = ss /\ Strict (fun x y => aC (con x) (con y)) zs /\ bH (fun x y => aC (con x) (con y)) zs x = bH aC LL ss /\ below (fun x y => aC (con x) (con y)) zs x = below aC LL ss := by
 obtain ⟨con, zs, hc, hs, hl⟩ := h.pool hx ho
 have ex := hc x ss hx.1
 refine ⟨con, zs, hc, hs, hl, ⟨ss, hx.1, hx.2.1, fun a e hne => .inr ⟨a, e, hne, rfl⟩⟩, ex, ?_, ?_, ?_⟩
 ·rw [<- hl] at hst
  exact List.pairwise_map.1 hst
 ·rw [<- hl, <- ex]; simp [bH, List.any_map, Function.comp_def]
 ·rw [<- hl, <- ex]; simp [below, List.filter_map, Function.comp_def]
theorem mI (h : RowsAt S w b iv arity LL) (hst : Strict aC LL) {x : fR} {ss : List ByteArray} (hx : RowIn w x ss) (ho : jB x (dW b iv)) :
 Calls Tryz.prog 87 #[.pointer (some ⟨b, 0, none⟩), .slice x.1 x.2.1 x.2.2] w (RetN w fun w' v => v = .bool (bH aC LL ss)) := by
 have H := qH h
 obtain ⟨con, zs, hc, hs, hl, hd, ex, hz, e1, e2⟩ := h.open hst hx ho
 have HF := qH (oJ (lL con) x hd hz hs)
 rw [e1] at HF
 clear h hst hx ho hc hs hl hd ex hz e1 e2
 go_enter Tryz.func87, Tryz.ntmps87
 go_wp2_with fail
 refine (fX H.out).mono ?_
 rintro e w' ⟨rfl, rfl⟩
 go_wp2_with fail
 refine HF.out.mono ?_
 rintro e w1 ⟨v, rfl, hk, rfl⟩
 have HK := qH hk; clear hk
 go_wp2
 go_ret
 exact RetN.mk HK.out rfl
theorem RowsAt.of_set {S' : Nat -> Prop} {w1 w2 : World} {con : fR -> List ByteArray} {zs : List fR} (hc : ∀ x ss, ReadsAs w1 x ss -> con x = ss) (hsame : Same S' w1 w2)
 (h : SetAtRow Tryz.prog S' w2 b (.func (Fn.func 124) #[] #[]) iv [.int .i64 arity] 135 (vX S' w1) (fun x y => aC (con x) (con y)) zs) : RowsAt S' w2 b iv arity (zs.map con) := by
 obtain ⟨con', hc'⟩ := vD w2
 have all : ∀ z ∈ zs, vX S' w2 z /\ con' z = con z := fun z hz => by
  have hd := h.all z hz
  obtain ⟨ss, h1, h2, h3⟩ := hd
  have h1' := h1.same hsame h3
  exact ⟨⟨ss, h1', h2, h3⟩, by rw [hc' z ss h1', hc z ss h1]⟩
 exact ⟨con', zs, hc', ⟨h.blk, h.row, h.apart, h.inS, h.notS, jS hc', fun z hz => (all z hz).1, h.len⟩, List.map_congr_left fun z hz => (all z hz).2⟩
def aV (arity : Nat) (LL : List (List ByteArray)) (ss : List ByteArray) : Bool × Nat :=
 if ss.length ≠ arity then (false, 30) else if bO ss = false then (false, 31) else if 65536 ≤ LL.length /\ bH aC LL ss = false then (false, 4) else (!bH aC LL ss, 0)
def bL (arity : Nat) (LL : List (List ByteArray)) (ss : List ByteArray) : List (List ByteArray) := if (aV arity LL ss).2 = 0 then cM aC LL ss else LL
theorem aEw (h : RowsAt S w b iv arity LL) (hst : Strict aC LL) {ao : Option Addr} {n cap : Nat} {ss : List ByteArray} {w1 : World} (hk : Ext w w1) (hr : Row w1 9 1 (.slice ao n cap) n (strs ss) (New w)) (hn : n = ss.length) (hl : n ≤ 8796093021952) (hLL : LL.length + 1 ≤ 1048576 * 1048576) :
 Calls Tryz.prog 128 #[.pointer (some ⟨b, 0, none⟩), .slice ao n cap] w1 (RetF (dW b iv) w1 fun w' v => v = .bool (!bH aC LL ss) /\
  ∃ iv', RowsAt (kV S (ao, n, cap)) w' b iv' arity (cM aC LL ss) /\ ∀ k, iv'.ownBlock = some k -> iv.ownBlock = some k \/ w1.heap.size ≤ k) := by
 have hx : RowIn w1 (ao, n, cap) ss := by
  obtain ⟨ao', cap', e, hc, _⟩ := hr.shape
  cases e
  refine ⟨⟨hn, hc⟩, by omega, fun a e _ => ?_⟩
  have e' : ao = some a := e
  subst e'
  exact hr.lt a.block rfl
 have ho : jB (ao, n, cap) (dW b iv) := fun a e _ ho => by
  have e' : ao = some a := e
  subst e'
  have h1 : w.heap.size ≤ a.block := hr.block a.block rfl
  have h2 : a.block < w.heap.size := by
   obtain ⟨con, zs, hc, hs, hl⟩ := h
   rcases ho with ho | ho
   ·rw [ho]; exact hs.blk.lt
   ·exact hs.row.lt _ ho
  omega
 obtain ⟨con, zs, hc, hs, hlz, hd, ex, hz, e1, e2⟩ := (h.ext hk).open hst hx ho
 have hzl : zs.length = LL.length := by rw [<- hlz]; simp
 refine (vK (lL con) (ao, n, cap) hd hz hs (by omega)).mono ?_
 rintro e w2 ⟨v, rfl, hk2, rfl, iv', hs2, hiv⟩
 refine RetF.mk hk2 ⟨by rw [e1], iv', ?_, hiv⟩
 have hsame : Same (kV S (ao, n, cap)) w1 w2 := hk2.same hs.inS fun k h1 h2 => hs.notS k h2 h1
 have := RowsAt.of_set hc hsame hs2
 rwa [<- aJc con zs (ao, n, cap), hlz, ex] at this
end
end Go.Proofs.YtinnmeiphbdogaaGreat
namespace Go.Proofs.YtinnmeiphbdogaaGreat
open Go.RowKit
section
variable {S : Nat -> Prop} {w w' : World} {b : Nat} {iv : Value} {arity : Nat} {LL : List (List ByteArray)}
def RowsAdded (S : Nat -> Prop) (w : World) (b : Nat) (iv : Value) (arity : Nat) (LL : List (List ByteArray)) (ss : List ByteArray) (w' : World) (v : Value) : Prop :=
 v = .tuple #[.bool (aV arity LL ss).1, .int .i64 ((aV arity LL ss).2 : Nat)] /\
  ∃ S' iv', (∀ k, S k -> S' k) /\ (∀ k, S' k -> S k \/ w.heap.size ≤ k) /\ RowsAt S' w' b iv' arity (bL arity LL ss) /\ ∀ k, iv'.ownBlock = some k -> iv.ownBlock = some k \/ w.heap.size ≤ k
theorem RowsAdded.same (h : RowsAt S w b iv arity LL) {ss : List ByteArray} {w1 : World} (hk : Ext w w1) {v : Value} (hv : v = .tuple #[.bool (aV arity LL ss).1, .int .i64 ((aV arity LL ss).2 : Nat)]) (h0 : bL arity LL ss = LL) : RowsAdded S w b iv arity LL ss w1 v :=
 ⟨hv, S, iv, fun _ h => h, fun _ h => .inl h, by rw [h0]; exact h.ext hk, fun _ h => .inl h⟩
set_option maxRecDepth 100000 in
set_option maxHeartbeats 2000000 in
theorem mJ (h : RowsAt S w b iv arity LL) (hst : Strict aC LL) {ao : Option Addr} {n cap : Nat} {ss : List ByteArray} (hx : RowIn w (ao, n, cap) ss) (ho : jB (ao, n, cap) (dW b iv)) (hLL : LL.length + 1 ≤ 1048576 * 1048576) :
 Calls Tryz.prog 88 #[.pointer (some ⟨b, 0, none⟩), .slice ao n cap] w (RetF (dW b iv) w (RowsAdded S w b iv arity LL ss)) := by
 have hn : n = ss.length := hx.1.1
 have hcs : CellsAt w ao (strs ss) := hx.1.2
 have hl : ss.length ≤ 8796093021952 := hx.2.1
 have c2 : w.cell? ⟨b, 2, none⟩ = some (.int .i64 arity) := by rw [h.blk.cell']; rfl
 have HT := qH (qR ss ao n cap w hn hcs (by omega))
 have HH := qH (fun w1 (hw : Ext w w1) => mI (h.ext hw) hst (x := (ao, n, cap)) (ss := ss) ⟨⟨hn, hcs.ext hw⟩, hl, fun a e hne => Nat.lt_of_lt_of_le (hx.2.2 a e hne) hw.size⟩ ho)
 have HLN := qH (fun w1 (hw : Ext w w1) => aAh (h.ext hw))
 have HS := qH (fun w1 (hw : Ext w w1) => fX (h.ext hw))
 have HCL := qH (fun w1 (hw : Ext w w1) => hU (strs ss) ao cap w1 n (by simp [strs, hn]) (hcs.ext hw) (pH ss) (by omega))
 have HP := qH (fun w0 w1 ao1 cap1 (hw : Ext w w0) (hk : Ext w0 w1) hr => aEw (w := w0) (w1 := w1) (ao := ao1) (n := n) (cap := cap1) (h.ext hw) hst hk hr hn (by omega) hLL)
 have H := qH h
 have HN := qH hn
 clear h hst hx ho hcs hn
 obtain ⟨m, em⟩ : ∃ m, m = LL.length := ⟨_, rfl⟩
 rw [<- em] at HLN hLL
 have EM := qH em; clear em hLL
 by_cases h1 : n = arity
 ·have q1 : ((n : Int) != (arity : Int)) = false := by simp [h1]
  have H1 := qH h1; clear h1
  cases ht : bO ss with
  | false =>
   have HTX := qH ht
   rw [ht] at HT; clear ht
   go_enter Tryz.func88, Tryz.ntmps88
   go_wp2_with fail
   refine HT.out.mono ?_
   rintro e w1 ⟨v, rfl, hk, rfl⟩
   have HK := qH hk; clear hk
   go_wp2
   go_ret2
   have e0 : aV arity LL ss = (false, 31) := by unfold aV; rw [if_neg (by rw [<- HN.out, H1.out]; simp), if_pos HTX.out]
   exact RetF.mk (Ext.kp HK.out) (RowsAdded.same H.out HK.out (by rw [e0]; rfl) (by unfold bL; rw [e0]; rfl))
  | true =>
   have HTX := qH ht
   rw [ht] at HT; clear ht
   by_cases hf : 65536 ≤ m
   ·have q2 : decide ((65536 : Int) ≤ (m : Int)) = true := by rw [decide_eq_true_iff]; omega
    have HF := qH hf; clear hf
    cases hi : bH aC LL ss with
    | false =>
     have HI := qH hi
     rw [hi] at HH; clear hi
     go_enter Tryz.func88, Tryz.ntmps88
     go_wp2_with fail
     refine HT.out.mono ?_
     rintro e w0 ⟨v, rfl, hk0, rfl⟩
     go_wp2_with fail
     refine (HLN.out w0 hk0).mono ?_
     rintro e w' ⟨rfl, rfl⟩
     go_wp2_with fail
     refine (HH.out w0 hk0).mono ?_
     rintro e w1 ⟨v, rfl, hk01, rfl⟩
     have hk1 := hk0.trans hk01
     clear hk0 hk01
     have HK := qH hk1; clear hk1
     go_wp2
     go_ret2
     have e0 : aV arity LL ss = (false, 4) := by unfold aV; rw [if_neg (by rw [<- HN.out, H1.out]; simp), if_neg (by rw [HTX.out]; simp), if_pos ⟨EM.out ▸ HF.out, HI.out⟩]
     exact RetF.mk (Ext.kp HK.out) (RowsAdded.same H.out HK.out (by rw [e0]; rfl) (by unfold bL; rw [e0]; rfl))
    | true =>
     have HI := qH hi
     rw [hi] at HH; clear hi
     go_enter Tryz.func88, Tryz.ntmps88
     go_wp2_with fail
     refine HT.out.mono ?_
     rintro e w0 ⟨v, rfl, hk0, rfl⟩
     go_wp2_with fail
     refine (HLN.out w0 hk0).mono ?_
     rintro e w' ⟨rfl, rfl⟩
     go_wp2_with fail
     refine (HH.out w0 hk0).mono ?_
     rintro e w1 ⟨v, rfl, hk01, rfl⟩
     have hk1 := hk0.trans hk01
     clear hk0 hk01
     go_wp2_with fail
     refine (HS.out w1 hk1).mono ?_
     rintro e w' ⟨rfl, rfl⟩
     go_wp2_with fail
     refine (HCL.out w1 hk1).mono ?_
     rintro e w2 ⟨v, rfl, hk2, hr2⟩
     obtain ⟨ao2, cap2, ev, _, _⟩ := hr2.shape
     subst ev
     go_wp2_with fail
     refine (HP.out w1 w2 ao2 cap2 hk1 hk2 hr2).mono ?_
     rintro e w3 ⟨v, rfl, hk3, rfl, iv', hrows, hiv⟩
     have HR := qH (And.intro hk3 (And.intro hrows hiv))
     have hb2 := hr2.block
     clear hk3 hrows hiv hr2
     go_wp2
     go_ret2
     have e0 : aV arity LL ss = (!bH aC LL ss, 0) := by unfold aV; rw [if_neg (by rw [<- HN.out, H1.out]; simp), if_neg (by rw [HTX.out]; simp), if_neg (fun h => by rw [HI.out] at h; cases h.2)]
     have z1 := hk1.size
     have z2 := hk2.size
     refine RetF.mk ((Ext.kp (hk1.trans hk2)).trans HR.out.1) ⟨by rw [e0]; rfl, kV S (ao2, n, cap2), iv', fun k h => .inl h, fun k h => ?_, by unfold bL; rw [e0]; exact HR.out.2.1, fun k h => (HR.out.2.2 k h).imp id (fun h => by omega)⟩
     rcases h with h | ⟨a, e, _, rfl⟩
     ·exact .inl h
     ·have e' : ao2 = some a := e
      subst e'
      have := hb2 a.block rfl
      exact .inr (Nat.le_trans z1 this)
   ·have q2 : decide ((65536 : Int) ≤ (m : Int)) = false := by rw [decide_eq_false_iff_not]; omega
    have HF := qH hf; clear hf
    go_enter Tryz.func88, Tryz.ntmps88
    go_wp2_with fail
    refine HT.out.mono ?_
    rintro e w1 ⟨v, rfl, hk1, rfl⟩
    go_wp2_with fail
    refine (HLN.out w1 hk1).mono ?_
    rintro e w' ⟨rfl, rfl⟩
    go_wp2_with fail
    refine (HS.out w1 hk1).mono ?_
    rintro e w' ⟨rfl, rfl⟩
    go_wp2_with fail
    refine (HCL.out w1 hk1).mono ?_
    rintro e w2 ⟨v, rfl, hk2, hr2⟩
    obtain ⟨ao2, cap2, ev, _, _⟩ := hr2.shape
    subst ev
    go_wp2_with fail
    refine (HP.out w1 w2 ao2 cap2 hk1 hk2 hr2).mono ?_
    rintro e w3 ⟨v, rfl, hk3, rfl, iv', hrows, hiv⟩
    have HR := qH (And.intro hk3 (And.intro hrows hiv))
    have hb2 := hr2.block
    clear hk3 hrows hiv hr2
    go_wp2
    go_ret2
    have e0 : aV arity LL ss = (!bH aC LL ss, 0) := by unfold aV; rw [if_neg (by rw [<- HN.out, H1.out]; simp), if_neg (by rw [HTX.out]; simp), if_neg (fun h => HF.out (EM.out ▸ h.1))]
    have z1 := hk1.size
    have z2 := hk2.size
    refine RetF.mk ((Ext.kp (hk1.trans hk2)).trans HR.out.1) ⟨by rw [e0]; rfl, kV S (ao2, n, cap2), iv', fun k h => .inl h, fun k h => ?_, by unfold bL; rw [e0]; exact HR.out.2.1, fun k h => (HR.out.2.2 k h).imp id (fun h => by omega)⟩
    rcases h with h | ⟨a, e, _, rfl⟩
    ·exact .inl h
    ·have e' : ao2 = some a := e
     subst e'
     have := hb2 a.block rfl
     exact .inr (Nat.le_trans z1 this)
 ·have q1 : ((n : Int) != (arity : Int)) = true := by rw [bne_iff_ne]; omega
  have H1 := qH h1; clear h1
  go_enter Tryz.func88, Tryz.ntmps88
  go_wp2
  go_ret2
  have e0 : aV arity LL ss = (false, 30) := by unfold aV; rw [if_pos (by rw [<- HN.out]; exact H1.out)]
  exact RetF.mk (Kp.refl _) (RowsAdded.same H.out (Kp.refl _) (by rw [e0]; rfl) (by unfold bL; rw [e0]; rfl))
end
end Go.Proofs.YtinnmeiphbdogaaGreat
/- Bases in plain Lean: names, each with its rows: what is declared, what is added, what relations make. No program in sight. -/
namespace Go.Proofs.YtinnmeiphbdogaaGreat
abbrev bA := ByteArray × Nat × List (List ByteArray)
abbrev gQ := ByteArray × Int × List (List ByteArray) × Unit
abbrev aD := List (List ByteArray)
theorem cX : OrdLaw aC := lL id
theorem lK : aFe aC := fun _ _ h => gC h
def bK (C : List bA) (s : ByteArray) : Option (Nat × aD) := (C.find? fun p => decide (p.1 = s)).map (·.2)
def oV (C : List bA) (s : ByteArray) (v : Nat × aD) : List bA := if (bK C s).isSome then C.map fun p => if p.1 = s then (p.1, v) else p else C ++ [(s, v)]
def bG (C : List bA) : Nat := (C.map fun p => p.2.2.length).sum
def bV (s : ByteArray) : Bool := decide (1 ≤ s.size /\ s.size ≤ 4096)
def dA (C : List bA) (s : ByteArray) (a : Int) : Nat := if bV s = false then 32 else if a < 0 \/ 64 < a then 2 else match bK C s with | some v => if (v.1 : Int) = a then 0 else 30 | none => 0
def dP (C : List bA) (s : ByteArray) (a : Int) : List bA := if dA C s a = 0 /\ bK C s = none then C ++ [(s, a.toNat, [])] else C
def bF (C : List bA) (s : ByteArray) : aD := match bK C s with | some v => v.2 | none => []
def qM (C : List bA) (s : ByteArray) (row : List ByteArray) : Bool := match bK C s with | some v => decide (v.1 = row.length) | none => decide (row.length ≤ 64)
def dV (C : List bA) (s : ByteArray) (row : List ByteArray) : Bool × Nat :=
 if bV s = false then (false, 32) else
 if qM C s row = false then (false, 30) else
 if bO row = false then (false, 31) else
 if 262144 ≤ bG C /\ bH aC (bF C s) row = false then (false, 4) else
 if 65536 ≤ (bF C s).length /\ bH aC (bF C s) row = false then (false, 4) else (!bH aC (bF C s) row, 0)
def lO (C : List bA) (s : ByteArray) (row : List ByteArray) : List bA := if (dV C s row).2 = 0 then oV C s (row.length, cM aC (bF C s) row) else C
def cS (C : List bA) (s : ByteArray) : aD -> List bA × Nat
 | [] => (C, 0)
 | r :: rs => if (dV C s r).2 = 0 then cS (lO C s r) s rs else (C, (dV C s r).2)
def bY (C : List bA) : List gQ -> List bA × Nat
 | [] => (C, 0)
 | r :: rs => if dA C r.1 r.2.1 = 0 then (if (cS (dP C r.1 r.2.1) r.1 r.2.2.1).2 = 0 then bY (cS (dP C r.1 r.2.1) r.1 r.2.2.1).1 rs else cS (dP C r.1 r.2.1) r.1 r.2.2.1) else (C, dA C r.1 r.2.1)
structure CntOk (p : bA) : Prop where
 name : bV p.1 = true
 ar : p.2.1 ≤ 64
 strict : Strict aC p.2.2
 len : ∀ r ∈ p.2.2, r.length = p.2.1
 txt : ∀ r ∈ p.2.2, bO r = true
 few : p.2.2.length ≤ 65536
structure BaseOk (C : List bA) : Prop where
 nodup : (C.map (·.1)).Nodup
 all : ∀ p ∈ C, CntOk p
 few : bG C ≤ 262144
theorem dM {C : List bA} (h : (C.map (·.1)).Nodup) {s : ByteArray} {v : Nat × aD} : bK C s = some v ↔ (s, v) ∈ C := by
 unfold bK
 induction C with
 | nil => simp
 | cons p C ih =>
  rw [List.map_cons, List.nodup_cons] at h
  by_cases e : p.1 = s
  ·rw [List.find?_cons_of_pos (by simp [e])]
   subst e
   simp only [Option.map_some, Option.some.injEq, List.mem_cons]
   constructor
   ·rintro rfl; exact .inl rfl
   ·rintro (h1 | h1)
    ·rw [<- h1]
    ·exact absurd (List.mem_map.2 ⟨_, h1, rfl⟩) h.1
  ·rw [List.find?_cons_of_neg (by simp [e]), ih h.2, List.mem_cons]
   constructor
   ·exact .inr
   ·rintro (h1 | h1)
    ·exact absurd (by rw [<- h1]) e
    ·exact h1
theorem kE {C : List bA} {s : ByteArray} : bK C s = none ↔ s ∉ C.map (·.1) := by
 unfold bK
 rw [Option.map_eq_none_iff, List.find?_eq_none]
 constructor
 ·intro h hm
  obtain ⟨p, hp, rfl⟩ := List.mem_map.1 hm
  exact h p hp (by simp)
 ·intro h p hp hd
  exact h (List.mem_map.2 ⟨p, hp, by simpa using hd⟩)
theorem aBi {C : List bA} {s t : ByteArray} {v : Nat × aD} (h : bK C s = none) : bK (C ++ [(s, v)]) t = if s = t then some v else bK C t := by
 unfold bK at *
 rw [List.find?_append]
 by_cases e : s = t
 ·subst e
  rw [Option.map_eq_none_iff] at h
  rw [h, if_pos rfl]; simp
 ·rw [if_neg e]
  cases hc : C.find? (fun p => decide (p.1 = t)) with
  | none => simp [e]
  | some x => simp
theorem aBh {C : List bA} {s t : ByteArray} {v : Nat × aD} : bK (oV C s v) t = if s = t then some v else bK C t := by
 unfold oV
 cases hg : bK C s with
 | none => rw [if_neg (by simp)]; exact aBi hg
 | some u =>
  rw [if_pos (by simp)]
  unfold bK at *
  rw [List.find?_map]
  have hf : ((fun p : bA => decide (p.1 = t)) ∘ fun p : bA => if p.1 = s then (p.1, v) else p) = fun p => decide (p.1 = t) := by
   funext p; simp only [Function.comp]; split <;> rfl
  rw [hf]
  by_cases e : s = t
  ·subst e
   rw [if_pos rfl]
   cases hc : C.find? (fun p => decide (p.1 = s)) with
   | none => rw [hc] at hg; cases hg
   | some x =>
    have hx := List.find?_some hc
    simp only [decide_eq_true_eq] at hx
    simp [hx]
  ·rw [if_neg e]
   cases hc : C.find? (fun p => decide (p.1 = t)) with
   | none => rfl
   | some x =>
    have hx := List.find?_some hc
    simp only [decide_eq_true_eq] at hx
    have hne : ¬ x.1 = s := fun e2 => e (by rw [<- e2, hx])
    simp [hne]
theorem aFq {C : List bA} {s : ByteArray} {v : Nat × aD} : (oV C s v).map (·.1) = if (bK C s).isSome then C.map (·.1) else C.map (·.1) ++ [s] := by
 unfold oV
 split
 ·rw [List.map_map]
  apply List.map_congr_left
  intro p _
  simp only [Function.comp]; split <;> rfl
 ·simp
theorem aF4 {C : List bA} (h : (C.map (·.1)).Nodup) (s : ByteArray) (v : Nat × aD) : ((oV C s v).map (·.1)).Nodup := by
 rw [aFq]
 split
 ·exact h
 ·rename_i hn
  have h0 : bK C s = none := by
   cases hg : bK C s with
   | none => rfl
   | some u => rw [hg] at hn; simp at hn
  exact List.nodup_append.2 ⟨h, by simp, fun a ha b hb e => kE.1 h0 (by rw [List.mem_singleton] at hb; rw [<- hb, <- e]; exact ha)⟩
theorem aJv {C : List bA} {s : ByteArray} {v : Nat × aD} {p : bA} (h : p ∈ oV C s v) : p = (s, v) \/ p ∈ C := by
 unfold oV at h
 split at h
 ·obtain ⟨q, hq, e⟩ := List.mem_map.1 h
  split at e
  ·rename_i e2; left; rw [<- e, e2]
  ·right; rw [<- e]; exact hq
 ·rcases List.mem_append.1 h with h | h
  ·exact .inr h
  ·left; simpa using h
theorem jT {C : List bA} {s : ByteArray} (h : bK C s = none) : bF C s = [] := by unfold bF; rw [h]
theorem jR {C : List bA} {s : ByteArray} {v : Nat × aD} (h : bK C s = some v) : bF C s = v.2 := by unfold bF; rw [h]
theorem aHz {C : List bA} {s t : ByteArray} {v : Nat × aD} : bF (oV C s v) t = if s = t then v.2 else bF C t := by
 unfold bF
 rw [aBh]
 by_cases e : s = t
 ·rw [if_pos e, if_pos e]
 ·rw [if_neg e, if_neg e]
theorem aFd {C : List bA} {s : ByteArray} {row : List ByteArray} (h : (dV C s row).2 = 0) : bV s = true /\ qM C s row = true := by
 unfold dV at h
 split at h
 ·cases h
 ·rename_i h1
  split at h
  ·cases h
  ·rename_i h2
   exact ⟨by simpa using h1, by simpa using h2⟩
theorem aEj {C : List bA} {s : ByteArray} {row : List ByteArray} (h : (dV C s row).2 = 0) : bO row = true /\ (262144 ≤ bG C -> bH aC (bF C s) row = true) /\ (65536 ≤ (bF C s).length -> bH aC (bF C s) row = true) := by
 unfold dV at h
 split at h
 ·cases h
 ·split at h
  ·cases h
  ·split at h
   ·cases h
   ·rename_i h3
    split at h
    ·cases h
    ·rename_i h4
     split at h
     ·cases h
     ·rename_i h5
      refine ⟨by simpa using h3, fun h6 => ?_, fun h6 => ?_⟩
      ·cases hi : bH aC (bF C s) row with
       | true => rfl
       | false => exact absurd ⟨h6, hi⟩ h4
      ·cases hi : bH aC (bF C s) row with
       | true => rfl
       | false => exact absurd ⟨h6, hi⟩ h5
theorem aAf {C : List bA} (h : BaseOk C) (s : ByteArray) : Strict aC (bF C s) := by
 cases hg : bK C s with
 | none => rw [jT hg]; exact fN
 | some v => rw [jR hg]; exact (h.all _ ((dM h.nodup).1 hg)).strict
theorem aDh {C : List bA} (h : BaseOk C) {s : ByteArray} {row : List ByteArray} : bH aC (bF C s) row = true ↔ row ∈ bF C s := aBc cX lK
theorem wE {C : List bA} (hn : (C.map (·.1)).Nodup) {s : ByteArray} {v : Nat × aD} : bG (oV C s v) + (bF C s).length = bG C + v.2.length := by
 unfold oV
 cases hg : bK C s with
 | none => rw [if_neg (by simp), jT hg]; simp [bG]
 | some u =>
  rw [if_pos (by simp), jR hg]
  have hm : ∀ (D : List bA), (D.map (·.1)).Nodup -> (s, u) ∈ D -> bG (D.map fun p => if p.1 = s then (p.1, v) else p) + u.2.length = bG D + v.2.length := by
   intro D
   induction D with
   | nil => intro _ h; cases h
   | cons p D ih =>
    intro hnd hin
    rw [List.map_cons, List.nodup_cons] at hnd
    simp only [bG, List.map_cons, List.sum_cons] at ih ⊢
    by_cases e : p.1 = s
    ·have hp : p = (s, u) := by
      rcases List.mem_cons.1 hin with h | h
      ·exact h.symm
      ·exact absurd (List.mem_map.2 ⟨_, h, rfl⟩) (by rw [<- e] at h ⊢; exact hnd.1)
     have hid : (D.map fun q : bA => if q.1 = s then (q.1, v) else q) = D := by
      conv => rhs; rw [<- List.map_id D]
      apply List.map_congr_left
      intro q hq
      have : ¬ q.1 = s := fun e2 => hnd.1 (List.mem_map.2 ⟨q, hq, by rw [e2, e]⟩)
      rw [if_neg this]; rfl
     rw [hid, if_pos e, hp]; dsimp only; omega
    ·have h1 : (s, u) ∈ D := by
      rcases List.mem_cons.1 hin with h | h
      ·exact absurd (by rw [<- h]) e
      ·exact h
     have := ih hnd.2 h1
     rw [if_neg e]; omega
  exact hm C hn ((dM hn).1 hg)
theorem pS {C : List bA} (h : BaseOk C) (s : ByteArray) (a : Int) : BaseOk (dP C s a) := by
 unfold dP
 split
 ·rename_i hc
  obtain ⟨h1, h2⟩ := hc
  have hn : bV s = true /\ 0 ≤ a /\ a ≤ 64 := by
   unfold dA at h1
   split at h1
   ·cases h1
   ·rename_i e1
    split at h1
    ·cases h1
    ·rename_i e2
     exact ⟨by simpa using e1, by omega, by omega⟩
  refine ⟨?_, fun p hp => ?_, ?_⟩
  ·rw [List.map_append]
   exact List.nodup_append.2 ⟨h.nodup, by simp, fun x hx y hy e => kE.1 h2 (by
    have : y = s := by simpa using hy
    rw [<- this, <- e]; exact hx)⟩
  ·rcases List.mem_append.1 hp with hp | hp
   ·exact h.all p hp
   ·have e : p = (s, a.toNat, []) := by simpa using hp
    subst e
    exact ⟨hn.1, show a.toNat ≤ 64 by omega, fN, fun r hr => (by cases hr), fun r hr => (by cases hr), Nat.zero_le _⟩
  ·have e : bG (C ++ [(s, a.toNat, [])]) = bG C := by simp [bG]
   rw [e]; exact h.few
 ·exact h
theorem kF {C : List bA} {s t : ByteArray} {a : Int} (h : dA C s a = 0) : bK (dP C s a) t = if s = t /\ bK C s = none then some (a.toNat, []) else bK C t := by
 unfold dP
 cases hg : bK C s with
 | none =>
  rw [if_pos ⟨h, rfl⟩, aBi hg]
  by_cases e : s = t
  ·rw [if_pos e, if_pos ⟨e, rfl⟩]
  ·rw [if_neg e, if_neg (fun k => e k.1)]
 | some v => rw [if_neg (fun k => by cases k.2), if_neg (fun k => by cases k.2)]
theorem aJ6 {C : List bA} {s : ByteArray} {a : Int} (h : dA C s a = 0) : ∃ LL, bK (dP C s a) s = some (a.toNat, LL) /\ 0 ≤ a /\ a ≤ 64 /\ bV s = true := by
 have h0 := h
 unfold dA at h
 split at h
 ·cases h
 ·rename_i e1
  split at h
  ·cases h
  ·rename_i e2
   cases hg : bK C s with
   | none => exact ⟨[], by rw [kF h0, if_pos ⟨rfl, hg⟩], by omega, by omega, by simpa using e1⟩
   | some v =>
    rw [hg] at h
    have h1 : (v.1 : Int) = a := by
     by_cases e : (v.1 : Int) = a
     ·exact e
     ·simp [e] at h
    refine ⟨v.2, ?_, by omega, by omega, by simpa using e1⟩
    rw [kF h0, if_neg (fun k => by rw [hg] at k; cases k.2), hg]
    have : v.1 = a.toNat := by omega
    rw [<- this]
theorem aFv {C : List bA} {s t : ByteArray} {a : Int} (h : dA C s a = 0) : bF (dP C s a) t = bF C t := by
 unfold bF
 rw [kF h]
 by_cases e : s = t /\ bK C s = none
 ·rw [if_pos e, <- e.1, e.2]
 ·rw [if_neg e]
theorem yS {C : List bA} (h : BaseOk C) (s : ByteArray) (row : List ByteArray) : BaseOk (lO C s row) := by
 unfold lO
 split
 ·rename_i h0
  obtain ⟨t1, t2, t3⟩ := aEj h0
  obtain ⟨n1, n4⟩ := aFd h0
  have n2 : ∀ v, bK C s = some v -> v.1 = row.length := fun v hv => by
   unfold qM at n4; rw [hv] at n4; exact of_decide_eq_true n4
  have n3 : row.length ≤ 64 := by
   cases hg : bK C s with
   | none => unfold qM at n4; rw [hg] at n4; exact of_decide_eq_true n4
   | some v =>
    have h1 : v.1 ≤ 64 := (h.all _ ((dM h.nodup).1 hg)).ar
    have := n2 v hg
    omega
  ·have hst := aAf h s
   have hlen : ∀ r ∈ bF C s, r.length = row.length /\ bO r = true := fun r hr => by
    cases hg : bK C s with
    | none => rw [jT hg] at hr; cases hr
    | some v =>
     rw [jR hg] at hr
     have hp := h.all _ ((dM h.nodup).1 hg)
     exact ⟨(hp.len r hr).trans (n2 v hg), hp.txt r hr⟩
   have hfew : (bF C s).length ≤ 65536 := by
    cases hg : bK C s with
    | none => rw [jT hg]; exact Nat.zero_le _
    | some v => rw [jR hg]; exact (h.all _ ((dM h.nodup).1 hg)).few
   have hl := qN (c := aC) (bF C s) row
   refine ⟨aF4 h.nodup _ _, fun p hp => ?_, ?_⟩
   ·rcases aJv hp with rfl | hp
    ·refine ⟨n1, n3, hst.add cX row, fun r hr => ?_, fun r hr => ?_, ?_⟩
     ·rcases (jX (c := aC)).1 hr with hr | ⟨rfl, _⟩
      ·exact (hlen r hr).1
      ·rfl
     ·rcases (jX (c := aC)).1 hr with hr | ⟨rfl, _⟩
      ·exact (hlen r hr).2
      ·exact t1
     ·show (cM aC (bF C s) row).length ≤ 65536
      rw [hl]
      split
      ·omega
      ·rename_i hi
       have : ¬ 65536 ≤ (bF C s).length := fun k => hi (t3 k)
       omega
    ·exact h.all p hp
   ·have := wE h.nodup (s := s) (v := (row.length, cM aC (bF C s) row))
    have hf := h.few
    rw [hl] at this
    split at this
    ·omega
    ·rename_i hi
     have : ¬ 262144 ≤ bG C := fun k => hi (t2 k)
     omega
 ·exact h
theorem aHk {C : List bA} (h : BaseOk C) {s : ByteArray} {row : List ByteArray} (h0 : (dV C s row).2 = 0) : bV s = true /\ ∀ v, bK C s = some v -> v.1 = row.length := by
 obtain ⟨n1, n4⟩ := aFd h0
 exact ⟨n1, fun v hv => by unfold qM at n4; rw [hv] at n4; exact of_decide_eq_true n4⟩
theorem aH1 {C : List bA} (h : BaseOk C) {s t : ByteArray} {row x : List ByteArray} (h0 : (dV C s row).2 = 0) : x ∈ bF (lO C s row) t ↔ x ∈ bF C t \/ (s = t /\ x = row) := by
 unfold lO
 rw [if_pos h0, aHz]
 by_cases e : s = t
 ·subst e
  rw [if_pos rfl]
  show x ∈ cM aC (bF C s) row ↔ _
  rw [jX]
  constructor
  ·rintro (h1 | ⟨h1, _⟩)
   ·exact .inl h1
   ·exact .inr ⟨rfl, h1⟩
  ·rintro (h1 | ⟨_, h1⟩)
   ·exact .inl h1
   ·cases hi : bH aC (bF C s) row with
    | true => left; rw [h1]; exact (aDh h).1 hi
    | false => exact .inr ⟨h1, rfl⟩
 ·rw [if_neg e]
  constructor
  ·exact .inl
  ·rintro (h1 | ⟨h1, _⟩)
   ·exact h1
   ·exact absurd h1 e
theorem aHf {C : List bA} (h : BaseOk C) {s t : ByteArray} {row : List ByteArray} (h0 : (dV C s row).2 = 0) (hs : ∃ v, bK C s = some v) : (bK (lO C s row) t).map (·.1) = (bK C t).map (·.1) := by
 unfold lO
 rw [if_pos h0, aBh]
 by_cases e : s = t
 ·subst e
  rw [if_pos rfl]
  obtain ⟨v, hv⟩ := hs
  rw [hv]
  simp [(aHk h h0).2 v hv]
 ·rw [if_neg e]
structure InC (C D : List bA) : Prop where
 ar : ∀ s v, bK C s = some v -> ∃ LL, bK D s = some (v.1, LL)
 rows : ∀ s r, r ∈ bF C s -> r ∈ bF D s
end Go.Proofs.YtinnmeiphbdogaaGreat
/- Tries as levels of starts: plain. -/
namespace Go.Proofs.YtinnmeiphbdogaaGreat
def cQ (W : aD) (i n : Nat) : Bool := n == 0 || decide ((W.getD (n - 1) []).take i ≠ (W.getD n []).take i)
def aU (W : aD) (d i n : Nat) : List Nat := if i < d then (List.range n).filter fun k => cQ W (i + 1) k else List.range n
theorem lX (W : aD) {d i n : Nat} (hi : i < d) : aU W d i (n + 1) = aU W d i n ++ if cQ W (i + 1) n then [n] else [] := by
 unfold aU
 rw [if_pos hi, if_pos hi, List.range_succ, List.filter_append]
 congr 1
 simp only [List.filter_cons, List.filter_nil]
theorem lY (W : aD) {d i n : Nat} (hi : ¬ i < d) : aU W d i n = List.range n := if_neg hi
theorem cU (W : aD) (d i n : Nat) : (aU W d i n).length ≤ n := by
 unfold aU
 split
 ·exact Nat.le_trans (List.length_filter_le _ _) (by rw [List.length_range]; exact Nat.le_refl _)
 ·rw [List.length_range]; exact Nat.le_refl _
def bM (W : aD) (d i n : Nat) : List ByteArray := (aU W d i n).map fun k => (W.getD k []).getD i ByteArray.empty
def aQ (W : aD) (d i n : Nat) : Nat := (aU W d i n).length
def bU (W : aD) (d i n : Nat) : List Int := (aU W d i n).map fun k => (aQ W d (i + 1) k : Int)
theorem eJ (W : aD) (d i n : Nat) : (bM W d i n).length = aQ W d i n := by unfold bM aQ; rw [List.length_map]
theorem gB (W : aD) (d i n : Nat) : (bU W d i n).length = aQ W d i n := by unfold bU aQ; rw [List.length_map]
theorem aAr (W : aD) (i : Nat) : cQ W i 0 = true := rfl
theorem dR {W : aD} {i n : Nat} : cQ W i n = true ↔ n = 0 \/ (W.getD (n - 1) []).take i ≠ (W.getD n []).take i := by
 unfold cQ
 rw [Bool.or_eq_true, decide_eq_true_iff, beq_iff_eq]
theorem bC {α : Type} {l : List α} {i : Nat} {x d : α} (h : l[i]? = some x) : l.getD i d = x := by rw [List.getD_eq_getElem?_getD, h]; rfl
theorem aC4 {W : aD} {i n : Nat} {x y : List ByteArray} (hn : 0 < n) (hx : W[n - 1]? = some x) (hy : W[n]? = some y) (h1 : i < x.length) (h2 : i < y.length) : cQ W (i + 1) n = (cQ W i n || decide (x[i] ≠ y[i])) := by
 rw [Bool.eq_iff_iff, Bool.or_eq_true, decide_eq_true_iff, dR, dR, bC hx, bC hy]
 have ex : x.take (i + 1) = x.take i ++ [x[i]] := by rw [List.take_add_one, qG h1]; rfl
 have ey : y.take (i + 1) = y.take i ++ [y[i]] := by rw [List.take_add_one, qG h2]; rfl
 rw [ex, ey]
 have hl : (x.take i).length = (y.take i).length := by rw [List.length_take, List.length_take]; omega
 refine ⟨fun h => ?_, fun h => .inr fun e => ?_⟩
 ·by_cases h3 : x.take i = y.take i
  ·refine .inr fun h4 => ?_
   rcases h with h | h
   ·omega
   ·exact h (by rw [h3, h4])
  ·exact .inl (.inr h3)
 ·obtain ⟨e1, e2⟩ := List.append_inj e hl
  rcases h with (h | h) | h
  ·omega
  ·exact h e1
  ·exact h (by simpa using e2)
structure WaysOk (W : aD) (d : Nat) : Prop where
 len : ∀ r ∈ W, r.length = d
 rise : Strict aC W
theorem jM : ∀ (j : Nat) {x y : List ByteArray}, x.length = y.length -> aC x y ≤ 0 -> aC (x.take j) (y.take j) ≤ 0
 | 0, _, _, _, _ => by simp [aC]
 | j + 1, [], [], _, _ => by simp [aC]
 | j + 1, [], _ :: _, h, _ => by simp at h
 | j + 1, _ :: _, [], h, _ => by simp at h
 | j + 1, a :: x, b :: y, hl, h => by
  simp only [List.take_succ_cons]
  unfold aC at h ⊢
  split at h
  ·rename_i h1
   rw [if_pos h1]; exact h
  ·rename_i h1
   rw [if_neg h1]
   exact jM j (by simpa using hl) h
theorem rY : ∀ (q : List ByteArray) (a b : ByteArray), aC (q ++ [a]) (q ++ [b]) = aZ a.toList b.toList
 | [], a, b => by
  show (if aZ a.toList b.toList ≠ 0 then aZ a.toList b.toList else aC [] []) = _
  split
  ·rfl
  ·rename_i h
   have : aZ a.toList b.toList = 0 := Classical.not_not.1 h
   rw [this]; rfl
 | c :: q, a, b => by
  show (if aZ c.toList c.toList ≠ 0 then aZ c.toList c.toList else aC (q ++ [a]) (q ++ [b])) = _
  rw [if_neg (by rw [dT]; simp)]
  exact rY q a b
theorem WaysOk.le {W : aD} {d : Nat} (h : WaysOk W d) {m n : Nat} {x y : List ByteArray} (hx : W[m]? = some x) (hy : W[n]? = some y) (hmn : m ≤ n) : aC x y ≤ 0 := by
 rcases Nat.lt_or_eq_of_le hmn with h1 | h1
 ·obtain ⟨l1, e1⟩ := List.getElem?_eq_some_iff.1 hx
  obtain ⟨l2, e2⟩ := List.getElem?_eq_some_iff.1 hy
  have := List.pairwise_iff_getElem.1 h.rise m n l1 l2 h1
  rw [e1, e2] at this; omega
 ·subst h1
  rw [hx] at hy; cases hy
  rw [nD]; omega
theorem WaysOk.between {W : aD} {d : Nat} (h : WaysOk W d) {m k n j : Nat} {x y z : List ByteArray} (hx : W[m]? = some x) (hy : W[k]? = some y) (hz : W[n]? = some z) (h1 : m ≤ k) (h2 : k ≤ n) (he : x.take j = z.take j) : y.take j = x.take j := by
 have lx := h.len x (List.mem_of_getElem? hx)
 have ly := h.len y (List.mem_of_getElem? hy)
 have lz := h.len z (List.mem_of_getElem? hz)
 have a1 := jM j (lx.trans ly.symm) (h.le hx hy h1)
 have a2 := jM j (ly.trans lz.symm) (h.le hy hz h2)
 rw [<- he] at a2
 have a3 := nC (x.take j) (y.take j)
 exact (gC (xs := x.take j) (ys := y.take j) (by omega)).symm
structure Iv (W : aD) (q : List ByteArray) (lo hi : Nat) : Prop where
 le : lo < hi
 few : hi ≤ W.length
 iff : ∀ n x, W[n]? = some x -> (x.take q.length = q ↔ lo ≤ n /\ n < hi)
theorem kS {W : aD} {d i n k : Nat} (hi : i < d) : k ∈ aU W d i n ↔ k < n /\ cQ W (i + 1) k = true := by
 unfold aU
 rw [if_pos hi, List.mem_filter, List.mem_range]
theorem eY (W : aD) (d i n : Nat) : (aU W d i n).Pairwise (· < ·) := by
 unfold aU
 split
 ·exact List.Pairwise.filter _ List.pairwise_lt_range
 ·exact List.pairwise_lt_range
theorem lW (W : aD) (d i : Nat) {m n : Nat} (h : m ≤ n) : ∃ r, aU W d i n = aU W d i m ++ r /\ ∀ k ∈ r, m ≤ k := by
 induction n with
 | zero => exact ⟨[], by rw [show m = 0 by omega]; simp, by simp⟩
 | succ n ih =>
  by_cases e : m = n + 1
  ·subst e; exact ⟨[], by simp, by simp⟩
  ·obtain ⟨r, h1, h2⟩ := ih (by omega)
   by_cases hi : i < d
   ·rw [lX W hi, h1]
    refine ⟨r ++ (if cQ W (i + 1) n then [n] else []), by rw [List.append_assoc], fun k hk => ?_⟩
    rcases List.mem_append.1 hk with hk | hk
    ·exact h2 k hk
    ·split at hk
     ·rw [List.mem_singleton] at hk; omega
     ·simp at hk
   ·rw [lY W hi] at h1 ⊢
    rw [lY W hi] at *
    rw [List.range_succ, h1]
    refine ⟨r ++ [n], by rw [List.append_assoc], fun k hk => ?_⟩
    rcases List.mem_append.1 hk with hk | hk
    ·exact h2 k hk
    ·rw [List.mem_singleton] at hk; omega
theorem kR {W : aD} {d i n k s : Nat} (h : (aU W d i n)[k]? = some s) : aQ W d i s = k /\ s < n := by
 have hk := (List.getElem?_eq_some_iff.1 h).1
 have hs : s < n := by
  have hm := List.mem_of_getElem? h
  unfold aU at hm
  split at hm
  ·exact List.mem_range.1 (List.mem_filter.1 hm).1
  ·exact List.mem_range.1 hm
 obtain ⟨r, h1, h2⟩ := lW W d i (Nat.le_of_lt hs)
 refine ⟨?_, hs⟩
 unfold aQ
 have hp := eY W d i n
 rcases Nat.lt_trichotomy (aU W d i s).length k with h3 | h3 | h3
 ·-- the element at the border is s or above, yet below s
  have hl : (aU W d i s).length < (aU W d i n).length := by omega
  have h4 := List.pairwise_iff_getElem.1 hp _ k hl hk h3
  rw [(List.getElem?_eq_some_iff.1 h).2] at h4
  have h5 : (aU W d i n)[(aU W d i s).length]'hl ∈ r := by
   have : (aU W d i n)[(aU W d i s).length]? = r[0]? := by rw [h1, List.getElem?_append_right (Nat.le_refl _), Nat.sub_self]
   rw [qG hl] at this
   exact List.mem_of_getElem? this.symm
  have := h2 _ h5
  omega
 ·exact h3
 ·rw [h1, List.getElem?_append_left h3] at h
  have hm := List.mem_of_getElem? h
  have : s < s := by
   unfold aU at hm
   split at hm
   ·exact List.mem_range.1 (List.mem_filter.1 hm).1
   ·exact List.mem_range.1 hm
  omega
end Go.Proofs.YtinnmeiphbdogaaGreat
/- Bindings, found variable by variable: plain. -/
namespace Go.Proofs.YtinnmeiphbdogaaGreat
section
variable {Sol : List ByteArray -> Prop} {v : Nat} {p : List ByteArray}
structure AllB (Sol : List ByteArray -> Prop) (p : List ByteArray) (L : aD) : Prop where
 rise : Strict aC L
 iff : ∀ V, V ∈ L ↔ Sol V /\ V.take p.length = p
structure PartB (Sol : List ByteArray -> Prop) (p : List ByteArray) (D : ByteArray -> Prop) (L : aD) : Prop where
 rise : Strict aC L
 iff : ∀ V, V ∈ L ↔ Sol V /\ V.take p.length = p /\ ∃ x, V[p.length]? = some x /\ D x
theorem AllB.none (h : ∀ V, Sol V -> V.take p.length = p -> False) : AllB Sol p [] :=
 ⟨fN, fun V => ⟨fun h => by simp at h, fun h1 => (h V h1.1 h1.2).elim⟩⟩
theorem AllB.one (hs : Sol p) (hl : ∀ V, Sol V -> V.length = p.length) : AllB Sol p [p] :=
 ⟨List.pairwise_singleton _ _, fun V => ⟨fun h => by
  rw [List.mem_singleton] at h; subst h
  exact ⟨hs, List.take_length⟩, fun ⟨h1, h2⟩ => by
  rw [List.mem_singleton, <- h2, List.take_of_length_le (Nat.le_of_eq (hl V h1))]⟩⟩
theorem AllB.unique {L L' : aD} (h : AllB Sol p L) (h' : AllB Sol p L') : L = L' := Strict.unique cX h.rise h'.rise fun V => (h.iff V).trans (h'.iff V).symm
theorem PartB.none {D : ByteArray -> Prop} (h : ∀ V, Sol V -> V.take p.length = p -> ∀ x, V[p.length]? = some x -> ¬ D x) : PartB Sol p D [] :=
 ⟨fN, fun V => ⟨fun h => by simp at h, fun ⟨h1, h2, x, h3, h4⟩ => (h V h1 h2 x h3 h4).elim⟩⟩
theorem PartB.all {D : ByteArray -> Prop} {L : aD} (h : PartB Sol p D L) (hd : ∀ V, Sol V -> V.take p.length = p -> ∃ x, V[p.length]? = some x /\ D x) : AllB Sol p L :=
 ⟨h.rise, fun V => (h.iff V).trans ⟨fun ⟨h1, h2, _⟩ => ⟨h1, h2⟩, fun ⟨h1, h2⟩ => ⟨h1, h2, hd V h1 h2⟩⟩⟩
theorem nE : ∀ (q : List ByteArray) (a b : ByteArray) (r s : List ByteArray), aZ a.toList b.toList < 0 -> aC (q ++ a :: r) (q ++ b :: s) < 0
 | [], a, b, r, s, h => by
  show (if aZ a.toList b.toList ≠ 0 then aZ a.toList b.toList else aC r s) < 0
  rw [if_pos (by omega)]; exact h
 | c :: q, a, b, r, s, h => by
  show (if aZ c.toList c.toList ≠ 0 then aZ c.toList c.toList else aC (q ++ a :: r) (q ++ b :: s)) < 0
  rw [if_neg (by rw [dT]; simp)]
  exact nE q a b r s h
theorem pI {V q : List ByteArray} {x : ByteArray} (h : V.take q.length = q) (hx : V[q.length]? = some x) : ∃ r, V = q ++ x :: r := by
 refine ⟨V.drop (q.length + 1), ?_⟩
 have hl := (List.getElem?_eq_some_iff.1 hx)
 conv => lhs; rw [<- List.take_append_drop q.length V, h, List.drop_eq_getElem_cons hl.1, hl.2]
theorem PartB.next {D : ByteArray -> Prop} {L L' : aD} {x : ByteArray} (h : PartB Sol p D L) (h' : AllB Sol (p ++ [x]) L') (hx : ∀ V, Sol V -> V.take p.length = p -> ∀ y, V[p.length]? = some y -> D y -> aZ y.toList x.toList < 0) : PartB Sol p (fun y => D y \/ y = x) (L ++ L') := by
 have key : ∀ V, V ∈ L' ↔ Sol V /\ V.take p.length = p /\ V[p.length]? = some x := fun V => by
  rw [h'.iff V, List.length_append, List.length_singleton]
  refine ⟨fun ⟨h1, h2⟩ => ?_, fun ⟨h1, h2, h3⟩ => ⟨h1, by rw [List.take_add_one, h2, h3]; rfl⟩⟩
  have h3 : V.take p.length = p := by
   have := congrArg (List.take p.length) h2
   rw [List.take_take, List.take_left, show min p.length (p.length + 1) = p.length by omega] at this
   exact this
  refine ⟨h1, h3, ?_⟩
  rw [List.take_add_one, h3] at h2
  have h4 := (List.append_right_inj p).1 h2
  cases h5 : V[p.length]? with
  | none => rw [h5] at h4; simp at h4
  | some y => rw [h5] at h4; simpa using h4
 refine ⟨List.pairwise_append.2 ⟨h.rise, h'.rise, fun a ha b hb => ?_⟩, fun V => ?_⟩
 ·obtain ⟨a1, a2, y, a3, a4⟩ := (h.iff a).1 ha
  obtain ⟨b1, b2, b3⟩ := (key b).1 hb
  obtain ⟨r, rfl⟩ := pI a2 a3
  obtain ⟨s, rfl⟩ := pI b2 b3
  exact nE p y x r s (hx _ a1 a2 y a3 a4)
 ·rw [List.mem_append, h.iff V, key V]
  refine ⟨fun h1 => ?_, fun ⟨h1, h2, y, h3, h4⟩ => ?_⟩
  ·rcases h1 with ⟨h1, h2, y, h3, h4⟩ | ⟨h1, h2, h3⟩
   ·exact ⟨h1, h2, y, h3, .inl h4⟩
   ·exact ⟨h1, h2, x, h3, .inr rfl⟩
  ·rcases h4 with h4 | h4
   ·exact .inl ⟨h1, h2, y, h3, h4⟩
   ·subst h4; exact .inr ⟨h1, h2, h3⟩
structure PartQ (Sol : List ByteArray -> Prop) (p : List ByteArray) (m : Nat) (D : List ByteArray -> Prop) (L : aD) : Prop where
 rise : Strict aC L
 iff : ∀ V, V ∈ L ↔ Sol V /\ V.take p.length = p /\ D (V.take m)
theorem rZ : ∀ (m : Nat) {x y : List ByteArray}, m ≤ x.length -> m ≤ y.length -> aC (x.take m) (y.take m) < 0 -> aC x y < 0
 | 0, x, y, _, _, h => by simp [aC] at h
 | m + 1, [], _, h, _, _ => by simp at h
 | m + 1, _ :: _, [], _, h, _ => by simp at h
 | m + 1, a :: x, b :: y, hx, hy, h => by
  simp only [List.take_succ_cons] at h
  unfold aC at h ⊢
  split at h
  ·rename_i h1
   rw [if_pos h1]; exact h
  ·rename_i h1
   rw [if_neg h1]
   exact rZ m (by simpa using hx) (by simpa using hy) h
theorem PartQ.none {m : Nat} : PartQ Sol p m (fun _ => False) [] := ⟨fN, fun V => ⟨fun h => by simp at h, fun h => h.2.2.elim⟩⟩
theorem PartQ.next {m : Nat} {D : List ByteArray -> Prop} {L L' : aD} {q : List ByteArray} (h : PartQ Sol p m D L) (hq : q.length = m) (hp : q.take p.length = p) (hm : p.length ≤ m) (hl : ∀ V, Sol V -> m ≤ V.length) (h' : AllB Sol q L') (hx : ∀ y, D y -> aC y q < 0) : PartQ Sol p m (fun y => D y \/ y = q) (L ++ L') := by
 refine ⟨List.pairwise_append.2 ⟨h.rise, h'.rise, fun a ha b hb => ?_⟩, fun V => ?_⟩
 ·obtain ⟨a1, a2, a3⟩ := (h.iff a).1 ha
  obtain ⟨b1, b2⟩ := (h'.iff b).1 hb
  rw [hq] at b2
  exact rZ m (hl a a1) (hl b b1) (by rw [b2]; exact hx _ a3)
 ·rw [List.mem_append, h.iff V, h'.iff V, hq]
  refine ⟨fun h1 => ?_, fun ⟨h1, h2, h3⟩ => ?_⟩
  ·rcases h1 with ⟨h1, h2, h3⟩ | ⟨h1, h2⟩
   ·exact ⟨h1, h2, .inl h3⟩
   ·refine ⟨h1, ?_, .inr h2⟩
    have := congrArg (List.take p.length) h2
    rw [List.take_take, hp, show min p.length m = p.length by omega] at this
    exact this
  ·rcases h3 with h3 | h3
   ·exact .inl ⟨h1, h2, h3⟩
   ·exact .inr ⟨h1, h3⟩
theorem PartQ.all {m : Nat} {D : List ByteArray -> Prop} {L : aD} (h : PartQ Sol p m D L) (hd : ∀ V, Sol V -> V.take p.length = p -> D (V.take m)) : AllB Sol p L :=
 ⟨h.rise, fun V => (h.iff V).trans ⟨fun ⟨h1, h2, _⟩ => ⟨h1, h2⟩, fun ⟨h1, h2⟩ => ⟨h1, h2, hd V h1 h2⟩⟩⟩
theorem PartQ.congr {m : Nat} {D D' : List ByteArray -> Prop} {L : aD} (h : PartQ Sol p m D L) (hd : ∀ y, D y ↔ D' y) : PartQ Sol p m D' L := ⟨h.rise, fun V => (h.iff V).trans (by rw [hd])⟩
end
end Go.Proofs.YtinnmeiphbdogaaGreat
/- What a join means: plain. -/
namespace Go.Proofs.YtinnmeiphbdogaaGreat
def isV (s : ByteArray) (t : aG) : Bool := decide (t.1 = 1 /\ t.2.1 = s)
def dZ (ts : List aG) (s : ByteArray) : Nat := ts.findIdx (isV s)
def aL (N : List ByteArray) (ts : List aG) : List Nat := (List.range N.length).filter fun i => ts.any (isV (N.getD i ByteArray.empty))
def bE (x : List ByteArray) (i : Nat) : ByteArray := x.getD i ByteArray.empty
def oN (ts : List aG) (x : List ByteArray) : Prop := ∀ (i : Nat) (t : aG), ts[i]? = some t -> (t.1 = 3 -> bE x i = t.2.1) /\ (t.1 = 1 -> bE x (dZ ts t.2.1) = bE x i)
def fY (N : List ByteArray) (ts : List aG) (x : List ByteArray) : List ByteArray := (aL N ts).map fun v => bE x (dZ ts (bE N v))
def aBp (N V : List ByteArray) (ts : List aG) (x : List ByteArray) : Prop := ∀ (i : Nat) (t : aG), ts[i]? = some t -> (t.1 = 3 -> bE x i = t.2.1) /\ (t.1 = 1 -> ∃ v : Nat, N[v]? = some t.2.1 /\ V[v]? = some (bE x i))
theorem aBq {ts : List aG} {s : ByteArray} {i : Nat} {t : aG} (hi : ts[i]? = some t) (ht : t.1 = 1) (hs : t.2.1 = s) : ∃ u, ts[dZ ts s]? = some u /\ u.1 = 1 /\ u.2.1 = s := by
 have h : dZ ts s < ts.length := List.findIdx_lt_length_of_exists ⟨t, List.mem_of_getElem? hi, by unfold isV; exact decide_eq_true ⟨ht, hs⟩⟩
 have h2 := List.findIdx_getElem (w := h)
 refine ⟨_, qG h, ?_⟩
 unfold isV at h2
 exact of_decide_eq_true h2
theorem cF {N : List ByteArray} {ts : List aG} {v : Nat} : v ∈ aL N ts ↔ v < N.length /\ ∃ (i : Nat) (t : aG), ts[i]? = some t /\ t.1 = 1 /\ t.2.1 = bE N v := by
 unfold aL
 rw [List.mem_filter, List.mem_range, List.any_eq_true]
 refine and_congr_right fun _ => ⟨fun ⟨t, ht, h⟩ => ?_, fun ⟨i, t, hi, h1, h2⟩ => ⟨t, List.mem_of_getElem? hi, by unfold isV; exact decide_eq_true ⟨h1, h2⟩⟩⟩
 obtain ⟨i, hi⟩ := List.mem_iff_getElem?.1 ht
 unfold isV at h
 have h' := of_decide_eq_true h
 exact ⟨i, t, hi, h'.1, h'.2⟩
theorem vZ (N : List ByteArray) (ts : List aG) : (aL N ts).Pairwise (· < ·) := List.Pairwise.filter _ List.pairwise_lt_range
theorem aAn {N V : List ByteArray} {ts : List aG} (hN : N.Nodup) (hV : V.length = N.length) (hin : ∀ t ∈ ts, t.1 = 1 -> t.2.1 ∈ N) (x : List ByteArray) :
 oN ts x /\ fY N ts x = (aL N ts).map (bE V) ↔ aBp N V ts x := by
 have get : ∀ {v : Nat} {s : ByteArray}, N[v]? = some s -> bE N v = s := fun h => bC h
 have getv : ∀ {v : Nat} {s : ByteArray}, N[v]? = some s -> V[v]? = some (bE V v) := fun {v s} h => by
  have hv : v < V.length := by rw [hV]; exact (List.getElem?_eq_some_iff.1 h).1
  unfold bE
  rw [List.getD_eq_getElem?_getD, qG hv]; rfl
 have proj : fY N ts x = (aL N ts).map (bE V) ↔ ∀ v ∈ aL N ts, bE x (dZ ts (bE N v)) = bE V v := by
  unfold fY
  exact List.map_inj_left
 rw [proj]
 refine ⟨fun ⟨h1, h2⟩ i t hi => ⟨(h1 i t hi).1, fun ht => ?_⟩, fun h => ⟨fun i t hi => ⟨(h i t hi).1, fun ht => ?_⟩, fun v hv => ?_⟩⟩
 ·obtain ⟨v, hv⟩ := List.mem_iff_getElem?.1 (hin t (List.mem_of_getElem? hi) ht)
  refine ⟨v, hv, ?_⟩
  have hm : v ∈ aL N ts := cF.2 ⟨(List.getElem?_eq_some_iff.1 hv).1, i, t, hi, ht, (get hv).symm⟩
  have h3 := h2 v hm
  rw [get hv, (h1 i t hi).2 ht] at h3
  rw [h3]; exact getv hv
 ·obtain ⟨v, hv, e⟩ := (h i t hi).2 ht
  obtain ⟨u, hu, u1, u2⟩ := aBq hi ht rfl
  obtain ⟨v', hv', e'⟩ := (h _ u hu).2 u1
  rw [u2] at hv'
  have : v = v' := (List.getElem?_inj (List.getElem?_eq_some_iff.1 hv).1 hN).1 (hv.trans hv'.symm)
  subst this
  rw [e] at e'
  exact (Option.some.inj e').symm
 ·obtain ⟨hl, i, t, hi, h1, h2⟩ := cF.1 hv
  obtain ⟨u, hu, u1, u2⟩ := aBq hi h1 h2
  obtain ⟨v', hv', e'⟩ := (h _ u hu).2 u1
  have hv0 : N[v]? = some (bE N v) := by unfold bE; rw [List.getD_eq_getElem?_getD, qG hl]; rfl
  rw [u2] at hv'
  have : v = v' := (List.getElem?_inj hl hN).1 (hv0.trans hv'.symm)
  subst this
  rw [getv hv0] at e'
  exact (Option.some.inj e').symm
open Classical in
noncomputable def cD (N : List ByteArray) (ts : List aG) (R : aD) : aD := yU aC ((R.filter fun x => decide (x.length = ts.length /\ oN ts x)).map (fY N ts))
theorem xG {x : List ByteArray} : ∀ (xs acc : aD), x ∈ xs \/ x ∈ acc -> x ∈ xs.foldl (cM aC) acc
 | [], acc, h => by
  rcases h with h | h
  ·simp at h
  ·exact h
 | y :: xs, acc, h => by
  refine xG xs (cM aC acc y) ?_
  by_cases hx : x ∈ xs
  ·exact .inl hx
  ·refine .inr (jX.2 ?_)
   rcases h with h | h
   ·rcases List.mem_cons.1 h with h | h
    ·subst h
     by_cases hi : bH aC acc x = true
     ·obtain ⟨z, hz, e⟩ := mT.1 hi
      rw [<- gC e]; exact .inl hz
     ·exact .inr ⟨rfl, by simpa using hi⟩
    ·exact absurd h hx
   ·exact .inl h
theorem aAz {xs : aD} {x : List ByteArray} : x ∈ yU aC xs ↔ x ∈ xs := ⟨aAy, fun h => xG xs [] (.inl h)⟩
open Classical in
theorem aEv {N V : List ByteArray} {ts : List aG} (R : aD) (hN : N.Nodup) (hV : V.length = N.length) (hin : ∀ t ∈ ts, t.1 = 1 -> t.2.1 ∈ N) :
 (aL N ts).map (bE V) ∈ cD N ts R ↔ ∃ x ∈ R, x.length = ts.length /\ aBp N V ts x := by
 unfold cD
 rw [aAz, List.mem_map]
 refine ⟨fun ⟨x, hx, e⟩ => ?_, fun ⟨x, hx, hl, hf⟩ => ?_⟩
 ·obtain ⟨h1, h2⟩ := List.mem_filter.1 hx
  obtain ⟨h3, h4⟩ := of_decide_eq_true h2
  exact ⟨x, h1, h3, (aAn hN hV hin x).1 ⟨h4, e⟩⟩
 ·obtain ⟨h1, h2⟩ := (aAn hN hV hin x).2 hf
  exact ⟨x, List.mem_filter.2 ⟨hx, decide_eq_true ⟨hl, h1⟩⟩, h2⟩
theorem nN {N : List ByteArray} {ts : List aG} {R : aD} {x : List ByteArray} (h : x ∈ cD N ts R) : x.length = (aL N ts).length := by
 unfold cD at h
 obtain ⟨y, _, rfl⟩ := List.mem_map.1 (aAy h)
 unfold fY
 rw [List.length_map]
theorem tD (N : List ByteArray) (ts : List aG) (R : aD) : Strict aC (cD N ts R) := Strict.new cX _
def nZ (N V : List ByteArray) (t : aG) : ByteArray := if t.1 = 1 then bE V (N.findIdx fun s => decide (s = t.2.1)) else t.2.1
def pR (op : Int) (x y : ByteArray) : Prop := if op = 1 then x = y else if op = 2 then x ≠ y else if op = 3 then Op.bytesLess x.toList y.toList = true else Op.bytesLess y.toList x.toList = false
def lG (N V : List ByteArray) (R : aD) (l : aO) : Prop :=
 if l.1 = 1 then ∃ x ∈ R, x.length = (aA l).length /\ aBp N V (aA l) x
 else if l.1 = 2 then ¬ ∃ x ∈ R, x.length = (aA l).length /\ aBp N V (aA l) x
 else pR (gK l) (nZ N V (leftOf l)) (nZ N V (aR l))
def cE (ls : List aO) (R : Nat -> aD) (V : List ByteArray) : Prop := V.length = (aB ls).length /\ ∀ (i : Nat) (l : aO), ls[i]? = some l -> lG (aB ls) V (R i) l
def IsBinds (ls : List aO) (R : Nat -> aD) (L : aD) : Prop := AllB (cE ls R) [] L
theorem IsBinds.iff {ls : List aO} {R : Nat -> aD} {L : aD} (h : IsBinds ls R L) (V : List ByteArray) : V ∈ L ↔ cE ls R V := (AllB.iff h V).trans ⟨fun h => h.1, fun h => ⟨h, rfl⟩⟩
end Go.Proofs.YtinnmeiphbdogaaGreat
/- What variables are, as the document keeps it: plain. -/
namespace Go.Proofs.YtinnmeiphbdogaaGreat
abbrev cY := List ByteArray × List ByteArray
def ofE (e : cY) (s : ByteArray) : Option ByteArray := if lS e.1 s = true then some (bE e.2 (e.1.findIdx fun x => decide (x = s))) else none
def uS (e : cY) (t : aG) (y : ByteArray) : Option cY :=
 if t.1 = 3 /\ t.2.1 ≠ y then none
 else if t.1 ≠ 1 then some e
 else match ofE e t.2.1 with
  | some s => if s = y then some e else none
  | none => some (e.1 ++ [t.2.1], e.2 ++ [y])
def jI (e : cY) (ts : List aG) (x : List ByteArray) : Nat -> Option cY
 | 0 => some e
 | k + 1 => match jI e ts x k, ts[k]? with
  | some f, some t => uS f t (bE x k)
  | _, _ => none
structure EnvOk (e : cY) : Prop where
 nodup : e.1.Nodup
 len : e.2.length = e.1.length
theorem aDr {N : List ByteArray} {s : ByteArray} (h : s ∈ N) : N[N.findIdx fun x => decide (x = s)]? = some s := by
 have h1 : (N.findIdx fun x => decide (x = s)) < N.length := List.findIdx_lt_length_of_exists ⟨s, h, decide_eq_true rfl⟩
 have h2 := List.findIdx_getElem (w := h1)
 rw [qG h1]
 exact congrArg some (of_decide_eq_true h2)
theorem aAw {e : cY} {s y : ByteArray} (he : EnvOk e) : ofE e s = some y ↔ ∃ v : Nat, e.1[v]? = some s /\ e.2[v]? = some y := by
 unfold ofE
 by_cases h : lS e.1 s = true
 ·rw [if_pos h]
  have hi := aDr (cG.1 h)
  have hl := (List.getElem?_eq_some_iff.1 hi).1
  have hv : e.2[e.1.findIdx fun x => decide (x = s)]? = some (bE e.2 (e.1.findIdx fun x => decide (x = s))) := by
   unfold bE
   rw [List.getD_eq_getElem?_getD, qG (by rw [he.len]; exact hl)]; rfl
  refine ⟨fun h1 => ⟨_, hi, by rw [hv]; exact h1⟩, fun ⟨v, h1, h2⟩ => ?_⟩
  have : (e.1.findIdx fun x => decide (x = s)) = v := (List.getElem?_inj hl he.nodup).1 (hi.trans h1.symm)
  rw [this] at hv
  rw [this, <- hv]; exact h2
 ·rw [if_neg h]
  refine ⟨fun h1 => (by cases h1), fun ⟨v, h1, h2⟩ => absurd (cG.2 (List.mem_of_getElem? h1)) h⟩
theorem aAx {e : cY} {s : ByteArray} : ofE e s = none ↔ s ∉ e.1 := by
 unfold ofE
 rw [<- cG]
 split
 ·rename_i h; simp [h]
 ·rename_i h; simp [h]
def xJ (e : cY) (t : aG) (y : ByteArray) : Prop := (t.1 = 3 -> y = t.2.1) /\ (t.1 = 1 -> ∃ v : Nat, e.1[v]? = some t.2.1 /\ e.2[v]? = some y)
structure EnvLe (e f : cY) : Prop where
 names : f.1.take e.1.length = e.1
 vals : f.2.take e.2.length = e.2
theorem EnvLe.refl (e : cY) : EnvLe e e := ⟨List.take_length, List.take_length⟩
theorem lV {l k : List ByteArray} (h : l.take k.length = k) {i : Nat} {x : ByteArray} (hx : k[i]? = some x) : l[i]? = some x := by
 have hi := (List.getElem?_eq_some_iff.1 hx).1
 rw [<- h, List.getElem?_take_of_lt hi] at hx
 exact hx
theorem EnvLe.fit {e f : cY} (h : EnvLe e f) {t : aG} {y : ByteArray} (ht : xJ e t y) : xJ f t y :=
 ⟨ht.1, fun h1 => by obtain ⟨v, a, b⟩ := ht.2 h1; exact ⟨v, lV h.names a, lV h.vals b⟩⟩
theorem iN {a b c : List ByteArray} (h : b.take a.length = a) (h' : c.take b.length = b) : c.take a.length = a := by
 have hl : a.length ≤ b.length := by have := congrArg List.length h; rw [List.length_take] at this; omega
 have h2 : (c.take b.length).take a.length = c.take a.length := by rw [List.take_take]; congr 1; omega
 rw [<- h2, h', h]
theorem EnvLe.trans {e f g : cY} (h : EnvLe e f) (h' : EnvLe f g) : EnvLe e g := ⟨iN h.names h'.names, iN h.vals h'.vals⟩
theorem aBo {e f : cY} {t : aG} {y : ByteArray} (he : EnvOk e) (h : uS e t y = some f) : EnvOk f /\ EnvLe e f /\ f.1 = bJ e.1 t /\ xJ f t y := by
 unfold uS at h
 split at h
 ·cases h
 ·rename_i h1
  have h3 : t.1 = 3 -> y = t.2.1 := fun h3 => Classical.byContradiction fun hn => h1 ⟨h3, fun e => hn e.symm⟩
  split at h
  ·rename_i h2
   cases h
   exact ⟨he, EnvLe.refl _, by unfold bJ; rw [if_neg (fun h => h2 h.1)], h3, fun h => absurd h h2⟩
  ·rename_i h2
   have h2' : t.1 = 1 := Classical.not_not.1 h2
   split at h
   ·rename_i s hs
    split at h
    ·rename_i e1
     cases h
     subst e1
     have h4 := (aAw he).1 hs
     refine ⟨he, EnvLe.refl _, ?_, h3, fun _ => h4⟩
     obtain ⟨v, h5, _⟩ := h4
     unfold bJ
     rw [if_neg fun h => by have := cG.2 (List.mem_of_getElem? h5); rw [this] at h; cases h.2]
    ·cases h
   ·rename_i hs
    cases h
    have h4 := aAx.1 hs
    refine ⟨⟨?_, by simp [he.len]⟩, ⟨List.take_left, List.take_left⟩, ?_, h3, fun _ => ⟨e.1.length, by simp, by rw [<- he.len]; simp⟩⟩
    ·refine List.nodup_append.2 ⟨he.nodup, by simp, fun a ha b hb => ?_⟩
     rw [List.mem_singleton] at hb
     subst hb
     intro e; subst e; exact h4 ha
    ·unfold bJ
     rw [if_pos ⟨h2', by rw [<- Bool.not_eq_true, cG]; exact h4⟩]
theorem aDv {e g : cY} {t : aG} {y : ByteArray} (he : EnvOk e) (hg : EnvOk g) (hle : EnvLe e g) (hn : g.1.take (bJ e.1 t).length = bJ e.1 t) (h : xJ g t y) : ∃ f, uS e t y = some f /\ EnvLe f g := by
 unfold uS
 rw [if_neg (fun h1 => h1.2 (h.1 h1.1).symm)]
 by_cases h2 : t.1 ≠ 1
 ·rw [if_pos h2]; exact ⟨e, rfl, hle⟩
 ·rw [if_neg h2]
  have h2' : t.1 = 1 := Classical.not_not.1 h2
  obtain ⟨v, hv, hy⟩ := h.2 h2'
  cases hs : ofE e t.2.1 with
  | some s =>
   obtain ⟨u, hu, hs'⟩ := (aAw he).1 hs
   have h3 := lV hle.names hu
   have : u = v := (List.getElem?_inj (List.getElem?_eq_some_iff.1 h3).1 hg.nodup).1 (h3.trans hv.symm)
   subst this
   have h4 := lV hle.vals hs'
   rw [hy] at h4
   cases h4
   exact ⟨e, by simp, hle⟩
  | none =>
   refine ⟨_, rfl, ?_⟩
   have h4 := aAx.1 hs
   have ea : bJ e.1 t = e.1 ++ [t.2.1] := by unfold bJ; rw [if_pos ⟨h2', by rw [<- Bool.not_eq_true, cG]; exact h4⟩]
   rw [ea] at hn
   refine ⟨hn, ?_⟩
   have h5 : g.1[e.1.length]? = some t.2.1 := lV hn (by simp)
   have : e.1.length = v := (List.getElem?_inj (List.getElem?_eq_some_iff.1 h5).1 hg.nodup).1 (h5.trans hv.symm)
   subst this
   have h6 := hle.vals
   show g.2.take (e.2 ++ [y]).length = e.2 ++ [y]
   rw [List.length_append, List.length_singleton, List.take_add_one, h6, he.len, hy]; rfl
end Go.Proofs.YtinnmeiphbdogaaGreat
/- The document's way through a rule's literals: plain. -/
namespace Go.Proofs.YtinnmeiphbdogaaGreat
theorem tX (a : List ByteArray) (ts : List aG) (t : aG) : namesT a (ts ++ [t]) = bJ (namesT a ts) t := by unfold namesT; rw [List.foldl_append]; rfl
theorem aFc (a : List ByteArray) (t : aG) : (bJ a t).take a.length = a := by
 unfold bJ
 split
 ·exact List.take_left
 ·exact List.take_length
theorem qU : ∀ (ts : List aG) (a : List ByteArray), (namesT a ts).take a.length = a
 | [], a => List.take_length
 | t :: ts, a => iN (aFc a t) (qU ts (bJ a t))
theorem aDd (a : List ByteArray) (l : aO) : (bR a l).take a.length = a := by
 unfold bR
 split
 ·exact qU _ _
 ·exact List.take_length
theorem xH : ∀ (ls : List aO) (a : List ByteArray), (ls.foldl bR a).take a.length = a
 | [], a => List.take_length
 | l :: ls, a => iN (aDd a l) (xH ls (bR a l))
theorem lB (ls : List aO) (i : Nat) : (aB ls).take (aB (ls.take i)).length = aB (ls.take i) := by
 have h := xH (ls.drop i) (aB (ls.take i))
 have e : (ls.drop i).foldl bR (aB (ls.take i)) = aB ls := by
  unfold aB
  rw [<- List.foldl_append, List.take_append_drop]
 rw [e] at h; exact h
theorem fZ {ls : List aO} {i : Nat} {l : aO} (h : ls[i]? = some l) : aB (ls.take (i + 1)) = bR (aB (ls.take i)) l := by
 rw [List.take_add_one, h]
 unfold aB
 rw [List.foldl_append]; rfl
theorem aHj {a : List ByteArray} (h : a.Nodup) (t : aG) : (bJ a t).Nodup := by
 unfold bJ
 split
 ·rename_i h1
  refine List.nodup_append.2 ⟨h, by simp, fun x hx y hy => ?_⟩
  rw [List.mem_singleton] at hy
  subst hy
  intro e; subst e
  have := cG.2 hx
  rw [h1.2] at this; cases this
 ·exact h
theorem pU : ∀ (ts : List aG) {a : List ByteArray}, a.Nodup -> (namesT a ts).Nodup
 | [], _, h => h
 | t :: ts, _, h => pU ts (aHj h t)
theorem pV : ∀ (ls : List aO) {a : List ByteArray}, a.Nodup -> (ls.foldl bR a).Nodup
 | [], _, h => h
 | l :: ls, _, h => pV ls (by unfold bR; split; exact pU _ h; exact h)
theorem bQ (ls : List aO) : (aB ls).Nodup := pV ls List.nodup_nil
theorem lI {e : cY} {ts : List aG} {x : List ByteArray} (he : EnvOk e) : ∀ {k : Nat} {f : cY}, jI e ts x k = some f -> EnvOk f /\ EnvLe e f /\ f.1 = namesT e.1 (ts.take k) /\ ∀ (i : Nat) (t : aG), i < k -> ts[i]? = some t -> xJ f t (bE x i)
 | 0, f, h => by
  cases h
  exact ⟨he, EnvLe.refl _, by rw [List.take_zero]; rfl, fun i t hi => by omega⟩
 | k + 1, f, h => by
  unfold jI at h
  split at h
  ·rename_i g t hg ht
   obtain ⟨h1, h2, h3, h4⟩ := lI he hg
   obtain ⟨h5, h6, h7, h8⟩ := aBo h1 h
   refine ⟨h5, h2.trans h6, ?_, fun i u hi hu => ?_⟩
   ·rw [h7, h3, List.take_add_one, ht]
    exact (tX _ _ _).symm
   ·rcases Nat.lt_or_eq_of_le (Nat.le_of_lt_succ hi) with h9 | h9
    ·exact h6.fit (h4 i u h9 hu)
    ·subst h9
     rw [ht] at hu; cases hu
     exact h8
  ·cases h
theorem rA {e g : cY} {ts : List aG} {x : List ByteArray} (he : EnvOk e) (hg : EnvOk g) (hle : EnvLe e g) : ∀ {k : Nat}, k ≤ ts.length -> g.1.take (namesT e.1 (ts.take k)).length = namesT e.1 (ts.take k) -> (∀ (i : Nat) (t : aG), ts[i]? = some t -> xJ g t (bE x i)) -> ∃ f, jI e ts x k = some f /\ EnvLe f g
 | 0, _, _, _ => ⟨e, rfl, hle⟩
 | k + 1, hk, hn, h => by
  obtain ⟨t, ht⟩ : ∃ t, ts[k]? = some t := ⟨_, qG (by omega)⟩
  have e1 : ts.take (k + 1) = ts.take k ++ [t] := by rw [List.take_add_one, ht]; rfl
  rw [e1, tX] at hn
  obtain ⟨f, hf, hle2⟩ := rA he hg hle (by omega) (iN (aFc _ _) hn) h
  obtain ⟨h1, h2, h3, h4⟩ := lI he hf
  obtain ⟨f2, hf2, hle3⟩ := aDv h1 hg hle2 (by rw [h3]; exact hn) (h k t ht)
  refine ⟨f2, ?_, hle3⟩
  unfold jI
  rw [hf, ht]; exact hf2
structure FromOk (ls : List aO) (R : Nat -> aD) (i : Nat) (e : cY) : Prop where
 ok : EnvOk e
 names : e.1 = aB (ls.take i)
 done : ∀ (j : Nat) (l : aO), j < i -> ls[j]? = some l -> l.1 = 1 -> ∃ x ∈ R j, x.length = (aA l).length /\ aBp e.1 e.2 (aA l) x
theorem FromOk.start (ls : List aO) (R : Nat -> aD) : FromOk ls R 0 ([], []) := ⟨⟨List.nodup_nil, rfl⟩, by rw [List.take_zero]; rfl, fun j l hj => by omega⟩
theorem FromOk.skip {ls : List aO} {R : Nat -> aD} {i : Nat} {e : cY} (h : FromOk ls R i e) {l : aO} (hl : ls[i]? = some l) (hk : l.1 ≠ 1) : FromOk ls R (i + 1) e :=
 ⟨h.ok, by rw [h.names, fZ hl]; unfold bR; rw [if_neg hk], fun j m hj hm h1 => by
  rcases Nat.lt_or_eq_of_le (Nat.le_of_lt_succ hj) with h2 | h2
  ·exact h.done j m h2 hm h1
  ·subst h2; rw [hl] at hm; cases hm; exact absurd h1 hk⟩
theorem EnvLe.fitA {e f : cY} (h : EnvLe e f) {ts : List aG} {x : List ByteArray} (hx : aBp e.1 e.2 ts x) : aBp f.1 f.2 ts x := fun i t hi => h.fit (hx i t hi)
theorem FromOk.next {ls : List aO} {R : Nat -> aD} {i : Nat} {e f : cY} (h : FromOk ls R i e) {l : aO} (hl : ls[i]? = some l) (hk : l.1 = 1) {x : List ByteArray} (hx : x ∈ R i) (hxl : x.length = (aA l).length) (hf : jI e (aA l) x (aA l).length = some f) : FromOk ls R (i + 1) f /\ EnvLe e f := by
 obtain ⟨h1, h2, h3, h4⟩ := lI h.ok hf
 rw [List.take_length] at h3
 refine ⟨⟨h1, ?_, fun j m hj hm hm1 => ?_⟩, h2⟩
 ·rw [h3, h.names, fZ hl]; unfold bR; rw [if_pos hk]
 ·rcases Nat.lt_or_eq_of_le (Nat.le_of_lt_succ hj) with h5 | h5
  ·obtain ⟨y, hy, hyl, hyf⟩ := h.done j m h5 hm hm1
   exact ⟨y, hy, hyl, h2.fitA hyf⟩
  ·subst h5; rw [hl] at hm; cases hm
   exact ⟨x, hx, hxl, fun j t hj2 => h4 j t (List.getElem?_eq_some_iff.1 hj2).1 hj2⟩
theorem FromOk.has {ls : List aO} {R : Nat -> aD} {i : Nat} {e : cY} (h : FromOk ls R i e) {l : aO} (hl : ls[i]? = some l) (hk : l.1 = 1) {V : List ByteArray} (hV : cE ls R V) (hp : V.take e.2.length = e.2) :
 ∃ x ∈ R i, x.length = (aA l).length /\ ∃ f, jI e (aA l) x (aA l).length = some f /\ V.take f.2.length = f.2 := by
 have h1 := hV.2 i l hl
 unfold lG at h1
 rw [if_pos hk] at h1
 obtain ⟨x, hx, hxl, hxf⟩ := h1
 have hg : EnvOk (aB ls, V) := ⟨bQ ls, hV.1⟩
 have hle : EnvLe e (aB ls, V) := ⟨by rw [h.names]; exact lB ls i, hp⟩
 obtain ⟨f, hf, hle2⟩ := rA (x := x) h.ok hg hle (Nat.le_refl (aA l).length) (by
  rw [List.take_length, h.names]
  have := lB ls (i + 1)
  rw [fZ hl] at this
  unfold bR at this
  rw [if_pos hk] at this
  exact this) hxf
 exact ⟨x, hx, hxl, f, hf, hle2.vals⟩
theorem FromOk.len {ls : List aO} {R : Nat -> aD} {i : Nat} {e : cY} (h : FromOk ls R i e) : e.2.length = (aB (ls.take i)).length := by rw [h.ok.len, h.names]
theorem FromOk.last {ls : List aO} {R : Nat -> aD} {e : cY} (h : FromOk ls R ls.length e) : e.1 = aB ls /\ (cE ls R e.2 ↔ ∀ (i : Nat) (l : aO), ls[i]? = some l -> l.1 ≠ 1 -> lG (aB ls) e.2 (R i) l) /\ ∀ V, cE ls R V -> V.length = e.2.length := by
 have hn : e.1 = aB ls := by rw [h.names, List.take_length]
 have hl : e.2.length = (aB ls).length := by rw [h.ok.len, hn]
 refine ⟨hn, ⟨fun hB i l hi _ => hB.2 i l hi, fun hB => ⟨hl, fun i l hi => ?_⟩⟩, fun V hV => by rw [hV.1, hl]⟩
 by_cases hk : l.1 = 1
 ·unfold lG
  rw [if_pos hk]
  have := h.done i l (List.getElem?_eq_some_iff.1 hi).1 hi hk
  rw [hn] at this; exact this
 ·exact hB i l hi hk
end Go.Proofs.YtinnmeiphbdogaaGreat
/- Leaping through followers of several tries: plain. -/
namespace Go.Proofs.YtinnmeiphbdogaaGreat
structure CurZ where
 keys : List ByteArray
 lo : Nat
 hi : Nat
structure CurOk (c : CurZ) : Prop where
 le : c.lo ≤ c.hi
 few : c.hi ≤ c.keys.length
 rise : ∀ (k l : Nat) (x y : ByteArray), c.lo ≤ k -> k < l -> l < c.hi -> c.keys[k]? = some x -> c.keys[l]? = some y -> aZ x.toList y.toList < 0
def kH (c : CurZ) (p : Nat) (x : ByteArray) : Prop := ∃ k, p ≤ k /\ k < c.hi /\ c.keys[k]? = some x
theorem iZ {a b c : ByteArray} (h : aZ a.toList b.toList < 0) (h' : aZ b.toList c.toList < 0) : aZ a.toList c.toList < 0 := by
 rw [eO] at h h' ⊢
 exact eT h h'
theorem vU {a b c : ByteArray} (h : aZ a.toList b.toList < 0) (h' : ¬ aZ c.toList b.toList < 0) : aZ a.toList c.toList < 0 := by
 rcases jA b.toList c.toList with h2 | h2 | h2
 ·exact iZ h (by omega)
 ·rw [<- dD (dS h2)]; exact h
 ·have := cI b.toList c.toList
  omega
section
variable {Sol : List ByteArray -> Prop} {p : List ByteArray} {Cs : List CurZ}
structure LeapInv (Sol : List ByteArray -> Prop) (p : List ByteArray) (Cs : List CurZ) (pos : Nat -> Nat) (i : Nat) (D : ByteArray -> Prop) (L : aD) : Prop where
 ok : ∀ c ∈ Cs, CurOk c
 here : i < Cs.length
 inn : ∀ j c, Cs[j]? = some c -> c.lo ≤ pos j /\ pos j ≤ c.hi
 told : PartB Sol p D L
 common : ∀ V, Sol V -> V.take p.length = p -> ∃ x, V[p.length]? = some x /\ (D x \/ ∀ (j : Nat) (c : CurZ), Cs[j]? = some c -> kH c (pos j) x)
 below : ∀ c x y, Cs[i]? = some c -> D x -> kH c (pos i) y -> aZ x.toList y.toList < 0
theorem LeapInv.start (hok : ∀ c ∈ Cs, CurOk c) (hne : 0 < Cs.length) (hc : ∀ V, Sol V -> V.take p.length = p -> ∃ x, V[p.length]? = some x /\ ∀ (j : Nat) (c : CurZ), Cs[j]? = some c -> kH c c.lo x) : LeapInv Sol p Cs (fun j => (Cs.getD j ⟨[], 0, 0⟩).lo) 0 (fun _ => False) [] := by
 refine ⟨hok, hne, fun j c hj => ?_, PartB.none fun V _ _ x _ h => h, fun V h1 h2 => ?_, fun c x y _ h => h.elim⟩
 ·have e : Cs.getD j ⟨[], 0, 0⟩ = c := by rw [List.getD_eq_getElem?_getD, hj]; rfl
  show _ ≤ (Cs.getD j ⟨[], 0, 0⟩).lo /\ (Cs.getD j ⟨[], 0, 0⟩).lo ≤ _
  rw [e]
  exact ⟨Nat.le_refl _, (hok c (List.mem_of_getElem? hj)).le⟩
 ·obtain ⟨x, hx, h3⟩ := hc V h1 h2
  refine ⟨x, hx, .inr fun j c hj => ?_⟩
  have e : Cs.getD j ⟨[], 0, 0⟩ = c := by rw [List.getD_eq_getElem?_getD, hj]; rfl
  show kH c (Cs.getD j ⟨[], 0, 0⟩).lo x
  rw [e]; exact h3 j c hj
theorem LeapInv.end {pos : Nat -> Nat} {i : Nat} {D : ByteArray -> Prop} {L : aD} (h : LeapInv Sol p Cs pos i D L) {j : Nat} {c : CurZ} (hj : Cs[j]? = some c) (he : pos j = c.hi) : AllB Sol p L := by
 refine h.told.all fun V h1 h2 => ?_
 obtain ⟨x, hx, h3⟩ := h.common V h1 h2
 refine ⟨x, hx, ?_⟩
 rcases h3 with h3 | h3
 ·exact h3
 ·obtain ⟨k, h4, h5, _⟩ := h3 j c hj
  omega
theorem LeapInv.seek {pos : Nat -> Nat} {i : Nat} {D : ByteArray -> Prop} {L : aD} (h : LeapInv Sol p Cs pos i D L) {ci : CurZ} (hi : Cs[i]? = some ci) (hlt : pos i < ci.hi) {key : ByteArray} (hk : ci.keys[pos i]? = some key) {j : Nat} {c : CurZ} (hj : Cs[j]? = some c) {q : Nat} (hq : pos j ≤ q) (hq2 : q ≤ c.hi) (hb : ∀ k x, pos j ≤ k -> k < q -> c.keys[k]? = some x -> aZ x.toList key.toList < 0) (hij : j = i -> q = pos i) :
 LeapInv Sol p Cs (fun m => if m = j then q else pos m) i D L := by
 have hp := h.inn j c hj
 refine ⟨h.ok, h.here, fun m d hm => ?_, h.told, fun V h1 h2 => ?_, fun d x y hd hx hy => ?_⟩
 ·show _ ≤ (if m = j then q else pos m) /\ (if m = j then q else pos m) ≤ _
  split
  ·rename_i e; subst e
   rw [hj] at hm; cases hm
   exact ⟨by omega, hq2⟩
  ·exact h.inn m d hm
 ·obtain ⟨x, hx, h3⟩ := h.common V h1 h2
  refine ⟨x, hx, ?_⟩
  rcases h3 with h3 | h3
  ·exact .inl h3
  ·refine .inr fun m d hm => ?_
   show kH d (if m = j then q else pos m) x
   split
   ·rename_i e; subst e
    rw [hj] at hm; cases hm
    obtain ⟨k, h4, h5, h6⟩ := h3 m c hj
    obtain ⟨k', h7, h8, h9⟩ := h3 i ci hi
    refine ⟨k, ?_, h5, h6⟩
    rcases Nat.lt_or_ge k q with h10 | h10
    ·exfalso
     have h11 := hb k x h4 h10 h6
     rcases Nat.lt_or_eq_of_le h7 with h12 | h12
     ·have h13 := (h.ok ci (List.mem_of_getElem? hi)).rise (pos i) k' key x (h.inn i ci hi).1 h12 h8 hk h9
      have := cI x.toList key.toList
      omega
     ·subst h12
      rw [hk] at h9; cases h9
      rw [dT] at h11; omega
    ·exact h10
   ·exact h3 m d hm
 ·have e : (if i = j then q else pos i) = pos i := by
   split
   ·rename_i e; exact hij e.symm
   ·rfl
  have hy' : kH d (pos i) y := by
   have h0 : kH d (if i = j then q else pos i) y := hy
   rw [e] at h0; exact h0
  exact h.below d x y hd hx hy'
theorem LeapInv.lead {pos : Nat -> Nat} {i : Nat} {D : ByteArray -> Prop} {L : aD} (h : LeapInv Sol p Cs pos i D L) {ci : CurZ} (hi : Cs[i]? = some ci) (hlt : pos i < ci.hi) {key : ByteArray} (hk : ci.keys[pos i]? = some key) {j : Nat} {c : CurZ} (hj : Cs[j]? = some c) (hl2 : pos j < c.hi) {key2 : ByteArray} (hk2 : c.keys[pos j]? = some key2) (hge : ¬ aZ key2.toList key.toList < 0) : LeapInv Sol p Cs pos j D L := by
 refine ⟨h.ok, (List.getElem?_eq_some_iff.1 hj).1, h.inn, h.told, h.common, fun d x y hd hx hy => ?_⟩
 rw [hj] at hd; cases hd
 have h1 := h.below ci x key hi hx ⟨pos i, Nat.le_refl _, hlt, hk⟩
 have h2 := vU h1 hge
 obtain ⟨k, h3, h4, h5⟩ := hy
 rcases Nat.lt_or_eq_of_le h3 with h6 | h6
 ·exact iZ h2 ((h.ok c (List.mem_of_getElem? hj)).rise (pos j) k key2 y (h.inn j c hj).1 h6 h4 hk2 h5)
 ·subst h6
  rw [hk2] at h5; cases h5
  exact h2
theorem LeapInv.next {pos : Nat -> Nat} {i : Nat} {D : ByteArray -> Prop} {L L' : aD} (h : LeapInv Sol p Cs pos i D L) {ci : CurZ} (hi : Cs[i]? = some ci) (hlt : pos i < ci.hi) {key : ByteArray} (hk : ci.keys[pos i]? = some key) (h' : AllB Sol (p ++ [key]) L') : LeapInv Sol p Cs (fun m => if m = i then pos i + 1 else pos m) i (fun y => D y \/ y = key) (L ++ L') := by
 refine ⟨h.ok, h.here, fun m d hm => ?_, h.told.next h' fun V h1 h2 y hy hD => h.below ci y key hi hD ⟨pos i, Nat.le_refl _, hlt, hk⟩, fun V h1 h2 => ?_, fun d x y hd hx hy => ?_⟩
 ·show _ ≤ (if m = i then pos i + 1 else pos m) /\ (if m = i then pos i + 1 else pos m) ≤ _
  split
  ·rename_i e; subst e
   rw [hi] at hm; cases hm
   have := (h.inn m ci hi).1
   exact ⟨by omega, hlt⟩
  ·exact h.inn m d hm
 ·obtain ⟨x, hx, h3⟩ := h.common V h1 h2
  refine ⟨x, hx, ?_⟩
  rcases h3 with h3 | h3
  ·exact .inl (.inl h3)
  ·by_cases e : x = key
   ·exact .inl (.inr e)
   ·refine .inr fun m d hm => ?_
    show kH d (if m = i then pos i + 1 else pos m) x
    split
    ·rename_i e2; subst e2
     rw [hi] at hm; cases hm
     obtain ⟨k, h4, h5, h6⟩ := h3 m ci hi
     refine ⟨k, ?_, h5, h6⟩
     rcases Nat.lt_or_eq_of_le h4 with h7 | h7
     ·exact h7
     ·subst h7; rw [hk] at h6; cases h6; exact absurd rfl e
    ·exact h3 m d hm
 ·rw [hi] at hd; cases hd
  have hy' : kH ci (pos i + 1) y := by
   have h0 : kH ci (if i = i then pos i + 1 else pos i) y := hy
   rw [if_pos rfl] at h0; exact h0
  obtain ⟨k, h3, h4, h5⟩ := hy'
  have h6 := (h.ok ci (List.mem_of_getElem? hi)).rise (pos i) k key y (h.inn i ci hi).1 (by omega) h4 hk h5
  rcases hx with hx | hx
  ·exact h.below ci x y hi hx ⟨k, by omega, h4, h5⟩
  ·rw [hx]; exact h6
end
end Go.Proofs.YtinnmeiphbdogaaGreat
/- Tries: the followers of a beginning are places side by side. Plain. -/
namespace Go.Proofs.YtinnmeiphbdogaaGreat
section
variable {W : aD} {d : Nat}
def SpanOf (W : aD) (d : Nat) (q : List ByteArray) (a b : Nat) : Prop := ∃ lo hi, Iv W q lo hi /\ a = aQ W d q.length lo /\ b = aQ W d q.length hi
theorem aCj (i : Nat) : aQ W d i 0 = 0 := by
 have := cU W d i 0
 unfold aQ; omega
theorem kL (i : Nat) {m n : Nat} (h : m ≤ n) : aQ W d i m ≤ aQ W d i n := by
 obtain ⟨r, e, _⟩ := lW W d i h
 unfold aQ
 rw [e, List.length_append]; omega
theorem aFp (hne : 0 < W.length) : SpanOf W d [] 0 (aQ W d 0 W.length) :=
 ⟨0, W.length, ⟨hne, Nat.le_refl _, fun n x hx => ⟨fun _ => ⟨Nat.zero_le _, (List.getElem?_eq_some_iff.1 hx).1⟩, fun _ => rfl⟩⟩, (aCj 0).symm, rfl⟩
theorem lZ {i n k s : Nat} (h : (aU W d i n)[k]? = some s) {m : Nat} (hm : m ≤ n) : k < aQ W d i m ↔ s < m := by
 obtain ⟨r, e, hr⟩ := lW W d i hm
 rw [e] at h
 unfold aQ
 refine ⟨fun hk => ?_, fun hs => ?_⟩
 ·rw [List.getElem?_append_left hk] at h
  exact (kR h).2
 ·rcases Nat.lt_or_ge k (aU W d i m).length with h1 | h1
  ·exact h1
  ·rw [List.getElem?_append_right h1] at h
   have := hr _ (List.mem_of_getElem? h)
   omega
theorem WaysOk.cell (h : WaysOk W d) {n : Nat} {r : List ByteArray} (hr : W[n]? = some r) {i : Nat} (hi : i < d) : ∃ x, r[i]? = some x /\ r.take (i + 1) = r.take i ++ [x] := by
 have hl : i < r.length := by rw [h.len r (List.mem_of_getElem? hr)]; exact hi
 refine ⟨_, qG hl, ?_⟩
 rw [List.take_add_one, qG hl]; rfl
theorem SpanOf.place (hW : WaysOk W d) {q : List ByteArray} {a b : Nat} (h : SpanOf W d q a b) (hq : q.length < d) {k : Nat} (ha : a ≤ k) (hb : k < b) :
 ∃ s r x, (aU W d q.length W.length)[k]? = some s /\ W[s]? = some r /\ r.take (q.length + 1) = q ++ [x] /\ (bM W d q.length W.length)[k]? = some x /\ Iv W (q ++ [x]) s ((aU W d q.length W.length).getD (k + 1) W.length) := by
 obtain ⟨lo, hi, hI, rfl, rfl⟩ := h
 have hkS : k < (aU W d q.length W.length).length := Nat.lt_of_lt_of_le hb (kL _ hI.few)
 obtain ⟨s, hs⟩ : ∃ s, (aU W d q.length W.length)[k]? = some s := ⟨_, qG hkS⟩
 have hsn := (kR hs).2
 have h1 : s < hi := (lZ hs hI.few).1 hb
 have h2 : ¬ s < lo := fun h => Nat.not_lt.2 ha ((lZ hs (Nat.le_trans (Nat.le_of_lt hI.le) hI.few)).2 h)
 obtain ⟨r, hr⟩ : ∃ r, W[s]? = some r := ⟨_, qG hsn⟩
 obtain ⟨x, hx, et⟩ := hW.cell hr hq
 have eq : r.take q.length = q := (hI.iff s r hr).2 ⟨by omega, h1⟩
 rw [eq] at et
 have hst := (kS hq).1 (List.mem_of_getElem? hs)
 refine ⟨s, r, x, hs, hr, et, ?_, ?_, ?_, ?_⟩
 ·unfold bM
  rw [List.getElem?_map, hs]
  show some ((W.getD s []).getD q.length ByteArray.empty) = some x
  rw [bC hr, bC hx]
 ·rw [List.getD_eq_getElem?_getD]
  cases h4 : (aU W d q.length W.length)[k + 1]? with
  | none => exact hsn
  | some e =>
   obtain ⟨l1, e1⟩ := List.getElem?_eq_some_iff.1 hs
   obtain ⟨l2, e2⟩ := List.getElem?_eq_some_iff.1 h4
   have := List.pairwise_iff_getElem.1 (eY W d q.length W.length) k (k + 1) l1 l2 (by omega)
   rw [e1, e2] at this
   exact this
 ·rw [List.getD_eq_getElem?_getD]
  cases h4 : (aU W d q.length W.length)[k + 1]? with
  | none => exact Nat.le_refl _
  | some e => exact Nat.le_of_lt (kR h4).2
 ·intro n y hy
  have hn := (List.getElem?_eq_some_iff.1 hy).1
  rw [List.length_append, List.length_singleton, <- et]
  refine ⟨fun he => ⟨?_, ?_⟩, fun ⟨h3, h4⟩ => ?_⟩
  ·rcases Nat.lt_or_ge n s with h3 | h3
   ·exfalso
    rcases dR.1 hst.2 with h4 | h4
    ·omega
    ·obtain ⟨z, hz⟩ : ∃ z, W[s - 1]? = some z := ⟨_, qG (by omega)⟩
     rw [bC hz, bC hr] at h4
     exact h4 ((hW.between hy hz hr (by omega) (by omega) he).trans he)
   ·exact h3
  ·rcases Nat.lt_or_ge n ((aU W d q.length W.length).getD (k + 1) W.length) with h3 | h3
   ·exact h3
   ·exfalso
    rw [List.getD_eq_getElem?_getD] at h3
    cases h4 : (aU W d q.length W.length)[k + 1]? with
    | none =>
     rw [h4] at h3
     have h5 : W.length ≤ n := h3
     omega
    | some e =>
     rw [h4] at h3
     have h5 : e ≤ n := h3
     have h6 := (kS hq).1 (List.mem_of_getElem? h4)
     obtain ⟨l1, e1⟩ := List.getElem?_eq_some_iff.1 hs
     obtain ⟨l2, e2⟩ := List.getElem?_eq_some_iff.1 h4
     have h7 := List.pairwise_iff_getElem.1 (eY W d q.length W.length) k (k + 1) l1 l2 (by omega)
     rw [e1, e2] at h7
     obtain ⟨z, hz⟩ : ∃ z, W[e - 1]? = some z := ⟨_, qG (by omega)⟩
     obtain ⟨u, hu⟩ : ∃ u, W[e]? = some u := ⟨_, qG (by omega)⟩
     rcases dR.1 h6.2 with h8 | h8
     ·omega
     ·rw [bC hz, bC hu] at h8
      exact h8 ((hW.between hr hz hy (by omega) (by omega) he.symm).trans (hW.between hr hu hy (by omega) h5 he.symm).symm)
  ·-- no start lies between
   have key : ∀ m, s ≤ m -> m ≤ n -> ∀ z, W[m]? = some z -> z.take (q.length + 1) = r.take (q.length + 1) := by
    intro m
    induction m with
    | zero =>
     intro h5 _ z hz
     have : s = 0 := by omega
     rw [this] at hr
     rw [hr] at hz; cases hz; rfl
    | succ m ih =>
     intro h5 h6 z hz
     rcases Nat.lt_or_eq_of_le h5 with h7 | h7
     ·obtain ⟨u, hu⟩ : ∃ u, W[m]? = some u := ⟨_, qG (by omega)⟩
      have h8 := ih (by omega) (by omega) u hu
      have h9 : ¬ cQ W (q.length + 1) (m + 1) = true := fun h10 => by
       have hm := (kS (W := W) (n := W.length) hq).2 ⟨(List.getElem?_eq_some_iff.1 hz).1, h10⟩
       obtain ⟨j, hj⟩ := List.mem_iff_getElem?.1 hm
       obtain ⟨l1, e1⟩ := List.getElem?_eq_some_iff.1 hs
       obtain ⟨l2, e2⟩ := List.getElem?_eq_some_iff.1 hj
       have hjk : k < j := by
        rcases Nat.lt_trichotomy k j with h | h | h
        ·exact h
        ·subst h; rw [hs] at hj; cases hj; omega
        ·have := List.pairwise_iff_getElem.1 (eY W d q.length W.length) j k l2 l1 h
         rw [e1, e2] at this; omega
       rw [List.getD_eq_getElem?_getD, qG (by omega : k + 1 < _)] at h4
       have h11 : n < (aU W d q.length W.length)[k + 1] := h4
       rcases Nat.lt_or_eq_of_le (show k + 1 ≤ j from hjk) with h | h
       ·have := List.pairwise_iff_getElem.1 (eY W d q.length W.length) (k + 1) j (by omega) l2 h
        rw [e2] at this; omega
       ·subst h; rw [e2] at h11; omega
      have h12 : u.take (q.length + 1) = z.take (q.length + 1) := by
       refine Classical.byContradiction fun h13 => h9 (dR.2 (.inr ?_))
       rw [Nat.add_sub_cancel, bC hu, bC hz]; exact h13
      rw [<- h12]; exact h8
     ·rw [<- h7] at hz
      rw [hr] at hz; cases hz; rfl
   exact key n h3 (Nat.le_refl _) y hy
theorem SpanOf.all (hW : WaysOk W d) {q : List ByteArray} {a b : Nat} (h : SpanOf W d q a b) (hq : q.length < d) {x : ByteArray} {r : List ByteArray} (hr : r ∈ W) (he : r.take (q.length + 1) = q ++ [x]) :
 ∃ k, a ≤ k /\ k < b /\ (bM W d q.length W.length)[k]? = some x := by
 have hS := h
 obtain ⟨lo, hi, hI, ea, eb⟩ := h
 obtain ⟨n, hn⟩ := List.mem_iff_getElem?.1 hr
 have hnl := (List.getElem?_eq_some_iff.1 hn).1
 have e1 : r.take q.length = q := by
  have := congrArg (List.take q.length) he
  rw [List.take_take, List.take_left] at this
  rw [show min q.length (q.length + 1) = q.length by omega] at this
  exact this
 obtain ⟨h1, h2⟩ := (hI.iff n r hn).1 e1
 have hlo : cQ W (q.length + 1) lo = true := by
  refine dR.2 ?_
  by_cases h0 : lo = 0
  ·exact .inl h0
  ·refine .inr fun h3 => ?_
   obtain ⟨z, hz⟩ : ∃ z, W[lo - 1]? = some z := ⟨_, qG (by omega)⟩
   obtain ⟨u, hu⟩ : ∃ u, W[lo]? = some u := ⟨_, qG (by omega)⟩
   rw [bC hz, bC hu] at h3
   have h4 : z.take q.length = u.take q.length := by
    have := congrArg (List.take q.length) h3
    rw [List.take_take, List.take_take] at this
    rw [show min q.length (q.length + 1) = q.length by omega] at this
    exact this
   have h5 := (hI.iff lo u hu).2 ⟨Nat.le_refl _, hI.le⟩
   have h6 := ((hI.iff (lo - 1) z hz).1 (h4.trans h5)).1
   omega
 have hml : lo ∈ aU W d q.length (n + 1) := (kS hq).2 ⟨by omega, hlo⟩
 obtain ⟨j, hj⟩ := List.mem_iff_getElem?.1 hml
 have hjl := (List.getElem?_eq_some_iff.1 hj).1
 obtain ⟨k, ek⟩ : ∃ k, aQ W d q.length (n + 1) = k + 1 := ⟨aQ W d q.length (n + 1) - 1, by unfold aQ; omega⟩
 have hka : a ≤ k := by
  have h3 : ¬ j < aQ W d q.length lo := fun h => absurd ((lZ hj (by omega)).1 h) (by omega)
  have h4 : j < aQ W d q.length (n + 1) := hjl
  omega
 have hkb : k < b := by
  have := kL (W := W) (d := d) q.length (show n + 1 ≤ hi from h2)
  omega
 obtain ⟨s, r', x', hs, hr', he', hk', hI'⟩ := hS.place hW hq hka hkb
 refine ⟨k, hka, hkb, ?_⟩
 have hsn : s < n + 1 := (lZ hs (by omega)).1 (by omega)
 have hne : n < (aU W d q.length W.length).getD (k + 1) W.length := by
  rw [List.getD_eq_getElem?_getD]
  cases h4 : (aU W d q.length W.length)[k + 1]? with
  | none => exact hnl
  | some e =>
   have h5 : ¬ e < n + 1 := fun h => absurd ((lZ h4 (by omega)).2 h) (by omega)
   show n < e
   omega
 have h7 := (hI'.iff n r hn).2 ⟨by omega, hne⟩
 rw [List.length_append, List.length_singleton, he] at h7
 have h8 := (List.append_inj h7 rfl).2
 rw [hk']
 simpa using h8.symm
theorem SpanOf.rise (hW : WaysOk W d) {q : List ByteArray} {a b : Nat} (h : SpanOf W d q a b) (hq : q.length < d) {k l : Nat} (ha : a ≤ k) (hl : k < l) (hb : l < b) {x y : ByteArray} (hx : (bM W d q.length W.length)[k]? = some x) (hy : (bM W d q.length W.length)[l]? = some y) : aZ x.toList y.toList < 0 := by
 obtain ⟨s, r, x', hs, hr, he, hk, hI⟩ := h.place hW hq ha (by omega)
 obtain ⟨t, u, y', ht, hu, he2, hk2, hI2⟩ := h.place hW hq (show a ≤ l by omega) hb
 rw [hk] at hx; cases hx
 rw [hk2] at hy; cases hy
 obtain ⟨l1, e1⟩ := List.getElem?_eq_some_iff.1 hs
 obtain ⟨l2, e2⟩ := List.getElem?_eq_some_iff.1 ht
 have hst := List.pairwise_iff_getElem.1 (eY W d q.length W.length) k l l1 l2 hl
 rw [e1, e2] at hst
 have h1 := jM (q.length + 1) ((hW.len r (List.mem_of_getElem? hr)).trans (hW.len u (List.mem_of_getElem? hu)).symm) (hW.le hr hu (Nat.le_of_lt hst))
 rw [he, he2, rY] at h1
 have h2 : aZ x.toList y.toList ≠ 0 := fun e => by
  have exy : x = y := dD (dS e)
  subst exy
  have h3 := ((hI2.iff s r hr).1 (by rw [List.length_append, List.length_singleton]; exact he)).1
  omega
 omega
theorem SpanOf.down (hW : WaysOk W d) {q : List ByteArray} {a b : Nat} (h : SpanOf W d q a b) (hq : q.length < d) {k : Nat} (ha : a ≤ k) (hb : k < b) {x : ByteArray} (hx : (bM W d q.length W.length)[k]? = some x) :
 ∃ f t, (bU W d q.length W.length ++ [(aQ W d (q.length + 1) W.length : Int)])[k]? = some ((f : Nat) : Int) /\ (bU W d q.length W.length ++ [(aQ W d (q.length + 1) W.length : Int)])[k + 1]? = some ((t : Nat) : Int) /\ SpanOf W d (q ++ [x]) f t := by
 obtain ⟨s, r, x', hs, hr, he, hk, hI⟩ := h.place hW hq ha hb
 rw [hk] at hx; cases hx
 refine ⟨aQ W d (q.length + 1) s, aQ W d (q.length + 1) ((aU W d q.length W.length).getD (k + 1) W.length), ?_, ?_, s, _, hI, by rw [List.length_append, List.length_singleton], by rw [List.length_append, List.length_singleton]⟩
 ·have hkl : k < (bU W d q.length W.length).length := by rw [gB]; exact (List.getElem?_eq_some_iff.1 hs).1
  rw [List.getElem?_append_left hkl]
  unfold bU
  rw [List.getElem?_map, hs]; rfl
 ·rw [List.getD_eq_getElem?_getD]
  cases h4 : (aU W d q.length W.length)[k + 1]? with
  | none =>
   have h5 := List.getElem?_eq_none_iff.1 h4
   have h6 := (List.getElem?_eq_some_iff.1 hs).1
   have h7 : (bU W d q.length W.length).length = k + 1 := by rw [gB]; unfold aQ; omega
   rw [List.getElem?_append_right (by omega), h7, Nat.sub_self]; rfl
  | some e =>
   have hkl : k + 1 < (bU W d q.length W.length).length := by rw [gB]; exact (List.getElem?_eq_some_iff.1 h4).1
   rw [List.getElem?_append_left hkl]
   unfold bU
   rw [List.getElem?_map, h4]; rfl
theorem SpanOf.le {q : List ByteArray} {a b : Nat} (h : SpanOf W d q a b) : a ≤ b /\ b ≤ aQ W d q.length W.length := by
 obtain ⟨lo, hi, hI, rfl, rfl⟩ := h
 exact ⟨kL _ (Nat.le_of_lt hI.le), kL _ hI.few⟩
theorem SpanOf.some (hW : WaysOk W d) {q : List ByteArray} {a b : Nat} (h : SpanOf W d q a b) (hq : q.length < d) : a < b := by
 have hS := h
 obtain ⟨lo, hi, hI, ea, eb⟩ := h
 obtain ⟨r, hr⟩ : ∃ r, W[lo]? = .some r := ⟨_, qG (Nat.lt_of_lt_of_le hI.le hI.few)⟩
 obtain ⟨x, hx, et⟩ := hW.cell hr hq
 have e := (hI.iff lo r hr).2 ⟨Nat.le_refl _, hI.le⟩
 rw [e] at et
 obtain ⟨k, h1, h2, _⟩ := hS.all hW hq (List.mem_of_getElem? hr) et
 omega
end
end Go.Proofs.YtinnmeiphbdogaaGreat
/- Tries: how levels grow, way by way; where a cursor stands. Plain. -/
namespace Go.Proofs.YtinnmeiphbdogaaGreat
section
variable {W : aD} {d : Nat}
theorem keys_succ {i n : Nat} (hi : i < d) {r : List ByteArray} {x : ByteArray} (hr : W[n]? = some r) (hx : r[i]? = some x) : bM W d i (n + 1) = bM W d i n ++ if cQ W (i + 1) n then [x] else [] := by
 unfold bM
 rw [lX W hi, List.map_append]
 congr 1
 split
 ·rw [List.map_singleton, bC hr, bC hx]
 ·rfl
theorem qZ {i n : Nat} (hi : i < d) : bU W d i (n + 1) = bU W d i n ++ if cQ W (i + 1) n then [(aQ W d (i + 1) n : Int)] else [] := by
 unfold bU
 rw [lX W hi, List.map_append]
 congr 1
 split
 ·rfl
 ·rfl
theorem oS {n : Nat} : aQ W d d n = n := by unfold aQ; rw [lY W (Nat.lt_irrefl d), List.length_range]
theorem aC3 {n : Nat} : cQ W 0 n = (n == 0) := by
 unfold cQ
 rw [List.take_zero, List.take_zero]
 simp
structure PathOk (W : aD) (d : Nat) (q : List ByteArray) (st : List (Nat × Nat)) : Prop where
 len : st.length = q.length
 at_ : ∀ (j : Nat) (e : Nat × Nat), st[j]? = some e -> ∃ a x, SpanOf W d (q.take j) a e.2 /\ a ≤ e.1 /\ e.1 < e.2 /\ q[j]? = some x /\ (bM W d j W.length)[e.1]? = some x
 few : q.length ≤ d
theorem PathOk.nil : PathOk W d [] [] := ⟨rfl, fun j e h => by simp at h, Nat.zero_le _⟩
theorem PathOk.push {q : List ByteArray} {st : List (Nat × Nat)} (h : PathOk W d q st) (hq : q.length < d) {a b k : Nat} {x : ByteArray} (hs : SpanOf W d q a b) (ha : a ≤ k) (hb : k < b) (hx : (bM W d q.length W.length)[k]? = some x) : PathOk W d (q ++ [x]) (st ++ [(k, b)]) := by
 refine ⟨by simp [h.len], fun j e he => ?_, by simp; omega⟩
 rcases Nat.lt_trichotomy j st.length with h1 | h1 | h1
 ·rw [List.getElem?_append_left h1] at he
  obtain ⟨a', x', h2, h3, h4, h5, h6⟩ := h.at_ j e he
  have hj : j < q.length := by rw [<- h.len]; exact h1
  exact ⟨a', x', by rw [List.take_append_of_le_length (by omega)]; exact h2, h3, h4, by rw [List.getElem?_append_left hj]; exact h5, h6⟩
 ·subst h1
  rw [List.getElem?_append_right (Nat.le_refl _), Nat.sub_self] at he
  cases he
  refine ⟨a, x, ?_, ha, hb, ?_, ?_⟩
  ·rw [h.len, List.take_left]; exact hs
  ·rw [h.len, List.getElem?_append_right (Nat.le_refl _), Nat.sub_self]; rfl
  ·rw [h.len]; exact hx
 ·rw [List.getElem?_append_right (by omega)] at he
  have : j - st.length ≠ 0 := by omega
  cases hj : j - st.length with
  | zero => omega
  | succ m => rw [hj] at he; simp at he
theorem PathOk.open (hW : WaysOk W d) (hne : 0 < W.length) {q : List ByteArray} {st : List (Nat × Nat)} (h : PathOk W d q st) (hq : q.length < d) :
 ∃ a b, SpanOf W d q a b /\ a < b /\ ((q = [] /\ a = 0 /\ b = aQ W d 0 W.length) \/
  ∃ (m : Nat) (e : Nat × Nat), q.length = m + 1 /\ st[m]? = some e /\ (bU W d m W.length ++ [(aQ W d (m + 1) W.length : Int)])[e.1]? = some ((a : Nat) : Int) /\ (bU W d m W.length ++ [(aQ W d (m + 1) W.length : Int)])[e.1 + 1]? = some ((b : Nat) : Int)) := by
 cases hl : q.length with
 | zero =>
  have e : q = [] := List.eq_nil_of_length_eq_zero hl
  subst e
  have hs := aFp (W := W) (d := d) hne
  exact ⟨0, _, hs, hs.some hW hq, .inl ⟨rfl, rfl, rfl⟩⟩
 | succ m =>
  obtain ⟨e, he⟩ : ∃ e, st[m]? = some e := ⟨_, qG (by rw [h.len, hl]; omega)⟩
  obtain ⟨a', x, h1, h2, h3, h4, h5⟩ := h.at_ m e he
  have hlen : (q.take m).length = m := by rw [List.length_take]; omega
  have hd := h1.down hW (by rw [hlen]; omega) h2 h3 (x := x) (by rw [hlen]; exact h5)
  rw [hlen] at hd
  obtain ⟨f, t, h6, h7, h8⟩ := hd
  have eq : q.take m ++ [x] = q := by
   have : q.take (m + 1) = q.take m ++ [x] := by rw [List.take_add_one, h4]; rfl
   rw [<- this, <- hl, List.take_length]
  rw [eq] at h8
  exact ⟨f, t, h8, h8.some hW hq, .inr ⟨m, e, rfl, he, h6, h7⟩⟩
end
end Go.Proofs.YtinnmeiphbdogaaGreat
/- The program's tables and tests, and what a rule's bindings are: plain. -/
namespace Go.Proofs.YtinnmeiphbdogaaGreat
def fH (N V : List ByteArray) (R : aD) (l : aO) : Prop :=
 if l.1 = 1 then (aL N (aA l)).map (bE V) ∈ cD N (aA l) R
 else if l.1 = 2 then ¬ (aL N (aA l)).map (bE V) ∈ cD N (aA l) R
 else pR (gK l) (nZ N V (leftOf l)) (nZ N V (aR l))
theorem aCc {N V : List ByteArray} {R : aD} {l : aO} (hN : N.Nodup) (hV : V.length = N.length) (hin : l.1 = 1 \/ l.1 = 2 -> ∀ t ∈ aA l, t.1 = 1 -> t.2.1 ∈ N) : fH N V R l ↔ lG N V R l := by
 unfold fH lG
 by_cases h1 : l.1 = 1
 ·rw [if_pos h1, if_pos h1]; exact aEv R hN hV (hin (.inl h1))
 ·rw [if_neg h1, if_neg h1]
  by_cases h2 : l.1 = 2
  ·rw [if_pos h2, if_pos h2, aEv R hN hV (hin (.inr h2))]
  ·rw [if_neg h2, if_neg h2]
theorem wV : ∀ (ts : List aG) (a : List ByteArray) (t : aG), t ∈ ts -> t.1 = 1 -> t.2.1 ∈ namesT a ts
 | [], _, _, h, _ => by simp at h
 | u :: ts, a, t, h, h1 => by
  show t.2.1 ∈ namesT (bJ a u) ts
  rcases List.mem_cons.1 h with h | h
  ·subst h
   have hm : t.2.1 ∈ bJ a t := by
    unfold bJ
    split
    ·simp
    ·rename_i h2
     rw [<- cG]
     cases h3 : lS a t.2.1 with
     | true => rfl
     | false => exact absurd ⟨h1, h3⟩ h2
   have hp := qU ts (bJ a t)
   rw [<- hp] at hm
   exact List.mem_of_mem_take hm
  ·exact wV ts (bJ a u) t h h1
theorem aDf {ls : List aO} {l : aO} (hl : l ∈ ls) (h1 : l.1 = 1) {t : aG} (ht : t ∈ aA l) (h : t.1 = 1) : t.2.1 ∈ aB ls := by
 obtain ⟨i, hi⟩ := List.mem_iff_getElem?.1 hl
 have e := fZ hi
 have hm : t.2.1 ∈ aB (ls.take (i + 1)) := by
  rw [e]; unfold bR; rw [if_pos h1]
  exact wV _ _ _ ht h
 rw [<- lB ls (i + 1)] at hm
 exact List.mem_of_mem_take hm
theorem yH {r : cN} (h : bD r = 0) {l : aO} (hl : l ∈ r.2.1) (hk : l.1 = 1 \/ l.1 = 2) : ∀ t ∈ aA l, t.1 = 1 -> t.2.1 ∈ aB r.2.1 := fun t ht h1 => by
 rcases hk with hk | hk
 ·exact aDf hl hk ht h1
 ·unfold bD at h
  split at h
  ·split at h
   ·rename_i hp hs
    unfold oL at hs
    rw [Bool.and_eq_true] at hs
    have h2 := List.all_eq_true.1 hs.2 l hl
    unfold jD at h2
    rw [if_neg (by omega), if_pos hk] at h2
    have h3 := List.all_eq_true.1 h2 t ht
    unfold dX at h3
    rw [if_neg (by omega)] at h3
    rcases of_decide_eq_true h3 with h4 | h4 | h4
    ·omega
    ·omega
    ·exact cG.1 h4
   ·cases h
  ·cases h
theorem nG {r : cN} (h : bD r = 0) {R : Nat -> aD} {V : List ByteArray} : cE r.2.1 R V ↔ V.length = (aB r.2.1).length /\ ∀ (i : Nat) (l : aO), r.2.1[i]? = some l -> fH (aB r.2.1) V (R i) l := by
 unfold cE
 refine and_congr_right fun hV => ⟨fun h1 i l hl => (aCc (bQ _) hV fun hk => yH h (List.mem_of_getElem? hl) hk).2 (h1 i l hl), fun h1 i l hl => (aCc (bQ _) hV fun hk => yH h (List.mem_of_getElem? hl) hk).1 (h1 i l hl)⟩
theorem tY : ∀ (ts : List aG) (a : List ByteArray) (s : ByteArray), s ∈ namesT a ts -> s ∈ a \/ ∃ t ∈ ts, t.1 = 1 /\ t.2.1 = s
 | [], a, s, h => .inl h
 | t :: ts, a, s, h => by
  rcases tY ts (bJ a t) s h with h1 | ⟨u, hu, h1⟩
  ·unfold bJ at h1
   split at h1
   ·rename_i h2
    rcases List.mem_append.1 h1 with h1 | h1
    ·exact .inl h1
    ·rw [List.mem_singleton] at h1
     exact .inr ⟨t, List.mem_cons_self .., h2.1, h1.symm⟩
   ·exact .inl h1
  ·exact .inr ⟨u, List.mem_cons_of_mem _ hu, h1⟩
theorem rQ : ∀ (ls : List aO) (a : List ByteArray) (s : ByteArray), s ∈ ls.foldl bR a -> s ∈ a \/ ∃ l ∈ ls, l.1 = 1 /\ ∃ t ∈ aA l, t.1 = 1 /\ t.2.1 = s
 | [], a, s, h => .inl h
 | l :: ls, a, s, h => by
  rcases rQ ls (bR a l) s h with h1 | ⟨m, hm, h1⟩
  ·unfold bR at h1
   split at h1
   ·rename_i h2
    rcases tY _ _ _ h1 with h3 | h3
    ·exact .inl h3
    ·exact .inr ⟨l, List.mem_cons_self .., h2, h3⟩
   ·exact .inl h1
  ·exact .inr ⟨m, List.mem_cons_of_mem _ hm, h1⟩
theorem mN {ls : List aO} {v : Nat} (hv : v < (aB ls).length) : ∃ l ∈ ls, l.1 = 1 /\ v ∈ aL (aB ls) (aA l) := by
 have hg : (aB ls)[v]? = some (bE (aB ls) v) := by unfold bE; rw [List.getD_eq_getElem?_getD, qG hv]; rfl
 rcases rQ ls [] _ (List.mem_of_getElem? hg) with h | ⟨l, hl, h1, t, ht, h2, h3⟩
 ·simp at h
 ·obtain ⟨i, hi⟩ := List.mem_iff_getElem?.1 ht
  exact ⟨l, hl, h1, cF.2 ⟨hv, i, t, hi, h2, h3⟩⟩
theorem aCl {vs : List Nat} (hr : vs.Pairwise (· < ·)) {m v : Nat} (hm : vs[m]? = some v) {p V : List ByteArray} (hp : V.take v = p) (hV : v < V.length) :
 (vs.map (bE V)).take (m + 1) = (vs.take m).map (bE p) ++ [bE V v] := by
 have hml := (List.getElem?_eq_some_iff.1 hm)
 rw [List.take_add_one, List.getElem?_map, hm]
 show (vs.map (bE V)).take m ++ [bE V v] = _
 rw [<- List.map_take]
 congr 1
 refine List.map_congr_left fun u hu => ?_
 obtain ⟨j, hj⟩ := List.mem_iff_getElem?.1 hu
 have hjm : j < m := by
  have := (List.getElem?_eq_some_iff.1 hj).1
  rw [List.length_take] at this; omega
 rw [List.getElem?_take_of_lt hjm] at hj
 obtain ⟨l1, e1⟩ := List.getElem?_eq_some_iff.1 hj
 have huv := List.pairwise_iff_getElem.1 hr j m l1 hml.1 hjm
 rw [e1, hml.2] at huv
 unfold bE
 rw [List.getD_eq_getElem?_getD, List.getD_eq_getElem?_getD, <- hp, List.getElem?_take_of_lt huv]
end Go.Proofs.YtinnmeiphbdogaaGreat
/- The program's way from variable to variable: plain. -/
namespace Go.Proofs.YtinnmeiphbdogaaGreat
theorem aKu {W : aD} {d : Nat} (hW : WaysOk W d) {q : List ByteArray} {a b : Nat} (h : SpanOf W d q a b) (hq : q.length < d) : CurOk ⟨bM W d q.length W.length, a, b⟩ :=
 ⟨h.le.1, by show b ≤ (bM W d q.length W.length).length; rw [eJ]; exact h.le.2, fun k l x y h1 h2 h3 h4 h5 => h.rise hW hq h1 h2 h3 h4 h5⟩
theorem aD9 {W : aD} {d : Nat} (hW : WaysOk W d) {q : List ByteArray} {a b : Nat} (h : SpanOf W d q a b) (hq : q.length < d) {r : List ByteArray} {x : ByteArray} (hr : r ∈ W) (he : r.take (q.length + 1) = q ++ [x]) : kH ⟨bM W d q.length W.length, a, b⟩ a x := by
 obtain ⟨k, h1, h2, h3⟩ := h.all hW hq hr he
 exact ⟨k, h1, h2, h3⟩
def qC (N : List ByteArray) (t : aG) : Int := if t.1 = 1 /\ lS N t.2.1 = true then ((N.findIdx fun s => decide (s = t.2.1) : Nat) : Int) else -1
def eI (N : List ByteArray) (l : aO) : Int :=
 if l.1 = 2 then match (aL N (aA l)).getLast? with | some v => (v : Int) | none => -1
 else max (qC N (leftOf l)) (qC N (aR l))
theorem aBf {V V' : List ByteArray} {k v : Nat} (h : V.take k = V'.take k) (hv : v < k) : bE V v = bE V' v := by
 unfold bE
 rw [List.getD_eq_getElem?_getD, List.getD_eq_getElem?_getD, <- List.getElem?_take_of_lt hv, h, List.getElem?_take_of_lt hv]
theorem zR {N V V' : List ByteArray} {k : Nat} (h : V.take k = V'.take k) {t : aG} (hk : qC N t < k) (hin : t.1 = 1 -> t.2.1 ∈ N) : nZ N V t = nZ N V' t := by
 unfold nZ
 split
 ·rename_i h1
  refine aBf h ?_
  unfold qC at hk
  rw [if_pos ⟨h1, cG.2 (hin h1)⟩] at hk
  omega
 ·rfl
theorem aHe {N V V' : List ByteArray} {R : aD} {l : aO} {k : Nat} (h : V.take k = V'.take k) (h1 : l.1 ≠ 1) (hk : eI N l < k) (hin : l.1 ≠ 2 -> (leftOf l).1 = 1 -> (leftOf l).2.1 ∈ N) (hin2 : l.1 ≠ 2 -> (aR l).1 = 1 -> (aR l).2.1 ∈ N) : fH N V R l ↔ fH N V' R l := by
 unfold fH
 rw [if_neg h1, if_neg h1]
 by_cases h2 : l.1 = 2
 ·rw [if_pos h2, if_pos h2]
  unfold eI at hk
  rw [if_pos h2] at hk
  have e : (aL N (aA l)).map (bE V) = (aL N (aA l)).map (bE V') := by
   refine List.map_congr_left fun v hv => aBf h ?_
   obtain ⟨j, hj⟩ := List.mem_iff_getElem?.1 hv
   have hjl := List.getElem?_eq_some_iff.1 hj
   have hlast : (aL N (aA l)).getLast? = (aL N (aA l))[(aL N (aA l)).length - 1]? := List.getLast?_eq_getElem?
   obtain ⟨u, hu⟩ : ∃ u, (aL N (aA l))[(aL N (aA l)).length - 1]? = some u := ⟨_, qG (by have := hjl.1; omega)⟩
   rw [hlast, hu] at hk
   have hul := List.getElem?_eq_some_iff.1 hu
   have hk' : (u : Int) < k := hk
   rcases Nat.lt_or_ge j ((aL N (aA l)).length - 1) with h3 | h3
   ·have := List.pairwise_iff_getElem.1 (vZ N (aA l)) j _ hjl.1 hul.1 h3
    rw [hjl.2, hul.2] at this
    omega
   ·have : j = (aL N (aA l)).length - 1 := by have := hjl.1; omega
    subst this
    rw [hj] at hu; cases hu
    omega
  rw [e]
 ·rw [if_neg h2, if_neg h2]
  unfold eI at hk
  rw [if_neg h2] at hk
  rw [zR h (by omega) (hin h2), zR h (by omega) (hin2 h2)]
theorem sR {N : List ByteArray} {l : aO} : eI N l < N.length := by
 have hi : ∀ t, qC N t < N.length := fun t => by
  unfold qC
  split
  ·rename_i h
   have := (List.getElem?_eq_some_iff.1 (aDr (cG.1 h.2))).1
   omega
  ·omega
 unfold eI
 split
 ·split
  ·rename_i v hv
   have := (cF.1 (List.mem_of_getLast? hv)).1
   omega
  ·omega
 ·have h1 := hi (leftOf l)
  have h2 := hi (aR l)
  omega
end Go.Proofs.YtinnmeiphbdogaaGreat
/- slices.Index at texts and at terms, to the place. -/
namespace Go.Proofs.YtinnmeiphbdogaaGreat
open Go.RowKit
def cH {α : Type} (q : α -> Bool) (l : List α) : Int := if l.any q = true then ((l.findIdx q : Nat) : Int) else -1
theorem xK {α : Type} {q : α -> Bool} {l : List α} {i : Nat} {u : α} (hno : ∀ (j : Nat) x, j < i -> l[j]? = some x -> q x = false) (hi : l[i]? = some u) (hq : q u = true) : cH q l = i := by
 unfold cH
 rw [if_pos (nJ hi hq)]
 have hl := List.getElem?_eq_some_iff.1 hi
 congr 1
 have h1 : l.findIdx q ≤ i := by
  refine Nat.not_lt.1 fun h => ?_
  have := List.not_of_lt_findIdx h
  rw [hl.2, hq] at this
  exact absurd this (by simp)
 rcases Nat.lt_or_eq_of_le h1 with h2 | h2
 ·have h3 : l.findIdx q < l.length := Nat.lt_trans h2 hl.1
  have h4 := List.findIdx_getElem (w := h3)
  rw [hno _ _ h2 (qG h3)] at h4
  cases h4
 ·exact h2
theorem rW {α : Type} {q : α -> Bool} {l : List α} (hno : ∀ (j : Nat) x, j < l.length -> l[j]? = some x -> q x = false) : cH q l = -1 := by
 unfold cH
 rw [rG rfl hno]; rfl
set_option maxRecDepth 100000 in
set_option maxHeartbeats 1000000 in
theorem mV (ss : List ByteArray) (s : ByteArray) (ao : Option Addr) (n cap : Nat) (w : World) (hn : n = ss.length) (h : CellsAt w ao (strs ss)) (hl : n ≤ 4611686018427387904) :
 Calls Tryz.prog 75 #[.slice ao n cap, .string s] w (RetN w fun w' v => v = .int .i64 (cH (fun x => decide (x = s)) ss)) := by
 have HN := qH hn; have HE := qH h; clear hn h
 go_enter Tryz.func75, Tryz.ntmps75
 go_wp2
 go_loopw [8] (fun iv wr => aKk w ss s n iv wr) (fun iv _ => n - (intOf iv).toNat)
 case atStart => exact ⟨0, Nat.zero_le _, rfl, fun j u h => by omega, Kp.refl w⟩
 case round =>
  obtain ⟨i, hi, rfl, hno, hex⟩ := hrel
  by_cases hlt : i < n
  ·have hlt' : i < ss.length := by rw [<- HN.out]; exact hlt
   obtain ⟨b, off, eao, hc0⟩ := (HE.out.ext hex.out).str hlt'
   subst eao
   have ht : ss[i]? = some ss[i] := qG hlt'
   generalize ss[i] = u at *
   by_cases hu : s = u
   ·have HT := qH (And.intro ht hu)
    clear ht hlt'
    subst hu
    have hb := str_eq s
    go_wp2
    go_ret
    exact RetN.mk hex.out (by rw [xK hno.out HT.out.1 (by simp)]; rfl)
   ·have HT := qH (And.intro ht hu)
    have hb := kP hu
    clear ht hlt' hu
    go_wp2
    go_roundw
    case rel =>
     refine ⟨i + 1, by omega, by first | rfl | (congr 1; done) | (congr 1; omega), fun j u hj hu => ?_, hex⟩
     by_cases e : j = i
     ·subst e; rw [HT.out.1] at hu; cases hu; exact decide_eq_false (fun e => HT.out.2 e.symm)
     ·exact hno.out j u (by omega) hu
    case measure => simp [intOf]; omega
  ·go_wp2
   go_ret
   exact RetN.mk hex.out (by rw [rW fun j u hj => hno.out j u (by have := HN.out; omega)]; rfl)
def isT (k : Int) (s : ByteArray) (t : aG) : Bool := decide (t.1 = k /\ t.2.1 = s)
def NoneX (w0 : World) (ts : List aG) (q : aG -> Bool) (n : Nat) (iv : Value) (w : World) : Prop := ∃ i : Nat, i ≤ n /\ iv = .int .i64 i /\ Hid (∀ (j : Nat) u, j < i -> ts[j]? = some u -> q u = false) /\ Hid (Ext w0 w)
set_option maxRecDepth 100000 in
set_option maxHeartbeats 2000000 in
theorem mU (ts : List aG) (k : Int) (s : ByteArray) (ao : Option Addr) (n cap : Nat) (w : World) (G : Nat -> Prop) (hn : n = ts.length) (h : aW w G ao ts) (hl : n ≤ 1048576) :
 Calls Tryz.prog 150 #[.slice ao n cap, wF k s] w (RetN w fun w' v => v = .int .i64 (cH (isT k s) ts)) := by
 have HN := qH hn; have HE := qH h; clear hn h
 go_enter Tryz.func150, Tryz.ntmps150
 obtain ⟨w1, e1⟩ : ∃ w1, w.alloc (.cells #[.int .i64 k, .string s] 38) = w1 := ⟨_, rfl⟩
 obtain ⟨g0, eg0⟩ : ∃ g, w.heap.size = g := ⟨_, rfl⟩
 have hB : Blk w1 g0 [.int .i64 k, .string s] 38 := by rw [<- e1, <- eg0]; exact Blk.new w _ _
 have hx : Ext w w1 := by rw [<- e1]; exact (Kp.refl w).alloc _
 have H1 := qH (And.intro hx hB)
 clear hx hB
 go_wp2
 clear e1 eg0
 go_loopw [8] (fun iv wr => NoneX w1 ts (isT k s) n iv wr) (fun iv _ => n - (intOf iv).toNat)
 case atStart => exact ⟨0, Nat.zero_le _, rfl, fun j u h => by omega, Kp.refl w1⟩
 case round =>
  obtain ⟨i, hi, rfl, hno, hex⟩ := hrel
  by_cases hlt : i < n
  ·obtain ⟨t, ht⟩ : ∃ t, ts[i]? = some t := ⟨_, qG (by rw [<- HN.out]; exact hlt)⟩
   obtain ⟨b, off, eao, f0, f1, -, -⟩ := gW ((HE.out.ext H1.out.1).ext hex.out) ht
   subst eao
   have hB := H1.out.2.ext hex.out
   have b0 : wr.cell? ⟨g0, 0, none⟩ = some (.int .i64 k) := by rw [hB.cell']; rfl
   have b1 : wr.cell? ⟨g0, 1, none⟩ = some (.string s) := by rw [hB.cell']; rfl
   obtain ⟨kt, st, ⟨⟩⟩ := t
   simp only at f0 f1
   clear hB
   by_cases hq : kt = k /\ st = s
   ·have HT := qH (And.intro ht (show isT k s (kt, st, ()) = true from decide_eq_true hq))
    obtain ⟨rfl, rfl⟩ := hq
    have hb := str_eq st
    clear ht
    go_wp2
    go_quiet (fail)
    go_wp2
    go_ret
    exact RetN.mk ((H1.out.1.trans hex.out).drewN _) (by rw [xK hno.out HT.out.1 HT.out.2]; rfl)
   ·have HT := qH (And.intro ht (show isT k s (kt, st, ()) = false from decide_eq_false hq))
    clear ht
    by_cases h1 : k = kt
    ·subst h1
     have hb := kP (a := s) (b := st) (fun e => hq ⟨rfl, e.symm⟩)
     have hb2 : (k == k) = true := by simp
     clear hq
     go_wp2
     go_quiet (fail)
     go_wp2
     go_roundw
     case rel =>
      refine ⟨i + 1, by omega, by first | rfl | (congr 1; done) | (congr 1; omega), fun j u hj hu => ?_, qH (hex.out.drewN _)⟩
      by_cases e : j = i
      ·subst e; rw [HT.out.1] at hu; cases hu; exact HT.out.2
      ·exact hno.out j u (by omega) hu
     case measure => simp [intOf]; omega
    ·have hb : (k == kt) = false := by simp [h1]
     clear hq h1
     go_wp2
     go_quiet (fail)
     go_wp2
     go_roundw
     case rel =>
      refine ⟨i + 1, by omega, by first | rfl | (congr 1; done) | (congr 1; omega), fun j u hj hu => ?_, qH (hex.out.drewN _)⟩
      by_cases e : j = i
      ·subst e; rw [HT.out.1] at hu; cases hu; exact HT.out.2
      ·exact hno.out j u (by omega) hu
     case measure => simp [intOf]; omega
  ·go_wp2
   go_ret
   exact RetN.mk (H1.out.1.trans hex.out) (by rw [rW fun j u hj => hno.out j u (by have := HN.out; omega)]; rfl)
set_option maxRecDepth 100000 in
theorem vC (ts : List aG) (k : Int) (s : ByteArray) (ao : Option Addr) (n cap : Nat) (w : World) (G : Nat -> Prop) (hn : n = ts.length) (h : aW w G ao ts) (hl : n ≤ 1048576) :
 Calls Tryz.prog 148 #[.slice ao n cap, wF k s] w (RetN w fun w' v => v = .bool (ts.any (isT k s))) := by
 have HI := qH (fun W (hW : Ext w W) => mU ts k s ao n cap W G hn (h.ext hW) hl)
 clear hn h hl
 go_enter Tryz.func148, Tryz.ntmps148
 obtain ⟨w1, e1⟩ : ∃ w1, w.alloc (.cells #[.int .i64 k, .string s] 38) = w1 := ⟨_, rfl⟩
 obtain ⟨g0, eg0⟩ : ∃ g, w.heap.size = g := ⟨_, rfl⟩
 have hB : Blk w1 g0 [.int .i64 k, .string s] 38 := by rw [<- e1, <- eg0]; exact Blk.new w _ _
 have hx : Ext w w1 := by rw [<- e1]; exact (Kp.refl w).alloc _
 have b0 : w1.cell? ⟨g0, 0, none⟩ = some (.int .i64 k) := by rw [hB.cell']; rfl
 have b1 : w1.cell? ⟨g0, 1, none⟩ = some (.string s) := by rw [hB.cell']; rfl
 have H1 := qH hx
 clear hx hB
 go_wp2_with fail
 refine (HI.out w1 H1.out).mono ?_
 rintro e w2 ⟨v, rfl, hk, rfl⟩
 go_wp2
 go_ret
 refine RetN.mk (H1.out.trans hk) (congrArg Value.bool ?_)
 unfold cH
 cases h2 : ts.any (isT k s)
 ·simp
 ·simp
end Go.Proofs.YtinnmeiphbdogaaGreat
/- Bases in plain Lean: what relations make, in whatever order; what is told of a base. No program in sight. -/
namespace Go.Proofs.YtinnmeiphbdogaaGreat
theorem tV : BaseOk [] := ⟨List.nodup_nil, fun p hp => by simp at hp, Nat.zero_le _⟩
theorem yR {s : ByteArray} : ∀ {rs : aD} {C : List bA}, BaseOk C -> BaseOk (cS C s rs).1
 | [], C, h => h
 | r :: rs, C, h => by
  unfold cS
  split
  ·exact yR (yS h s r)
  ·exact h
theorem aE3 : ∀ {L : List gQ} {C : List bA}, BaseOk C -> BaseOk (bY C L).1
 | [], C, h => h
 | r :: L, C, h => by
  unfold bY
  split
  ·split
   ·exact aE3 (yR (pS h _ _))
   ·exact yR (pS h _ _)
  ·exact h
theorem uB {α β : Type} {f : α -> β} {o : Option α} {b : β} (h : o.map f = some b) : ∃ a, o = some a /\ f a = b := by
 cases o with
 | none => cases h
 | some a => exact ⟨a, rfl, by simpa using h⟩
theorem aFb {s : ByteArray} : ∀ {rs : aD} {C : List bA}, BaseOk C -> (∃ v, bK C s = some v) -> (cS C s rs).2 = 0 ->
 (∀ t x, x ∈ bF (cS C s rs).1 t ↔ x ∈ bF C t \/ (s = t /\ x ∈ rs)) /\ ∀ t, (bK (cS C s rs).1 t).map (·.1) = (bK C t).map (·.1)
 | [], C, h, hs, h0 => ⟨fun t x => by simp [cS], fun t => rfl⟩
 | r :: rs, C, h, hs, h0 => by
  unfold cS at h0 ⊢
  split at h0
  ·rename_i h1
   rw [if_pos h1]
   have ha : ∀ t, (∃ v, bK C s = some v) -> (bK (lO C s r) t).map (·.1) = (bK C t).map (·.1) := fun t hs => aHf h h1 hs
   have hs' : ∃ v, bK (lO C s r) s = some v := by
    obtain ⟨v, hv⟩ := hs
    have := ha s ⟨v, hv⟩
    rw [hv] at this
    obtain ⟨u, hu, _⟩ := uB this
    exact ⟨u, hu⟩
   obtain ⟨i1, i2⟩ := aFb (yS h s r) hs' h0
   refine ⟨fun t x => ?_, fun t => (i2 t).trans (ha t hs)⟩
   rw [i1 t x, aH1 h h1, List.mem_cons]
   constructor
   ·rintro ((h2 | ⟨h2, h3⟩) | ⟨h2, h3⟩)
    ·exact .inl h2
    ·exact .inr ⟨h2, .inl h3⟩
    ·exact .inr ⟨h2, .inr h3⟩
   ·rintro (h2 | ⟨h2, h3 | h3⟩)
    ·exact .inl (.inl h2)
    ·exact .inl (.inr ⟨h2, h3⟩)
    ·exact .inr ⟨h2, h3⟩
  ·rename_i h1; exact absurd h0 h1
theorem aBj : ∀ {L : List gQ} {C : List bA}, BaseOk C -> (bY C L).2 = 0 ->
 (∀ t x, x ∈ bF (bY C L).1 t ↔ x ∈ bF C t \/ ∃ r ∈ L, r.1 = t /\ x ∈ r.2.2.1) /\ (∀ t v, bK C t = some v -> ∃ LL, bK (bY C L).1 t = some (v.1, LL)) /\
  (∀ r ∈ L, 0 ≤ r.2.1 /\ ∃ LL, bK (bY C L).1 r.1 = some (r.2.1.toNat, LL)) /\ ∀ t v, bK (bY C L).1 t = some v -> (∃ u, bK C t = some u) \/ ∃ r ∈ L, r.1 = t
 | [], C, h, h0 => ⟨fun t x => by simp [bY], fun t v hv => ⟨v.2, hv⟩, fun r hr => by simp at hr, fun t v hv => .inl ⟨v, hv⟩⟩
 | r :: L, C, h, h0 => by
  unfold bY at h0 ⊢
  split at h0
  ·rename_i h1
   rw [if_pos h1]
   split at h0
   ·rename_i h2
    rw [if_pos h2]
    obtain ⟨LL, hg, ha0, ha1, hn⟩ := aJ6 h1
    obtain ⟨a1, a2⟩ := aFb (pS h _ _) ⟨_, hg⟩ h2
    obtain ⟨i1, i2, i3, i4⟩ := aBj (yR (s := r.1) (rs := r.2.2.1) (pS h r.1 r.2.1)) h0
    have hup : ∀ t v, bK (dP C r.1 r.2.1) t = some v -> ∃ LL, bK (bY (cS (dP C r.1 r.2.1) r.1 r.2.2.1).1 L).1 t = some (v.1, LL) := fun t v hv => by
     have := a2 t
     rw [hv] at this
     obtain ⟨u, hu, e⟩ := uB this
     obtain ⟨L2, h3⟩ := i2 t u hu
     exact ⟨L2, by rw [h3, e]⟩
    refine ⟨fun t x => ?_, fun t v hv => ?_, fun q hq => ?_, fun t v hv => ?_⟩
    ·rw [i1 t x, a1 t x, aFv h1]
     constructor
     ·rintro ((h3 | ⟨h3, h4⟩) | ⟨q, h3, h4⟩)
      ·exact .inl h3
      ·exact .inr ⟨r, List.mem_cons_self, h3, h4⟩
      ·exact .inr ⟨q, List.mem_cons_of_mem _ h3, h4⟩
     ·rintro (h3 | ⟨q, h3, h4, h5⟩)
      ·exact .inl (.inl h3)
      ·rcases List.mem_cons.1 h3 with rfl | h3
       ·exact .inl (.inr ⟨h4, h5⟩)
       ·exact .inr ⟨q, h3, h4, h5⟩
    ·by_cases e : r.1 = t /\ bK C r.1 = none
     ·rw [<- e.1, e.2] at hv; cases hv
     ·exact hup t v (by rw [kF h1, if_neg e]; exact hv)
    ·rcases List.mem_cons.1 hq with rfl | hq
     ·exact ⟨ha0, hup _ _ hg⟩
     ·exact i3 q hq
    ·rcases i4 t v hv with ⟨u, hu⟩ | ⟨q, hq, e⟩
     ·have := a2 t
      rw [hu] at this
      obtain ⟨u2, hu2, _⟩ := uB this.symm
      rw [kF h1] at hu2
      split at hu2
      ·rename_i e; exact .inr ⟨r, List.mem_cons_self, e.1⟩
      ·exact .inl ⟨u2, hu2⟩
     ·exact .inr ⟨q, List.mem_cons_of_mem _ hq, e⟩
   ·rename_i h2; exact absurd h0 h2
  ·rename_i h1; exact absurd h0 h1
def aJf (C D : List bA) : Prop := ∀ s, bK C s = bK D s
def leN (a b : ByteArray) : Bool := !decide (aZ b.toList a.toList < 0)
def aI3 (a b : ByteArray) : Int := aZ a.toList b.toList
def qV (C : List bA) : List ByteArray := (C.map (·.1)).mergeSort leN
theorem aB6 : OrdLaw aI3 := ⟨fun x y => by
 have := cI x.toList y.toList
 unfold aI3; omega, fun x y z => by
 intro h1 h2
 have := lJ (xs := [x]) (ys := [y]) (zs := [z])
 have e : ∀ a b : ByteArray, aC [a] [b] = aI3 a b := fun a b => by
  unfold aI3
  simp only [aC]
  split
  ·rfl
  ·rename_i h; rw [Classical.not_not.1 h]
 rw [e, e, e] at this
 exact this h1 h2⟩
theorem lA (C : List bA) : (qV C).Perm (C.map (·.1)) := List.mergeSort_perm _ _
theorem wU {C : List bA} {s : ByteArray} : s ∈ qV C ↔ ∃ v, bK C s = some v := by
 rw [(lA C).mem_iff]
 cases hg : bK C s with
 | none => exact ⟨fun h => absurd h (kE.1 hg), fun ⟨v, h⟩ => by cases h⟩
 | some v => exact ⟨fun _ => ⟨v, rfl⟩, fun _ => by
  by_cases h : s ∈ C.map (·.1)
  ·exact h
  ·rw [kE.2 h] at hg; cases hg⟩
theorem aGl (a b c : ByteArray) (h1 : leN a b = true) (h2 : leN b c = true) : leN a c = true := by
 unfold leN at *
 simp only [Bool.not_eq_true', decide_eq_false_iff_not] at *
 have s1 := cI a.toList b.toList
 have s2 := cI b.toList c.toList
 have s3 := cI a.toList c.toList
 have := aB6.trans a b c (by show aZ _ _ ≤ 0; omega) (by show aZ _ _ ≤ 0; omega)
 have this' : aZ a.toList c.toList ≤ 0 := this
 omega
theorem aGm (a b : ByteArray) : (leN a b || leN b a) = true := by
 unfold leN
 have s1 := cI a.toList b.toList
 rw [Bool.or_eq_true]
 by_cases h : aZ b.toList a.toList < 0
 ·right
  simp only [Bool.not_eq_true', decide_eq_false_iff_not]; omega
 ·left; simpa using h
theorem pT {C : List bA} (h : (C.map (·.1)).Nodup) : Strict aI3 (qV C) := by
 have h1 := List.pairwise_mergeSort (le := leN) aGl aGm (C.map (·.1))
 have h2 : (qV C).Nodup := (lA C).nodup_iff.2 h
 refine (List.Pairwise.and h1 h2).imp fun {a b} hab => ?_
 obtain ⟨h3, h4⟩ := hab
 unfold leN at h3
 simp only [Bool.not_eq_true', decide_eq_false_iff_not] at h3
 show aZ a.toList b.toList < 0
 have s1 := cI a.toList b.toList
 have hne : ¬ aZ a.toList b.toList = 0 := fun e => h4 (dD (dS e))
 omega
theorem aDc {C D : List bA} (hC : (C.map (·.1)).Nodup) (hD : (D.map (·.1)).Nodup) (h : aJf C D) : qV C = qV D := (pT hC).unique aB6 (pT hD) fun x => by
 rw [wU, wU, h x]
theorem aH7 {l m : List Nat} (h : l.Perm m) : l.sum = m.sum := by
 induction h with
 | nil => rfl
 | cons x _ ih => rw [List.sum_cons, List.sum_cons, ih]
 | swap x y l => simp only [List.sum_cons]; omega
 | trans _ _ ih1 ih2 => exact ih1.trans ih2
end Go.Proofs.YtinnmeiphbdogaaGreat
/- tuple.Base: put, NewBase, Len. -/
namespace Go.Proofs.YtinnmeiphbdogaaGreat
open Go.RowKit
section
variable {w w' : World} {bb r : Nat} {n : Int} {m : List (ByteArray × Value)}
theorem fA (hB : Blk w bb [.map (some r), .int .i64 n] 129) (hm : MapIs w r m) (s : ByteArray) (p : Option Addr) :
 Calls Tryz.prog 89 #[.pointer (some ⟨bb, 0, none⟩), .string s, .pointer p] w (RetF (fun k => k = r) w fun w' v => MapIs w' r (kU m s (.pointer p))) := by
 have c0 : w.cell? ⟨bb, 0, none⟩ = some (.map (some r)) := by rw [hB.cell']; rfl
 obtain ⟨w2, hrun, hm2, hk2⟩ := mH (P := Tryz.prog) Tryz.underlying127 Tryz.underlying9 hm s (.pointer p)
 have hq : ∀ w : World, (binOp .eql 127 (.map (some r)) (.map none)).run Tryz.prog w = .ok (.bool false) w := fun w => by kernel_rfl
 have HM := qH (And.intro hm2 hk2)
 clear hB hm hm2 hk2
 go_enter Tryz.func89, Tryz.ntmps89
 go_wp2
 go_end0
 exact RetF.mk HM.out.2 HM.out.1
theorem aA0 (w : World) : Calls Tryz.prog 106 #[] w (RetN w fun w' v => v = .pointer (some ⟨w.heap.size + 1, 0, none⟩) /\ Blk w' (w.heap.size + 1) [.map (some w.heap.size), .int .i64 0] 129 /\ MapIs w' w.heap.size []) := by
 have hmm := @run_makeMap Tryz.prog
 go_enter Tryz.func106, Tryz.ntmps106
 go_wp2
 go_ret
 have hB := Blk.new (w.alloc (.map #[] 0)) [.map (some w.heap.size), .int .i64 0] 129
 rw [aJ] at hB
 exact RetN.mk (((Kp.refl w).alloc _).alloc _) ⟨rfl, hB, (MapIs.new w).ext ((Kp.refl _).alloc _)⟩
theorem aB9 (hB : Blk w bb [.map (some r), .int .i64 n] 129) : Calls Tryz.prog 60 #[.pointer (some ⟨bb, 0, none⟩)] w (Ret (.int .i64 n) w) := by
 have c0 : w.cell? ⟨bb, 1, none⟩ = some (.int .i64 n) := by rw [hB.cell']; rfl
 clear hB
 go_enter Tryz.func60, Tryz.ntmps60
 go_wp2
 go_ret
 exact Ret.mk rfl
end
end Go.Proofs.YtinnmeiphbdogaaGreat
/- tuple.Rows whose order may still be nil (a zero value): set lays it; Len, Has, Below, At, Arity, Drop. -/
namespace Go.Proofs.YtinnmeiphbdogaaGreat
open Go.RowKit
def RowsQ (z : Prop) (S : Nat -> Prop) (w : World) (b : Nat) (iv : Value) (arity : Nat) (LL : List (List ByteArray)) : Prop :=
 RowsAt S w b iv arity LL \/ (z /\ iv = .slice none 0 0 /\ LL = [] /\ Blk w b [.nilFunc, .slice none 0 0, .int .i64 arity] 135 /\ (∀ k, S k -> k < w.heap.size) /\ ¬ S b)
abbrev FQ (z : Prop) (b : Nat) : Nat -> Prop := fun k => z /\ k = b
theorem FQ.owns {z : Prop} {b : Nat} {iv : Value} : ∀ k, FQ z b k -> dW b iv k := fun k h => .inl h.2
theorem Kp.fq {b : Nat} {w w' : World} (h : Kp (FQ False b) w w') : Ext w w' := h.mono fun _ _ h => h.1
section
variable {z : Prop} {S : Nat -> Prop} {w w' : World} {b : Nat} {iv : Value} {arity : Nat} {LL : List (List ByteArray)}
theorem RowsAt.q (h : RowsAt S w b iv arity LL) : RowsQ z S w b iv arity LL := .inl h
theorem RowsQ.kp {F : Nat -> Prop} (h : RowsQ z S w b iv arity LL) (hk : Kp F w w') (hF : ∀ k, F k -> ¬ dW b iv k) (hS : ∀ k, F k -> ¬ S k) : RowsQ z S w' b iv arity LL := by
 rcases h with h | ⟨hz, e, el, hB, h1, h2⟩
 ·exact .inl (h.move hk hF hS (fun _ h => h) (fun k hk' => Nat.lt_of_lt_of_le (h.inS k hk') hk.size) h.notS)
 ·exact .inr ⟨hz, e, el, hB.kp hk (fun hf => hF _ hf (.inl rfl)), fun k hk' => Nat.lt_of_lt_of_le (h1 k hk') hk.size, h2⟩
theorem RowsQ.ext (h : RowsQ z S w b iv arity LL) (hk : Ext w w') : RowsQ z S w' b iv arity LL := h.kp hk (fun _ x => x.elim) (fun _ x => x.elim)
theorem RowsQ.blk' (h : RowsQ z S w b iv arity LL) : ∃ ov, Blk w b [ov, iv, .int .i64 arity] 135 := by
 rcases h with h | ⟨_, e, _, hB, _⟩
 ·exact ⟨_, h.blk⟩
 ·exact ⟨_, by rw [e]; exact hB⟩
theorem RowsQ.lt (h : RowsQ z S w b iv arity LL) : b < w.heap.size := by obtain ⟨ov, h⟩ := h.blk'; exact h.lt
theorem RowsQ.ar (h : RowsQ z S w b iv arity LL) : w.cell? ⟨b, 2, none⟩ = some (.int .i64 arity) := by obtain ⟨ov, h⟩ := h.blk'; rw [h.cell']; rfl
theorem RowsQ.inS (h : RowsQ z S w b iv arity LL) : ∀ k, S k -> k < w.heap.size := by
 rcases h with h | ⟨_, _, _, _, h, _⟩
 ·exact h.inS
 ·exact h
theorem RowsQ.notS (h : RowsQ z S w b iv arity LL) : ∀ k, dW b iv k -> ¬ S k := by
 rcases h with h | ⟨_, rfl, _, _, _, h⟩
 ·exact h.notS
 ·intro k hk hs
  rcases hk with rfl | hk
  ·exact h hs
  ·cases hk
theorem iF (h : RowsQ z S w b iv arity LL) :
 Calls Tryz.prog 99 #[.pointer (some ⟨b, 0, none⟩)] w (RetF (FQ z b) w fun w' v => v = .pointer (some ⟨b, 0, none⟩) /\ RowsAt S w' b iv arity LL) := by
 rcases h with h | ⟨hz, rfl, rfl, hB, h1, h2⟩
 ·refine (fX h).mono ?_
  rintro e w' ⟨rfl, rfl⟩
  exact RetF.mk (Kp.refl _) ⟨rfl, h⟩
 ·have c0 : w.cell? ⟨b, 0, none⟩ = some .nilFunc := by rw [hB.cell']; rfl
  have f0 := hB.free 0
  have hq : ∀ w : World, (binOp .eql 131 .nilFunc .nilFunc).run Tryz.prog w = .ok (.bool true) w := fun _ => by kernel_rfl
  have HB := qH (And.intro hB (And.intro h1 h2))
  have HZ := qH hz
  clear hB h1 h2 hz
  go_enter Tryz.func99, Tryz.ntmps99
  go_wp2
  go_ret
  obtain ⟨hB, h1, h2⟩ := HB.out
  have hset := hB.set 0 (.func (Fn.func 124) #[] #[])
  have hk : Kp (FQ z b) w (w.setCell ⟨b, 0, none⟩ (.func (Fn.func 124) #[] #[])) := Kp.setCell (Kp.refl w) (fun _ => ⟨HZ.out, rfl⟩) _
  obtain ⟨con, hc⟩ := vD (w.setCell ⟨b, 0, none⟩ (.func (Fn.func 124) #[] #[]))
  refine RetF.mk hk ⟨rfl, con, [], hc, ⟨hset, Row.nil _ _ _ _, by simp [Value.ownBlock], fun k hk' => Nat.lt_of_lt_of_le (h1 k hk') hk.size, fun k ho hs => ?_, jS hc, by simp, by simp⟩, rfl⟩
  rcases ho with rfl | ho
  ·exact h2 hs
  ·cases ho
theorem iG (h : RowsQ z S w b iv arity LL) : Calls Tryz.prog 105 #[.pointer (some ⟨b, 0, none⟩)] w (RetF (FQ z b) w fun w' v => v = .int .i64 (LL.length : Nat) /\ RowsAt S w' b iv arity LL) := by
 have HS := qH (iF h); clear h
 go_enter Tryz.func105, Tryz.ntmps105
 go_wp2_with fail
 refine HS.out.mono ?_
 rintro e w1 ⟨v, rfl, hk, rfl, h1⟩
 have HK := qH (And.intro hk h1)
 obtain ⟨con, zs, hc, hs, hl⟩ := h1
 have HS1 := qH hs
 have HL := qH (show zs.length = LL.length by rw [<- hl]; simp)
 clear hk hs hc hl
 go_wp2_with fail
 refine (oI HS1.out).mono ?_
 rintro e w' ⟨rfl, rfl⟩
 go_wp2
 go_ret
 exact RetF.mk HK.out.1 ⟨by rw [<- HL.out]; rfl, HK.out.2⟩
theorem RowIn.kp {F : Nat -> Prop} {x : fR} {ss : List ByteArray} (h : RowIn w x ss) (hk : Kp F w w') (ho : jB x F) : RowIn w' x ss :=
 ⟨⟨h.1.1, fun i u hu => by
  have hne : x.2.1 ≠ 0 := by
   have h1 := (List.getElem?_eq_some_iff.1 hu).1
   simp only [strs, List.length_map] at h1
   rw [h.1.1]; omega
  obtain ⟨b, o, e, c⟩ := h.1.2 i u hu
  exact ⟨b, o, e, hk.cell c (ho _ e hne)⟩⟩, h.2.1, fun a e hne => Nat.lt_of_lt_of_le (h.2.2 a e hne) hk.size⟩
theorem aFw (h : RowsQ z S w b iv arity LL) (hst : Strict aC LL) {x : fR} {ss : List ByteArray} (hx : RowIn w x ss) (ho : jB x (dW b iv)) :
 Calls Tryz.prog 87 #[.pointer (some ⟨b, 0, none⟩), .slice x.1 x.2.1 x.2.2] w (RetF (FQ z b) w fun w' v => v = .bool (bH aC LL ss) /\ RowsAt S w' b iv arity LL) := by
 have HS := qH (iF h); clear h
 have HX := qH (And.intro hst (And.intro hx ho)); clear hst hx ho
 go_enter Tryz.func87, Tryz.ntmps87
 go_wp2_with fail
 refine HS.out.mono ?_
 rintro e w1 ⟨v, rfl, hk, rfl, h1⟩
 have hx1 := HX.out.2.1.kp hk (fun a e hne hf => HX.out.2.2 a e hne (.inl hf.2))
 obtain ⟨con, zs, hc, hs, hl, hd, ex, hz, e1, e2⟩ := h1.open HX.out.1 hx1 HX.out.2.2
 have HF := qH (oJ (lL con) x hd hz hs)
 rw [e1] at HF
 have HK := qH (And.intro hk h1)
 clear hc hs hl hd ex hz e1 e2 hk h1 hx1
 go_wp2_with fail
 refine HF.out.mono ?_
 rintro e w2 ⟨v, rfl, hk2, rfl⟩
 have HK2 := qH hk2; clear hk2
 go_wp2
 go_ret
 exact RetF.mk (HK.out.1.ext HK2.out) ⟨rfl, HK.out.2.ext HK2.out⟩
theorem aAk (h : RowsQ z S w b iv arity LL) : Calls Tryz.prog 51 #[.pointer (some ⟨b, 0, none⟩)] w (Ret (.int .i64 arity) w) := by
 have c2 := h.ar
 clear h
 go_enter Tryz.func51, Tryz.ntmps51
 go_wp2
 go_ret
 exact Ret.mk rfl
end
end Go.Proofs.YtinnmeiphbdogaaGreat
/- tuple.Rows whose order may still be nil: Add. -/
namespace Go.Proofs.YtinnmeiphbdogaaGreat
open Go.RowKit
section
variable {z : Prop} {S : Nat -> Prop} {w w' : World} {b : Nat} {iv : Value} {arity : Nat} {LL : List (List ByteArray)}
def RowsAddedQ (z : Prop) (S : Nat -> Prop) (w : World) (b : Nat) (iv : Value) (arity : Nat) (LL : List (List ByteArray)) (ss : List ByteArray) (w' : World) (v : Value) : Prop :=
 v = .tuple #[.bool (aV arity LL ss).1, .int .i64 ((aV arity LL ss).2 : Nat)] /\
  ∃ S' iv', (∀ k, S k -> S' k) /\ (∀ k, S' k -> S k \/ w.heap.size ≤ k) /\ RowsQ z S' w' b iv' arity (bL arity LL ss) /\ ∀ k, iv'.ownBlock = some k -> iv.ownBlock = some k \/ w.heap.size ≤ k
theorem RowsAddedQ.same (h : RowsQ z S w b iv arity LL) {ss : List ByteArray} {w1 : World} (hk : Ext w w1) {v : Value} (hv : v = .tuple #[.bool (aV arity LL ss).1, .int .i64 ((aV arity LL ss).2 : Nat)]) (h0 : bL arity LL ss = LL) : RowsAddedQ z S w b iv arity LL ss w1 v :=
 ⟨hv, S, iv, fun _ h => h, fun _ h => .inl h, by rw [h0]; exact h.ext hk, fun _ h => .inl h⟩
set_option maxRecDepth 100000 in
set_option maxHeartbeats 2000000 in
theorem aFy (h : RowsQ z S w b iv arity LL) (hst : Strict aC LL) {ao : Option Addr} {n cap : Nat} {ss : List ByteArray} (hx : RowIn w (ao, n, cap) ss) (ho : jB (ao, n, cap) (dW b iv)) (hLL : LL.length + 1 ≤ 1048576 * 1048576) :
 Calls Tryz.prog 88 #[.pointer (some ⟨b, 0, none⟩), .slice ao n cap] w (RetF (dW b iv) w (RowsAddedQ z S w b iv arity LL ss)) := by
 rcases h with h | h0
 ·refine (mJ h hst hx ho hLL).mono ?_
  rintro e w' ⟨v, rfl, hk, e1, S', iv', h1, h2, h3, h4⟩
  exact RetF.mk hk ⟨e1, S', iv', h1, h2, .inl h3, h4⟩
 have eLL : LL = [] := h0.2.2.1
 have h : RowsQ z S w b iv arity LL := .inr h0
 clear h0
 subst eLL
 have hn : n = ss.length := hx.1.1
 have hcs : CellsAt w ao (strs ss) := hx.1.2
 have hl : ss.length ≤ 8796093021952 := hx.2.1
 have c2 : w.cell? ⟨b, 2, none⟩ = some (.int .i64 arity) := h.ar
 have HT := qH (qR ss ao n cap w hn hcs (by omega))
 have HLN := qH (fun w1 (hw : Ext w w1) => iG (h.ext hw))
 have hob : jB (ao, n, cap) (FQ z b) := fun a e hne hf => ho a e hne (.inl hf.2)
 have HCL := qH (fun w1 (hw : Kp (FQ z b) w w1) => hU (strs ss) ao cap w1 n (by simp [strs, hn]) (RowIn.kp hx hw hob).1.2 (pH ss) (by omega))
 have HP := qH (fun w0 w1 ao1 cap1 (h0 : RowsAt S w0 b iv arity []) (hk : Ext w0 w1) hr => aEw (w := w0) (w1 := w1) (ao := ao1) (n := n) (cap := cap1) h0 hst hk hr hn (by omega) hLL)
 have H := qH h
 have HN := qH hn
 clear h hst hx ho hcs hn hLL hob
 by_cases h1 : n = arity
 ·have q1 : ((n : Int) != (arity : Int)) = false := by simp [h1]
  have H1 := qH h1; clear h1
  cases ht : bO ss with
  | false =>
   have HTX := qH ht
   rw [ht] at HT; clear ht
   go_enter Tryz.func88, Tryz.ntmps88
   go_wp2_with fail
   refine HT.out.mono ?_
   rintro e w1 ⟨v, rfl, hk, rfl⟩
   have HK := qH hk; clear hk
   go_wp2
   go_ret2
   have e0 : aV arity [] ss = (false, 31) := by unfold aV; rw [if_neg (by rw [<- HN.out, H1.out]; simp), if_pos HTX.out]
   exact RetF.mk (Ext.kp HK.out) (RowsAddedQ.same H.out HK.out (by rw [e0]; rfl) (by unfold bL; rw [e0]; rfl))
  | true =>
   have HTX := qH ht
   rw [ht] at HT; clear ht
   go_enter Tryz.func88, Tryz.ntmps88
   go_wp2_with fail
   refine HT.out.mono ?_
   rintro e w0 ⟨v, rfl, hk0, rfl⟩
   have HK0 := qH hk0; clear hk0
   go_wp2_with fail
   refine (HLN.out w0 HK0.out).mono ?_
   rintro e w1 ⟨v, rfl, hk1, rfl, hr1⟩
   have HK1 := qH (And.intro hk1 hr1); clear hk1 hr1
   go_wp2_with fail
   refine (fX HK1.out.2).mono ?_
   rintro e w' ⟨rfl, rfl⟩
   go_wp2_with fail
   refine (HCL.out w1 ((Ext.kp HK0.out).trans HK1.out.1)).mono ?_
   rintro e w2 ⟨v, rfl, hk2, hr2⟩
   obtain ⟨ao2, cap2, ev, _, _⟩ := hr2.shape
   subst ev
   go_wp2_with fail
   refine (HP.out w1 w2 ao2 cap2 HK1.out.2 hk2 hr2).mono ?_
   rintro e w3 ⟨v, rfl, hk3, rfl, iv', hrows, hiv⟩
   have HR := qH (And.intro hk3 (And.intro hrows hiv))
   have HB := qH (And.intro hk2 hr2.block)
   clear hk3 hrows hiv hr2 hk2
   go_wp2
   go_ret2
   have e0 : aV arity [] ss = (!bH aC [] ss, 0) := by unfold aV; rw [if_neg (by rw [<- HN.out, H1.out]; simp), if_neg (by rw [HTX.out]; simp), if_neg (fun h => by simp at h)]
   have z0 := HK0.out.size
   have z1 := HK1.out.1.size
   have z2 := HB.out.1.size
   refine RetF.mk ((((Ext.kp HK0.out).trans (HK1.out.1.mono fun k _ h => FQ.owns k h)).trans (Ext.kp HB.out.1)).trans HR.out.1) ⟨by rw [e0]; rfl, kV S (ao2, n, cap2), iv', fun k h => .inl h, fun k h => ?_, .inl (by unfold bL; rw [e0]; exact HR.out.2.1), fun k h => (HR.out.2.2 k h).imp id (fun h => by omega)⟩
   rcases h with h | ⟨a, e, _, rfl⟩
   ·exact .inl h
   ·have e' : ao2 = some a := e
    subst e'
    have := HB.out.2 a.block rfl
    exact .inr (by unfold New at this; omega)
 ·have q1 : ((n : Int) != (arity : Int)) = true := by rw [bne_iff_ne]; omega
  have HN1 := qH (show ss.length ≠ arity by have := HN.out; omega)
  clear h1
  go_enter Tryz.func88, Tryz.ntmps88
  go_wp2
  go_ret2
  have e0 : aV arity [] ss = (false, 30) := by unfold aV; rw [if_pos HN1.out]
  exact RetF.mk (Kp.refl _) (RowsAddedQ.same H.out (Kp.refl _) (by rw [e0]; rfl) (by unfold bL; rw [e0]; rfl))
end
end Go.Proofs.YtinnmeiphbdogaaGreat
/- tuple.Rows whose order may still be nil: At. -/
namespace Go.Proofs.YtinnmeiphbdogaaGreat
open Go.RowKit
section
variable {z : Prop} {S : Nat -> Prop} {w w' : World} {b : Nat} {iv : Value} {arity : Nat} {LL : List (List ByteArray)}
end
end Go.Proofs.YtinnmeiphbdogaaGreat
/- Lists of rows in memory: such as can be read; such as are one's own. -/
namespace Go.Proofs.YtinnmeiphbdogaaGreat
open Go.RowKit
abbrev fJ := fR × List ByteArray
def eG (ps : List fJ) : List Value := ps.map fun p => .slice p.1.1 p.1.2.1 p.1.2.2
theorem wM (ps : List fJ) (k : Nat) (p : fJ) (h : ps[k]? = some p) : (eG ps)[k]? = some (.slice p.1.1 p.1.2.1 p.1.2.2) := by simp [eG, h]
theorem yM (ps qs : List fJ) : eG (ps ++ qs) = eG ps ++ eG qs := by simp [eG]
def RowsIn (S : Nat -> Prop) (w : World) (ao : Option Addr) (LL : List (List ByteArray)) : Prop :=
 ∃ ps : List fJ, LL = ps.map Prod.snd /\ CellsAt w ao (eG ps) /\ (∀ a, ao = some a -> S a.block) /\
  ∀ p ∈ ps, ReadsAs w p.1 p.2 /\ p.2.length ≤ 8796093021952 /\ ∀ a, p.1.1 = some a -> S a.block
def OwnRows (lo : Nat) (w : World) (v : Value) (LL : List (List ByteArray)) : Prop :=
 ∃ ps : List fJ, LL = ps.map Prod.snd /\ Row w 34 1 v ps.length (eG ps) (fun g => lo ≤ g) /\
  (∀ p ∈ ps, Row w 9 1 (.slice p.1.1 p.1.2.1 p.1.2.2) p.2.length (strs p.2) (fun g => lo ≤ g) /\ p.2.length ≤ 8796093021952) /\
  ps.Pairwise fun p q => ∀ g, (Value.slice p.1.1 p.1.2.1 p.1.2.2).ownBlock = some g -> (Value.slice q.1.1 q.1.2.1 q.1.2.2).ownBlock ≠ some g
section
variable {S S' : Nat -> Prop} {w w' : World} {ao : Option Addr} {LL : List (List ByteArray)} {v : Value} {lo : Nat}
theorem RowsIn.kp {F : Nat -> Prop} (h : RowsIn S w ao LL) (hk : Kp F w w') (hF : ∀ k, F k -> ¬ S k) : RowsIn S w' ao LL := by
 obtain ⟨ps, h1, h2, h3, h4⟩ := h
 exact ⟨ps, h1, h2.kp hk (fun a e hf => hF _ hf (h3 a e)), h3, fun p hp => ⟨⟨(h4 p hp).1.1, (h4 p hp).1.2.kp hk (fun a e hf => hF _ hf ((h4 p hp).2.2 a e))⟩, (h4 p hp).2⟩⟩
theorem RowsIn.ext (h : RowsIn S w ao LL) (hk : Ext w w') : RowsIn S w' ao LL := h.kp hk fun _ x => x.elim
theorem RowsIn.get (h : RowsIn S w ao LL) {k : Nat} {ss : List ByteArray} (hk : LL[k]? = some ss) :
 ∃ g o x cap, ao = some ⟨g, o, none⟩ /\ w.cell? ⟨g, o + k, none⟩ = some (.slice x ss.length cap) /\ CellsAt w x (strs ss) /\ ss.length ≤ 8796093021952 /\ ∀ a, x = some a -> S a.block := by
 obtain ⟨ps, rfl, h2, h3, h4⟩ := h
 rw [List.getElem?_map] at hk
 cases hp : ps[k]? with
 | none => rw [hp] at hk; cases hk
 | some p =>
  rw [hp] at hk; cases hk
  obtain ⟨g, o, e, c⟩ := h2 k _ (wM ps k p hp)
  obtain ⟨⟨h5, h6⟩, h7, h8⟩ := h4 p (List.mem_of_getElem? hp)
  exact ⟨g, o, p.1.1, p.1.2.2, e, by rw [c, h5], h6, h7, h8⟩
theorem Row.has {e : TypeId} {k : Nat} {n : Nat} {xs : List Value} {M : Nat -> Prop} (h : Row w e k v n xs M) {g : Nat} (hg : v.ownBlock = some g) : ∃ cs, Blk w g cs e /\ n * k ≤ cs.length /\ M g := by
 obtain ⟨h1, ⟨rfl, rfl⟩ | ⟨g', cap, rest, rfl, b, c, d, e, f⟩⟩ := h
 ·cases hg
 ·cases hg
  exact ⟨_, c, by simp at d ⊢; omega, b⟩
theorem Row.sort_ne {e e' : TypeId} {k k' : Nat} {n n' : Nat} {xs xs' : List Value} {M M' : Nat -> Prop} {v' : Value} (h : Row w e k v n xs M) (h' : Row w e' k' v' n' xs' M') (he : e ≠ e') {g : Nat} (hg : v.ownBlock = some g) : v'.ownBlock ≠ some g := by
 intro hg'
 obtain ⟨cs, hb, _⟩ := h.has hg
 obtain ⟨cs', hb', _⟩ := h'.has hg'
 unfold Blk at hb hb'
 rw [hb] at hb'
 simp only [Option.some.injEq, Obj.cells.injEq] at hb'
 exact he hb'.2.1
theorem OwnRows.nil (lo : Nat) (w : World) : OwnRows lo w (.slice none 0 0) [] := ⟨[], rfl, Row.nil _ _ _ _, by simp, List.Pairwise.nil⟩
theorem OwnRows.kp {F : Nat -> Prop} (h : OwnRows lo w v LL) (hk : Kp F w w') (hF : ∀ g, lo ≤ g -> ¬ F g) : OwnRows lo w' v LL := by
 obtain ⟨ps, h1, h2, h3, h4⟩ := h
 exact ⟨ps, h1, h2.kp hk hF, fun p hp => ⟨(h3 p hp).1.kp hk hF, (h3 p hp).2⟩, h4⟩
theorem OwnRows.ext (h : OwnRows lo w v LL) (hk : Ext w w') : OwnRows lo w' v LL := h.kp hk fun _ _ => id
theorem OwnRows.mono {lo' : Nat} (h : OwnRows lo w v LL) (hl : lo' ≤ lo) : OwnRows lo' w v LL := by
 obtain ⟨ps, h1, h2, h3, h4⟩ := h
 exact ⟨ps, h1, Row.mono h2 fun g hg => Nat.le_trans hl hg, fun p hp => ⟨Row.mono (h3 p hp).1 fun g hg => Nat.le_trans hl hg, (h3 p hp).2⟩, h4⟩
theorem Row.readsAs {e : TypeId} {x : fR} {ss : List ByteArray} {M : Nat -> Prop} (h : Row w e 1 (.slice x.1 x.2.1 x.2.2) ss.length (strs ss) M) : ReadsAs w x ss /\ ∀ a, x.1 = some a -> M a.block /\ a.block < w.heap.size := by
 have hb := h.block
 have hl := h.lt
 obtain ⟨ao, cap, e, hc, _⟩ := h.shape
 obtain ⟨x1, x2, x3⟩ := x
 simp only [Value.slice.injEq] at e
 obtain ⟨rfl, e2, rfl⟩ := e
 refine ⟨⟨e2, hc⟩, fun a ea => ?_⟩
 simp only at ea
 subst ea
 exact ⟨hb a.block rfl, hl a.block rfl⟩
theorem OwnRows.shape (h : OwnRows lo w v LL) : ∃ ao cap, v = .slice ao LL.length cap /\ RowsIn (fun g => lo ≤ g /\ g < w.heap.size) w ao LL := by
 obtain ⟨ps, rfl, h2, h3, h4⟩ := h
 have hb := h2.block
 have hl := h2.lt
 obtain ⟨ao, cap, rfl, hc, _⟩ := h2.shape
 refine ⟨ao, cap, by simp, ps, rfl, hc, fun a e => ?_, fun p hp => ?_⟩
 ·subst e; exact ⟨hb a.block rfl, hl a.block rfl⟩
 ·obtain ⟨h5, h6⟩ := h3 p hp
  exact ⟨h5.readsAs.1, h6, fun a e => h5.readsAs.2 a e⟩
theorem OwnRows.push {ps : List fJ} (h2 : Row w 34 1 v ps.length (eG ps) (fun g => lo ≤ g))
 (h3 : ∀ p ∈ ps, Row w 9 1 (.slice p.1.1 p.1.2.1 p.1.2.2) p.2.length (strs p.2) (fun g => lo ≤ g) /\ p.2.length ≤ 8796093021952)
 (h4 : ps.Pairwise fun p q => ∀ g, (Value.slice p.1.1 p.1.2.1 p.1.2.2).ownBlock = some g -> (Value.slice q.1.1 q.1.2.1 q.1.2.2).ownBlock ≠ some g)
 {B : Nat} (hB : ∀ p ∈ ps, ∀ g, (Value.slice p.1.1 p.1.2.1 p.1.2.2).ownBlock = some g -> g < B) (hlo : lo ≤ B) {x : fR} {ss : List ByteArray} (hx : Row w 9 1 (.slice x.1 x.2.1 x.2.2) ss.length (strs ss) (fun g => B ≤ g)) (hss : ss.length ≤ 8796093021952)
 {v' : Value} (hr : Row w' 34 1 v' (ps.length + 1) (eG ps ++ [.slice x.1 x.2.1 x.2.2]) (fun g => lo ≤ g)) (hk : Kp (fun g => v.ownBlock = some g) w w') : OwnRows lo w' v' (ps.map Prod.snd ++ [ss]) := by
 have hne : 9 ≠ 34 := by decide
 refine ⟨ps ++ [(x, ss)], by simp, ?_, fun p hp => ?_, ?_⟩
 ·rw [yM]; simpa [eG] using hr
 ·rcases List.mem_append.1 hp with hp | hp
  ·exact ⟨(h3 p hp).1.kp' hk fun g hg _ hf => (h3 p hp).1.sort_ne h2 hne hg hf, (h3 p hp).2⟩
  ·obtain rfl := List.mem_singleton.1 hp
   exact ⟨Row.mono (hx.kp' hk fun g hg _ hf => hx.sort_ne h2 hne hg hf) fun g hg => Nat.le_trans hlo hg, hss⟩
 ·refine List.pairwise_append.2 ⟨h4, List.pairwise_singleton _ _, fun p hp q hq g hg hg' => ?_⟩
  obtain rfl := List.mem_singleton.1 hq
  have h1 := hB p hp g hg
  have h2 : B ≤ g := hx.block g hg'
  omega
end
end Go.Proofs.YtinnmeiphbdogaaGreat
