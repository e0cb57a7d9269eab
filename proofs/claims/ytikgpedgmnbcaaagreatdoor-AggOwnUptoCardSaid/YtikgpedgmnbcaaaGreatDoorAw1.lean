/- Texts joined for a claim (Th, Base, NumPlain, Shelf, NumW, NumN, Same, AggKey, Marks, Arr, Keep, SetLaw, Arr2, Sl, Sl2, Cmp, SetLaw2, Lend, LawsPlain, Flo, CostPlain, Map, AggTot, FloCmp, CostPlain2, Read, Bulk, Shape, Arg). -/
import Derived.Deep.RegionHeld3
import Derived.Lib.Hide
import Derived.WalkKit
import Derived.WalkLawsBesides
import Derived.WalkSpells
import Derived.Lib.ParseIntBCases
import Derived.Lib.ItoaNum
import Derived.Shelf.Spec.BitsCarry
import Derived.Ground.Names7Prog
import Derived.Shelf.Strings.Builder1
import Derived.Shelf.Small.Bits
import Derived.Shelf.Small.Strs
import Derived.Shelf.Strconv.Itoa0
import Derived.Shelf.Strconv.Itoa1
import Derived.Shelf.LaysM
import Derived.Shelf.Strconv.Itoa2
import Derived.Shelf.Strconv.Itoa3
import Derived.Shelf.Strconv.Itoa4
import Derived.Shelf.Strconv.ParseIntEmpty
import Derived.Shelf.Strconv.Clone
import Derived.Shelf.Strconv.SyntaxError
import Derived.Shelf.LaysC
import Derived.Shelf.Strconv.ToError
import Derived.Shelf.Strconv.Lower
import Derived.Shelf.Strconv.ParseUint10
import Derived.Shelf.Strconv.ParseUint10Empty
import Derived.Shelf.Strconv.ParseUint10Any
import Derived.Shelf.Strconv.ParseInt10
import Derived.Shelf.Strconv.RangeError
import Derived.Shelf.Strconv.ToErrorRange
import Derived.Shelf.Strconv.ParseUintEmpty
import Derived.Shelf.Strconv.ParseUint10b64
import Derived.Shelf.Strconv.ParseUint10b32
import Derived.Shelf.Strconv.ParseUint10b16
import Derived.Shelf.Strconv.ParseUint10b8
import Derived.Shelf.Strconv.ParseUint10At
import Derived.Shelf.Strconv.ParseInt10At64
import Derived.Shelf.Strconv.ParseInt10At32
import Derived.Shelf.Strconv.ParseInt10At16
import Derived.Shelf.Strconv.ParseInt10At8
import Derived.Shelf.Strconv.ParseInt10All
import Derived.Shelf.Strconv.ParseIntPublic10
import Derived.Shelf.Strconv.ErrVarParseInt
import Derived.Shelf.Bits.Mul64
import Derived.Ground.Names2Prog
import Derived.Shelf.Slices.ReverseS
import Derived.Shelf.Slices.Clone
import Derived.Shelf.Slices.Cells
import Derived.Ground.SlgnProg
import Derived.Shelf.SlicesE.Clone
import Derived.Ground.SlsfProg
import Derived.Shelf.SlSortCmp.Insertion
import Derived.Shelf.SlSortCmp.SiftDown1
import Derived.Shelf.SlSortCmp.HeapSort1
import Derived.Shelf.SlSortCmp.Insertion1
import Derived.Shelf.SlSortCmp.Median1
import Derived.Shelf.SlSortCmp.Pivot1
import Derived.Shelf.SlSortCmp.ReverseRange1
import Derived.Shelf.SlSortCmp.PartialInsertion1
import Derived.Shelf.SlSortCmp.PartitionEqual1
import Derived.Shelf.SlSortCmp.Partition1
import Derived.Shelf.SlSortCmp.Pdq1
import Derived.Shelf.SlSortCmp.Whole1
import Derived.Shelf.SlSortCmp.NoneTotal
import Derived.Test.YtikgpedgmnbcaaaGreatDoorProg
import Derived.Laws.IdiomStrings
import Derived.Lib.ConvBytes
import Derived.IntWalk
import Derived.Lib.ItoaLen
import Derived.Lib.AppendStr
import Derived.RangeFuncNested
import Derived.RangeFuncBound
import Derived.RangeFuncCalls
import Derived.RangeFuncLeaves
import Derived.Shelf.Abstract
import Derived.Shelf.RegionOpen
import Derived.OwnWalkIn
import Derived.TacticsInMore
import Derived.LoopNIn
import Derived.LoopIn
import Derived.Lib.SliceRun
import Derived.Lib.Overlaps
import Derived.Lib.AppendZerosOnto
import Derived.Laws.Externs
import Derived.Laws.CopyOwn
import Derived.StillTailTactics
import Derived.Deep.QuietTactic
import Derived.BigQuiet
import Derived.Laws.FloatArith
import Derived.WideKeyRuns
import Derived.MapKept
import Derived.ProofKit
import Derived.OpenShut
import Derived.ShutString
import Derived.ChangeOld
import Derived.Carry
import Derived.SliceStrings
import Derived.SizedLaws
import Derived.JoinedCond
import Derived.Deep.Slices
import Derived.Test.YtikgpedgmnbcaaaGreatDoorRows
import Derived.ChangeArms
set_option linter.unusedVariables false
set_option linter.unusedSimpArgs false
set_option maxRecDepth 100000
namespace Go.Proofs.YtikgpedgmnbcaaaGreatDoor
section
theorem sI {α : Type _} (a : α) (l : List α) (i : Nat) : l.toArray.setIfInBounds i a = (l.set i a).toArray := List.setIfInBounds_toArray ..
theorem sZ {α : Type _} {b a : α} {zs : List α} : (a :: zs).set 0 b = b :: zs := rfl
theorem sS {α : Type _} {b a : α} {n : Nat} {zs : List α} : (a :: zs).set (n + 1) b = a :: zs.set n b := rfl
theorem qH {p : Prop} (h : p) : RowKit.Hid p := h
theorem qG {α : Type _} {l : List α} {i : Nat} (h : i < l.length) : l[i]? = some l[i] := List.getElem?_eq_getElem h
end
section
open Go.RowKit
def Ret (v : Value) (w : World) (e : Ending) (w' : World) : Prop := e = .returned v /\ w = w'
theorem Ret.mk {v v' : Value} {w : World} (h : v = v') : Ret v w (.returned v') w := ⟨by rw [h], rfl⟩
structure Kp (F : Nat -> Prop) (w w' : World) : Prop where
 os : w'.os = w.os
 tape : w'.tape = w.tape
 output : w'.output = w.output
 size : w.heap.size ≤ w'.heap.size
 block : ∀ k, k < w.heap.size -> ¬ F k -> w'.heap[k]? = w.heap[k]?
abbrev Ext (w w' : World) : Prop := Kp (fun _ => False) w w'
abbrev New (w : World) : Nat -> Prop := fun g => w.heap.size ≤ g
theorem Kp.refl {F : Nat -> Prop} (w : World) : Kp F w w := ⟨rfl, rfl, rfl, Nat.le_refl _, fun _ _ _ => rfl⟩
theorem Kp.trans' {F G : Nat -> Prop} {a b c : World} (h : Kp F a b) (k : Kp G b c) (hg : ∀ i, i < a.heap.size -> G i -> F i) : Kp F a c :=
 ⟨k.os.trans h.os, k.tape.trans h.tape, k.output.trans h.output, Nat.le_trans h.size k.size, fun i hi hf =>
  (k.block i (Nat.lt_of_lt_of_le hi h.size) (fun g => hf (hg i hi g))).trans (h.block i hi hf)⟩
theorem Kp.trans {F : Nat -> Prop} {a b c : World} (h : Kp F a b) (k : Kp F b c) : Kp F a c := h.trans' k fun _ _ g => g
theorem Kp.mono {F G : Nat -> Prop} {a b : World} (h : Kp F a b) (hg : ∀ i, i < a.heap.size -> F i -> G i) : Kp G a b :=
 ⟨h.os, h.tape, h.output, h.size, fun i hi hf => h.block i hi fun x => hf (hg i hi x)⟩
theorem Kp.ext {F : Nat -> Prop} {a b c : World} (h : Kp F a b) (k : Ext b c) : Kp F a c := h.trans' k fun _ _ g => g.elim
theorem Ext.kp {F : Nat -> Prop} {a b : World} (h : Ext a b) : Kp F a b := h.mono fun _ _ x => x.elim
theorem Kp.alloc {F : Nat -> Prop} {a b : World} (h : Kp F a b) (o : Obj) : Kp F a (b.alloc o) :=
 h.ext ⟨rfl, rfl, rfl, by simp, fun k hk _ => Below.heap_alloc _ _ _ hk⟩
theorem Kp.drew {F : Nat -> Prop} {a b : World} (h : Kp F a b) : Kp F a b.drew := ⟨h.os, h.tape, h.output, h.size, h.block⟩
theorem Kp.drewN {F : Nat -> Prop} {a b : World} (h : Kp F a b) (n : Nat) : Kp F a (b.drewN n) := ⟨h.os, h.tape, h.output, h.size, h.block⟩
theorem Kp.setCell {F : Nat -> Prop} {a b : World} (h : Kp F a b) {p : Addr} (hp : p.block < a.heap.size -> F p.block) (u : Value) : Kp F a (b.setCell p u) := by
 refine h.trans' (G := fun k => k = p.block) ⟨rfl, rfl, rfl, by simp [World.setCell], fun k hk hf => Below.heap_setCell _ _ _ _ hf⟩ ?_
 rintro i hi rfl
 exact hp hi
theorem Kp.below {w w' : World} (h : Ext w w') : Below w.heap.size w w' := ⟨h.os, h.tape, h.output, h.size, fun k hk => h.block k hk id⟩
theorem Kp.of_below {w w' : World} (h : Below w.heap.size w w') : Ext w w' := ⟨h.os, h.tape, h.output, h.size, fun k hk _ => h.block k hk⟩
theorem Kp.grown {F : Nat -> Prop} {a b c : World} {row : Option Nat} (h : Kp F a b) (hg : b.grownBy c row) (hr : ∀ k, row = some k -> k < a.heap.size -> F k) : Kp F a c :=
 h.trans' (G := fun k => row = some k) ⟨hg.os, hg.tape, hg.output, hg.size, fun k hk hf => hg.block k hk fun e => hf e.symm⟩ fun i hi e => hr i e hi
theorem Kp.cell {F : Nat -> Prop} {w w' : World} (h : Kp F w w') {b o : Nat} {v : Value} (hc : w.cell? ⟨b, o, none⟩ = some v) (hf : ¬ F b) : w'.cell? ⟨b, o, none⟩ = some v := by
 have hb : b < w.heap.size := World.block_lt_of_cell? _ _ hc
 rw [World.cell?_of_block (w := w) (h.block b hb hf)]; exact hc
def Blk (w : World) (g : Nat) (cs : List Value) (e : TypeId) : Prop := w.heap[g]? = some (.cells cs.toArray e (0, 0))
section
variable {w w' : World} {g : Nat} {cs : List Value} {e : TypeId}
theorem Blk.lt (h : Blk w g cs e) : g < w.heap.size := lt_of_block h
theorem Blk.cell (h : Blk w g cs e) (i : Nat) (hi : i < cs.length) : w.cell? ⟨g, i, none⟩ = some cs[i] := by
 unfold Blk at h; simp [World.cell?, h, hi]
theorem Blk.cell' (h : Blk w g cs e) (i : Nat) : w.cell? ⟨g, i, none⟩ = cs[i]? := by
 unfold Blk at h; simp [World.cell?, h]
theorem Blk.c0 {a0 : Value} {l : List Value} (h : Blk w g (a0 :: l) e) : w.cell? ⟨g, 0, none⟩ = some a0 := by rw [h.cell']; rfl
theorem Blk.c1 {a0 a1 : Value} {l : List Value} (h : Blk w g (a0 :: a1 :: l) e) : w.cell? ⟨g, 1, none⟩ = some a1 := by rw [h.cell']; rfl
theorem Blk.c2 {a0 a1 a2 : Value} {l : List Value} (h : Blk w g (a0 :: a1 :: a2 :: l) e) : w.cell? ⟨g, 2, none⟩ = some a2 := by rw [h.cell']; rfl
theorem Blk.c3 {a0 a1 a2 a3 : Value} {l : List Value} (h : Blk w g (a0 :: a1 :: a2 :: a3 :: l) e) : w.cell? ⟨g, 3, none⟩ = some a3 := by rw [h.cell']; rfl
theorem Blk.c4 {a0 a1 a2 a3 a4 : Value} {l : List Value} (h : Blk w g (a0 :: a1 :: a2 :: a3 :: a4 :: l) e) : w.cell? ⟨g, 4, none⟩ = some a4 := by rw [h.cell']; rfl
theorem Blk.c5 {a0 a1 a2 a3 a4 a5 : Value} {l : List Value} (h : Blk w g (a0 :: a1 :: a2 :: a3 :: a4 :: a5 :: l) e) : w.cell? ⟨g, 5, none⟩ = some a5 := by rw [h.cell']; rfl
theorem Blk.c6 {a0 a1 a2 a3 a4 a5 a6 : Value} {l : List Value} (h : Blk w g (a0 :: a1 :: a2 :: a3 :: a4 :: a5 :: a6 :: l) e) : w.cell? ⟨g, 6, none⟩ = some a6 := by rw [h.cell']; rfl
theorem Blk.c7 {a0 a1 a2 a3 a4 a5 a6 a7 : Value} {l : List Value} (h : Blk w g (a0 :: a1 :: a2 :: a3 :: a4 :: a5 :: a6 :: a7 :: l) e) : w.cell? ⟨g, 7, none⟩ = some a7 := by rw [h.cell']; rfl
theorem Blk.c8 {a0 a1 a2 a3 a4 a5 a6 a7 a8 : Value} {l : List Value} (h : Blk w g (a0 :: a1 :: a2 :: a3 :: a4 :: a5 :: a6 :: a7 :: a8 :: l) e) : w.cell? ⟨g, 8, none⟩ = some a8 := by rw [h.cell']; rfl
theorem kSa {w : World} {g i : Nat} {v : Value} : Kp (fun k => k = g) w (w.setCell ⟨g, i, none⟩ v) := Kp.setCell (F := fun k => k = g) (p := ⟨g, i, none⟩) (Kp.refl w) (fun _ => rfl) _
theorem kSb {w : World} {g i j : Nat} {u v : Value} : Kp (fun k => k = g) w ((w.setCell ⟨g, i, none⟩ u).setCell ⟨g, j, none⟩ v) := Kp.setCell (F := fun k => k = g) (p := ⟨g, j, none⟩) kSa (fun _ => rfl) _
theorem Blk.free (h : Blk w g cs e) (i : Nat) : w.frozen? ⟨g, i, none⟩ = false := by
 unfold Blk at h; simp [World.frozen?, h]
theorem Blk.kp {F : Nat -> Prop} (h : Blk w g cs e) (k : Kp F w w') (hf : ¬ F g) : Blk w' g cs e := (k.block g h.lt hf).trans h
theorem Blk.ext (h : Blk w g cs e) (k : Ext w w') : Blk w' g cs e := h.kp k id
theorem Blk.alloc (h : Blk w g cs e) (o : Obj) : Blk (w.alloc o) g cs e := h.ext ((Kp.refl w).alloc o)
theorem Blk.drew (h : Blk w g cs e) : Blk w.drew g cs e := h
theorem Blk.new (w : World) (cs : List Value) (e : TypeId) : Blk (w.alloc (.cells cs.toArray e)) w.heap.size cs e := by
 show (w.heap.push _)[w.heap.size]? = _; simp
theorem Blk.set (h : Blk w g cs e) (i : Nat) (v : Value) : Blk (w.setCell ⟨g, i, none⟩ v) g (cs.set i v) e := by
 unfold Blk at *
 simp only [World.setCell, Array.getElem?_modify, h]
 simp
theorem Blk.congrL {cs' : List Value} (h : Blk w g cs e) (hc : cs = cs') : Blk w g cs' e := hc ▸ h
theorem Blk.other (h : Blk w g cs e) {p : Addr} (hp : g ≠ p.block) (v : Value) : Blk (w.setCell p v) g cs e := by
 unfold Blk at *; rw [Below.heap_setCell _ _ _ _ hp]; exact h
end
def CellsAt (w : World) (ao : Option Addr) (vs : List Value) : Prop :=
 ∀ i u, vs[i]? = some u -> ∃ b off, ao = some ⟨b, off, none⟩ /\ w.cell? ⟨b, off + i, none⟩ = some u
def Off (F : Nat -> Prop) (ao : Option Addr) : Prop := ∀ a, ao = some a -> ¬ F a.block
section
variable {w w' : World} {ao : Option Addr} {vs : List Value}
theorem CellsAt.nil (w : World) (ao : Option Addr) : CellsAt w ao [] := fun i u h => by simp at h
theorem CellsAt.kp {F : Nat -> Prop} (h : CellsAt w ao vs) (k : Kp F w w') (hf : Off F ao) : CellsAt w' ao vs := fun i u hu => by
 obtain ⟨b, off, h1, h2⟩ := h i u hu
 exact ⟨b, off, h1, k.cell h2 (hf _ h1)⟩
theorem CellsAt.ext (h : CellsAt w ao vs) (k : Ext w w') : CellsAt w' ao vs := h.kp k fun _ _ => id
theorem CellsAt.alloc (h : CellsAt w ao vs) (o : Obj) : CellsAt (w.alloc o) ao vs := h.ext ((Kp.refl w).alloc o)
theorem CellsAt.drewN (h : CellsAt w ao vs) (n : Nat) : CellsAt (w.drewN n) ao vs := h.ext ((Kp.refl w).drewN n)
theorem CellsAt.getv (h : CellsAt w ao vs) {k : Nat} (hk : k < vs.length) : ∃ b off, ao = some ⟨b, off, none⟩ /\ w.cell? ⟨b, off + k, none⟩ = some vs[k] :=
 h k _ (qG hk)
theorem CellsAt.off (h : CellsAt w ao vs) (hv : vs ≠ []) : ∃ b off, ao = some ⟨b, off, none⟩ /\ b < w.heap.size := by
 have hk : 0 < vs.length := by cases vs <;> simp_all
 obtain ⟨b, off, h1, h2⟩ := h.getv hk
 exact ⟨b, off, h1, World.block_lt_of_cell? _ _ h2⟩
theorem CellsAt.blk {g off : Nat} {cs : List Value} {e : TypeId} (h : Blk w g cs e) (n : Nat) : CellsAt w (some ⟨g, off, none⟩) ((cs.drop off).take n) := fun i u hu => by
 refine ⟨g, off, rfl, ?_⟩
 rw [h.cell']
 rw [List.getElem?_take] at hu
 split at hu
 ·rw [List.getElem?_drop] at hu; exact hu
 ·cases hu
theorem CellsAt.pre {g : Nat} {xs rest : List Value} {e : TypeId} (h : Blk w g (xs ++ rest) e) : CellsAt w (some ⟨g, 0, none⟩) xs := by
 have := CellsAt.blk (off := 0) h xs.length
 simpa using this
theorem CellsAt.one (w : World) (x : Value) (e : TypeId) : CellsAt (w.alloc (.cells #[x] e)) (some ⟨w.heap.size, 0, none⟩) [x] := by
 have := Blk.new w [x] e
 exact CellsAt.pre (rest := []) this
theorem CellsAt.two (w : World) (x y : Value) (e : TypeId) : CellsAt (w.alloc (.cells #[x, y] e)) (some ⟨w.heap.size, 0, none⟩) [x, y] := by
 have := Blk.new w [x, y] e
 exact CellsAt.pre (rest := []) this
end
def strs (ss : List ByteArray) : List Value := ss.map Value.string
def ints (zs : List Int) : List Value := zs.map (Value.int .i64)
theorem aGo (ss : List ByteArray) (k : Nat) (hk : k < ss.length) : (strs ss)[k]? = some (.string ss[k]) := by simp [strs, hk]
theorem iP (ss : List ByteArray) : (strs ss).length = ss.length := by simp [strs]
theorem aBw (ss : List Int) : (ints ss).length = ss.length := by simp [ints]
theorem CellsAt.str {w : World} {ao : Option Addr} {ss : List ByteArray} (h : CellsAt w ao (strs ss)) {k : Nat} (hk : k < ss.length) : ∃ b off, ao = some ⟨b, off, none⟩ /\ w.cell? ⟨b, off + k, none⟩ = some (.string ss[k]) :=
 h k _ (aGo ss k hk)
def Row (w : World) (e : TypeId) (k : Nat) (v : Value) (n : Nat) (xs : List Value) (M : Nat -> Prop) : Prop :=
 xs.length = n * k /\ (v = .slice none 0 0 /\ n = 0 \/
  ∃ g cap rest, v = .slice (some ⟨g, 0, none⟩) n cap /\ M g /\ Blk w g (xs ++ rest) e /\ (xs ++ rest).length = cap * k /\ n ≤ cap /\ cap ≤ maxLen)
section
variable {w w' : World} {e : TypeId} {k : Nat} {v : Value} {n : Nat} {xs : List Value} {M : Nat -> Prop}
theorem Row.nil (w : World) (e : TypeId) (k : Nat) (M : Nat -> Prop) : Row w e k (.slice none 0 0) 0 [] M := ⟨by simp, .inl ⟨rfl, rfl⟩⟩
theorem Row.mono {M' : Nat -> Prop} (h : Row w e k v n xs M) (hm : ∀ g, M g -> M' g) : Row w e k v n xs M' := by
 obtain ⟨h1, h2 | ⟨g, cap, rest, a, b, c⟩⟩ := h
 ·exact ⟨h1, .inl h2⟩
 ·exact ⟨h1, .inr ⟨g, cap, rest, a, hm g b, c⟩⟩
theorem Row.kp' {F : Nat -> Prop} (h : Row w e k v n xs M) (hk : Kp F w w') (hf : ∀ g, v.ownBlock = some g -> M g -> ¬ F g) : Row w' e k v n xs M := by
 obtain ⟨h1, h2 | ⟨g, cap, rest, a, b, c, d⟩⟩ := h
 ·exact ⟨h1, .inl h2⟩
 ·exact ⟨h1, .inr ⟨g, cap, rest, a, b, c.kp hk (hf g (by rw [a]; rfl) b), d⟩⟩
theorem Row.kp {F : Nat -> Prop} (h : Row w e k v n xs M) (hk : Kp F w w') (hf : ∀ g, M g -> ¬ F g) : Row w' e k v n xs M := h.kp' hk fun g _ => hf g
theorem Row.ext (h : Row w e k v n xs M) (hk : Ext w w') : Row w' e k v n xs M := h.kp hk fun _ _ => id
theorem Row.alloc (h : Row w e k v n xs M) (o : Obj) : Row (w.alloc o) e k v n xs M := h.ext ((Kp.refl w).alloc o)
theorem Row.drew (h : Row w e k v n xs M) : Row w.drew e k v n xs M := h.ext ((Kp.refl w).drew)
theorem Row.shape (h : Row w e k v n xs M) : ∃ ao cap, v = .slice ao n cap /\ CellsAt w ao xs /\ n ≤ cap := by
 obtain ⟨h1, ⟨rfl, rfl⟩ | ⟨g, cap, rest, rfl, b, c, d, e, f⟩⟩ := h
 ·have : xs = [] := List.eq_nil_of_length_eq_zero (by simpa using h1)
  subst this
  exact ⟨none, 0, rfl, CellsAt.nil _ _, Nat.le_refl _⟩
 ·exact ⟨_, cap, rfl, CellsAt.pre c, e⟩
theorem Row.empty (w : World) (e : TypeId) (k : Nat) (M : Nat -> Prop) (hM : M w.heap.size) : Row (w.alloc (.cells #[] e)) e k (.slice (some ⟨w.heap.size, 0, none⟩) 0 0) 0 [] M :=
 ⟨by simp, .inr ⟨_, 0, [], rfl, hM, Blk.new w [] e, by simp, Nat.le_refl _, by decide⟩⟩
theorem Row.block (h : Row w e k v n xs M) : ∀ g, v.ownBlock = some g -> M g := by
 obtain ⟨h1, ⟨rfl, rfl⟩ | ⟨g, cap, rest, rfl, b, c, d⟩⟩ := h
 ·intro g hg; cases hg
 ·intro g' hg; cases hg; exact b
end
def cM (P : Program) (t e : TypeId) (k bytes : Nat) (z : Value) : Prop :=
 P.underlying t = some (.slice e) /\ (P.info? e).map (fun i => (i.zero, i.size, i.bytes)) = some (some z, k, bytes) /\ z.cells.size = k /\ 0 < k
section
variable {P : Program} {w : World} {t e : TypeId} {k bytes : Nat} {z : Value}
theorem jY (E : cM P t e k bytes z) (ty : TypeId) {ao : Option Addr} {n cap : Nat} (hc : n ≤ cap) (ao' : Option Addr) (c : Nat) :
 (Builtin.append_ #[t, t] ty #[.slice ao n cap, .slice ao' 0 c]).run P w = .ok (.slice ao n cap) w := by
 obtain ⟨ht, hi, hz, hk⟩ := E
 obtain ⟨i, hi, h1, h2, h3⟩ := info_parts hi
 cases ao' <;> cases ao <;> simp [Builtin.append_, run_underlying ht, sizeOf, typeInfo, hi, Builtin.lenOf, Builtin.firstCells, loadCells, loadCellsFrom, hc, storeCells]
theorem pI (E : cM P t e k bytes z) (ty : TypeId) {v : Value} {n : Nat} {xs : List Value} {M : Nat -> Prop} (hr : Row w e k v n xs M)
 {ao : Option Addr} {m c : Nat} {news : List Value} (hl : news.length = m * k) (hs : CellsAt w ao news) (h1 : ∀ u ∈ news, u.oneCell' = true) (hb : (n + m) * bytes ≤ 140737488355328) (h63 : n + m ≤ maxLen) :
 ∃ v' w', (Builtin.append_ #[t, t] ty #[v, .slice ao m c]).run P w = .ok v' w' /\ Row w' e k v' (n + m) (xs ++ news) (fun g => v.ownBlock = some g \/ w.heap.size ≤ g) /\ Kp (fun g => v.ownBlock = some g) w w' /\ (v' = .slice none 0 0 ↔ v = .slice none 0 0 /\ m = 0) := by
 by_cases hm : m = 0
 ·subst hm
  have hn : news = [] := List.eq_nil_of_length_eq_zero (by simpa using hl)
  subst hn
  obtain ⟨ao1, cap1, rfl, _, hcap⟩ := hr.shape
  refine ⟨_, w, jY E ty hcap _ _, ?_, Kp.refl _, by simp⟩
  simp only [Nat.add_zero, List.append_nil]
  obtain ⟨h1, h2 | ⟨g, cap, rest, a, b, c⟩⟩ := hr
  ·exact ⟨h1, .inl h2⟩
  ·exact ⟨h1, .inr ⟨g, cap, rest, a, .inl (by rw [a]; rfl), c⟩⟩
 ·have hne : news ≠ [] := by
   rintro rfl
   have h0 := Nat.mul_pos (Nat.pos_of_ne_zero hm) E.2.2.2
   simp only [List.length_nil] at hl; omega
  obtain ⟨b, off, rfl, hlt⟩ := hs.off hne
  have hsrc : ∀ j u, news[j]? = some u -> w.cell? ((⟨b, off, none⟩ : Addr).add j) = some u := fun j u hu => by
   obtain ⟨b', off', he, hc⟩ := hs j u hu
   cases he
   rw [Addr.add_lit]; exact hc
  obtain ⟨ht, hi, hz, hk⟩ := E
  obtain ⟨i, hi, hz1, hz2, hz3⟩ := info_parts hi
  have hsmall : n + m ≤ 9223372036854775807 := h63
  have grown : ∀ old, (w.drew.alloc (.cells (xs.toArray ++ news.toArray ++ Builtin.zeroCells z.cells (grownCap w (n + m) old e - (n + m))) e)).heap[w.heap.size]? =
   some (.cells ((xs ++ news) ++ (Builtin.zeroCells z.cells (grownCap w (n + m) old e - (n + m))).toList).toArray e (0, 0)) := fun old => by
   show (w.heap.push _)[w.heap.size]? = _
   simp
  have lens : ∀ old, ((xs ++ news) ++ (Builtin.zeroCells z.cells (grownCap w (n + m) old e - (n + m))).toList).length = grownCap w (n + m) old e * k := fun old => by
   have hge := grownCap_ge w (n + m) old e
   simp only [List.length_append, Array.length_toList, size_zeroCells, hz, hr.1, hl, <- Nat.add_mul]
   congr 1; omega
  obtain ⟨hx, ⟨rfl, rfl⟩ | ⟨g, cap, rest, rfl, hM, hB, hlen, hnc, hcm⟩⟩ := hr
  ·have hx0 : xs = [] := List.eq_nil_of_length_eq_zero (by simpa using hx)
   subst hx0
   have hr := run_append_nil (P := P) w t ty e i z ht hi hz1 ⟨b, off, none⟩ m c news (by rw [hz2]; exact hl) hsrc (by omega) (by omega) (by rw [hz3]; simp only [Nat.zero_add] at hb; omega)
   refine ⟨_, _, hr, ?_, ⟨rfl, rfl, rfl, by simp, fun k hk _ => Below.heap_alloc w.drew _ k hk⟩, by simp [hm]⟩
   have h0 := grown 0
   have h2 := lens 0
   simp only [Nat.zero_add, List.nil_append, Array.empty_append] at h0 h2 ⊢
   exact ⟨hl, .inr ⟨_, _, _, rfl, .inr (Nat.le_refl _), h0, h2, grownCap_ge w m 0 e, grownCap_le_maxLen w m 0 e (by omega)⟩⟩
  ·by_cases hroom : n + m ≤ cap
   ·have hr := run_append_room (P := P) w t ty e i ht hi g n cap _ hB ⟨b, off, none⟩ m c news (by rw [hz2]; exact hl) hsrc h1 hroom (by
     simp only [hz2, List.size_toArray, hlen, hl, <- Nat.add_mul]; exact Nat.mul_le_mul_right _ hroom)
    refine ⟨_, _, hr, ⟨by rw [List.length_append, hx, hl, Nat.add_mul], .inr ⟨g, cap, rest.drop news.length, rfl, .inl rfl, ?_, ?_, hroom, hcm⟩⟩, ⟨rfl, rfl, rfl, by simp, fun k _ hk => setRow_other w g k _ (fun e => hk (by simp [Value.ownBlock, e]))⟩, by simp⟩
    ·show _ = _
     rw [setRow_heap w g _ _ e _ hB]
     congr 2
     simp only [hz2]
     rw [<- hx]
     simp
    ·have : news.length ≤ rest.length := by
      have := hlen
      simp only [List.length_append, hx] at this
      have h3 : (n + m) * k ≤ cap * k := Nat.mul_le_mul_right _ hroom
      rw [Nat.add_mul] at h3
      omega
     simp only [List.length_append, List.length_drop] at hlen ⊢
     omega
   ·have holds : ∀ j u, xs[j]? = some u -> w.cell? ((⟨g, 0, none⟩ : Addr).add j) = some u := fun j u hu => by
     rw [Addr.add_lit, Nat.zero_add, hB.cell', List.getElem?_append_left (List.getElem?_eq_some_iff.1 hu).1]; exact hu
    have hr := run_append_grow (P := P) w t ty e i z ht hi hz1 ⟨g, 0, none⟩ n cap xs (by rw [hz2]; exact hx) holds ⟨b, off, none⟩ m c news (by rw [hz2]; exact hl) hsrc (by omega) (by omega) (by rw [hz3]; exact growslice_fits (by omega) hb)
    exact ⟨_, _, hr, ⟨by rw [List.length_append, hx, hl, Nat.add_mul], .inr ⟨_, _, _, rfl, .inr (Nat.le_refl _), grown cap, lens cap, grownCap_ge w (n + m) cap e, grownCap_le_maxLen w (n + m) cap e (by omega)⟩⟩, ⟨rfl, rfl, rfl, by simp, fun k hk _ => Below.heap_alloc w.drew _ k hk⟩, by simp⟩
theorem aDh (E : cM P t e k bytes z) {ops : Array Oper} {rest : List Oper} {o : Oper} {a : Act} {Q : Exit -> Act -> World -> Prop} (hgd : o.guard = none) (s x : Operand)
 (ho : o.op = .call { callee := .builtin .append, args := #[s, x], argTypes := #[t, t] })
 {F : Nat -> Prop} {w0 : World} (hkp : Kp F w0 w) {M : Nat -> Prop} (hM : ∀ g, M g -> g < w0.heap.size -> F g) (hN : ∀ g, w.heap.size ≤ g -> M g)
 {v : Value} {n : Nat} {xs : List Value} (hs : a.eval s = v) (hr : Row w e k v n xs M)
 {ao : Option Addr} {m c : Nat} {news : List Value} (hx : a.eval x = .slice ao m c) (hl : news.length = m * k) (hsrc : CellsAt w ao news) (h1 : ∀ u ∈ news, u.oneCell' = true)
 (hb : (n + m) * bytes ≤ 140737488355328) (h63 : n + m ≤ maxLen)
 (h : ∀ v' w', Row w' e k v' (n + m) (xs ++ news) M -> Kp F w0 w' -> Kp (fun g => v.ownBlock = some g) w w' -> (v' = .slice none 0 0 ↔ v = .slice none 0 0 /\ m = 0) -> wpList P ops Q rest (a.put o.dst v') w') : wpList P ops Q (o :: rest) a w := by
 refine wpList_plain hgd fun K hK => ?_
 obtain ⟨v', w', hrun, h2, h3, h4⟩ := pI (P := P) E o.type hr hl hsrc h1 hb h63 (c := c)
 unfold Oper.wp execOp
 simp only [ho, resolve, invoke, builtin, Sem.run_bind, Sem.run_pure, Result.andThen_ok, List.map_toArray, List.map_cons, List.map_nil, hs, hx, hrun]
 refine hK _ _ (h v' w' (h2.mono fun g hg => ?_) (hkp.trans' h3 fun i hi hg => hM i (hr.block i hg) hi) h3 h4)
 rcases hg with hg | hg
 ·exact hr.block g hg
 ·exact hN g hg
theorem dK (E : cM P t e k bytes z) {ops : Array Oper} {rest : List Oper} {o : Oper} {a : Act} {Q : Exit -> Act -> World -> Prop} (hgd : o.guard = none) (s x : Operand)
 (ho : o.op = .call { callee := .builtin .append, args := #[s, x], argTypes := #[t, t] })
 {F : Nat -> Prop} {w0 : World} (hkp : Kp F w0 w)
 {v : Value} {n : Nat} {xs : List Value} (hs : a.eval s = v) (hr : Row w e k v n xs (New w0))
 {ao : Option Addr} {m c : Nat} {news : List Value} (hx : a.eval x = .slice ao m c) (hsrc : CellsAt w ao news) (hl : news.length = m * k) (h1 : ∀ u ∈ news, u.oneCell' = true)
 (hb : (n + m) * bytes ≤ 140737488355328) (h63 : n + m ≤ maxLen)
 (h : ∀ v' w', Row w' e k v' (n + m) (xs ++ news) (New w0) -> Kp F w0 w' -> Kp (fun g => v.ownBlock = some g) w w' -> (v' = .slice none 0 0 ↔ v = .slice none 0 0 /\ m = 0) -> wpList P ops Q rest (a.put o.dst v') w') : wpList P ops Q (o :: rest) a w :=
 aDh E hgd s x ho hkp (fun g h1 h2 => absurd h2 (Nat.not_lt.2 h1)) (fun g h1 => Nat.le_trans hkp.size h1) hs hr hx hl hsrc h1 hb h63 h
end
def Halted (p : Prop) : Prop := p
theorem Halted.out {p : Prop} (h : Halted p) : p := h
theorem Halted.mk {p : Prop} (h : p) : Halted p := h
def RetN (w : World) (P : World -> Value -> Prop) (e : Ending) (w' : World) : Prop := ∃ v, e = .returned v /\ Ext w w' /\ P w' v
theorem RetN.mk {w w' : World} {P : World -> Value -> Prop} {v : Value} (h : Ext w w') (hp : P w' v) : RetN w P (.returned v) w' := ⟨v, rfl, h, hp⟩
def RetF (F : Nat -> Prop) (w : World) (P : World -> Value -> Prop) (e : Ending) (w' : World) : Prop := ∃ v, e = .returned v /\ Kp F w w' /\ P w' v
theorem RetF.mk {F : Nat -> Prop} {w w' : World} {P : World -> Value -> Prop} {v : Value} (h : Kp F w w') (hp : P w' v) : RetF F w P (.returned v) w' := ⟨v, rfl, h, hp⟩
end
section
open Go.Lib
def aBv (c : UInt8) : Bool := decide (48 ≤ c.toNat /\ c.toNat ≤ 57)
def jI (a : Nat) (b : List UInt8) : Nat := b.foldl (fun n c => 10 * n + (c.toNat - 48)) a
def aIk (b : List UInt8) : Nat := jI 0 b
theorem aAh (a : Nat) : jI a [] = a := rfl
theorem yP (a : Nat) (c : UInt8) (b : List UInt8) : jI a (c :: b) = jI (10 * a + (c.toNat - 48)) b := by
 unfold jI; rw [List.foldl_cons]
theorem yO (a : Nat) (b : List UInt8) (c : UInt8) : jI a (b ++ [c]) = 10 * jI a b + (c.toNat - 48) := by
 unfold jI; rw [List.foldl_append]; rfl
theorem aJ4 {d : Nat} (h : d < 10) : aBv (UInt8.ofNat (48 + d)) = true /\ (UInt8.ofNat (48 + d)).toNat = 48 + d := by
 have e : (UInt8.ofNat (48 + d)).toNat = 48 + d := by simp [UInt8.toNat_ofNat']; omega
 exact ⟨decide_eq_true (by rw [e]; omega), e⟩
def Canon (b : List UInt8) : Prop := b.all aBv = true /\ ∃ c r, b = c :: r /\ c.toNat ≠ 48
theorem zQ (u : Nat) : aIk (decDigits u) = u /\ (decDigits u).all aBv = true /\ (1 ≤ u -> Canon (decDigits u)) := by
 induction u using Nat.strongRecOn with
 | _ u ih =>
  by_cases h : u < 10
  ·rw [decDigits_one h]
   obtain ⟨h1, h2⟩ := aJ4 h
   have hall : ([UInt8.ofNat (48 + u)] : List UInt8).all aBv = true := by rw [List.all_cons, h1]; rfl
   refine ⟨?_, hall, fun hu => ⟨hall, _, _, rfl, by rw [h2]; omega⟩⟩
   unfold aIk; rw [yP, aAh, h2]; omega
  ·obtain ⟨i1, i2, i3⟩ := ih (u / 10) (by omega)
   rw [decDigits, dif_neg h]
   obtain ⟨h1, h2⟩ := aJ4 (show u % 10 < 10 by omega)
   have hall : (decDigits (u / 10) ++ [UInt8.ofNat (48 + u % 10)]).all aBv = true := by
    rw [List.all_append, i2, List.all_cons, h1]; rfl
   refine ⟨?_, hall, fun _ => ⟨hall, ?_⟩⟩
   ·rw [aIk, yO]; rw [aIk] at i1; rw [i1, h2]; omega
   ·obtain ⟨_, c, r, e, hc⟩ := i3 (by omega)
    exact ⟨c, r ++ [UInt8.ofNat (48 + u % 10)], by rw [e]; rfl, hc⟩
def cS (l : List UInt8) : Int × Bool :=
 match parseIntB 64 l with
 | .ok v => if itoa v = l then (v, true) else (0, false)
 | _ => (0, false)
end
end Go.Proofs.YtikgpedgmnbcaaaGreatDoor
namespace Go.Proofs
open Go.Shelf
def Tryz.lays169_ren : Go.Shelf.Ren := ⟨fun | 169 => 165 | n => n, fun | 70 => 228 | 9 => 9 | 0 => 0 | 72 => 230 | 37 => 210 | 127 => 261 | 3 => 3 | 5 => 5 | n => n, fun | n => n⟩
theorem Tryz.lays169 : Go.Proofs.Lays.n169 Tryz.prog Tryz.lays169_ren := {
 mixed := by kernel_rfl
 f169 := Tryz.func165.trans (congrArg some (by kernel_rfl))
 t0 := Tryz.underlying0
 a0 := Tryz.isAgg0
 z0 := Tryz.sizeOf0
 v0 := Tryz.zeroValue0
 t3 := Tryz.underlying3
 a3 := Tryz.isAgg3
 z3 := Tryz.sizeOf3
 v3 := Tryz.zeroValue3
 t9 := Tryz.underlying9
 a9 := Tryz.isAgg9
 z9 := Tryz.sizeOf9
 v9 := Tryz.zeroValue9
 t37 := Tryz.underlying210
 a37 := Tryz.isAgg210
 z37 := Tryz.sizeOf210
 v37 := Tryz.zeroValue210
 t70 := Tryz.underlying228
 a70 := Tryz.isAgg228
 z70 := Tryz.sizeOf228
 v70 := Tryz.zeroValue228
 t72 := Tryz.underlying230
 a72 := Tryz.isAgg230
 z72 := Tryz.sizeOf230
 v72 := Tryz.zeroValue230
 t127 := Tryz.underlying261
 a127 := Tryz.isAgg261
 z127 := Tryz.sizeOf261
 v127 := Tryz.zeroValue261 }
theorem Tryz.Builder_Extra_169 : Builder.Extra Tryz.prog Tryz.lays169_ren := {
 sizeBuilder := by kernel_rfl
 liesBuilder := by kernel_rfl
 t5 := Tryz.underlying5
 a5 := Tryz.isAgg5
 z5 := Tryz.sizeOf5
 v5 := Tryz.zeroValue5
 infoByte := by kernel_rfl
 cellsByte := by kernel_rfl
 sizeByte := by kernel_rfl
 neB5 := by decide }
open Go.RowKit in
theorem Tryz.Builder_String_any (B b : Nat) (l : List UInt8) (w : World) (h : Lib.IsBuilder 230 5 B b (Lib.byteCells l) w) (hBw : B ≤ w.heap.size) :
 Calls Tryz.prog 165 #[.pointer (some ⟨b, 0, none⟩)] w fun e w' => e = .returned (.string ⟨l.toArray⟩) /\ Below B w w' := Any.Builder_String_any Tryz.lays169 Tryz.Builder_Extra_169 B b l w h hBw
def Tryz.lays106_ren : Go.Shelf.Ren := ⟨fun | 106 => 171 | 213 => 202 | 265 => 219 | n => n, fun | 9 => 9 | 3 => 3 | n => n, fun | n => n⟩
theorem Tryz.lays106 : Go.Proofs.Lays.n106 Tryz.prog Tryz.lays106_ren := {
 mixed := by kernel_rfl
 f106 := Tryz.func171.trans (congrArg some (by kernel_rfl))
 f213 := Tryz.func202.trans (congrArg some (by kernel_rfl))
 f265 := Tryz.func219.trans (congrArg some (by kernel_rfl))
 t3 := Tryz.underlying3
 a3 := Tryz.isAgg3
 z3 := Tryz.sizeOf3
 v3 := Tryz.zeroValue3
 t9 := Tryz.underlying9
 a9 := Tryz.isAgg9
 z9 := Tryz.sizeOf9
 v9 := Tryz.zeroValue9 }
open Go.RowKit in
theorem Tryz.strings_Compare (a b : ByteArray) (w : World) :
 Calls Tryz.prog 171 #[.string a, .string b] w fun e w' => e = .returned (.int .i64 (Lib.compareBytes a.data.toList b.data.toList)) /\ w' = w := Any.strings_Compare Tryz.lays106 a b w
def Tryz.laysM171_ren : Go.Shelf.Ren := ⟨fun | 171 => 163 | 243 => 201 | 246 => 101 | 283 => 154 | 284 => 155 | 285 => 156 | 286 => 157 | 129 => 191 | 317 => 190 | 318 => 192 | 319 => 193 | 320 => 194 | 337 => 207 | 338 => 208 | n => n, fun | 3 => 3 | 9 => 9 | 2 => 2 | 4 => 4 | 171 => 220 | 0 => 0 | 53 => 95 | 37 => 210 | 5 => 5 | 173 => 223 | 212 => 252 | 51 => 253 | 20 => 20 | 213 => 254 | 46 => 103 | 232 => 296 | 233 => 297 | n => n, fun | 17 => 2 | 18 => 4 | 19 => 5 | n => n⟩
theorem Tryz.laysM171 : Go.Proofs.LaysM.n171 Tryz.prog Tryz.laysM171_ren := {
 mixed := by kernel_rfl
 f129 := Tryz.func191.trans (congrArg some (by kernel_rfl))
 f171 := Tryz.func163.trans (congrArg some (by kernel_rfl))
 f243 := Tryz.func201.trans (congrArg some (by kernel_rfl))
 f246 := Tryz.func101.trans (congrArg some (by kernel_rfl))
 f283 := Tryz.func154.trans (congrArg some (by kernel_rfl))
 f284 := Tryz.func155.trans (congrArg some (by kernel_rfl))
 f285 := Tryz.func156.trans (congrArg some (by kernel_rfl))
 f286 := Tryz.func157.trans (congrArg some (by kernel_rfl))
 f317 := Tryz.func190.trans (congrArg some (by kernel_rfl))
 f318 := Tryz.func192.trans (congrArg some (by kernel_rfl))
 f319 := Tryz.func193.trans (congrArg some (by kernel_rfl))
 f320 := Tryz.func194.trans (congrArg some (by kernel_rfl))
 f337 := Tryz.func207.trans (congrArg some (by kernel_rfl))
 f338 := Tryz.func208.trans (congrArg some (by kernel_rfl))
 t0 := Tryz.underlying0
 a0 := Tryz.isAgg0
 z0 := Tryz.sizeOf0
 v0 := Tryz.zeroValue0
 t2 := Tryz.underlying2
 a2 := Tryz.isAgg2
 z2 := Tryz.sizeOf2
 v2 := Tryz.zeroValue2
 t3 := Tryz.underlying3
 a3 := Tryz.isAgg3
 z3 := Tryz.sizeOf3
 v3 := Tryz.zeroValue3
 t4 := Tryz.underlying4
 a4 := Tryz.isAgg4
 z4 := Tryz.sizeOf4
 v4 := Tryz.zeroValue4
 t5 := Tryz.underlying5
 a5 := Tryz.isAgg5
 z5 := Tryz.sizeOf5
 v5 := Tryz.zeroValue5
 t9 := Tryz.underlying9
 a9 := Tryz.isAgg9
 z9 := Tryz.sizeOf9
 v9 := Tryz.zeroValue9
 t20 := Tryz.underlying20
 a20 := Tryz.isAgg20
 z20 := Tryz.sizeOf20
 v20 := Tryz.zeroValue20
 t37 := Tryz.underlying210
 a37 := Tryz.isAgg210
 z37 := Tryz.sizeOf210
 v37 := Tryz.zeroValue210
 t46 := Tryz.underlying103
 a46 := Tryz.isAgg103
 z46 := Tryz.sizeOf103
 v46 := Tryz.zeroValue103
 t51 := Tryz.underlying253
 a51 := Tryz.isAgg253
 z51 := Tryz.sizeOf253
 v51 := Tryz.zeroValue253
 t53 := Tryz.underlying95
 a53 := Tryz.isAgg95
 z53 := Tryz.sizeOf95
 v53 := Tryz.zeroValue95
 t171 := Tryz.underlying220
 a171 := Tryz.isAgg220
 z171 := Tryz.sizeOf220
 v171 := Tryz.zeroValue220
 t173 := Tryz.underlying223
 a173 := Tryz.isAgg223
 z173 := Tryz.sizeOf223
 v173 := Tryz.zeroValue223
 t212 := Tryz.underlying252
 a212 := Tryz.isAgg252
 z212 := Tryz.sizeOf252
 v212 := Tryz.zeroValue252
 t213 := Tryz.underlying254
 a213 := Tryz.isAgg254
 z213 := Tryz.sizeOf254
 t232 := Tryz.underlying296
 a232 := Tryz.isAgg296
 z232 := Tryz.sizeOf296
 v232 := Tryz.zeroValue296
 t233 := Tryz.underlying297
 a233 := Tryz.isAgg297
 z233 := Tryz.sizeOf297
 v233 := Tryz.zeroValue297
 g17 := by kernel_rfl
 g18 := by kernel_rfl
 g19 := by kernel_rfl
 i0 := by kernel_rfl
 i2 := by kernel_rfl
 i3 := by kernel_rfl
 i4 := by kernel_rfl
 i5 := by kernel_rfl
 i9 := by kernel_rfl
 i20 := by kernel_rfl
 i37 := by kernel_rfl
 i46 := by kernel_rfl
 i51 := by kernel_rfl
 i53 := by kernel_rfl
 i171 := by kernel_rfl
 i173 := by kernel_rfl
 i212 := by kernel_rfl
 i232 := by kernel_rfl
 i233 := by kernel_rfl
 m17 := by kernel_rfl
 m18 := by kernel_rfl
 m19 := by kernel_rfl }
open Go.RowKit Go.Sort Go.Lib in
theorem Tryz.strconv_Itoa (n : Int) (h0 : -9223372036854775808 ≤ n) (h1 : n ≤ 9223372036854775807) (w : World) (htab : Lib.TabIs Tryz.prog w "internal/strconv.uint64pow10" .u64 Lib.pow10Tab) :
 Calls Tryz.prog 163 #[.int .i64 n] w fun e w' => e = .returned (.string ⟨(Lib.itoa n).toArray⟩) /\ ∃ k os, w' = grow (w.drewN k) os := Any.strconv_Itoa Tryz.laysM171 n h0 h1 w htab
def Tryz.laysM173_ren : Go.Shelf.Ren := ⟨fun | 173 => 54 | 246 => 101 | 283 => 154 | 284 => 155 | 285 => 156 | 286 => 157 | 129 => 191 | 317 => 190 | 318 => 192 | 319 => 193 | 320 => 194 | 337 => 207 | 338 => 208 | n => n, fun | 2 => 2 | 3 => 3 | 9 => 9 | 4 => 4 | 171 => 220 | 0 => 0 | 53 => 95 | 37 => 210 | 5 => 5 | 173 => 223 | 212 => 252 | 51 => 253 | 20 => 20 | 213 => 254 | 46 => 103 | 232 => 296 | 233 => 297 | n => n, fun | 17 => 2 | 18 => 4 | 19 => 5 | n => n⟩
theorem Tryz.laysM173 : Go.Proofs.LaysM.n173 Tryz.prog Tryz.laysM173_ren := {
 mixed := by kernel_rfl
 f129 := Tryz.func191.trans (congrArg some (by kernel_rfl))
 f173 := Tryz.func54.trans (congrArg some (by kernel_rfl))
 f246 := Tryz.func101.trans (congrArg some (by kernel_rfl))
 f283 := Tryz.func154.trans (congrArg some (by kernel_rfl))
 f284 := Tryz.func155.trans (congrArg some (by kernel_rfl))
 f285 := Tryz.func156.trans (congrArg some (by kernel_rfl))
 f286 := Tryz.func157.trans (congrArg some (by kernel_rfl))
 f317 := Tryz.func190.trans (congrArg some (by kernel_rfl))
 f318 := Tryz.func192.trans (congrArg some (by kernel_rfl))
 f319 := Tryz.func193.trans (congrArg some (by kernel_rfl))
 f320 := Tryz.func194.trans (congrArg some (by kernel_rfl))
 f337 := Tryz.func207.trans (congrArg some (by kernel_rfl))
 f338 := Tryz.func208.trans (congrArg some (by kernel_rfl))
 t0 := Tryz.underlying0
 a0 := Tryz.isAgg0
 z0 := Tryz.sizeOf0
 v0 := Tryz.zeroValue0
 t2 := Tryz.underlying2
 a2 := Tryz.isAgg2
 z2 := Tryz.sizeOf2
 v2 := Tryz.zeroValue2
 t3 := Tryz.underlying3
 a3 := Tryz.isAgg3
 z3 := Tryz.sizeOf3
 v3 := Tryz.zeroValue3
 t4 := Tryz.underlying4
 a4 := Tryz.isAgg4
 z4 := Tryz.sizeOf4
 v4 := Tryz.zeroValue4
 t5 := Tryz.underlying5
 a5 := Tryz.isAgg5
 z5 := Tryz.sizeOf5
 v5 := Tryz.zeroValue5
 t9 := Tryz.underlying9
 a9 := Tryz.isAgg9
 z9 := Tryz.sizeOf9
 v9 := Tryz.zeroValue9
 t20 := Tryz.underlying20
 a20 := Tryz.isAgg20
 z20 := Tryz.sizeOf20
 v20 := Tryz.zeroValue20
 t37 := Tryz.underlying210
 a37 := Tryz.isAgg210
 z37 := Tryz.sizeOf210
 v37 := Tryz.zeroValue210
 t46 := Tryz.underlying103
 a46 := Tryz.isAgg103
 z46 := Tryz.sizeOf103
 v46 := Tryz.zeroValue103
 t51 := Tryz.underlying253
 a51 := Tryz.isAgg253
 z51 := Tryz.sizeOf253
 v51 := Tryz.zeroValue253
 t53 := Tryz.underlying95
 a53 := Tryz.isAgg95
 z53 := Tryz.sizeOf95
 v53 := Tryz.zeroValue95
 t171 := Tryz.underlying220
 a171 := Tryz.isAgg220
 z171 := Tryz.sizeOf220
 v171 := Tryz.zeroValue220
 t173 := Tryz.underlying223
 a173 := Tryz.isAgg223
 z173 := Tryz.sizeOf223
 v173 := Tryz.zeroValue223
 t212 := Tryz.underlying252
 a212 := Tryz.isAgg252
 z212 := Tryz.sizeOf252
 v212 := Tryz.zeroValue252
 t213 := Tryz.underlying254
 a213 := Tryz.isAgg254
 z213 := Tryz.sizeOf254
 t232 := Tryz.underlying296
 a232 := Tryz.isAgg296
 z232 := Tryz.sizeOf296
 v232 := Tryz.zeroValue296
 t233 := Tryz.underlying297
 a233 := Tryz.isAgg297
 z233 := Tryz.sizeOf297
 v233 := Tryz.zeroValue297
 g17 := by kernel_rfl
 g18 := by kernel_rfl
 g19 := by kernel_rfl
 i0 := by kernel_rfl
 i2 := by kernel_rfl
 i3 := by kernel_rfl
 i4 := by kernel_rfl
 i5 := by kernel_rfl
 i9 := by kernel_rfl
 i20 := by kernel_rfl
 i37 := by kernel_rfl
 i46 := by kernel_rfl
 i51 := by kernel_rfl
 i53 := by kernel_rfl
 i171 := by kernel_rfl
 i173 := by kernel_rfl
 i212 := by kernel_rfl
 i232 := by kernel_rfl
 i233 := by kernel_rfl
 m17 := by kernel_rfl
 m18 := by kernel_rfl
 m19 := by kernel_rfl }
open Go.RowKit Go.Sort Go.Lib in
theorem Tryz.strconv_FormatInt_10 (n : Int) (h0 : -9223372036854775808 ≤ n) (h1 : n ≤ 9223372036854775807) (w : World) (htab : Lib.TabIs Tryz.prog w "internal/strconv.uint64pow10" .u64 Lib.pow10Tab) :
 Calls Tryz.prog 54 #[.int .i64 n, .int .i64 10] w fun e w' => e = .returned (.string ⟨(Lib.itoa n).toArray⟩) /\ ∃ k os, w' = grow (w.drewN k) os := Any.strconv_FormatInt_10 Tryz.laysM173 n h0 h1 w htab
def Tryz.laysC174_ren : Go.Shelf.Ren := ⟨fun | 174 => 53 | 247 => 99 | 245 => 100 | 287 => 149 | 279 => 150 | 280 => 151 | 281 => 152 | 282 => 153 | 321 => 186 | 322 => 187 | 316 => 188 | 171 => 163 | 205 => 189 | 243 => 201 | 246 => 101 | 283 => 154 | 284 => 155 | 285 => 156 | 286 => 157 | 129 => 191 | 317 => 190 | 318 => 192 | 319 => 193 | 320 => 194 | 337 => 207 | 338 => 208 | n => n, fun | 9 => 9 | 3 => 3 | 2 => 2 | 75 => 106 | 85 => 107 | 4 => 4 | 167 => 213 | 5 => 5 | 53 => 95 | 175 => 214 | 46 => 103 | 168 => 216 | 37 => 210 | 0 => 0 | 210 => 248 | 21 => 21 | 127 => 261 | 145 => 267 | 143 => 265 | 171 => 220 | 173 => 223 | 212 => 252 | 51 => 253 | 20 => 20 | 213 => 254 | 232 => 296 | 233 => 297 | 80 => 234 | n => n, fun | 15 => 0 | 16 => 1 | 17 => 2 | 18 => 4 | 19 => 5 | n => n⟩
theorem Tryz.laysC174 : Go.Proofs.LaysC.n174 Tryz.prog Tryz.laysC174_ren := {
 mixed := by kernel_rfl
 f129 := Tryz.func191.trans (congrArg some (by kernel_rfl))
 f171 := Tryz.func163.trans (congrArg some (by kernel_rfl))
 f174 := Tryz.func53.trans (congrArg some (by kernel_rfl))
 f205 := Tryz.func189.trans (congrArg some (by kernel_rfl))
 f243 := Tryz.func201.trans (congrArg some (by kernel_rfl))
 f245 := Tryz.func100.trans (congrArg some (by kernel_rfl))
 f246 := Tryz.func101.trans (congrArg some (by kernel_rfl))
 f247 := Tryz.func99.trans (congrArg some (by kernel_rfl))
 f279 := Tryz.func150.trans (congrArg some (by kernel_rfl))
 f280 := Tryz.func151.trans (congrArg some (by kernel_rfl))
 f281 := Tryz.func152.trans (congrArg some (by kernel_rfl))
 f282 := Tryz.func153.trans (congrArg some (by kernel_rfl))
 f283 := Tryz.func154.trans (congrArg some (by kernel_rfl))
 f284 := Tryz.func155.trans (congrArg some (by kernel_rfl))
 f285 := Tryz.func156.trans (congrArg some (by kernel_rfl))
 f286 := Tryz.func157.trans (congrArg some (by kernel_rfl))
 f287 := Tryz.func149.trans (congrArg some (by kernel_rfl))
 f316 := Tryz.func188.trans (congrArg some (by kernel_rfl))
 f317 := Tryz.func190.trans (congrArg some (by kernel_rfl))
 f318 := Tryz.func192.trans (congrArg some (by kernel_rfl))
 f319 := Tryz.func193.trans (congrArg some (by kernel_rfl))
 f320 := Tryz.func194.trans (congrArg some (by kernel_rfl))
 f321 := Tryz.func186.trans (congrArg some (by kernel_rfl))
 f322 := Tryz.func187.trans (congrArg some (by kernel_rfl))
 f337 := Tryz.func207.trans (congrArg some (by kernel_rfl))
 f338 := Tryz.func208.trans (congrArg some (by kernel_rfl))
 t0 := Tryz.underlying0
 a0 := Tryz.isAgg0
 z0 := Tryz.sizeOf0
 v0 := Tryz.zeroValue0
 t2 := Tryz.underlying2
 a2 := Tryz.isAgg2
 z2 := Tryz.sizeOf2
 v2 := Tryz.zeroValue2
 t3 := Tryz.underlying3
 a3 := Tryz.isAgg3
 z3 := Tryz.sizeOf3
 v3 := Tryz.zeroValue3
 t4 := Tryz.underlying4
 a4 := Tryz.isAgg4
 z4 := Tryz.sizeOf4
 v4 := Tryz.zeroValue4
 t5 := Tryz.underlying5
 a5 := Tryz.isAgg5
 z5 := Tryz.sizeOf5
 v5 := Tryz.zeroValue5
 t9 := Tryz.underlying9
 a9 := Tryz.isAgg9
 z9 := Tryz.sizeOf9
 v9 := Tryz.zeroValue9
 t20 := Tryz.underlying20
 a20 := Tryz.isAgg20
 z20 := Tryz.sizeOf20
 v20 := Tryz.zeroValue20
 t21 := Tryz.underlying21
 a21 := Tryz.isAgg21
 z21 := Tryz.sizeOf21
 v21 := Tryz.zeroValue21
 t37 := Tryz.underlying210
 a37 := Tryz.isAgg210
 z37 := Tryz.sizeOf210
 v37 := Tryz.zeroValue210
 t46 := Tryz.underlying103
 a46 := Tryz.isAgg103
 z46 := Tryz.sizeOf103
 v46 := Tryz.zeroValue103
 t51 := Tryz.underlying253
 a51 := Tryz.isAgg253
 z51 := Tryz.sizeOf253
 v51 := Tryz.zeroValue253
 t53 := Tryz.underlying95
 a53 := Tryz.isAgg95
 z53 := Tryz.sizeOf95
 v53 := Tryz.zeroValue95
 t75 := Tryz.underlying106
 a75 := Tryz.isAgg106
 z75 := Tryz.sizeOf106
 v75 := Tryz.zeroValue106
 t85 := Tryz.underlying107
 a85 := Tryz.isAgg107
 z85 := Tryz.sizeOf107
 v85 := Tryz.zeroValue107
 t127 := Tryz.underlying261
 a127 := Tryz.isAgg261
 z127 := Tryz.sizeOf261
 v127 := Tryz.zeroValue261
 t143 := Tryz.underlying265
 a143 := Tryz.isAgg265
 z143 := Tryz.sizeOf265
 v143 := Tryz.zeroValue265
 t145 := Tryz.underlying267
 a145 := Tryz.isAgg267
 z145 := Tryz.sizeOf267
 v145 := Tryz.zeroValue267
 t167 := Tryz.underlying213
 a167 := Tryz.isAgg213
 z167 := Tryz.sizeOf213
 v167 := Tryz.zeroValue213
 t168 := Tryz.underlying216
 a168 := Tryz.isAgg216
 z168 := Tryz.sizeOf216
 v168 := Tryz.zeroValue216
 t171 := Tryz.underlying220
 a171 := Tryz.isAgg220
 z171 := Tryz.sizeOf220
 v171 := Tryz.zeroValue220
 t173 := Tryz.underlying223
 a173 := Tryz.isAgg223
 z173 := Tryz.sizeOf223
 v173 := Tryz.zeroValue223
 t175 := Tryz.underlying214
 a175 := Tryz.isAgg214
 z175 := Tryz.sizeOf214
 v175 := Tryz.zeroValue214
 t210 := Tryz.underlying248
 a210 := Tryz.isAgg248
 z210 := Tryz.sizeOf248
 v210 := Tryz.zeroValue248
 t212 := Tryz.underlying252
 a212 := Tryz.isAgg252
 z212 := Tryz.sizeOf252
 v212 := Tryz.zeroValue252
 t213 := Tryz.underlying254
 a213 := Tryz.isAgg254
 z213 := Tryz.sizeOf254
 t232 := Tryz.underlying296
 a232 := Tryz.isAgg296
 z232 := Tryz.sizeOf296
 v232 := Tryz.zeroValue296
 t233 := Tryz.underlying297
 a233 := Tryz.isAgg297
 z233 := Tryz.sizeOf297
 v233 := Tryz.zeroValue297
 g15 := by kernel_rfl
 g16 := by kernel_rfl
 g17 := by kernel_rfl
 g18 := by kernel_rfl
 g19 := by kernel_rfl
 t80 := Tryz.underlying234
 a80 := Tryz.isAgg234
 z80 := Tryz.sizeOf234
 v80 := Tryz.zeroValue234
 i0 := by kernel_rfl
 i2 := by kernel_rfl
 i3 := by kernel_rfl
 i4 := by kernel_rfl
 i5 := by kernel_rfl
 i9 := by kernel_rfl
 i20 := by kernel_rfl
 i21 := by kernel_rfl
 i37 := by kernel_rfl
 i46 := by kernel_rfl
 i51 := by kernel_rfl
 i53 := by kernel_rfl
 i75 := by kernel_rfl
 i80 := by kernel_rfl
 i85 := by kernel_rfl
 i127 := by kernel_rfl
 i143 := by kernel_rfl
 i145 := by kernel_rfl
 i167 := by kernel_rfl
 i168 := by kernel_rfl
 i171 := by kernel_rfl
 i173 := by kernel_rfl
 i175 := by kernel_rfl
 i210 := by kernel_rfl
 i212 := by kernel_rfl
 i232 := by kernel_rfl
 i233 := by kernel_rfl
 m15 := by kernel_rfl
 m16 := by kernel_rfl
 m17 := by kernel_rfl
 m18 := by kernel_rfl
 m19 := by kernel_rfl
 c0 := by kernel_rfl
 c2 := by kernel_rfl
 c3 := by kernel_rfl
 c4 := by kernel_rfl
 c5 := by kernel_rfl
 c9 := by kernel_rfl
 c20 := by kernel_rfl
 c21 := by kernel_rfl
 c37 := by kernel_rfl
 c46 := by kernel_rfl
 c51 := by kernel_rfl
 c53 := by kernel_rfl
 c75 := by kernel_rfl
 c80 := by kernel_rfl
 c85 := by kernel_rfl
 c127 := by kernel_rfl
 c143 := by kernel_rfl
 c145 := by kernel_rfl
 c167 := by kernel_rfl
 c168 := by kernel_rfl
 c171 := by kernel_rfl
 c173 := by kernel_rfl
 c175 := by kernel_rfl
 c210 := by kernel_rfl
 c212 := by kernel_rfl
 c213 := by kernel_rfl
 c232 := by kernel_rfl
 c233 := by kernel_rfl }
open Go.RowKit in
theorem Tryz.strconv_ParseInt_10_at64_ok (s : ByteArray) (hmax : s.size ≤ 9223372036854775806) (v : Int) (h : Lib.parseIntB 64 s.data.toList = .ok v) (w : World) :
 Calls Tryz.prog 53 #[.string s, .int .i64 10, .int .i64 64] w fun e w' => e = .returned (.tuple #[.int .i64 v, .nilIface]) /\ (w' = w \/ ∃ t, w' = Lib.bytesWorld w 5 t) := Any.strconv_ParseInt_10_at64_ok Tryz.laysC174 s hmax v h w
open Go.RowKit in
theorem Tryz.strconv_ParseInt_10_at64_syntax_var (s : ByteArray) (hlim : s.size ≤ 281474976710656) (h : Lib.parseIntB 64 s.data.toList = .«syntax») (tp : TypeId) (p : Value) (w : World) (hvar : w.var? Tryz.prog "strconv.ErrSyntax" = some #[.iface tp p]) :
 Calls Tryz.prog 53 #[.string s, .int .i64 10, .int .i64 64] w fun e w' => ∃ N, e = .returned (.tuple #[.int .i64 (0), .iface 216 (.pointer (some ⟨N, 0, none⟩))]) /\ w.heap.size ≤ N /\ w'.heap[N]? = some (.cells #[.string ⟨#[80, 97, 114, 115, 101, 73, 110, 116]⟩, .string s, .iface tp p] 248 (0, 0)) /\ Below w.heap.size w w' := Any.strconv_ParseInt_10_at64_syntax_var Tryz.laysC174 s hlim h tp p w hvar
open Go.RowKit in
theorem Tryz.strconv_ParseInt_10_at64_range_var (s : ByteArray) (hlim : s.size ≤ 281474976710656) (h : Lib.parseIntB 64 s.data.toList = .range) (tp : TypeId) (p : Value) (w : World) (hvar : w.var? Tryz.prog "strconv.ErrRange" = some #[.iface tp p]) :
 Calls Tryz.prog 53 #[.string s, .int .i64 10, .int .i64 64] w fun e w' => ∃ N, e = .returned (.tuple #[.int .i64 (Lib.intSat 64 s.data.toList), .iface 216 (.pointer (some ⟨N, 0, none⟩))]) /\ w.heap.size ≤ N /\ w'.heap[N]? = some (.cells #[.string ⟨#[80, 97, 114, 115, 101, 73, 110, 116]⟩, .string s, .iface tp p] 248 (0, 0)) /\ Below w.heap.size w w' := Any.strconv_ParseInt_10_at64_range_var Tryz.laysC174 s hlim h tp p w hvar
def Tryz.lays212_ren : Go.Shelf.Ren := ⟨fun | 212 => 199 | 263 => 216 | 264 => 217 | n => n, fun | 46 => 103 | 51 => 253 | 146 => 290 | 53 => 95 | 148 => 101 | n => n, fun | n => n⟩
theorem Tryz.lays212 : Go.Proofs.Lays.n212 Tryz.prog Tryz.lays212_ren := {
 mixed := by kernel_rfl
 f212 := Tryz.func199.trans (congrArg some (by kernel_rfl))
 f263 := Tryz.func216.trans (congrArg some (by kernel_rfl))
 f264 := Tryz.func217.trans (congrArg some (by kernel_rfl))
 t46 := Tryz.underlying103
 a46 := Tryz.isAgg103
 z46 := Tryz.sizeOf103
 v46 := Tryz.zeroValue103
 t51 := Tryz.underlying253
 a51 := Tryz.isAgg253
 z51 := Tryz.sizeOf253
 v51 := Tryz.zeroValue253
 t53 := Tryz.underlying95
 a53 := Tryz.isAgg95
 z53 := Tryz.sizeOf95
 v53 := Tryz.zeroValue95
 t146 := Tryz.underlying290
 a146 := Tryz.isAgg290
 z146 := Tryz.sizeOf290
 v146 := Tryz.zeroValue290
 t148 := Tryz.underlying101
 a148 := Tryz.isAgg101
 z148 := Tryz.sizeOf101
 v148 := Tryz.zeroValue101 }
open Go.RowKit Go.Lib in
theorem Tryz.bits_Mul (x y : Nat) (hx : x < 18446744073709551616) (hy : y < 18446744073709551616) (w : World) :
 Calls Tryz.prog 199 #[.int .u64 x, .int .u64 y] w fun e w' => e = .returned (.tuple #[.int .u64 ((x * y / 18446744073709551616 : Nat) : Int), .int .u64 ((x * y % 18446744073709551616 : Nat) : Int)]) /\ w' = w := Any.bits_Mul Tryz.lays212 x y hx hy w
def Tryz.laysSlF6_f250_ren : Go.Shelf.Ren := ⟨fun | 6 => 250 | 15 => 258 | 14 => 257 | 28 => 268 | 29 => 191 | 20 => 260 | 21 => 261 | 22 => 262 | 23 => 263 | 24 => 264 | 25 => 265 | 26 => 266 | 27 => 267 | 46 => 271 | 47 => 272 | 48 => 273 | 49 => 274 | 50 => 275 | 57 => 276 | n => n, fun | 22 => 51 | 24 => 66 | 25 => 132 | 3 => 3 | 39 => 103 | 0 => 0 | 53 => 253 | 55 => 95 | 4 => 4 | 46 => 334 | 45 => 333 | 50 => 71 | 5 => 5 | 9 => 9 | 66 => 340 | 70 => 344 | 76 => 346 | 77 => 347 | n => n, fun | n => n⟩
theorem Tryz.laysSlF6_f250 : Go.Proofs.SlLaysF.n6 Tryz.prog Tryz.laysSlF6_f250_ren := {
 mixed := by kernel_rfl
 f6 := ⟨Tryz.f250.name, by decide, Tryz.func250.trans (congrArg some (by kernel_rfl))⟩
 f14 := ⟨Tryz.f257.name, by decide, Tryz.func257.trans (congrArg some (by kernel_rfl))⟩
 f15 := Tryz.func258.trans (congrArg some (by kernel_rfl))
 f20 := ⟨Tryz.f260.name, by decide, Tryz.func260.trans (congrArg some (by kernel_rfl))⟩
 f21 := ⟨Tryz.f261.name, by decide, Tryz.func261.trans (congrArg some (by kernel_rfl))⟩
 f22 := ⟨Tryz.f262.name, by decide, Tryz.func262.trans (congrArg some (by kernel_rfl))⟩
 f23 := ⟨Tryz.f263.name, by decide, Tryz.func263.trans (congrArg some (by kernel_rfl))⟩
 f24 := ⟨Tryz.f264.name, by decide, Tryz.func264.trans (congrArg some (by kernel_rfl))⟩
 f25 := ⟨Tryz.f265.name, by decide, Tryz.func265.trans (congrArg some (by kernel_rfl))⟩
 f26 := ⟨Tryz.f266.name, by decide, Tryz.func266.trans (congrArg some (by kernel_rfl))⟩
 f27 := ⟨Tryz.f267.name, by decide, Tryz.func267.trans (congrArg some (by kernel_rfl))⟩
 f28 := Tryz.func268.trans (congrArg some (by kernel_rfl))
 f29 := Tryz.func191.trans (congrArg some (by kernel_rfl))
 f46 := ⟨Tryz.f271.name, by decide, Tryz.func271.trans (congrArg some (by kernel_rfl))⟩
 f47 := Tryz.func272.trans (congrArg some (by kernel_rfl))
 f48 := Tryz.func273.trans (congrArg some (by kernel_rfl))
 f49 := ⟨Tryz.f274.name, by decide, Tryz.func274.trans (congrArg some (by kernel_rfl))⟩
 f50 := ⟨Tryz.f275.name, by decide, Tryz.func275.trans (congrArg some (by kernel_rfl))⟩
 f57 := ⟨Tryz.f276.name, by decide, Tryz.func276.trans (congrArg some (by kernel_rfl))⟩
 t0 := Tryz.underlying0
 a0 := Tryz.isAgg0
 z0 := Tryz.sizeOf0
 v0 := Tryz.zeroValue0
 t3 := Tryz.underlying3
 a3 := Tryz.isAgg3
 z3 := Tryz.sizeOf3
 v3 := Tryz.zeroValue3
 t4 := Tryz.underlying4
 a4 := Tryz.isAgg4
 z4 := Tryz.sizeOf4
 v4 := Tryz.zeroValue4
 t5 := Tryz.underlying5
 a5 := Tryz.isAgg5
 z5 := Tryz.sizeOf5
 v5 := Tryz.zeroValue5
 t9 := Tryz.underlying9
 a9 := Tryz.isAgg9
 z9 := Tryz.sizeOf9
 v9 := Tryz.zeroValue9
 t22 := Tryz.underlying51
 a22 := Tryz.isAgg51
 z22 := Tryz.sizeOf51
 v22 := Tryz.zeroValue51
 a24 := Tryz.isAgg66
 z24 := Tryz.sizeOf66
 t25 := Tryz.underlying132
 a25 := Tryz.isAgg132
 z25 := Tryz.sizeOf132
 v25 := Tryz.zeroValue132
 t39 := Tryz.underlying103
 a39 := Tryz.isAgg103
 z39 := Tryz.sizeOf103
 v39 := Tryz.zeroValue103
 t45 := Tryz.underlying333
 a45 := Tryz.isAgg333
 z45 := Tryz.sizeOf333
 v45 := Tryz.zeroValue333
 t46 := Tryz.underlying334
 a46 := Tryz.isAgg334
 z46 := Tryz.sizeOf334
 v46 := Tryz.zeroValue334
 t50 := Tryz.underlying71
 a50 := Tryz.isAgg71
 z50 := Tryz.sizeOf71
 v50 := Tryz.zeroValue71
 t53 := Tryz.underlying253
 a53 := Tryz.isAgg253
 z53 := Tryz.sizeOf253
 v53 := Tryz.zeroValue253
 t55 := Tryz.underlying95
 a55 := Tryz.isAgg95
 z55 := Tryz.sizeOf95
 v55 := Tryz.zeroValue95
 t66 := Tryz.underlying340
 a66 := Tryz.isAgg340
 z66 := Tryz.sizeOf340
 v66 := Tryz.zeroValue340
 t70 := Tryz.underlying344
 a70 := Tryz.isAgg344
 z70 := Tryz.sizeOf344
 v70 := Tryz.zeroValue344
 t76 := Tryz.underlying346
 a76 := Tryz.isAgg346
 z76 := Tryz.sizeOf346
 v76 := Tryz.zeroValue346
 t77 := Tryz.underlying347
 a77 := Tryz.isAgg347
 z77 := Tryz.sizeOf347
 v77 := Tryz.zeroValue347 }
def Tryz.laysSlF06_f250_ren : Go.Shelf.Ren := ⟨fun | 6 => 250 | 15 => 258 | 14 => 257 | 28 => 268 | 29 => 191 | 20 => 260 | 21 => 261 | 22 => 262 | 23 => 263 | 24 => 264 | 25 => 265 | 26 => 266 | 27 => 267 | 46 => 271 | 47 => 272 | 48 => 273 | 49 => 274 | 50 => 275 | 57 => 276 | n => n, fun | 22 => 51 | 24 => 66 | 25 => 132 | 3 => 3 | 39 => 103 | 0 => 0 | 53 => 253 | 55 => 95 | 4 => 4 | 46 => 334 | 45 => 333 | 50 => 71 | 5 => 5 | 9 => 9 | 66 => 340 | 70 => 344 | 76 => 346 | 77 => 347 | n => n, fun | n => n⟩
theorem Tryz.laysSlF06_f250 : Go.Proofs.SlLaysF0.n6 Tryz.prog Tryz.laysSlF06_f250_ren := {
 mixed := by kernel_rfl
 f6 := ⟨Tryz.f250.name, by decide, Tryz.func250.trans (congrArg some (by kernel_rfl))⟩
 f14 := ⟨Tryz.f257.name, by decide, Tryz.func257.trans (congrArg some (by kernel_rfl))⟩
 f15 := Tryz.func258.trans (congrArg some (by kernel_rfl))
 f20 := ⟨Tryz.f260.name, by decide, Tryz.func260.trans (congrArg some (by kernel_rfl))⟩
 f21 := ⟨Tryz.f261.name, by decide, Tryz.func261.trans (congrArg some (by kernel_rfl))⟩
 f22 := ⟨Tryz.f262.name, by decide, Tryz.func262.trans (congrArg some (by kernel_rfl))⟩
 f23 := ⟨Tryz.f263.name, by decide, Tryz.func263.trans (congrArg some (by kernel_rfl))⟩
 f24 := ⟨Tryz.f264.name, by decide, Tryz.func264.trans (congrArg some (by kernel_rfl))⟩
 f25 := ⟨Tryz.f265.name, by decide, Tryz.func265.trans (congrArg some (by kernel_rfl))⟩
 f26 := ⟨Tryz.f266.name, by decide, Tryz.func266.trans (congrArg some (by kernel_rfl))⟩
 f27 := ⟨Tryz.f267.name, by decide, Tryz.func267.trans (congrArg some (by kernel_rfl))⟩
 f28 := Tryz.func268.trans (congrArg some (by kernel_rfl))
 f29 := Tryz.func191.trans (congrArg some (by kernel_rfl))
 f46 := ⟨Tryz.f271.name, by decide, Tryz.func271.trans (congrArg some (by kernel_rfl))⟩
 f47 := Tryz.func272.trans (congrArg some (by kernel_rfl))
 f48 := Tryz.func273.trans (congrArg some (by kernel_rfl))
 f49 := ⟨Tryz.f274.name, by decide, Tryz.func274.trans (congrArg some (by kernel_rfl))⟩
 f50 := ⟨Tryz.f275.name, by decide, Tryz.func275.trans (congrArg some (by kernel_rfl))⟩
 f57 := ⟨Tryz.f276.name, by decide, Tryz.func276.trans (congrArg some (by kernel_rfl))⟩
 t0 := Tryz.underlying0
 a0 := Tryz.isAgg0
 z0 := Tryz.sizeOf0
 v0 := Tryz.zeroValue0
 t3 := Tryz.underlying3
 a3 := Tryz.isAgg3
 z3 := Tryz.sizeOf3
 v3 := Tryz.zeroValue3
 t4 := Tryz.underlying4
 a4 := Tryz.isAgg4
 z4 := Tryz.sizeOf4
 v4 := Tryz.zeroValue4
 t5 := Tryz.underlying5
 a5 := Tryz.isAgg5
 z5 := Tryz.sizeOf5
 v5 := Tryz.zeroValue5
 t9 := Tryz.underlying9
 a9 := Tryz.isAgg9
 z9 := Tryz.sizeOf9
 v9 := Tryz.zeroValue9
 t22 := Tryz.underlying51
 a22 := Tryz.isAgg51
 z22 := Tryz.sizeOf51
 v22 := Tryz.zeroValue51
 t25 := Tryz.underlying132
 a25 := Tryz.isAgg132
 z25 := Tryz.sizeOf132
 v25 := Tryz.zeroValue132
 t39 := Tryz.underlying103
 a39 := Tryz.isAgg103
 z39 := Tryz.sizeOf103
 v39 := Tryz.zeroValue103
 t45 := Tryz.underlying333
 a45 := Tryz.isAgg333
 z45 := Tryz.sizeOf333
 v45 := Tryz.zeroValue333
 t46 := Tryz.underlying334
 a46 := Tryz.isAgg334
 z46 := Tryz.sizeOf334
 v46 := Tryz.zeroValue334
 t50 := Tryz.underlying71
 a50 := Tryz.isAgg71
 z50 := Tryz.sizeOf71
 v50 := Tryz.zeroValue71
 t53 := Tryz.underlying253
 a53 := Tryz.isAgg253
 z53 := Tryz.sizeOf253
 v53 := Tryz.zeroValue253
 t55 := Tryz.underlying95
 a55 := Tryz.isAgg95
 z55 := Tryz.sizeOf95
 v55 := Tryz.zeroValue95
 t66 := Tryz.underlying340
 a66 := Tryz.isAgg340
 z66 := Tryz.sizeOf340
 v66 := Tryz.zeroValue340
 t70 := Tryz.underlying344
 a70 := Tryz.isAgg344
 z70 := Tryz.sizeOf344
 v70 := Tryz.zeroValue344
 t76 := Tryz.underlying346
 a76 := Tryz.isAgg346
 z76 := Tryz.sizeOf346
 v76 := Tryz.zeroValue346
 t77 := Tryz.underlying347
 a77 := Tryz.isAgg347
 z77 := Tryz.sizeOf347
 v77 := Tryz.zeroValue347 }
def Tryz.lays25_ren : Go.Shelf.Ren := ⟨fun | 25 => 51 | n => n, fun | 22 => 95 | n => n, fun | n => n⟩
theorem Tryz.lays25 : Go.Proofs.Lays7.n25 Tryz.prog Tryz.lays25_ren := {
 mixed := by kernel_rfl
 f25 := Tryz.func51.trans (congrArg some (by kernel_rfl))
 t22 := Tryz.underlying95
 a22 := Tryz.isAgg95
 z22 := Tryz.sizeOf95
 v22 := Tryz.zeroValue95
 i22 := by kernel_rfl }
def Tryz.lays166_ren : Go.Shelf.Ren := ⟨fun | 166 => 162 | 240 => 200 | 276 => 218 | n => n, fun | 0 => 0 | 3 => 3 | 4 => 4 | 5 => 5 | 9 => 9 | 20 => 20 | 37 => 210 | 70 => 228 | 72 => 230 | 75 => 106 | 80 => 234 | 164 => 293 | n => n, fun | n => n⟩
theorem Tryz.lays166 : Go.Proofs.Lays.n166 Tryz.prog Tryz.lays166_ren := {
 mixed := by kernel_rfl
 f166 := Tryz.func162.trans (congrArg some (by kernel_rfl))
 f240 := Tryz.func200.trans (congrArg some (by kernel_rfl))
 f276 := Tryz.func218.trans (congrArg some (by kernel_rfl))
 t0 := Tryz.underlying0
 a0 := Tryz.isAgg0
 z0 := Tryz.sizeOf0
 v0 := Tryz.zeroValue0
 t3 := Tryz.underlying3
 a3 := Tryz.isAgg3
 z3 := Tryz.sizeOf3
 v3 := Tryz.zeroValue3
 t4 := Tryz.underlying4
 a4 := Tryz.isAgg4
 z4 := Tryz.sizeOf4
 v4 := Tryz.zeroValue4
 t9 := Tryz.underlying9
 a9 := Tryz.isAgg9
 z9 := Tryz.sizeOf9
 v9 := Tryz.zeroValue9
 t20 := Tryz.underlying20
 a20 := Tryz.isAgg20
 z20 := Tryz.sizeOf20
 v20 := Tryz.zeroValue20
 t37 := Tryz.underlying210
 a37 := Tryz.isAgg210
 z37 := Tryz.sizeOf210
 v37 := Tryz.zeroValue210
 t70 := Tryz.underlying228
 a70 := Tryz.isAgg228
 z70 := Tryz.sizeOf228
 v70 := Tryz.zeroValue228
 t72 := Tryz.underlying230
 a72 := Tryz.isAgg230
 z72 := Tryz.sizeOf230
 v72 := Tryz.zeroValue230
 t75 := Tryz.underlying106
 a75 := Tryz.isAgg106
 z75 := Tryz.sizeOf106
 v75 := Tryz.zeroValue106
 t164 := Tryz.underlying293
 a164 := Tryz.isAgg293
 z164 := Tryz.sizeOf293
 v164 := Tryz.zeroValue293 }
def Tryz.lays167_ren : Go.Shelf.Ren := ⟨fun | 167 => 164 | 240 => 200 | 276 => 218 | n => n, fun | 0 => 0 | 4 => 4 | 5 => 5 | 9 => 9 | 20 => 20 | 37 => 210 | 70 => 228 | 72 => 230 | 75 => 106 | 80 => 234 | 164 => 293 | n => n, fun | n => n⟩
theorem Tryz.lays167 : Go.Proofs.Lays.n167 Tryz.prog Tryz.lays167_ren := {
 mixed := by kernel_rfl
 f167 := Tryz.func164.trans (congrArg some (by kernel_rfl))
 f240 := Tryz.func200.trans (congrArg some (by kernel_rfl))
 f276 := Tryz.func218.trans (congrArg some (by kernel_rfl))
 t0 := Tryz.underlying0
 a0 := Tryz.isAgg0
 z0 := Tryz.sizeOf0
 v0 := Tryz.zeroValue0
 t4 := Tryz.underlying4
 a4 := Tryz.isAgg4
 z4 := Tryz.sizeOf4
 v4 := Tryz.zeroValue4
 t5 := Tryz.underlying5
 a5 := Tryz.isAgg5
 z5 := Tryz.sizeOf5
 v5 := Tryz.zeroValue5
 t9 := Tryz.underlying9
 a9 := Tryz.isAgg9
 z9 := Tryz.sizeOf9
 v9 := Tryz.zeroValue9
 t20 := Tryz.underlying20
 a20 := Tryz.isAgg20
 z20 := Tryz.sizeOf20
 v20 := Tryz.zeroValue20
 t37 := Tryz.underlying210
 a37 := Tryz.isAgg210
 z37 := Tryz.sizeOf210
 v37 := Tryz.zeroValue210
 t70 := Tryz.underlying228
 a70 := Tryz.isAgg228
 z70 := Tryz.sizeOf228
 v70 := Tryz.zeroValue228
 t72 := Tryz.underlying230
 a72 := Tryz.isAgg230
 z72 := Tryz.sizeOf230
 v72 := Tryz.zeroValue230
 t75 := Tryz.underlying106
 a75 := Tryz.isAgg106
 z75 := Tryz.sizeOf106
 v75 := Tryz.zeroValue106
 t164 := Tryz.underlying293
 a164 := Tryz.isAgg293
 z164 := Tryz.sizeOf293
 v164 := Tryz.zeroValue293 }
theorem Tryz.Builder_Extra_166 : Builder.Extra Tryz.prog Tryz.lays166_ren := {
 sizeBuilder := by kernel_rfl
 liesBuilder := by kernel_rfl
 t5 := Tryz.underlying5
 a5 := Tryz.isAgg5
 z5 := Tryz.sizeOf5
 v5 := Tryz.zeroValue5
 infoByte := by kernel_rfl
 cellsByte := by kernel_rfl
 sizeByte := by kernel_rfl
 neB5 := by decide }
theorem Tryz.Builder_Extra_167 : Builder.Extra Tryz.prog Tryz.lays167_ren := {
 sizeBuilder := by kernel_rfl
 liesBuilder := by kernel_rfl
 t5 := Tryz.underlying5
 a5 := Tryz.isAgg5
 z5 := Tryz.sizeOf5
 v5 := Tryz.zeroValue5
 infoByte := by kernel_rfl
 cellsByte := by kernel_rfl
 sizeByte := by kernel_rfl
 neB5 := by decide }
open Go.RowKit in
theorem Tryz.Builder_WriteByte (B b : Nat) (bs : List Value) (c : Int) (w : World) (h : Lib.IsBuilder 230 5 B b bs w) (hlen : bs.length + 1 ≤ 140737488355328) (hBw : B ≤ w.heap.size) :
 Calls Tryz.prog 164 #[.pointer (some ⟨b, 0, none⟩), .int .u8 c] w fun e w' => e = .returned .nilIface /\ (Lib.BuilderAt 230 5 B b (.pointer (some ⟨b, 0, none⟩)) (bs ++ [.int .u8 c]) w' /\ Below B w w') := Any.Builder_WriteByte Tryz.lays167 Tryz.Builder_Extra_167 B b bs c w h hlen hBw
open Go.RowKit in
theorem Tryz.Builder_WriteString (B b : Nat) (bs : List Value) (s : ByteArray) (w : World) (h : Lib.IsBuilder 230 5 B b bs w) (hlen : bs.length + s.size ≤ 140737488355328) (hBw : B ≤ w.heap.size) :
 Calls Tryz.prog 162 #[.pointer (some ⟨b, 0, none⟩), .string s] w fun e w' => e = .returned (.tuple #[.int .i64 s.size, .nilIface]) /\ (Lib.BuilderAt 230 5 B b (.pointer (some ⟨b, 0, none⟩)) (bs ++ Lib.strCells s) w' /\ Below B w w') := Any.Builder_WriteString Tryz.lays166 Tryz.Builder_Extra_166 B b bs s w h hlen hBw
end Go.Proofs
namespace Go.Proofs.YtikgpedgmnbcaaaGreatDoor
section
open Go.RowKit
theorem yN {P : Program} {n : String} {cs : Array Value} {w w' : World} (h : w.var? P n = some cs) (hk : Ext w w') : w'.var? P n = some cs := by
 unfold World.var? at h ⊢
 cases hg : P.globalNamed n with
 | none => rw [hg] at h; cases h
 | some g =>
  rw [hg] at h
  simp only [Option.bind_some] at h ⊢
  have hlt : g < w.heap.size := by
   rcases Nat.lt_or_ge g w.heap.size with h' | h'
   ·exact h'
   ·rw [Array.getElem?_eq_none h'] at h; cases h
  rw [hk.block g hlt id]
  exact h
structure NumW (w : World) : Prop where
 tab : Lib.TabIs Tryz.prog w "internal/strconv.uint64pow10" .u64 Lib.pow10Tab
 esyn : ∃ tp p, w.var? Tryz.prog "strconv.ErrSyntax" = some #[.iface tp p]
 erng : ∃ tp p, w.var? Tryz.prog "strconv.ErrRange" = some #[.iface tp p]
theorem NumW.ext {w w' : World} (h : NumW w) (hk : Ext w w') : NumW w' := by
 obtain ⟨h1, ⟨a, b, h2⟩, ⟨c, d, h3⟩⟩ := h
 exact ⟨yN h1 hk, ⟨a, b, yN h2 hk⟩, ⟨c, d, yN h3 hk⟩⟩
theorem aCj (w : World) (os : Array Obj) : Ext w (Go.Sort.grow w os) := ⟨rfl, rfl, rfl, by simp, fun k hk _ => Go.Sort.heap_grow_old w os hk⟩
theorem lQ (n : Int) (h0 : -9223372036854775808 ≤ n) (h1 : n ≤ 9223372036854775807) (w : World) (hN : NumW w) :
 Calls Tryz.prog 17 #[.int .i64 n] w (RetN w fun w' v => v = .string ⟨(Lib.itoa n).toArray⟩) := by
 have HF := qH (Go.Proofs.Tryz.strconv_FormatInt_10 n h0 h1 w hN.tab)
 clear hN
 go_enter Tryz.func17, Tryz.ntmps17
 go_wp2_with fail
 refine HF.out.mono ?_
 rintro e w' ⟨rfl, k, os, rfl⟩
 have hk : Ext w (Go.Sort.grow (w.drewN k) os) := ((Kp.refl w).drewN k).trans (aCj _ _)
 generalize Go.Sort.grow (w.drewN k) os = w1 at hk ⊢
 have HK := qH hk; clear hk
 go_wp2
 go_ret
 exact RetN.mk HK.out rfl
theorem aAj {a b : ByteArray} (h : a.toList = b.toList) : a = b := by
 rw [ByteArray.toList_eq, ByteArray.toList_eq] at h
 exact ByteArray.ext (Array.toList_inj.1 h)
theorem rR {l : List UInt8} (h : Lib.parseIntB 64 l = Lib.NumEnd.syntax \/ Lib.parseIntB 64 l = .range) : cS l = (0, false) := by
 unfold cS; rcases h with h | h <;> rw [h]
set_option maxHeartbeats 1000000 in
theorem aEe (s : ByteArray) (hs : s.size ≤ 281474976710656) (w : World) (hN : NumW w) :
 Calls Tryz.prog 16 #[.string s] w (RetN w fun w' v => v = .tuple #[.int .i64 (cS s.data.toList).1, .bool (cS s.data.toList).2]) := by
 have hq0 : ∀ w : World, (binOp .neq 106 .nilIface .nilIface).run Tryz.prog w = .ok (.bool false) w := fun _ => by kernel_rfl
 have hq1 : ∀ (N : Nat) (w : World), (binOp .neq 106 (.iface 216 (.pointer (some ⟨N, 0, none⟩))) .nilIface).run Tryz.prog w = .ok (.bool true) w := fun _ _ => by kernel_rfl
 cases hp : Lib.parseIntB 64 s.data.toList with
 | ok v =>
  have hb := Lib.parseIntB_bounds hp
  have HP := qH (Go.Proofs.Tryz.strconv_ParseInt_10_at64_ok s (by omega) v hp w)
  have hb0 : -9223372036854775808 ≤ v := by have := hb.1; omega
  have hb1 : v ≤ 9223372036854775807 := by have := hb.2; omega
  have HW := qH (fun w1 (hw : Ext w w1) => lQ v hb0 hb1 w1 (hN.ext hw))
  obtain ⟨x, ex⟩ : ∃ x : ByteArray, x = ⟨(Lib.itoa v).toArray⟩ := ⟨_, rfl⟩
  rw [<- ex] at HW
  by_cases he : x = s
  ·have hsp : cS s.data.toList = (v, true) := by
    unfold cS; rw [hp]
    simp only
    rw [if_pos (by rw [<- he, ex])]
   have HSP := qH hsp
   have e' : (!(x.toList == s.toList)) = false := by rw [he]; simp
   clear hb hN hsp he ex hp
   go_enter Tryz.func16, Tryz.ntmps16
   go_wp2_with fail
   refine HP.out.mono ?_
   rintro e w1 ⟨rfl, hw1⟩
   have hk : Ext w w1 := by
    rcases hw1 with rfl | ⟨t, rfl⟩
    ·exact Kp.refl _
    ·exact Kp.of_below (Lib.bytesWorld_below w 5 t)
   clear hw1
   go_wp2_with fail
   refine (HW.out w1 hk).mono ?_
   rintro e w2 ⟨v2, rfl, hk2, rfl⟩
   have HK := qH (hk.trans hk2); clear hk hk2
   go_wp2
   go_ret2
   exact RetN.mk HK.out (by rw [HSP.out]; rfl)
  ·have hsp : cS s.data.toList = (0, false) := by
    unfold cS; rw [hp]
    simp only
    rw [if_neg (fun h => he (by rw [ex, h]))]
   have HSP := qH hsp
   have e' : (!(x.toList == s.toList)) = true := by
    cases h : (x.toList == s.toList)
    ·rfl
    ·exact absurd (aAj (eq_of_beq h)) he
   clear hb hN hsp he ex hp
   go_enter Tryz.func16, Tryz.ntmps16
   go_wp2_with fail
   refine HP.out.mono ?_
   rintro e w1 ⟨rfl, hw1⟩
   have hk : Ext w w1 := by
    rcases hw1 with rfl | ⟨t, rfl⟩
    ·exact Kp.refl _
    ·exact Kp.of_below (Lib.bytesWorld_below w 5 t)
   clear hw1
   go_wp2_with fail
   refine (HW.out w1 hk).mono ?_
   rintro e w2 ⟨v2, rfl, hk2, rfl⟩
   have HK := qH (hk.trans hk2); clear hk hk2
   go_wp2
   go_ret2
   exact RetN.mk HK.out (by rw [HSP.out]; rfl)
 | range =>
  obtain ⟨tp, p, hv⟩ := hN.erng
  have HP := qH (Go.Proofs.Tryz.strconv_ParseInt_10_at64_range_var s hs hp tp p w hv)
  have HSP := qH (rR (.inr hp))
  clear hN hv hp
  go_enter Tryz.func16, Tryz.ntmps16
  go_wp2_with fail
  refine HP.out.mono ?_
  rintro e w1 ⟨N, rfl, _, _, hbel⟩
  have hk := Kp.of_below hbel
  have HK := qH hk; clear hk hbel
  have hq := hq1 N
  go_wp2
  go_ret2
  exact RetN.mk HK.out (by rw [HSP.out]; rfl)
 | _ =>
  obtain ⟨tp, p, hv⟩ := hN.esyn
  have HP := qH (Go.Proofs.Tryz.strconv_ParseInt_10_at64_syntax_var s hs hp tp p w hv)
  have HSP := qH (rR (.inl hp))
  clear hN hv hp
  go_enter Tryz.func16, Tryz.ntmps16
  go_wp2_with fail
  refine HP.out.mono ?_
  rintro e w1 ⟨N, rfl, _, _, hbel⟩
  have hk := Kp.of_below hbel
  have HK := qH hk; clear hk hbel
  have hq := hq1 N
  go_wp2
  go_ret2
  exact RetN.mk HK.out (by rw [HSP.out]; rfl)
def Same (S : Nat -> Prop) (w0 w : World) : Prop := ∀ k, S k -> k < w0.heap.size /\ w.heap[k]? = w0.heap[k]?
section
variable {S S' : Nat -> Prop} {w0 w w' : World}
theorem Same.refl (h : ∀ k, S k -> k < w.heap.size) : Same S w w := fun k hk => ⟨h k hk, rfl⟩
theorem Same.trans (h : Same S w0 w) (h' : Same S w w') : Same S w0 w' := fun k hk => ⟨(h k hk).1, (h' k hk).2.trans (h k hk).2⟩
theorem Kp.same {F : Nat -> Prop} (h : Kp F w w') (hS : ∀ k, S k -> k < w.heap.size) (hd : ∀ k, S k -> ¬ F k) : Same S w w' := fun k hk => ⟨hS k hk, h.block k (hS k hk) (hd k hk)⟩
end
theorem Row.lt {w : World} {e : TypeId} {k : Nat} {v : Value} {n : Nat} {xs : List Value} {M : Nat -> Prop} (h : Row w e k v n xs M) : ∀ g, v.ownBlock = some g -> g < w.heap.size := by
 obtain ⟨_, ⟨rfl, _⟩ | ⟨g, cap, rest, rfl, _, hb, _⟩⟩ := h
 ·intro g hg; cases hg
 ·intro g' hg
  have e : g = g' := Option.some.inj hg
  rw [<- e]; exact hb.lt
theorem aI (w : World) (o : Obj) : (w.alloc o).heap.size = w.heap.size + 1 := by simp
def bN (b : Nat) (iv : Value) (k : Nat) : Prop := k = b \/ iv.ownBlock = some k
end
section
open Go.RowKit
attribute [local go_sem] Oper.semAt_some
def jH (row : List ByteArray) : List UInt8 := row.flatMap fun s => Lib.itoa s.size ++ 32 :: s.data.toList
def oA (row : List ByteArray) : ByteArray := ⟨(jH row).toArray⟩
theorem aHe (row : List ByteArray) (s : ByteArray) : jH (row ++ [s]) = jH row ++ Lib.itoa s.size ++ [32] ++ s.data.toList := by unfold jH; simp
def kL (l : List UInt8) : List Value := l.map fun b => Value.int .u8 b.toNat
theorem rD (a b : List UInt8) : kL (a ++ b) = kL a ++ kL b := by unfold kL; simp
theorem strC (l : List UInt8) : Lib.strCells ⟨l.toArray⟩ = kL l := by unfold Lib.strCells kL; simp
theorem aK3 {T e : TypeId} {B b : Nat} {bs : List Value} {w w' : World} (h : Lib.IsBuilder T e B b bs w) (hk : Ext w w') : Lib.IsBuilder T e B b bs w' := by
 have key : ∀ p, Lib.BuilderAt T e B b p bs w -> Lib.BuilderAt T e B b p bs w' := fun p ⟨h1, v, h2, h3, h4⟩ =>
  ⟨h1, v, (hk.block b (lt_of_block h2) id).trans h2, h3.kept (row := none) ⟨hk.os, hk.tape, hk.output, hk.size, fun k hk' _ => hk.block k hk' id⟩ (by
   cases hv : v.ownBlock with
   | none => exact .inl rfl
   | some g => exact .inr (by simp)), h4⟩
 exact h.imp (key _) (key _)
def KeyTo (w w1 : World) (B b : Nat) (row : List ByteArray) (n : Nat) (iv : Value) (W : World) : Prop := ∃ i : Nat, i ≤ n /\ iv = .int .i64 i /\ Hid (Lib.IsBuilder 230 5 B b (kL (jH (row.take i))) W) /\ Hid (Below B w1 W) /\ Hid (Ext w W)
theorem aJm (row : List ByteArray) (h : ∀ s ∈ row, s.size ≤ 1048576) : (jH row).length ≤ row.length * 2097152 := by
 induction row with
 | nil => exact Nat.zero_le _
 | cons s row ih =>
  have h1 := h s (List.mem_cons_self ..)
  have h2 := ih fun t ht => h t (List.mem_cons_of_mem _ ht)
  have h3 : (Lib.itoa (s.size : Int)).length ≤ 21 := Lib.itoa_length_le _ (by omega) (by omega)
  have e : jH (s :: row) = Lib.itoa s.size ++ 32 :: s.data.toList ++ jH row := rfl
  have h4 : s.data.toList.length = s.size := rfl
  rw [e, List.length_append, List.length_append, List.length_cons, List.length_cons, h4, Nat.succ_mul]
  omega
set_option maxHeartbeats 4000000 in
theorem aFj {w : World} {ra : Option Addr} {n c : Nat} {row : List ByteArray} (hn : n = row.length) (hr : CellsAt w ra (strs row)) (hN : NumW w) (hs : ∀ s ∈ row, s.size ≤ 1048576) (hl : n ≤ 1048576) :
 Calls Tryz.prog 116 #[.slice ra n c] w (RetN w fun w' v => v = .string (oA row)) := by
 obtain ⟨b, eb⟩ : ∃ g, w.heap.size = g := ⟨_, rfl⟩
 obtain ⟨w1, e1⟩ : ∃ x, w.alloc (.cells #[.pointer none, .slice none 0 0] 230) = x := ⟨_, rfl⟩
 have hb1 : Lib.IsBuilder 230 5 b b [] w1 := .inl ⟨Nat.le_refl _, .slice none 0 0, by rw [<- e1, <- eb]; exact Blk.new w [.pointer none, .slice none 0 0] _, World.ownsRow_nil _ _ _ _, by simp [Value.ownBlock]⟩
 have hx1 : Ext w w1 := by rw [<- e1]; exact (Kp.refl w).alloc _
 have H1 := qH (And.intro hb1 (And.intro hx1 (show w.heap.size = b from eb)))
 have HR := qH (And.intro hn (And.intro hr (And.intro hN hs)))
 have HEq := qH (And.intro eb e1)
 clear hb1 hx1 eb e1 hn hr hN hs
 go_enter Tryz.func116, Tryz.ntmps116
 go_wp2
 simp only [HEq.out.1, HEq.out.2]
 go_loopw [8] (fun iv wr => KeyTo w w1 b b row n iv wr) (fun iv _ => n - (intOf iv).toNat)
 case atStart => exact ⟨0, Nat.zero_le _, rfl, qH H1.out.1, qH (Below.refl _ _), qH H1.out.2.1⟩
 case round =>
  obtain ⟨i, hi, rfl, hB, hbel, hex⟩ := hrel
  by_cases hlt : i < n
  ·obtain ⟨s, hs⟩ : ∃ s, row[i]? = some s := ⟨_, qG (by rw [<- HR.out.1]; exact hlt)⟩
   obtain ⟨rb, ro, era, c0⟩ := HR.out.2.1 i (.string s) (by simp [strs, hs])
   subst era
   replace c0 := hex.out.cell c0 id
   have i1 : (i : Int) < (n : Int) := by omega
   have hss := HR.out.2.2.2 s (List.mem_of_getElem? hs)
   have HI := qH (Tryz.strconv_Itoa (s.size : Int) (by omega) (by omega) wr (HR.out.2.2.1.ext hex.out).tab)
   have HS := qH hs
   clear hs
   go_wp2_with fail
   refine HI.out.mono ?_
   rintro e w2 ⟨rfl, k, os, rfl⟩
   obtain ⟨w2, e2⟩ : ∃ x, Go.Sort.grow (wr.drewN k) os = x := ⟨_, rfl⟩
   have hk2 : Ext wr w2 := by rw [<- e2]; exact ((Kp.refl wr).drewN k).trans (aCj _ _)
   rw [e2]
   obtain ⟨it, eit⟩ : ∃ x, Lib.itoa (s.size : Int) = x := ⟨_, rfl⟩
   have hil : it.length ≤ 21 := by rw [<- eit]; exact Lib.itoa_length_le _ (by omega) (by omega)
   have hkl := aJm (row.take i) (fun t ht => HR.out.2.2.2 t (List.mem_of_mem_take ht))
   rw [List.length_take] at hkl
   have hil2 : (⟨it.toArray⟩ : ByteArray).size = it.length := by simp [ByteArray.size]
   have hnl := HR.out.1
   obtain ⟨pre, epre⟩ : ∃ x, jH (row.take i) = x := ⟨_, rfl⟩
   rw [epre] at hkl hB
   have hcl : ∀ l : List UInt8, (kL l).length = l.length := fun l => by unfold kL; simp
   rw [eit]
   have HX2 := qH (show Ext w w2 /\ Below b w1 w2 from ⟨hex.out.trans hk2, hbel.out.trans ((Kp.below hk2).mono (by rw [<- H1.out.2.2]; exact hex.out.size))⟩)
   have hpl : pre.length ≤ 2199023255552 := by
    have h1 : (min i row.length) * 2097152 ≤ 1048576 * 2097152 := Nat.mul_le_mul_right _ (by omega)
    omega
   have HW := qH (Tryz.Builder_WriteString b b (kL pre) ⟨it.toArray⟩ w2 (aK3 hB.out hk2) (by rw [hcl, hil2]; omega) (by rw [<- H1.out.2.2]; exact HX2.out.1.size))
   have HE := qH (And.intro epre (And.intro eit (And.intro hil (And.intro hpl hcl))))
   clear e2 hk2 eit hil hkl hil2 epre hcl hpl c0 hB hnl
   go_wp2_with fail
   refine HW.out.mono ?_
   rintro e w3 ⟨rfl, hB3, hbel3⟩
   have hx3 : Ext w w3 := Kp.of_below (HX2.out.1.below.trans (by rw [H1.out.2.2]; exact hbel3))
   have HX3 := qH (show Ext w w3 /\ Below b w1 w3 from ⟨hx3, HX2.out.2.trans hbel3⟩)
   have HB3 := qH hB3
   have HW2 := qH (Tryz.Builder_WriteByte b b (kL pre ++ Lib.strCells ⟨it.toArray⟩) 32 w3 (.inr HB3.out) (by rw [strC, List.length_append, HE.out.2.2.2.2, HE.out.2.2.2.2]; have h1 := HE.out.2.2.1; have h2 := HE.out.2.2.2.1; omega) (by rw [<- H1.out.2.2]; exact hx3.size))
   clear hB3 hbel3 hx3
   go_wp2_with fail
   refine HW2.out.mono ?_
   rintro e w4 ⟨rfl, hB4, hbel4⟩
   have hx4 : Ext w w4 := Kp.of_below (HX3.out.1.below.trans (by rw [H1.out.2.2]; exact hbel4))
   have HX4 := qH (show Ext w w4 /\ Below b w1 w4 from ⟨hx4, HX3.out.2.trans hbel4⟩)
   have HB4 := qH hB4
   have HW3 := qH (Tryz.Builder_WriteString b b (kL pre ++ Lib.strCells ⟨it.toArray⟩ ++ [.int .u8 32]) s w4 (.inr HB4.out) (by rw [strC, List.length_append, List.length_append, HE.out.2.2.2.2, HE.out.2.2.2.2]; have h1 := HE.out.2.2.1; have h2 := HE.out.2.2.2.1; simp only [List.length_singleton]; omega) (by rw [<- H1.out.2.2]; exact hx4.size))
   clear hB4 hbel4 hx4
   go_wp2_with fail
   refine HW3.out.mono ?_
   rintro e w5 ⟨rfl, hB5, hbel5⟩
   have hx5 : Ext w w5 := Kp.of_below (HX4.out.1.below.trans (by rw [H1.out.2.2]; exact hbel5))
   have HX5 := qH (show Ext w w5 /\ Below b w1 w5 from ⟨hx5, HX4.out.2.trans hbel5⟩)
   have HB5 := qH hB5
   clear hB5 hbel5 hx5
   go_wp2
   go_roundw
   case rel =>
    refine ⟨i + 1, by omega, by first | rfl | (congr 1; done) | (congr 1; omega), qH (.inr ?_), qH HX5.out.2, qH HX5.out.1⟩
    have h := HB5.out
    rw [List.take_add_one, HS.out]
    show Lib.BuilderAt _ _ _ _ _ (kL (jH (row.take i ++ [s]))) _
    rw [aHe, HE.out.1, HE.out.2.1, rD, rD, rD, <- strC]
    exact h
   case measure => simp [intOf]; omega
  ·obtain rfl : i = n := by omega
   have hall : row.take i = row := List.take_of_length_le (by rw [<- HR.out.1]; exact Nat.le_refl _)
   rw [hall] at hB
   have HSt := qH (Tryz.Builder_String_any b b (jH row) wr hB.out (by rw [<- H1.out.2.2]; exact hex.out.size))
   clear hall hB
   go_wp2_with fail
   refine HSt.out.mono ?_
   rintro e w2 ⟨rfl, hbel2⟩
   have hx2 : Ext w w2 := Kp.of_below (hex.out.below.trans (by rw [H1.out.2.2]; exact hbel2))
   have HX2 := qH hx2
   clear hx2 hbel2
   go_wp2
   go_ret
   exact RetN.mk HX2.out rfl
end
section
open Go.RowKit Go.Shelf
def SameOn (S : Nat -> Prop) (w w' : World) : Prop := w.heap.size ≤ w'.heap.size /\ ∀ k, S k -> w'.heap[k]? = w.heap[k]?
theorem SameOn.refl (S : Nat -> Prop) (w : World) : SameOn S w w := ⟨Nat.le_refl _, fun _ _ => rfl⟩
theorem SameOn.trans {S : Nat -> Prop} {a b c : World} (h : SameOn S a b) (k : SameOn S b c) : SameOn S a c := ⟨Nat.le_trans h.1 k.1, fun i hi => (k.2 i hi).trans (h.2 i hi)⟩
theorem SameOn.put {S : Nat -> Prop} {w : World} (hS : ∀ k, S k -> k < w.heap.size) (W : World) (l : Nat) (o o' : Obj) (hl : w.heap.size ≤ l) (h : W.heap[l]? = some o) (_ : o.isCells = false) (_ : o.isWalk = false) : SameOn S W (W.putObj l o') := by
 have hg := grownBy_putObj' W l o'
 refine ⟨hg.size, fun k hk => hg.block k ?_ fun e => by have := hS k hk; cases e; omega⟩
 have := hS k hk
 have := (Array.getElem?_eq_some_iff.1 h).1
 omega
theorem SameOn.of_kp {F : Nat -> Prop} {S : Nat -> Prop} {w w' : World} (h : Kp F w w') (hS : ∀ k, S k -> k < w.heap.size) (hd : ∀ k, S k -> ¬ F k) : SameOn S w w' := ⟨h.size, fun k hk => h.block k (hS k hk) (hd k hk)⟩
theorem SameOn.cell {S : Nat -> Prop} {w w' : World} (h : SameOn S w w') {b o : Nat} (hb : S b) : w'.cell? ⟨b, o, none⟩ = w.cell? ⟨b, o, none⟩ := World.cell?_of_block (h.2 b hb)
def Marks (lo : Nat) (w : World) (ds : List Deferred) : Prop :=
 ∃ Ds : List Nat, ds = Ds.map (fun D => { target := .collected D, args := #[] }) /\ Ds.Nodup /\ ∀ D ∈ Ds, lo ≤ D /\ w.heap[D]? = some (.deferred (some []))
theorem Marks.nil (lo : Nat) (w : World) : Marks lo w [] := ⟨[], rfl, List.nodup_nil, by simp⟩
theorem Marks.kp {F : Nat -> Prop} {lo : Nat} {w w' : World} {ds : List Deferred} (h : Marks lo w ds) (hk : Kp F w w') (hF : ∀ k, F k -> k < lo) : Marks lo w' ds := by
 obtain ⟨Ds, e, hn, h⟩ := h
 refine ⟨Ds, e, hn, fun D hD => ⟨(h D hD).1, ?_⟩⟩
 obtain ⟨h1, h2⟩ := h D hD
 exact (hk.block D (lt_of_block h2) fun hf => by have := hF D hf; omega).trans h2
theorem Marks.others {lo : Nat} {w w' : World} {ds : List Deferred} (h : Marks lo w ds) (hk : KeepsOthers w w') : Marks lo w' ds := by
 obtain ⟨Ds, e, hn, h⟩ := h
 exact ⟨Ds, e, hn, fun D hD => ⟨(h D hD).1, hk.same D _ (h D hD).2 rfl⟩⟩
theorem Marks.push {lo : Nat} {w w' : World} {ds : List Deferred} {D : Nat} (h : Marks lo w ds) (hk : ∀ (k : Nat) (o : Obj), w.heap[k]? = some o -> o.isCells = false -> w'.heap[k]? = some o) (hD : w.heap.size ≤ D) (hlo : lo ≤ D) (hd : w'.heap[D]? = some (.deferred (some []))) :
 Marks lo w' ({ target := .collected D, args := #[] } :: ds) := by
 obtain ⟨Ds, e, hn, h⟩ := h
 refine ⟨D :: Ds, by rw [e]; rfl, List.nodup_cons.2 ⟨fun hm => ?_, hn⟩, fun D' hD' => ?_⟩
 ·have := lt_of_block (h D hm).2; omega
 ·rcases List.mem_cons.1 hD' with rfl | hD'
  ·exact ⟨hlo, hd⟩
  ·exact ⟨(h D' hD').1, hk D' _ (h D' hD').2 rfl⟩
theorem fJ {P : Program} {F : Fence} {n : Nat} {fn : Func} {tmps : Array Value} {R : Ending -> World -> Prop} {lo : Nat} {w : World} {ds : List Deferred} (h : Marks lo w ds)
 (hR : ∀ w', w'.os = w.os -> w'.tape = w.tape -> w'.output = w.output -> w'.heap.size = w.heap.size -> (∀ k : Nat, k < lo -> w'.heap[k]? = w.heap[k]?) -> (∀ (k : Nat) (o : Obj), w.heap[k]? = some o -> o.isCells = true -> w'.heap[k]? = some o) ->
  LeavesIn F n P fn tmps R [] .returning w') : LeavesInM F n P fn tmps R ds .returning w := by
 obtain ⟨Ds, rfl, hn, h⟩ := h
 induction Ds generalizing w with
 | nil => exact hR w rfl rfl rfl rfl (fun _ _ => rfl) (fun _ _ h _ => h)
 | cons D Ds ih =>
  obtain ⟨h1, h2⟩ := List.nodup_cons.1 hn
  obtain ⟨hlo, hD⟩ := h D (by simp)
  have hg := grownBy_putObj' w D (.deferred none)
  have hlt := lt_of_block hD
  refine ⟨by simp, .inl ⟨D, _, rfl, run_takeDeferred hD, ?_⟩⟩
  have hsz : (w.putObj D (.deferred none)).heap.size = w.heap.size := by simp [World.putObj]
  refine ih (fun w' e1 e2 e3 e4 e5 e6 => hR w' (e1.trans hg.os) (e2.trans hg.tape) (e3.trans hg.output) (e4.trans hsz) (fun k hk => (e5 k hk).trans (hg.block k (by omega) (by rintro ⟨⟩; omega))) (fun k o hk ho => ?_)) h2 (fun D' hD' => ?_)
  ·refine e6 k o ((hg.block k (lt_of_block hk) ?_).trans hk) ho
   rintro ⟨⟩
   rw [hD] at hk; cases hk; cases ho
  ·obtain ⟨h3, h4⟩ := h D' (List.mem_cons_of_mem _ hD')
   refine ⟨h3, (hg.block D' (lt_of_block h4) ?_).trans h4⟩
   rintro ⟨⟩
   exact h1 hD'
theorem Row.grown {e : TypeId} {k : Nat} {v : Value} {n : Nat} {xs : List Value} {M : Nat -> Prop} {W W' : World} {row : Option Nat} (h : Row W e k v n xs M) (hg : W.grownBy W' row) (hr : ∀ r, row = some r -> ∃ o : Obj, W.heap[r]? = some o /\ o.isCells = false) : Row W' e k v n xs M := by
 refine h.kp' (F := fun i => row = some i) ((Kp.refl W).grown hg fun i e _ => e) fun g hv _ hrow => ?_
 obtain ⟨o, ho, hc⟩ := hr g hrow
 obtain ⟨_, ⟨rfl, _⟩ | ⟨g', cap, rest', rfl, _, hB, _⟩⟩ := h
 ·cases hv
 ·cases hv
  unfold Blk at hB
  rw [hB] at ho; cases ho; cases hc
theorem Blk.grown {g : Nat} {cs : List Value} {e : TypeId} {W W' : World} {row : Option Nat} (h : Blk W g cs e) (hg : W.grownBy W' row) (hr : ∀ r, row = some r -> ∃ o : Obj, W.heap[r]? = some o /\ o.isCells = false) : Blk W' g cs e := by
 refine h.kp (F := fun i => row = some i) ((Kp.refl W).grown hg fun i e _ => e) fun hrow => ?_
 obtain ⟨o, ho, hc⟩ := hr g hrow
 unfold Blk at h
 rw [h] at ho; cases ho; cases hc
end
section
open Go.RowKit
theorem aBx {k n : Nat} (h : k + 1 < n) (hn : n ≤ 4611686018427387904) :
 IntKind.i64.wrap ((k : Int) + 1 - 1) = (k : Int) /\ IntKind.i64.wrap ((k : Int)) = (k : Int) /\ IntKind.i64.wrap ((k : Int) + 1) = (k : Int) + 1 /\ (0 : Int) ≤ (k : Int) + 1 /\ (k : Int) + 1 < (n : Int) /\ ((k : Int) + 1).toNat = k + 1 /\ k < n :=
 ⟨by rw [IntWalk.i64_in _ (by omega)]; omega, IntWalk.i64_in _ (by omega), IntWalk.i64_in _ (by omega), by omega, by omega, by omega, by omega⟩
/-! ### The order of a sort that keeps alike ones in their order: places held against each other -/
structure CmpLaw (c : Nat -> Nat -> Int) : Prop where
 swap : ∀ i j, c i j < 0 ↔ 0 < c j i
 trans : ∀ i j k, c i j ≤ 0 -> c j k ≤ 0 -> c i k ≤ 0
section
variable {c : Nat -> Nat -> Int}
variable (L : CmpLaw c)
include L
end
section
variable {c : Nat -> Nat -> Int}
end
theorem Blk.at {w : World} {g : Nat} {L : List Nat} {f : Nat -> Value} {rest : List Value} {e : TypeId} (h : Blk w g (L.map f ++ rest) e) (t : Nat) (ht : t < L.length) : w.cell? ⟨g, t, none⟩ = some (f (L.getD t 0)) := by
 rw [h.cell', List.getElem?_append_left (by simpa using ht)]
 simp [ht, List.getD]
theorem pW {l : List Nat} {t : Nat} (h : t < l.length) : l.getD t 0 ∈ l := by
 simp [List.getD, h]
/-! ### Runs: neighbouring parts of the places, each in its order -/
def bX (q : Nat -> Nat -> Bool) (C : List Nat) (k : Nat) : List Nat :=
 ((List.range k).filter fun j => j == 0 || !q (C.getD j 0) (C.getD (j - 1) 0)).map (C.getD · 0)
section
variable {q : Nat -> Nat -> Bool} {C : List Nat}
theorem aBt : bX q C 0 = [] := rfl
theorem aEo : bX q C 1 = [C.getD 0 0] := rfl
theorem uT {k : Nat} (hk : 0 < k) (h : q (C.getD k 0) (C.getD (k - 1) 0) = true) : bX q C (k + 1) = bX q C k := by
 unfold bX
 have h0 : (k == 0) = false := by simp; omega
 simp only [List.range_succ, List.filter_append, List.filter_cons, List.filter_nil, h, h0, Bool.not_true, Bool.or_false]
 simp
theorem xG {k : Nat} (h : q (C.getD k 0) (C.getD (k - 1) 0) = false) : bX q C (k + 1) = bX q C k ++ [C.getD k 0] := by
 unfold bX
 simp only [List.range_succ, List.filter_append, List.filter_cons, List.filter_nil, h, Bool.not_false, Bool.or_true]
 simp
theorem lF {k : Nat} (hk : k ≤ C.length) (h : ∀ j, 0 < j -> j < k -> q (C.getD j 0) (C.getD (j - 1) 0) = false) : bX q C k = C.take k := by
 induction k with
 | zero => simp [aBt]
 | succ k ih =>
  by_cases h0 : k = 0
  ·subst h0
   cases C with
   | nil => simp at hk
   | cons x C => simp [aEo]
  ·rw [xG (h k (by omega) (by omega)), ih (by omega) (fun j h1 h2 => h j h1 (by omega)), List.take_succ_eq_append_getElem (by omega), List.getD_eq_getElem?_getD, qG (by omega)]; rfl
end
def aKm (n : Nat) (q : Nat -> Nat -> Bool) (C : List Nat) (F : Nat -> Prop) (w0 : World) (kv : Value) (w : World) : Prop :=
 ∃ k : Nat, 1 ≤ k /\ k ≤ n /\ kv = .int .i64 k /\ (∀ j, 0 < j -> j < k -> q (C.getD j 0) (C.getD (j - 1) 0) = false) /\ Kp F w0 w
def aKl (n k0 : Nat) (q : Nat -> Nat -> Bool) (C : List Nat) (w0 : World) (g : Nat) (val : Nat -> Value) (rest : List Value) (e : TypeId) (kv jv : Value) (w : World) : Prop :=
 ∃ k j : Nat, 1 ≤ j /\ k0 + j ≤ n /\ kv = .int .i64 k /\ jv = .int .i64 j /\ k0 ≤ k /\ k < k0 + j /\ (bX q C (k0 + j)).length = k /\ Kp (fun i => i = g) w0 w /\
  Blk w g ((bX q C (k0 + j)).map val ++ (C.map val ++ rest).drop k) e
def aKi (P : Program) (f : FuncId) (first captured : Array Value) (g n : Nat) (w0 : World) (val : Nat -> Value) (q : Nat -> Nat -> Bool) : Prop :=
 (∀ args w, (callFunc f args).run P w = .ok (Next.enter f args) w) /\ ∀ w, Kp (fun k => k = g) w0 w -> ∀ i j, i < n -> j < n -> Calls P f (first ++ (#[val i, val j] ++ captured)) w fun e w' => e = .returned (.bool (q i j)) /\ Ext w w'
theorem pX {K C : List Nat} {val : Nat -> Value} {rest : List Value} {k t : Nat} (hk : K.length = k) (ht : k ≤ t) (htC : t < C.length) :
 (K.map val ++ (C.map val ++ rest).drop k)[t]? = some (val (C.getD t 0)) := by
 rw [List.getElem?_append_right (by simp; omega), List.getElem?_drop, List.length_map, hk, show k + (t - k) = t by omega, List.getElem?_append_left (by simpa using htC), List.getElem?_map, List.getD_eq_getElem?_getD, qG htC]; rfl
theorem aCq {K C : List Nat} {val : Nat -> Value} {rest : List Value} {k x : Nat} (hk : K.length = k) (hc : k < C.length) :
 (K.map val ++ (C.map val ++ rest).drop k).set k (val x) = (K ++ [x]).map val ++ (C.map val ++ rest).drop (k + 1) := by
 rw [List.set_append_right _ _ (by simp; omega), List.length_map, hk, Nat.sub_self, List.drop_eq_getElem_cons (i := k) (by simp; omega), List.set_cons_zero]
 simp
end
section
structure OrdLaw {α : Type} (c : α -> α -> Int) : Prop where
 swap : ∀ x y, c x y < 0 ↔ 0 < c y x
 trans : ∀ x y z, c x y ≤ 0 -> c y z ≤ 0 -> c x z ≤ 0
section
variable {α : Type} {c : α -> α -> Int}
theorem OrdLaw.idx (L : OrdLaw c) {β : Type} (z : β -> α) : OrdLaw (fun i j => c (z i) (z j)) := ⟨fun i j => L.swap _ _, fun i j k => L.trans _ _ _⟩
theorem OrdLaw.zero (L : OrdLaw c) {x y : α} (h : c x y = 0) : c y x = 0 := by have := L.swap x y; have := L.swap y x; omega
theorem OrdLaw.refl (L : OrdLaw c) (x : α) : c x x = 0 := by have := L.swap x x; omega
theorem OrdLaw.asymm (L : OrdLaw c) {x y : α} (h : c x y < 0) (h' : c y x < 0) : False := by have := L.swap x y; omega
theorem OrdLaw.le_of (L : OrdLaw c) {x y : α} (h : ¬ c x y < 0) : c y x ≤ 0 := by have := L.swap x y; have := L.swap y x; omega
theorem OrdLaw.lt_trans (L : OrdLaw c) {x y z : α} (h : c x y < 0) (h' : c y z ≤ 0) : c x z < 0 := by
 have t := L.trans x y z (by omega) h'
 by_cases e : c x z < 0
 ·exact e
 ·have e0 := L.zero (show c x z = 0 by omega)
  have := L.trans y z x h' (by omega)
  have := L.swap x y; omega
variable (c)
def bA (L : List α) (x : α) : Bool := L.any fun y => c y x == 0
def below (L : List α) (x : α) : Nat := (L.filter fun y => decide (c y x < 0)).length
def cQ (L : List α) (x : α) : List α := if bA c L x then L else L.take (below c L x) ++ x :: L.drop (below c L x)
def jA (L : List α) (x : α) : List α := if bA c L x then L.take (below c L x) ++ L.drop (below c L x + 1) else L
def zC (xs : List α) : List α := xs.foldl (cQ c) []
def Strict (L : List α) : Prop := L.Pairwise fun x y => c x y < 0
variable {c}
theorem below_le (L : List α) (x : α) : below c L x ≤ L.length := List.length_filter_le _ _
theorem mT {L : List α} {x : α} : bA c L x = true ↔ ∃ y ∈ L, c y x = 0 := by simp [bA]
theorem Strict.split (O : OrdLaw c) {L : List α} (h : Strict c L) (x : α) : (∀ y ∈ L.take (below c L x), c y x < 0) /\ ∀ y ∈ L.drop (below c L x), ¬ c y x < 0 := by
 induction L with
 | nil => simp [below]
 | cons a L ih =>
  obtain ⟨h1, h2⟩ := List.pairwise_cons.1 h
  obtain ⟨i1, i2⟩ := ih h2
  by_cases ha : c a x < 0
  ·have e : below c (a :: L) x = below c L x + 1 := by simp [below, ha]
   rw [e]
   simp only [List.take_succ_cons, List.drop_succ_cons]
   refine ⟨fun y hy => ?_, i2⟩
   rcases List.mem_cons.1 hy with rfl | hy
   ·exact ha
   ·exact i1 y hy
  ·have hL : ∀ y ∈ a :: L, ¬ c y x < 0 := by
    intro y hy
    rcases List.mem_cons.1 hy with rfl | hy
    ·exact ha
    ·intro hyx
     exact ha (O.lt_trans (h1 y hy) (by omega))
   have e : below c (a :: L) x = 0 := by
    unfold below
    rw [List.filter_eq_nil_iff.2 (fun y hy => by have := hL y hy; simp; omega)]; rfl
   rw [e]
   exact ⟨by simp, hL⟩
theorem Strict.place (O : OrdLaw c) {L : List α} (h : Strict c L) {x : α} {i : Nat} (hi : i ≤ L.length) (h1 : ∀ y, 0 < i -> L[i - 1]? = some y -> c y x < 0) (h2 : ∀ y, L[i]? = some y -> 0 ≤ c y x) :
 i = below c L x := by
 obtain ⟨s1, s2⟩ := h.split O x
 have hb := below_le (c := c) L x
 generalize hbb : below c L x = b at *
 rcases Nat.lt_trichotomy i b with hlt | heq | hgt
 ·have g : L[i]? = some (L[i]'(by omega)) := qG _
  have := h2 _ g
  have := s1 (L[i]'(by omega)) (List.mem_take_iff_getElem.2 ⟨i, by omega, rfl⟩)
  omega
 ·exact heq
 ·have g : L[i - 1]? = some (L[i - 1]'(by omega)) := qG _
  have := h1 _ (by omega) g
  have := s2 (L[i - 1]'(by omega)) (List.mem_drop_iff_getElem.2 ⟨i - 1 - b, by omega, by congr 1; omega⟩)
  omega
theorem Strict.there (O : OrdLaw c) {L : List α} (h : Strict c L) (x : α) : bA c L x = true ↔ ∃ y, L[below c L x]? = some y /\ c y x = 0 := by
 obtain ⟨s1, s2⟩ := h.split O x
 constructor
 ·intro hin
  obtain ⟨y, hy, hz⟩ := mT.1 hin
  obtain ⟨t, ht, rfl⟩ := List.mem_iff_getElem.1 hy
  have hb := below_le (c := c) L x
  generalize hbb : below c L x = b at *
  rcases Nat.lt_trichotomy t b with hlt | heq | hgt
  ·have := s1 (L[t]) (List.mem_take_iff_getElem.2 ⟨t, by omega, rfl⟩); omega
  ·exact ⟨L[t], by rw [<- heq]; exact qG _, hz⟩
  ·have hlt := List.pairwise_iff_getElem.1 h b t (by omega) ht hgt
   have := s2 (L[b]'(by omega)) (List.mem_drop_iff_getElem.2 ⟨0, by omega, by congr 1⟩)
   have := O.lt_trans hlt (show c L[t] x ≤ 0 by omega)
   contradiction
 ·rintro ⟨y, hy, hz⟩
  exact mT.2 ⟨y, List.mem_of_getElem? hy, hz⟩
theorem mQ {L : List α} {x y : α} : y ∈ cQ c L x ↔ y ∈ L \/ (y = x /\ bA c L x = false) := by
 unfold cQ
 cases h : bA c L x
 ·simp only [Bool.false_eq_true, if_false]
  rw [List.mem_append, List.mem_cons]
  have e : y ∈ L ↔ y ∈ L.take (below c L x) \/ y ∈ L.drop (below c L x) := by rw [<- List.mem_append, List.take_append_drop]
  rw [e]
  constructor
  ·rintro (h | rfl | h)
   ·exact .inl (.inl h)
   ·exact .inr ⟨rfl, trivial⟩
   ·exact .inl (.inr h)
  ·rintro ((h | h) | ⟨rfl, _⟩)
   ·exact .inl h
   ·exact .inr (.inr h)
   ·exact .inr (.inl rfl)
 ·simp
theorem Strict.add (O : OrdLaw c) {L : List α} (h : Strict c L) (x : α) : Strict c (cQ c L x) := by
 unfold cQ
 cases hin : bA c L x
 ·simp only [Bool.false_eq_true, if_false]
  obtain ⟨s1, s2⟩ := h.split O x
  have hL : Strict c (L.take (below c L x) ++ L.drop (below c L x)) := by rw [List.take_append_drop]; exact h
  obtain ⟨p1, p2, p3⟩ := List.pairwise_append.1 hL
  refine List.pairwise_append.2 ⟨p1, List.pairwise_cons.2 ⟨fun y hy => ?_, p2⟩, fun y hy w hw => ?_⟩
  ·have h0 : ¬ c y x = 0 := fun e => by
    have := mT.2 ⟨y, List.mem_of_mem_drop hy, e⟩
    rw [hin] at this; cases this
   have := s2 y hy
   have := O.swap x y
   omega
  ·rcases List.mem_cons.1 hw with rfl | hw
   ·exact s1 y hy
   ·exact p3 y hy w hw
 ·simpa using h
theorem Strict.sub {L L' : List α} (h : Strict c L) (hs : L'.Sublist L) : Strict c L' := List.Pairwise.sublist hs h
theorem Strict.drop (O : OrdLaw c) {L : List α} (h : Strict c L) (x : α) : Strict c (jA c L x) := by
 unfold jA
 split
 ·refine h.sub ?_
  conv => rhs; rw [<- List.take_append_drop (below c L x) L]
  exact List.Sublist.append (List.Sublist.refl _) (by rw [<- List.drop_drop]; exact List.drop_sublist _ _)
 ·exact h
theorem fV : Strict c ([] : List α) := List.Pairwise.nil
theorem Strict.new (O : OrdLaw c) (xs : List α) : Strict c (zC c xs) := by
 suffices h : ∀ (ys L : List α), Strict c L -> Strict c (ys.foldl (cQ c) L) from h xs [] fV
 intro ys
 induction ys with
 | nil => exact fun L h => h
 | cons y ys ih => exact fun L h => ih _ (h.add O y)
theorem Strict.unique (O : OrdLaw c) : ∀ {a b : List α}, Strict c a -> Strict c b -> (∀ x, x ∈ a ↔ x ∈ b) -> a = b
 | [], [], _, _, _ => rfl
 | [], y :: b, _, _, h => by have := (h y).2 (by simp); simp at this
 | x :: a, [], _, _, h => by have := (h x).1 (by simp); simp at this
 | x :: a, y :: b, ha, hb, h => by
  obtain ⟨a1, a2⟩ := List.pairwise_cons.1 ha
  obtain ⟨b1, b2⟩ := List.pairwise_cons.1 hb
  have e : x = y := by
   rcases List.mem_cons.1 ((h x).1 (by simp)) with e | hx
   ·exact e
   ·rcases List.mem_cons.1 ((h y).2 (by simp)) with e | hy
    ·exact e.symm
    ·exact (O.asymm (b1 x hx) (a1 y hy)).elim
  subst e
  congr 1
  refine Strict.unique O a2 b2 fun z => ⟨fun hz => ?_, fun hz => ?_⟩
  ·rcases List.mem_cons.1 ((h z).1 (List.mem_cons_of_mem _ hz)) with rfl | hz'
   ·have := a1 z hz; have := O.refl z; omega
   ·exact hz'
  ·rcases List.mem_cons.1 ((h z).2 (List.mem_cons_of_mem _ hz)) with rfl | hz'
   ·have := b1 z hz; have := O.refl z; omega
   ·exact hz'
theorem aBb {xs : List α} {x : α} (h : x ∈ zC c xs) : x ∈ xs := by
 suffices g : ∀ (ys L : List α), x ∈ ys.foldl (cQ c) L -> x ∈ L \/ x ∈ ys from by simpa using g xs [] h
 intro ys
 induction ys with
 | nil => exact fun L h => .inl h
 | cons y ys ih =>
  intro L h
  rcases ih _ h with h | h
  ·rcases mQ.1 h with h | ⟨rfl, _⟩
   ·exact .inl h
   ·exact .inr (by simp)
  ·exact .inr (List.mem_cons_of_mem _ h)
theorem nI (L : List α) (x : α) : (cQ c L x).length = L.length + (if bA c L x then 0 else 1) := by
 have := below_le (c := c) L x
 unfold cQ
 split <;> simp
 omega
theorem aJa (xs : List α) : (zC c xs).length ≤ xs.length := by
 suffices g : ∀ (ys L : List α), (ys.foldl (cQ c) L).length ≤ L.length + ys.length from by simpa [zC] using g xs []
 intro ys
 induction ys with
 | nil => exact fun L => Nat.le_refl _
 | cons y ys ih =>
  intro L
  have h1 := ih (cQ c L y)
  have h2 := nI (c := c) L y
  simp only [List.foldl_cons, List.length_cons]
  split at h2 <;> omega
theorem aKc {β : Type} (z : β -> α) (L : List β) (i : β) : cQ c (L.map z) (z i) = (cQ (fun i j => c (z i) (z j)) L i).map z := by
 have e1 : bA c (L.map z) (z i) = bA (fun i j => c (z i) (z j)) L i := by simp [bA, List.any_map, Function.comp_def]
 have e2 : below c (L.map z) (z i) = below (fun i j => c (z i) (z j)) L i := by simp [below, List.filter_map, Function.comp_def]
 unfold cQ
 rw [e1, e2]
 split <;> simp
end
end
section
open Go.RowKit
theorem aDq {i : Int} {b b' : Bool} (h : b' = b) : Value.tuple #[.int .i64 i, .bool b] = .tuple #[.int .i64 i, .bool b'] := by rw [h]
section
variable {P : Program} {w : World} {t e : TypeId} {bytes : Nat} {z : Value}
theorem lK {g : Nat} {cur cs : List Value} (h : Blk w g cur e) : Blk (w.setRow g cs.toArray) g cs e := setRow_heap w g _ _ e _ h
theorem nX (g : Nat) (cs : Array Value) : Kp (fun k => k = g) w (w.setRow g cs) :=
 ⟨rfl, rfl, rfl, by simp [World.setRow], fun k _ hf => setRow_other w g k cs hf⟩
theorem nJ {ops : Array Oper} {rest : List Oper} {o : Oper} {a : Act} {Q : Exit -> Act -> World -> Prop} (hgd : o.guard = none) (s x : Operand) {t1 t2 : TypeId}
 (ho : o.op = .call { callee := .builtin .append, args := #[s, x], argTypes := #[t1, t2] }) {v u : Value} (hs : a.eval s = v) (hx : a.eval x = u) {v' : Value} {w' : World}
 (hr : ∀ ty, (Builtin.append_ #[t1, t2] ty #[v, u]).run P w = .ok v' w') (h : wpList P ops Q rest (a.put o.dst v') w') : wpList P ops Q (o :: rest) a w := by
 refine wpList_plain hgd fun K hK => ?_
 unfold Oper.wp execOp
 simp only [ho, resolve, invoke, builtin, Sem.run_bind, Sem.run_pure, Result.andThen_ok, List.map_toArray, List.map_cons, List.map_nil, hs, hx, hr]
 exact hK _ _ h
theorem tI (E : cM P t e 1 bytes z) {ops : Array Oper} {rest : List Oper} {o : Oper} {a : Act} {Q : Exit -> Act -> World -> Prop} (hgd : o.guard = none) (d s : Operand)
 (ho : o.op = .call { callee := .builtin .copy, args := #[d, s], argTypes := #[t, t] })
 {g off dLen dCap : Nat} {cur : List Value} {e' : TypeId} (hB : Blk w g cur e') {dp : Option Addr} (hd : a.eval d = .slice dp dLen dCap) {sp : Option Addr} {sLen sCap : Nat} (hs : a.eval s = .slice sp sLen sCap)
 {cs : List Value} (hl : cs.length = Nat.min sLen dLen) (hdp : 0 < cs.length -> dp = some ⟨g, off, none⟩) (hsrc : CellsAt w sp cs) (hfit : off + cs.length ≤ cur.length) (h1 : ∀ u ∈ cs, u.oneCell' = true)
 (h : ∀ w', Kp (fun k => k = g) w w' -> Blk w' g (splice cur off cs) e' -> wpList P ops Q rest (a.put o.dst (goInt cs.length)) w') : wpList P ops Q (o :: rest) a w := by
 obtain ⟨ht, hi, hz, hk⟩ := E
 obtain ⟨i, hi, hz1, hz2, hz3⟩ := info_parts hi
 have hsz : (P.info? e).map (·.size) = some 1 := by rw [hi]; simp [hz2]
 by_cases h0 : cs.length = 0
 ·obtain rfl : cs = [] := List.eq_nil_of_length_eq_zero h0
  refine wpList_copy_nothing hgd d s t t ho e ht hsz dp sp dLen dCap sLen sCap hd hs (by simpa using hl.symm) ?_
  exact h w (Kp.refl w) (hB.congrL (by simp [splice]))
 ·have hdp := hdp (by omega)
  subst hdp
  obtain ⟨b, off', rfl, hlt⟩ := hsrc.off (by rintro rfl; simp at h0)
  refine wpList_copy_own hgd d s t t ho e ht hsz g off dLen dCap ⟨b, off', none⟩ sLen sCap hd hs cur.toArray e' hB cs hl (fun j v hj => ?_) (by simpa using hfit) h1 ?_
  ·obtain ⟨b', o', he, hc⟩ := hsrc j v hj
   cases he
   rw [Addr.add_lit]; exact hc
  ·have hb := lK (cs := cur.take off ++ (cs ++ cur.drop (off + cs.length))) hB
   exact h _ (nX g _) (by simpa [splice] using hb)
theorem tU (E : cM P t e 1 bytes z) (hz1 : z.oneCell' = true) (hzv : ∀ w, (zeroValue e).run P w = .ok z w) {g off n c : Nat} {cur : List Value} {e' : TypeId} (hB : Blk w g cur e') {sp : Option Addr} (hsp : 0 < n -> sp = some ⟨g, off, none⟩) (hfit : off + n ≤ cur.length) :
 ∃ w', (∀ ty, (Builtin.clear_ #[t] ty #[.slice sp n c]).run P w = .ok (.tuple #[]) w') /\ Kp (fun k => k = g) w w' /\ Blk w' g (splice cur off (List.replicate n z)) e' := by
 obtain ⟨ht, hi, hzz, hk⟩ := E
 by_cases h0 : n = 0
 ·subst h0
  refine ⟨w, fun ty => ?_, Kp.refl w, hB.congrL (by simp [splice])⟩
  cases sp <;> simp [Builtin.clear_, run_underlying ht]
 ·have hsp := hsp (by omega)
  subst hsp
  have hzc : z.cells = #[z] := by cases z <;> simp_all [Value.cells, Value.oneCell']
  have hzz' : (Builtin.zeroCells z.cells n).toList = List.replicate n z := by
   rw [hzc]
   simp [Builtin.zeroCells]
   apply List.ext_getElem
   ·simp
   ·intro i h1 h2
    simp [Nat.mod_one]
  have hst := run_storeCells_at P g off e' (List.replicate n z) 0 cur.toArray w hB (by simpa using hfit) (by intro v hv'; rw [List.eq_of_mem_replicate hv']; exact hz1)
  simp only [Nat.add_zero] at hst
  obtain ⟨m, rfl⟩ : ∃ m, n = m + 1 := ⟨n - 1, by omega⟩
  have hb := lK (cs := cur.take off ++ (List.replicate (m + 1) z ++ cur.drop (off + (m + 1)))) hB
  refine ⟨_, fun ty => by simp [Builtin.clear_, run_underlying ht, hzv, hzz', hst]; rfl, nX g _, ?_⟩
  simpa [splice] using hb
theorem oH (E : cM P t e 1 bytes z) (hzo : z.oneCell' = true) {tn : TypeId} {kn : IntKind} (htn : P.underlying tn = some (.int kn)) {ao : Option Addr} {n cap : Nat} {olds : List Value} (hs : CellsAt w ao olds) (hl : olds.length = n)
 {k : Nat} (h0 : 0 < k) (hg : cap < n + k) (hb : (n + k) * bytes ≤ 140737488355328) (h63 : n + k ≤ maxLen) :
 ∃ w' G, (∀ ty, (Builtin.append_ #[t, tn] ty #[.slice ao n cap, .int .i64 k]).run P w = .ok (.slice (some ⟨w.heap.size, 0, none⟩) (n + k) G) w') /\ n + k ≤ G /\ G ≤ maxLen /\ Ext w w' /\ w'.heap.size = w.heap.size + 1 /\ Blk w' w.heap.size (olds ++ List.replicate (G - n) z) e := by
 obtain ⟨ht, hi, hzz, hk⟩ := E
 obtain ⟨i, hi, hz1, hz2, hz3⟩ := info_parts hi
 have hold : (Builtin.firstCells i.size n (.slice ao n cap)).run P w.drew = .ok olds.toArray w.drew := by
  by_cases h00 : olds = []
  ·subst h00
   simp at hl; subst hl
   cases ao <;> simp [Builtin.firstCells, loadCells, loadCellsFrom]
  ·obtain ⟨b, off, rfl, _⟩ := hs.off h00
   exact run_firstCells_some w.drew i.size n _ n cap olds (by rw [hz2, hl, Nat.mul_one]) (fun j v hj => by
    obtain ⟨b', o', he, hc⟩ := hs j v hj
    cases he
    rw [Addr.add_lit]; exact hc)
 have hrun := fun ty => Lib.run_append_grow_zeros (P := P) w t tn ty e i z .i64 kn ht htn hi hz1 ao n cap olds hold k h0 (by omega) hg (by unfold maxLen at h63; omega) (by rw [hz3]; have : k * bytes ≤ (n + k) * bytes := Nat.mul_le_mul_right _ (by omega); omega) (by rw [hz3]; exact growslice_fits hg hb)
 have hge := grownCap_ge w (n + k) cap e
 refine ⟨_, _, hrun, hge, grownCap_le_maxLen w (n + k) cap e h63, ⟨rfl, rfl, rfl, by simp, fun k hk _ => Below.heap_alloc w.drew _ k hk⟩, by simp, ?_⟩
 have hzc : z.cells = #[z] := by
  cases z <;> simp_all [Value.cells, Value.oneCell']
 have hzr : ∀ m, (Builtin.zeroCells z.cells m).toList = List.replicate m z := fun m => by
  rw [hzc]
  simp [Builtin.zeroCells]
  apply List.ext_getElem
  ·simp
  ·intro i h1 h2
   simp [Nat.mod_one]
 show (w.heap.push _)[w.heap.size]? = _
 rw [Array.getElem?_push_size]
 congr 2
 apply Array.ext'
 simp only [Array.toList_append, hzr]
 rw [List.append_assoc, List.replicate_append_replicate]
 congr 2; omega
end
section
variable {P : Program} {w : World} {t e : TypeId} {bytes : Nat} {z : Value}
theorem Row.own {k : Nat} {v : Value} {n : Nat} {xs : List Value} {M : Nat -> Prop} (h : Row w e k v n xs M) : Row w e k v n xs (fun g => v.ownBlock = some g) := by
 obtain ⟨h1, h2 | ⟨g, cap, rest, a, b, c⟩⟩ := h
 ·exact ⟨h1, .inl h2⟩
 ·exact ⟨h1, .inr ⟨g, cap, rest, a, by rw [a]; rfl, c⟩⟩
theorem jX (E : cM P t e 1 bytes z) {g off dLen dCap : Nat} {cur : List Value} {e' : TypeId} (hB : Blk w g cur e') {dp sp : Option Addr} {sLen sCap : Nat}
 {cs : List Value} (hl : cs.length = Nat.min sLen dLen) (hdp : 0 < cs.length -> dp = some ⟨g, off, none⟩) (hsrc : CellsAt w sp cs) (hfit : off + cs.length ≤ cur.length) (h1 : ∀ u ∈ cs, u.oneCell' = true) :
 ∃ w', (∀ ty, (Builtin.copy_ #[t, t] ty #[.slice dp dLen dCap, .slice sp sLen sCap]).run P w = .ok (goInt cs.length) w') /\ Kp (fun k => k = g) w w' /\ Blk w' g (splice cur off cs) e' := by
 obtain ⟨ht, hi, hz, hk⟩ := E
 obtain ⟨i, hi, hz1, hz2, hz3⟩ := info_parts hi
 have hsz : (P.info? e).map (·.size) = some 1 := by rw [hi]; simp [hz2]
 by_cases h0 : cs.length = 0
 ·obtain rfl : cs = [] := List.eq_nil_of_length_eq_zero h0
  exact ⟨w, fun ty => run_copy_none (P := P) w t t ty e dp sp dLen dCap sLen sCap ht hsz (by simpa using hl.symm), Kp.refl w, hB.congrL (by simp [splice])⟩
 ·have hdp := hdp (by omega)
  subst hdp
  obtain ⟨b, off', rfl, hlt⟩ := hsrc.off (by rintro rfl; simp at h0)
  have hb := lK (cs := cur.take off ++ (cs ++ cur.drop (off + cs.length))) hB
  refine ⟨_, fun ty => run_copy_row (P := P) w t t ty e g off dLen dCap ⟨b, off', none⟩ sLen sCap cur.toArray e' cs ht hsz hB hl (fun j v hj => ?_) (by simpa using hfit) h1, nX g _, by simpa [splice] using hb⟩
  obtain ⟨b', o', he, hc⟩ := hsrc j v hj
  cases he
  rw [Addr.add_lit]; exact hc
theorem yT (E : cM P t e 1 bytes z) {g k cap : Nat} {cur : List Value} (hB : Blk w g cur e) {ao : Option Addr} {m c : Nat} {news : List Value} (hl : news.length = m) (hs : CellsAt w ao news) (h1 : ∀ u ∈ news, u.oneCell' = true)
 (hroom : k + m ≤ cap) (hfit : k + m ≤ cur.length) :
 ∃ w', (∀ ty, (Builtin.append_ #[t, t] ty #[.slice (some ⟨g, 0, none⟩) k cap, .slice ao m c]).run P w = .ok (.slice (some ⟨g, 0, none⟩) (k + m) cap) w') /\ Kp (fun k => k = g) w w' /\ Blk w' g (splice cur k news) e := by
 by_cases hm : m = 0
 ·subst hm
  have hn : news = [] := List.eq_nil_of_length_eq_zero hl
  subst hn
  exact ⟨w, fun ty => jY E ty (by omega) _ _, Kp.refl w, hB.congrL (by simp [splice])⟩
 ·obtain ⟨b, off, rfl, _⟩ := hs.off (by rintro rfl; simp at hl; omega)
  obtain ⟨ht, hi, hz, hk⟩ := E
  obtain ⟨i, hi, hz1, hz2, hz3⟩ := info_parts hi
  have hb := lK (cs := cur.take k ++ (news ++ cur.drop (k + news.length))) hB
  refine ⟨_, fun ty => run_append_room (P := P) w t ty e i ht hi g k cap cur.toArray hB ⟨b, off, none⟩ m c news (by rw [hz2, Nat.mul_one]; exact hl) (fun j u hj => ?_) h1 hroom (by rw [hz2]; simp; omega), nX g _, ?_⟩
  ·obtain ⟨b', o', he, hc⟩ := hs j u hj
   cases he
   rw [Addr.add_lit]; exact hc
  ·rw [hz2]; simpa [splice] using hb
theorem Blk.shape {g : Nat} {cs : List Value} (h : Blk w g cs e) : w.shape? g = some (e, cs.length) := by
 unfold Blk at h
 simp [World.shape?, h]
end
theorem iH {α : Type} (a b c cs : List α) (k : Nat) (hk : k = a.length) (h : b.length = cs.length) : splice (a ++ b ++ c) k cs = a ++ cs ++ c := by
 subst hk
 unfold splice
 rw [List.append_assoc, List.take_left, <- h, <- List.length_append, <- List.append_assoc a b c, List.drop_left, List.append_assoc]
theorem aDu {α : Type} (xs rest : List α) (x y : α) (i : Nat) (hi : i < xs.length) :
 splice (splice (xs ++ y :: rest) (i + 1) (xs.drop i)) i [x] = (xs.take i ++ x :: xs.drop i) ++ rest := by
 have h2 : (xs.take i).length = i := by simp; omega
 have e0 : xs ++ y :: rest = (xs.take i ++ [xs[i]]) ++ (xs.drop (i + 1) ++ [y]) ++ rest := by
  have : xs = xs.take i ++ xs[i] :: xs.drop (i + 1) := by rw [<- List.drop_eq_getElem_cons hi, List.take_append_drop]
  have h3 : xs ++ y :: rest = (xs.take i ++ xs[i] :: xs.drop (i + 1)) ++ y :: rest := by rw [<- this]
  rw [h3]
  simp only [List.append_assoc, List.cons_append, List.nil_append]
 rw [e0, iH _ _ _ _ _ (by simp; omega) (by simp; omega), List.append_assoc, List.append_assoc, <- List.append_assoc, iH _ _ _ _ _ h2.symm (by simp)]
 simp
theorem rM {α : Type} (xs : List α) (x z : α) (i G : Nat) (hi : i < xs.length) (hG : xs.length + 1 ≤ G) :
 splice (splice (xs.take i ++ List.replicate (G - i) z) i [x]) (i + 1) (xs.drop i) = (xs.take i ++ x :: xs.drop i) ++ List.replicate (G - (xs.length + 1)) z := by
 have h2 : (xs.take i).length = i := by simp; omega
 have e1 : List.replicate (G - i) z = [z] ++ (List.replicate (xs.length - i) z ++ List.replicate (G - (xs.length + 1)) z) := by
  rw [List.replicate_append_replicate, <- List.replicate_one, List.replicate_append_replicate]; congr 1; omega
 rw [e1, <- List.append_assoc, iH _ _ _ _ _ h2.symm (by simp), <- List.append_assoc, iH _ _ _ _ _ (by simp; omega) (by simp)]
 simp
theorem oM (a : List UInt8) : Op.bytesLess a [] = false := by cases a <;> simp [Op.bytesLess]
theorem dY : ∀ a : List UInt8, Op.bytesLess a a = false
 | [] => by simp [Op.bytesLess]
 | a :: x => by simp [Op.bytesLess, dY x]
theorem gZ : ∀ {a b : List UInt8}, Op.bytesLess a b = false -> Op.bytesLess b a = false -> a = b
 | [], [], _, _ => rfl
 | [], _ :: _, h, _ => by simp [Op.bytesLess] at h
 | _ :: _, [], _, h => by simp [Op.bytesLess] at h
 | x :: xs, y :: ys, h1, h2 => by
  simp only [Op.bytesLess, Bool.or_eq_false_iff, decide_eq_false_iff_not, Bool.and_eq_false_iff] at h1 h2
  have e : x = y := by
   have := h1.1; have := h2.1
   simp only [UInt8.lt_iff_toNat_lt] at *
   exact UInt8.toNat_inj.1 (by omega)
  subst e
  simp at h1 h2
  rw [gZ h1 h2]
theorem eT : ∀ {a b c : List UInt8}, Op.bytesLess a b = true -> Op.bytesLess b c = true -> Op.bytesLess a c = true
 | _, [], _, h, _ => by rw [oM] at h; cases h
 | _, _ :: _, [], _, h => by rw [oM] at h; cases h
 | [], _ :: _, _ :: _, _, _ => by simp [Op.bytesLess]
 | x :: xs, y :: ys, z :: zs, h1, h2 => by
  simp only [Op.bytesLess, Bool.or_eq_true, decide_eq_true_eq, Bool.and_eq_true, beq_iff_eq, UInt8.lt_iff_toNat_lt] at *
  rcases h1 with h1 | ⟨rfl, h1⟩ <;> rcases h2 with h2 | ⟨rfl, h2⟩
  ·left; omega
  ·left; omega
  ·left; omega
  ·right; exact ⟨rfl, eT h1 h2⟩
theorem sT {a b : List UInt8} (h : Op.bytesLess a b = true) : Op.bytesLess b a = false := by
 cases h2 : Op.bytesLess b a
 ·rfl
 ·have := eT h h2; rw [dY] at this; cases this
def bD (a b : List UInt8) : Int := if Op.bytesLess a b then -1 else if Op.bytesLess b a then 1 else 0
theorem nY {a b : List UInt8} (h : Op.bytesLess a b = true) : bD a b = -1 := by simp [bD, h]
theorem qA {a b : List UInt8} (h' : Op.bytesLess a b = false) (h : Op.bytesLess b a = true) : bD a b = 1 := by simp [bD, h, h']
theorem qB {a b : List UInt8} (h' : Op.bytesLess a b = false) (h : Op.bytesLess b a = false) : bD a b = 0 := by simp [bD, h, h']
theorem dX (a : List UInt8) : bD a a = 0 := qB (dY a) (dY a)
theorem fC {a b : List UInt8} (h : bD a b = 0) : a = b := by
 cases h1 : Op.bytesLess a b
 ·cases h2 : Op.bytesLess b a
  ·exact gZ h1 h2
  ·rw [qA h1 h2] at h; cases h
 ·rw [nY h1] at h; cases h
theorem fZ (a b : List UInt8) : bD b a = - bD a b := by
 cases h1 : Op.bytesLess a b
 ·cases h2 : Op.bytesLess b a
  ·rw [qB h1 h2, qB h2 h1]; rfl
  ·rw [qA h1 h2, nY h2]
 ·rw [nY h1, qA (sT h1) h1]; rfl
theorem eO {a b : List UInt8} : bD a b < 0 ↔ Op.bytesLess a b = true := by
 cases h1 : Op.bytesLess a b
 ·cases h2 : Op.bytesLess b a
  ·rw [qB h1 h2]; simp
  ·rw [qA h1 h2]; simp
 ·rw [nY h1]; simp
theorem jD (a b : List UInt8) : bD a b = -1 \/ bD a b = 0 \/ bD a b = 1 := by
 unfold bD; split
 ·simp
 ·split <;> simp
theorem dP {a b : ByteArray} (h : a.toList = b.toList) : a = b := by
 rw [ByteArray.toList_eq, ByteArray.toList_eq] at h
 exact ByteArray.ext (Array.toList_inj.1 h)
def aD : List ByteArray -> List ByteArray -> Int
 | [], [] => 0
 | [], _ :: _ => -1
 | _ :: _, [] => 1
 | x :: xs, y :: ys => if bD x.toList y.toList ≠ 0 then bD x.toList y.toList else aD xs ys
theorem nB : ∀ xs ys, aD ys xs = - aD xs ys
 | [], [] => rfl
 | [], _ :: _ => rfl
 | _ :: _, [] => rfl
 | x :: xs, y :: ys => by
  unfold aD
  rw [fZ x.toList y.toList]
  by_cases h : bD x.toList y.toList = 0
  ·rw [if_neg (by simp [h]), if_neg (by simp [h]), nB xs ys]
  ·rw [if_pos (by omega), if_pos h]
theorem nC : ∀ xs, aD xs xs = 0
 | [] => rfl
 | x :: xs => by unfold aD; rw [if_neg (by simp [dX]), nC xs]
theorem gS : ∀ {xs ys}, aD xs ys = 0 -> xs = ys
 | [], [], _ => rfl
 | [], _ :: _, h => by simp [aD] at h
 | _ :: _, [], h => by simp [aD] at h
 | x :: xs, y :: ys, h => by
  unfold aD at h
  by_cases h1 : bD x.toList y.toList = 0
  ·rw [if_neg (by simp [h1])] at h
   rw [gS h, dP (fC h1)]
  ·rw [if_pos h1] at h; exact absurd h h1
theorem pZ : ∀ {xs ys zs}, aD xs ys ≤ 0 -> aD ys zs ≤ 0 -> aD xs zs ≤ 0
 | [], _, [], _, _ => by simp [aD]
 | [], _, _ :: _, _, _ => by simp [aD]
 | _ :: _, [], _, h, _ => by simp [aD] at h
 | _ :: _, _ :: _, [], _, h => by simp [aD] at h
 | x :: xs, y :: ys, z :: zs, h1, h2 => by
  unfold aD at h1 h2 ⊢
  have c1 := jD x.toList y.toList
  have c2 := jD y.toList z.toList
  by_cases e1 : bD x.toList y.toList = 0
  ·rw [if_neg (by simp [e1])] at h1
   rw [fC e1] at *
   by_cases e2 : bD y.toList z.toList = 0
   ·rw [if_neg (by simp [e2])] at h2 ⊢
    exact pZ h1 h2
   ·rw [if_pos e2] at h2 ⊢; exact h2
  ·rw [if_pos e1] at h1
   have l1 := eO.1 (show bD x.toList y.toList < 0 by omega)
   by_cases e2 : bD y.toList z.toList = 0
   ·rw [<- fC e2, if_pos e1]; exact h1
   ·rw [if_pos e2] at h2
    have l2 := eO.1 (show bD y.toList z.toList < 0 by omega)
    have l3 := nY (eT l1 l2)
    rw [if_pos (by omega), l3]; decide
theorem aCu (xs ys : List ByteArray) (k : Nat) (h1 : k < xs.length) (h2 : k < ys.length) : aD (xs.drop k) (ys.drop k) = if bD xs[k].toList ys[k].toList ≠ 0 then bD xs[k].toList ys[k].toList else aD (xs.drop (k+1)) (ys.drop (k+1)) := by
 rw [List.drop_eq_getElem_cons h1, List.drop_eq_getElem_cons h2]; rfl
theorem aFc (xs ys : List ByteArray) (k : Nat) (h1 : k < xs.length) (h2 : ys.length ≤ k) : aD (xs.drop k) (ys.drop k) = 1 := by
 rw [List.drop_eq_getElem_cons h1, List.drop_of_length_le h2]; rfl
theorem aCt (xs ys : List ByteArray) (k : Nat) (h1 : xs.length ≤ k) (h2 : k < ys.length) : aD (xs.drop k) (ys.drop k) = -1 := by
 rw [List.drop_eq_getElem_cons h2, List.drop_of_length_le h1]; rfl
theorem aCs (xs ys : List ByteArray) (k : Nat) (h1 : xs.length ≤ k) (h2 : ys.length ≤ k) : aD (xs.drop k) (ys.drop k) = 0 := by
 rw [List.drop_of_length_le h2, List.drop_of_length_le h1]; rfl
theorem kJ (s : ByteArray) (w : World) : Calls Tryz.prog 220 #[.string s] w (Ret (.bool false) w) := by
 go_enter Tryz.func220, Tryz.ntmps220
 go_wp2
 go_ret
 exact Ret.mk (by simp)
theorem oL (s t : ByteArray) (w : World) : Calls Tryz.prog 204 #[.string s, .string t] w (Ret (.int .i64 (bD s.toList t.toList)) w) := by
 cases h1 : Op.bytesLess s.toList t.toList
 ·cases h2 : Op.bytesLess t.toList s.toList
  ·rw [qB h1 h2]
   have h3 : (!(s.toList == t.toList)) = false := by simp [gZ h1 h2]
   go_enter Tryz.func204, Tryz.ntmps204
   go_wp2_with (go_at_call 220; (with_reducible refine (kJ _ _).mono ?_); rintro e w' ⟨rfl, rfl⟩)
   go_ret
   exact Ret.mk rfl
  ·rw [qA h1 h2]
   have h3 : (!(s.toList == t.toList)) = true := by
    cases h : (s.toList == t.toList)
    ·rfl
    ·rw [eq_of_beq h] at h1 h2; rw [h1] at h2; cases h2
   go_enter Tryz.func204, Tryz.ntmps204
   go_wp2_with (go_at_call 220; (with_reducible refine (kJ _ _).mono ?_); rintro e w' ⟨rfl, rfl⟩)
   go_ret
   exact Ret.mk rfl
 ·rw [nY h1]
  go_enter Tryz.func204, Tryz.ntmps204
  go_wp2_with (go_at_call 220; (with_reducible refine (kJ _ _).mono ?_); rintro e w' ⟨rfl, rfl⟩)
  go_ret
  exact Ret.mk rfl
set_option maxHeartbeats 400000 in
theorem jJ (xs ys : List ByteArray) (a b : Option Addr) (c d : Nat) (w : World) (ha : CellsAt w a (strs xs)) (hb : CellsAt w b (strs ys)) (hx : xs.length ≤ maxLen) (hy : ys.length ≤ maxLen) :
 Calls Tryz.prog 174 #[.slice a xs.length c, .slice b ys.length d] w (Ret (.int .i64 (aD xs ys)) w) := by
 unfold maxLen at hx hy
 go_enter Tryz.func174, Tryz.ntmps174
 go_wp2
 go_loop [11] (fun i => ∃ k : Nat, k ≤ xs.length /\ k ≤ ys.length /\ i = .int .i64 k /\ aD xs ys = aD (xs.drop k) (ys.drop k)) (fun i => xs.length - (intOf i).toNat)
 case atStart => exact ⟨0, Nat.zero_le _, Nat.zero_le _, rfl, rfl⟩
 case round =>
  obtain ⟨k, hk, hk2, rfl, hr⟩ := hrel
  have H := qH hr; clear hr
  by_cases h1 : k < xs.length
  ·obtain ⟨b1, o1, rfl, c1⟩ := ha.str h1
   by_cases h2 : k < ys.length
   ·obtain ⟨b2, o2, rfl, c2⟩ := hb.str h2
    have hd := aCu xs ys k h1 h2
    generalize hc : bD xs[k].toList ys[k].toList = c3 at hd
    by_cases h3 : c3 = 0
    ·rw [if_neg (by simp [h3])] at hd
     have HD := qH hd; clear hd
     subst h3
     have HC := qH hc; clear hc
     go_wp2_with (go_at_call 204; refine (oL _ _ _).mono ?_; rintro e w' ⟨rfl, rfl⟩; rw [HC.out])
     go_round
     case rel => exact ⟨k + 1, by omega, by omega, by go_num, by rw [H.out, HD.out]⟩
     case measure => simp [intOf]; omega
    ·rw [if_pos h3] at hd
     have HD := qH hd; clear hd
     have HC := qH hc; clear hc
     have h4 : (c3 != 0) = true := by simp [h3]
     go_wp2_with (go_at_call 204; refine (oL _ _ _).mono ?_; rintro e w' ⟨rfl, rfl⟩; rw [HC.out])
     go_ret
     exact Ret.mk (by rw [H.out, HD.out]; rfl)
   ·have hd := aFc xs ys k h1 (by omega)
    have HD := qH hd; clear hd
    go_wp2
    go_ret
    exact Ret.mk (by rw [H.out, HD.out]; rfl)
  ·by_cases h2 : k < ys.length
   ·have HD := qH (aCt xs ys k (by omega) h2)
    go_wp2
    go_ret
    exact Ret.mk (by rw [H.out, HD.out]; rfl)
   ·have HD := qH (aCs xs ys k (by omega) (by omega))
    go_wp2
    go_ret
    exact Ret.mk (by rw [H.out, HD.out]; rfl)
theorem qI (xs ys : List ByteArray) (a b : Option Addr) (c d : Nat) (w : World) (ha : CellsAt w a (strs xs)) (hb : CellsAt w b (strs ys)) (hx : xs.length ≤ maxLen) (hy : ys.length ≤ maxLen) :
 Calls Tryz.prog 120 #[.slice a xs.length c, .slice b ys.length d] w (Ret (.int .i64 (aD xs ys)) w) := by
 go_enter Tryz.func120, Tryz.ntmps120
 go_wp2_with (go_at_call 174; (with_reducible refine (jJ _ _ _ _ _ _ _ ha hb hx hy).mono ?_); rintro e w' ⟨rfl, rfl⟩)
 go_ret
 exact Ret.mk rfl
end
section
section
variable {α : Type} {c : α -> α -> Int}
theorem aG4 {L : List α} {x y : α} (h : y ∈ jA c L x) : y ∈ L := by
 unfold jA at h
 split at h
 ·rcases List.mem_append.1 h with h | h
  ·exact List.mem_of_mem_take h
  ·exact List.mem_of_mem_drop h
 ·exact h
end
end
section
open Go.RowKit
theorem pB (ss : List ByteArray) : ∀ u ∈ strs ss, u.oneCell' = true := by
 intro u hu; obtain ⟨s, _, rfl⟩ := List.mem_map.1 hu; rfl
end
section
section
variable {α : Type} {c : α -> α -> Int}
def aGg (c : α -> α -> Int) : Prop := ∀ x y, c x y = 0 -> x = y
theorem aJp (O : OrdLaw c) (T : aGg c) {L : List α} {x : α} : bA c L x = true ↔ x ∈ L := by
 rw [mT]
 constructor
 ·rintro ⟨y, hy, e⟩; rw [<- T y x e]; exact hy
 ·intro h; exact ⟨x, h, O.refl x⟩
theorem aJo (O : OrdLaw c) (T : aGg c) {L : List α} {x : α} : (!bA c L x) = true ↔ x ∉ L := by
 rw [<- aJp O T (c := c)]; simp
variable (O : OrdLaw c) (T : aGg c) {s o : List α} (hs : Strict c s) (ho : Strict c o)
end
end
section
open Ieee
end
section
abbrev aE := Int × ByteArray × Unit
abbrev aDe := ByteArray × List aE × Unit
abbrev aM := Int × aDe × Int × aE × aE × Unit
abbrev bM := aDe × List aM × Unit
abbrev aB (l : aM) : List aE := l.2.1.2.1
abbrev bF (l : aM) : ByteArray := l.2.1.1
abbrev iC (l : aM) : Int := l.2.2.1
abbrev leftOf (l : aM) : aE := l.2.2.2.1
abbrev aS (l : aM) : aE := l.2.2.2.2.1
theorem xL {α σ : Type} (f : σ -> α -> σ) (s : σ) {l : List α} {i : Nat} {x : α} (h : l[i]? = some x) : (l.take (i + 1)).foldl f s = f ((l.take i).foldl f s) x := by
 rw [List.take_add_one, h, List.foldl_append]; rfl
def kK (a : List ByteArray) (s : ByteArray) : Bool := a.any fun x => decide (x = s)
theorem cJ {a : List ByteArray} {s : ByteArray} : kK a s = true ↔ s ∈ a := by
 unfold kK
 rw [List.any_eq_true]
 exact ⟨fun ⟨x, h, e⟩ => of_decide_eq_true e ▸ h, fun h => ⟨s, h, decide_eq_true rfl⟩⟩
def bE (a : List ByteArray) (t : aE) : List ByteArray := if t.1 = 1 /\ kK a t.2.1 = false then a ++ [t.2.1] else a
def cK (a : List ByteArray) (ts : List aE) : List ByteArray := ts.foldl bE a
def bR (a : List ByteArray) (l : aM) : List ByteArray := if l.1 = 1 then cK a (aB l) else a
def aA (ls : List aM) : List ByteArray := ls.foldl bR []
def kinds (ts : List aE) (up : Int) : Bool := ts.all fun t => decide (1 ≤ t.1 /\ t.1 ≤ up)
def sV (ts : List aE) : Nat := ts.countP fun t => decide (4 ≤ t.1)
def iX (ts : List aE) : Bool := kinds ts 7 && decide (sV ts < 2) && decide (ts.length ≤ 64)
def kE (l : aM) : Bool := if l.1 = 1 \/ l.1 = 2 then decide ((aB l).length ≤ 64) && kinds (aB l) 3 else if l.1 = 3 then decide (1 ≤ iC l /\ iC l ≤ 4) && kinds [leftOf l, aS l] 3 else false
def eE (r : bM) : Bool := iX r.1.2.1 && r.2.1.all kE
def dQ (N : List ByteArray) (blank : Bool) (t : aE) : Bool := if t.1 = 2 then blank else decide (t.1 = 3 \/ t.1 = 4 \/ kK N t.2.1 = true)
def jK (N : List ByteArray) (l : aM) : Bool := if l.1 = 3 then dQ N false (leftOf l) && dQ N false (aS l) else if l.1 = 2 then (aB l).all (dQ N true) else true
def mF (r : bM) : Bool := r.1.2.1.all (dQ (aA r.2.1) false) && r.2.1.all (jK (aA r.2.1))
def aP (r : bM) : Nat := if eE r = true then if mF r = true then 0 else 111 else 2
end
section
open Go.RowKit
def sQ (m : List (ByteArray × Value)) (s : ByteArray) : Option Value := (m.find? fun p => decide (p.1 = s)).map (·.2)
def lC (m : List (ByteArray × Value)) (s : ByteArray) (v : Value) : List (ByteArray × Value) := if (sQ m s).isSome then m.map fun p => if p.1 = s then (p.1, v) else p else m ++ [(s, v)]
def MapIs (w : World) (r : Nat) (m : List (ByteArray × Value)) : Prop :=
 ∃ es clock, w.heap[r]? = some (.map es clock) /\ es.toList.map (fun e => (e.key, e.val)) = m.map (fun p => (Value.string p.1, p.2)) /\ (m.map (·.1)).Nodup /\ MapKept.Stamped es clock
section
variable {P : Program} {w w' : World} {r : Nat} {m : List (ByteArray × Value)}
theorem MapIs.kp {F : Nat -> Prop} (h : MapIs w r m) (hk : Kp F w w') (hf : ¬ F r) : MapIs w' r m := by
 obtain ⟨es, c, h1, h2⟩ := h
 exact ⟨es, c, (hk.block r (lt_of_block h1) hf).trans h1, h2⟩
theorem MapIs.ext (h : MapIs w r m) (hk : Ext w w') : MapIs w' r m := h.kp hk id
theorem MapIs.lt (h : MapIs w r m) : r < w.heap.size := by
 obtain ⟨es, c, h1, h2⟩ := h
 exact lt_of_block h1
theorem MapIs.new (w : World) : MapIs (w.alloc (.map #[] 0)) w.heap.size [] := by
 refine ⟨#[], 0, ?_, rfl, List.nodup_nil, MapKept.stamped_empty 0⟩
 show (w.heap.push _)[w.heap.size]? = _; simp
theorem aFg (a b : ByteArray) : (a == b) = decide (a = b) := by
 rw [Bool.eq_iff_iff, MapKept.bytes_beq, decide_eq_true_iff]
theorem jP (s : ByteArray) : ∀ (es : List MapEntry) (m : List (ByteArray × Value)) (i : Nat), es.map (fun e => (e.key, e.val)) = m.map (fun p => (Value.string p.1, p.2)) ->
 Instr.findNow .string (.string s) es i = some ((m.findIdx? fun p => decide (p.1 = s)).bind fun k => (m[k]?).map fun p => (i + k, p.2))
 | [], [], i, _ => rfl
 | [], _ :: _, i, h => by simp at h
 | _ :: _, [], i, h => by simp at h
 | e :: es, p :: m, i, h => by
  simp only [List.map_cons, List.cons.injEq, Prod.mk.injEq] at h
  obtain ⟨⟨h1, h2⟩, h3⟩ := h
  have ih := jP s es m (i + 1) h3
  by_cases hs : s = p.1
  ·subst hs
   simp [Instr.findNow, Instr.sameNow, h1, h2, List.findIdx?_cons, aFg]
  ·have hb' : decide (p.1 = s) = false := by simp [Ne.symm hs]
   have hb : (s == p.1) = false := by rw [aFg]; simp [hs]
   simp only [Instr.findNow, Instr.sameNow, h1, hb, ih, List.findIdx?_cons, hb']
   cases hf : m.findIdx? (fun p => decide (p.1 = s)) with
   | none => simp
   | some k => simp [Nat.add_assoc, Nat.add_comm 1 k]
theorem vD (m : List (ByteArray × Value)) (s : ByteArray) : sQ m s = (m.findIdx? fun p => decide (p.1 = s)).bind fun k => (m[k]?).map (·.2) := by
 unfold sQ
 induction m with
 | nil => rfl
 | cons p m ih =>
  by_cases hs : p.1 = s
  ·simp [hs, List.findIdx?_cons]
  ·simp only [List.find?_cons, List.findIdx?_cons, hs, decide_false, Bool.false_eq_true, if_false]
   rw [ih]
   cases m.findIdx? (fun p => decide (p.1 = s)) <;> simp
theorem gD {k : TypeId} (hk : P.underlying k = some .string) (s : ByteArray) (em : Bool) (n : Nat) : (Instr.checkKey em (n + 1) k (.string s)).run P w = .ok () w := by
 simp [Instr.checkKey, run_underlying hk]
theorem iB {k : TypeId} (hk : P.underlying k = some .string) (s : ByteArray) {es : List MapEntry} {r : Option (Nat × Value)} (hf : Instr.findNow .string (.string s) es 0 = some r) : (Instr.findKey k (.string s) es).run P w = .ok r w := by
 simp [Instr.findKey, run_underlying hk, hf]
theorem iT {t k e : TypeId} (ht : P.underlying t = some (.map k e)) (hk : P.underlying k = some .string) {z : Value} (hz : (zeroValue e).run P w = .ok z w) (h : MapIs w r m) (s : ByteArray) :
 (Instr.lookup t (.map (some r)) (.string s) false).run P w = .ok ((sQ m s).getD z) w := by
 obtain ⟨es, c, h1, h2, h3⟩ := h
 have hf := iB (w := w) hk s (jP s es.toList m 0 h2)
 have hg := vD m s
 have hc := gD (w := w) hk s es.isEmpty 9999
 cases hi : m.findIdx? (fun p => decide (p.1 = s)) with
 | none =>
  rw [hi] at hf hg
  simp only [Option.bind_none] at hf hg
  simp [Instr.lookup, run_underlying ht, MapKept.run_getObj_map h1, hc, hf, hg, hz, Result.andThen]
 | some i =>
  rw [hi] at hf hg
  simp only [Option.bind_some] at hf hg
  obtain ⟨hl, _⟩ := List.findIdx?_eq_some_iff_getElem.1 hi
  rw [qG hl] at hf hg
  simp only [Option.map_some] at hf hg
  simp [Instr.lookup, run_underlying ht, MapKept.run_getObj_map h1, hc, hf, hg, Result.andThen]
theorem pH {t k e : TypeId} (ht : P.underlying t = some (.map k e)) (hk : P.underlying k = some .string) {z : Value} (hz : (zeroValue e).run P w = .ok z w) (h : MapIs w r m) (s : ByteArray) :
 (Instr.lookup t (.map (some r)) (.string s) true).run P w = .ok (.tuple #[(sQ m s).getD z, .bool (sQ m s).isSome]) w := by
 obtain ⟨es, c, h1, h2, h3⟩ := h
 have hf := iB (w := w) hk s (jP s es.toList m 0 h2)
 have hg := vD m s
 have hc := gD (w := w) hk s es.isEmpty 9999
 cases hi : m.findIdx? (fun p => decide (p.1 = s)) with
 | none =>
  rw [hi] at hf hg
  simp only [Option.bind_none] at hf hg
  simp [Instr.lookup, run_underlying ht, MapKept.run_getObj_map h1, hc, hf, hg, hz, Result.andThen]
 | some i =>
  rw [hi] at hf hg
  simp only [Option.bind_some] at hf hg
  obtain ⟨hl, _⟩ := List.findIdx?_eq_some_iff_getElem.1 hi
  rw [qG hl] at hf hg
  simp only [Option.map_some] at hf hg
  simp [Instr.lookup, run_underlying ht, MapKept.run_getObj_map h1, hc, hf, hg, Result.andThen]
theorem wC (s : ByteArray) : (Instr.keyThatStays (.string s) (.string s)).run P w = .ok (.string s) w := by
 have h : Instr.sameBits 10000 (.string s) (.string s) = true := by
  simp [Instr.sameBits, aFg]
 simp [Instr.keyThatStays, h]
def sP (w : World) (r : Nat) (o : Obj) : World := { w with heap := w.heap.setIfInBounds r o }
theorem aGb (w : World) (r : Nat) (o : Obj) : Kp (fun k => k = r) w (sP w r o) :=
 ⟨rfl, rfl, rfl, by simp [sP], fun k _ hk => by simp only [sP]; rw [Array.getElem?_setIfInBounds_ne (fun e => hk e.symm)]⟩
theorem xE (w : World) (r : Nat) (o : Obj) (h : r < w.heap.size) : (sP w r o).heap[r]? = some o := by
 simp [sP, h]
theorem mG {t k e : TypeId} (ht : P.underlying t = some (.map k e)) (hk : P.underlying k = some .string) (h : MapIs w r m) (s : ByteArray) (v : Value) :
 ∃ w', (Instr.mapUpdate t (.map (some r)) (.string s) v).run P w = .ok () w' /\ MapIs w' r (lC m s v) /\ Kp (fun k => k = r) w w' := by
 obtain ⟨es, c, h1, h2, h3, h4⟩ := h
 have hlt := lt_of_block h1
 have hf := iB (w := w) hk s (jP s es.toList m 0 h2)
 have hg := vD m s
 have hc := gD (w := w) hk s false 9999
 have hlen : es.size = m.length := by simpa using congrArg List.length h2
 cases hi : m.findIdx? (fun p => decide (p.1 = s)) with
 | none =>
  rw [hi] at hf hg
  simp only [Option.bind_none] at hf hg
  refine ⟨sP w r (.map (es.push { key := .string s, val := v, born := c }) (c + 1)), ?_, ⟨_, _, xE _ _ _ hlt, ?_, ?_, ?_⟩, aGb _ _ _⟩
  ·simp [Instr.mapUpdate, run_underlying ht, MapKept.run_getObj_map h1, hc, hf, Result.andThen, MapKept.run_setObj_map _ h1, sP]
  ·simp [lC, hg, h2]
  ·have hno := List.findIdx?_eq_none_iff.1 hi
   simp only [lC, hg, Option.isSome_none, Bool.false_eq_true, if_false, List.map_append, List.map_cons, List.map_nil]
   refine List.nodup_append.2 ⟨h3, by simp, ?_⟩
   intro a ha b hb
   simp only [List.mem_singleton] at hb
   subst hb
   obtain ⟨p, hp, rfl⟩ := List.mem_map.1 ha
   have := hno p hp
   simpa using this
  ·refine MapKept.stamped_push h4 fun x hx e => ?_
   have h5 : (x.key, x.val) ∈ es.toList.map (fun e => (e.key, e.val)) := List.mem_map.2 ⟨x, hx, rfl⟩
   rw [h2] at h5
   obtain ⟨p, hp, e2⟩ := List.mem_map.1 h5
   have h6 := List.findIdx?_eq_none_iff.1 hi p hp
   have h7 : Value.string p.1 = Value.string s := by rw [<- e]; exact congrArg Prod.fst e2
   simp at h6 h7
   exact h6 h7
 | some i =>
  rw [hi] at hf hg
  simp only [Option.bind_some] at hf hg
  obtain ⟨hl, hpi, hbefore⟩ := List.findIdx?_eq_some_iff_getElem.1 hi
  rw [qG hl] at hf hg
  simp only [Option.map_some, Nat.zero_add] at hf hg
  have hei : es[i]? = some (es[i]'(by omega)) := Array.getElem?_eq_getElem (by omega)
  have hpair := congrArg (fun l : List (Value × Value) => l[i]?) h2
  simp only [List.getElem?_map, Array.getElem?_toList, hei, qG hl, Option.map_some, Option.some.injEq, Prod.mk.injEq] at hpair
  have hps : m[i].1 = s := by simpa using hpi
  have hkey : (es[i]'(by omega)).key = .string s := by rw [hpair.1, hps]
  refine ⟨sP w r (.map (es.modify i fun e => { e with key := .string s, val := v }) c), ?_, ⟨_, _, xE _ _ _ hlt, ?_, ?_, ?_⟩, aGb _ _ _⟩
  ·simp [Instr.mapUpdate, run_underlying ht, MapKept.run_getObj_map h1, hc, hf, hei, hkey, wC, Result.andThen, MapKept.run_setObj_map _ h1, sP]
  ·simp only [lC, hg, Option.isSome_some, if_true]
   apply List.ext_getElem?
   intro q
   have hq := congrArg (fun l : List (Value × Value) => l[q]?) h2
   simp only [List.getElem?_map, Array.getElem?_toList] at hq
   simp only [List.getElem?_map, Array.getElem?_toList, Array.getElem?_modify]
   cases hmq : m[q]? with
   | none =>
    rw [hmq] at hq
    cases heq : es[q]? with
    | none => by_cases e : i = q <;> simp
    | some x => rw [heq] at hq; simp at hq
   | some p =>
    rw [hmq] at hq
    cases heq : es[q]? with
    | none => rw [heq] at hq; simp at hq
    | some x =>
     rw [heq] at hq
     simp only [Option.map_some, Option.some.injEq, Prod.mk.injEq] at hq
     by_cases e : i = q
     ·subst e
      have : p = m[i] := by rw [qG hl] at hmq; exact (Option.some.inj hmq).symm
      subst this
      simp [hps]
     ·have hne : p.1 ≠ s := by
       intro e2
       have h5 := List.pairwise_iff_getElem.1 h3
       obtain ⟨hql, hqe⟩ := List.getElem?_eq_some_iff.1 hmq
       rcases Nat.lt_or_gt_of_ne e with h6 | h6
       ·have := h5 i q (by simpa using hl) (by simpa using hql) h6
        simp only [List.getElem_map, hqe, hps, e2] at this
        exact this rfl
       ·have := h5 q i (by simpa using hql) (by simpa using hl) h6
        simp only [List.getElem_map, hqe, hps, e2] at this
        exact this rfl
      simp [e, hne, hq.1, hq.2]
  ·simp only [lC, hg, Option.isSome_some, if_true, List.map_map]
   have : (fun x : ByteArray × Value => x.1) ∘ (fun p => if p.1 = s then (p.1, v) else p) = fun x => x.1 := by
    funext p; simp only [Function.comp]; split <;> rfl
   rw [this]; exact h3
  ·refine MapKept.stamped_modify h4 i _ (fun _ _ => rfl) fun e _ he => ?_
   rw [hei] at he
   cases he
   exact hkey.symm
end
end
section
open Go.RowKit
attribute [local go_sem] Oper.semAt_some
def loZ (z : Int) : Nat := (z % 18446744073709551616).toNat
def hiZ (z : Int) : Nat := (z / 18446744073709551616 % 18446744073709551616).toNat
theorem iV (z : Int) : ((loZ z : Nat) : Int) = z % 18446744073709551616 := by unfold loZ; omega
theorem aEu (z : Int) : ((hiZ z : Nat) : Int) = z / 18446744073709551616 % 18446744073709551616 := by unfold hiZ; omega
def TotalAt (W : World) (b : Nat) (z : Int) : Prop := Blk W b [.int .u64 (loZ z : Nat), .int .u64 (hiZ z : Nat)] 98
theorem TotalAt.kp {W W' : World} {F : Nat -> Prop} {b : Nat} {z : Int} (h : TotalAt W b z) (hk : Kp F W W') (hF : ¬ F b) : TotalAt W' b z := Blk.kp h hk hF
theorem zB (w : World) : Calls Tryz.prog 9 #[] w (RetN w fun w' v => v = .pointer (some ⟨w.heap.size, 0, none⟩) /\ w'.heap.size = w.heap.size + 1 /\ TotalAt w' w.heap.size 0) := by
 go_enter Tryz.func9, Tryz.ntmps9
 go_wp2
 go_ret
 exact RetN.mk ((Kp.refl w).alloc _) ⟨rfl, by rw [aI], Blk.new w [.int .u64 0, .int .u64 0] _⟩
theorem yI (x y c : Nat) (hc : c ≤ 1) (w : World) : (callFunc 51 #[.int .u64 (x : Int), .int .u64 (y : Int), .int .u64 (c : Int)]).run Tryz.prog w = .ok (.value (.tuple #[.int .u64 (((x + y + c) % 18446744073709551616 : Nat) : Int), .int .u64 (((x + y + c) / 18446744073709551616 : Nat) : Int)])) w := Any7.bits_Add64 Tryz.lays25 x y c hc w
set_option maxHeartbeats 1000000 in
theorem aDs (b : Nat) (z n : Int) (hn0 : -9223372036854775808 ≤ n) (hn1 : n ≤ 9223372036854775807) (w : World) (h : TotalAt w b z) : Calls Tryz.prog 11 #[.pointer (some ⟨b, 0, none⟩), .int .i64 n] w fun e w' => e = .returned (.tuple #[]) /\ Kp (fun k => k = b) w w' /\ TotalAt w' b (z + n) := by
 obtain ⟨x, ex⟩ : ∃ x, loZ z = x := ⟨_, rfl⟩
 obtain ⟨y, ey⟩ : ∃ x, hiZ z = x := ⟨_, rfl⟩
 obtain ⟨nu, enu⟩ : ∃ m : Nat, IntKind.u64.wrap n = (m : Int) /\ m = loZ n := ⟨loZ n, by rw [iV]; rfl, rfl⟩
 obtain ⟨sg, esg⟩ : ∃ m : Nat, IntKind.u64.wrap (n / 9223372036854775808) = (m : Int) /\ m = loZ (n / 9223372036854775808) := ⟨loZ (n / 9223372036854775808), by rw [iV]; rfl, rfl⟩
 obtain ⟨s1, es1⟩ : ∃ m, (x + nu + 0) % 18446744073709551616 = m := ⟨_, rfl⟩
 obtain ⟨c1, ec1⟩ : ∃ m, (x + nu + 0) / 18446744073709551616 = m := ⟨_, rfl⟩
 have hx : x < 18446744073709551616 := by have := iV z; omega
 have hnu : nu < 18446744073709551616 := by have := iV n; omega
 have hc1 : c1 ≤ 1 := by omega
 have ha1 : ∀ W, (callFunc 51 #[.int .u64 (x : Int), .int .u64 (nu : Int), .int .u64 0]).run Tryz.prog W = .ok (.value (.tuple #[.int .u64 (((x + nu + 0) % 18446744073709551616 : Nat) : Int), .int .u64 (((x + nu + 0) / 18446744073709551616 : Nat) : Int)])) W := fun W => yI x nu 0 (by omega) W
 have ha2 := fun W => yI y sg c1 hc1 W
 simp only [es1, ec1] at ha1
 obtain ⟨s2, es2⟩ : ∃ m, (y + sg + c1) % 18446744073709551616 = m := ⟨_, rfl⟩
 obtain ⟨c2, ec2⟩ : ∃ m, (y + sg + c1) / 18446744073709551616 = m := ⟨_, rfl⟩
 simp only [es2, ec2] at ha2
 have hb := h
 unfold TotalAt at hb
 rw [ex, ey] at hb
 have c0 : w.cell? ⟨b, 0, none⟩ = some (.int .u64 (x : Nat)) := by rw [hb.cell']; rfl
 have c1' : w.cell? ⟨b, 1, none⟩ = some (.int .u64 (y : Nat)) := by rw [hb.cell']; rfl
 have f0 := hb.free 0
 have f1 := hb.free 1
 have HF := qH (show s1 = loZ (z + n) /\ s2 = hiZ (z + n) from by
  have a1 := iV z; have a2 := aEu z; have a3 := iV n; have a4 := iV (n / 9223372036854775808)
  have b1 := iV (z + n); have b2 := aEu (z + n)
  have e1 := enu.2; have e2 := esg.2
  constructor <;> omega)
 have HB := qH hb
 have e1 := enu.1
 have e2 := esg.1
 clear h hb enu esg es1 ec1 es2 ec2 ex ey
 go_enter Tryz.func11, Tryz.ntmps11
 go_wp2
 go_end0
 have ks : Kp (fun k => k = b) w ((w.setCell ⟨b, 0, none⟩ (.int .u64 (s1 : Nat))).setCell ⟨b, 1, none⟩ (.int .u64 (s2 : Nat))) := kSb
 refine ⟨rfl, ks, ?_⟩
 have h2 := (HB.out.set 0 (.int .u64 (s1 : Nat))).set 1 (.int .u64 (s2 : Nat))
 unfold TotalAt
 rw [<- HF.out.1, <- HF.out.2]
 exact h2
theorem aF0 (a b c d : Int) (w : World) : (Op.equalIn 10000 96 (.agg #[.int .u64 a, .int .u64 b]) (.agg #[.int .u64 c, .int .u64 d])).run Tryz.prog w = .ok (a == c && b == d) w := by
 have u3 := Tryz.underlying95
 have a3 := Tryz.isAgg95
 have z3 := Tryz.sizeOf95
 rw [show (10000 : Nat) = 9999 + 1 from rfl, Op.equalIn]
 simp only [Sem.run_bind, run_underlying Tryz.underlying96, Result.andThen_ok]
 simp only [Std.Legacy.Range.forIn_eq_forIn_range', Std.Legacy.Range.size, Nat.sub_zero, Nat.add_sub_cancel, Nat.div_one, List.range'_succ, List.range'_zero, List.forIn_cons, List.forIn_nil]
 go_simp
 by_cases h1 : a = c <;> by_cases h2 : b = d <;> simp [h1, h2]
def aAo (z : Int) : Int × Bool := if -9223372036854775808 ≤ z /\ z ≤ 9223372036854775807 then (z, true) else (0, false)
set_option maxHeartbeats 1000000 in
theorem aDr (b : Nat) (z : Int) (hz0 : -170141183460469231731687303715884105728 ≤ z) (hz1 : z < 170141183460469231731687303715884105728) (w : World) (h : TotalAt w b z) : Calls Tryz.prog 13 #[.pointer (some ⟨b, 0, none⟩)] w (Ret (.tuple #[.int .i64 (aAo z).1, .bool (aAo z).2]) w) := by
 have hb := h
 unfold TotalAt at hb
 obtain ⟨x, ex⟩ : ∃ x, loZ z = x := ⟨_, rfl⟩
 obtain ⟨y, ey⟩ : ∃ x, hiZ z = x := ⟨_, rfl⟩
 have a1 := iV z
 have a2 := aEu z
 rw [ex] at hb a1
 rw [ey] at hb a2
 have c0 : w.cell? ⟨b, 0, none⟩ = some (.int .u64 (x : Nat)) := by rw [hb.cell']; rfl
 have c1 : w.cell? ⟨b, 1, none⟩ = some (.int .u64 (y : Nat)) := by rw [hb.cell']; rfl
 obtain ⟨n, en⟩ : ∃ n : Int, IntKind.i64.wrap (x : Int) = n := ⟨_, rfl⟩
 obtain ⟨sg, esg⟩ : ∃ m : Nat, IntKind.u64.wrap (n / 9223372036854775808) = (m : Int) /\ m = loZ (n / 9223372036854775808) := ⟨loZ (n / 9223372036854775808), by rw [iV]; rfl, rfl⟩
 have hn : (x < 9223372036854775808 -> n = x) /\ (9223372036854775808 ≤ x -> n = (x : Int) - 18446744073709551616) := by
  rw [<- en, IntKind.wrap_i64]
  constructor <;> intro h1 <;> omega
 have e2 : IntKind.u64.wrap n = (x : Int) := by rw [IntKind.wrap_u64]; omega
 have e1 := esg.1
 have a4 := iV (n / 9223372036854775808)
 have e3 := esg.2
 by_cases hyx : y = sg
 ·have HF := qH (show aAo z = (n, true) from by
   unfold aAo
   rw [if_pos (by omega)]
   exact Prod.ext (by show z = n; omega) rfl)
  subst hyx
  have hq := aF0 x y x y w
  simp only [BEq.rfl, Bool.and_self] at hq
  clear h hb esg hn a1 a2 a4 e3 ex ey
  go_enter Tryz.func13, Tryz.ntmps13
  go_wp2
  go_ret2
  exact Ret.mk (by rw [HF.out]; rfl)
 ·have HF := qH (show aAo z = (0, false) from by
   unfold aAo
   rw [if_neg (by omega)])
  have hq := aF0 x y x sg w
  have hys : ((y : Int) == (sg : Int)) = false := by simp; omega
  simp only [hys, Bool.and_false] at hq
  clear h hb esg hn a1 a2 a4 e3 ex ey hys
  go_enter Tryz.func13, Tryz.ntmps13
  go_wp2
  go_ret2
  exact Ret.mk (by rw [HF.out]; rfl)
end
section
open Ieee
end
section
end
section
open Go.ChangeShapes Go.WideShapes Go.ChangeAt Go.RowKit
open Go.ChangeMaps (open_string shut_string)
section
variable {H : Type} {enc : TypeId × Value -> H} {P : Program} {W : World}
end
end
section
open Go.ChangeShapes Go.WideShapes Go.ChangeAt Go.RowKit
theorem aJ5 {H : Type} (d : DataW H) : 1 ≤ Rows.uptoBulk d := by
 cases d with
 | lit l => cases l <;> simp [Rows.uptoBulk]
 | nil => simp [Rows.uptoBulk]
 | ptr d => simp [Rows.uptoBulk]
 | slice elems spare => simp [Rows.uptoBulk]
 | agg parts => simp [Rows.uptoBulk]
 | iface t d => simp [Rows.uptoBulk]
 | map entries => simp [Rows.uptoBulk]
 | held h => simp [Rows.uptoBulk]
structure Shp (P : Program) (α : Type) where
 ty : TypeId
 n : Nat
 At : World -> (Nat -> Prop) -> List Value -> α -> Prop
 bulk : α -> Nat
 cells : P.cellsOf ty = n
 len : ∀ {w G cs x}, At w G cs x -> cs.length = n
 kp : ∀ {w w' G F cs x}, At w G cs x -> Kp F w w' -> (∀ k, G k -> ¬ F k) -> At w' G cs x
 mono : ∀ {w G G' cs x}, At w G cs x -> (∀ k, G k -> G' k) -> At w G' cs x
 read : ∀ {H : Type} {enc : TypeId × Value -> H} {w fuel cs d p}, DataW.trod enc P w 0 (fun _ => true) true fuel ty cs = some (d, p) -> ∃ x, At w (fun k => k < w.heap.size) cs x /\ bulk x ≤ Rows.uptoBulk d
section
variable {P : Program} {α β : Type}
def aFz (t : TypeId) (k : IntKind) (hu : P.underlying t = some (.int k)) (hc : P.cellsOf t = 1) : Shp P Int where
 ty := t
 n := 1
 At := fun _ _ cs x => cs = [.int k x] /\ (Lit.int k x).wf = true
 bulk := fun _ => 1
 cells := hc
 len := fun h => by rw [h.1]; rfl
 kp := fun h _ _ => h
 mono := fun h _ => h
 read := fun h => by
  obtain ⟨n, rfl, e, hw⟩ := DataW.trod_int hu h
  cases e
  exact ⟨n, ⟨rfl, hw⟩, aJ5 _⟩
def aAq (t : TypeId) (hu : P.underlying t = some .string) (hc : P.cellsOf t = 1) : Shp P ByteArray where
 ty := t
 n := 1
 At := fun _ _ cs x => cs = [.string x] /\ x.size ≤ maxLen
 bulk := fun x => x.size + 1
 cells := hc
 len := fun h => by rw [h.1]; rfl
 kp := fun h _ _ => h
 mono := fun h _ => h
 read := fun h => by
  obtain ⟨n, rfl, e, hw⟩ := DataW.trod_string hu h
  cases e
  refine ⟨n, ⟨rfl, hw⟩, ?_⟩
  rw [Rows.uptoBulk, Array.length_toList]; exact Nat.le_refl _
def ElemsAt (s : Shp P α) (w : World) (G : Nat -> Prop) (ao : Option Addr) (xs : List α) : Prop :=
 ∀ i x, xs[i]? = some x -> ∃ b off es, ao = some ⟨b, off, none⟩ /\ G b /\ b < w.heap.size /\ s.At w G es x /\ ∀ c u, es[c]? = some u -> w.cell? ⟨b, off + (i * s.n + c), none⟩ = some u
theorem ElemsAt.kp {s : Shp P α} {w w' : World} {G F : Nat -> Prop} {ao : Option Addr} {xs : List α} (h : ElemsAt s w G ao xs) (hk : Kp F w w') (hF : ∀ k, G k -> ¬ F k) : ElemsAt s w' G ao xs := fun i x hx => by
 obtain ⟨b, off, es, e, hg, hb, ha, hc⟩ := h i x hx
 exact ⟨b, off, es, e, hg, Nat.lt_of_lt_of_le hb hk.size, s.kp ha hk hF, fun c u hu => hk.cell (hc c u hu) (hF b hg)⟩
theorem ElemsAt.ext {s : Shp P α} {w w' : World} {G : Nat -> Prop} {ao : Option Addr} {xs : List α} (h : ElemsAt s w G ao xs) (hk : Ext w w') : ElemsAt s w' G ao xs := h.kp hk fun _ _ => id
theorem ElemsAt.mono {s : Shp P α} {w : World} {G G' : Nat -> Prop} {ao : Option Addr} {xs : List α} (h : ElemsAt s w G ao xs) (hG : ∀ k, G k -> G' k) : ElemsAt s w G' ao xs := fun i x hx => by
 obtain ⟨b, off, es, e, hg, hb, ha, hc⟩ := h i x hx
 exact ⟨b, off, es, e, hG b hg, hb, s.mono ha hG, hc⟩
def dA (f : α -> Nat) (xs : List α) : Nat := (xs.map f).sum
theorem lJ (f : α -> Nat) (x : α) (xs : List α) : dA f (x :: xs) = f x + dA f xs := by simp [dA]
theorem gA (f : α -> Nat) {x : α} : ∀ {xs : List α}, x ∈ xs -> f x ≤ dA f xs
 | y :: xs, h => by
  rw [lJ]
  rcases List.mem_cons.1 h with rfl | h
  ·omega
  ·have := gA f h; omega
theorem fD (f : α -> Nat) (hf : ∀ x, 1 ≤ f x) : ∀ xs : List α, xs.length ≤ dA f xs
 | [] => by simp
 | x :: xs => by have := fD f hf xs; have := hf x; rw [lJ]; simp only [List.length_cons]; omega
theorem aCx {H : Type} (f : α -> Nat) : ∀ (xs : List α) (D : List (DataW H)), xs.length = D.length -> (∀ (i : Nat) x d, xs[i]? = some x -> D[i]? = some d -> f x ≤ Rows.uptoBulk d) -> dA f xs ≤ Rows.uptoBulkAll D
 | [], [], _, _ => by simp [dA]
 | x :: xs, d :: D, hl, h => by
  have h0 := h 0 x d rfl rfl
  have := aCx f xs D (by simpa using hl) (fun i y e hy he => h (i + 1) y e (by simpa using hy) (by simpa using he))
  rw [lJ]; simp only [Rows.uptoBulkAll]; omega
def pD (t : TypeId) (s : Shp P α) (hu : P.underlying t = some (.slice s.ty)) (hc : P.cellsOf t = 1) (hn : 0 < s.n) : Shp P (List α) where
 ty := t
 n := 1
 At := fun w G cs xs => ∃ ao cap, cs = [.slice ao xs.length cap] /\ xs.length ≤ cap /\ cap ≤ maxLen /\ ElemsAt s w G ao xs
 bulk := fun xs => dA s.bulk xs + 1
 cells := hc
 len := fun h => by obtain ⟨_, _, e, _⟩ := h; rw [e]; rfl
 kp := fun ⟨ao, cap, e, h1, h2, h⟩ hk hF => ⟨ao, cap, e, h1, h2, h.kp hk hF⟩
 mono := fun ⟨ao, cap, e, h1, h2, h⟩ hG => ⟨ao, cap, e, h1, h2, h.mono hG⟩
 read := fun {H enc w fuel cs d p} h => by
  rcases Go.Deep.open_slice hu h with ⟨hcs, hx⟩ | ⟨a, len, cap, m, n, D, Pl, hcs, _, hl, hm, hmm, hx, hel⟩
  ·cases hx
   exact ⟨[], ⟨none, 0, hcs, by simp, by simp [maxLen], fun i x hi => by simp at hi⟩, by simp [Rows.uptoBulk, dA]⟩
  ·cases hx
   subst hcs
   simp only [if_true] at hmm
   have each : ∀ i, i < len -> ∃ q : α × List Value, (s.At w (fun k => k < w.heap.size) q.2 q.1 /\ s.bulk q.1 ≤ Rows.uptoBulk (D i)) /\ ∃ b off, a = ⟨b, off, none⟩ /\ b < w.heap.size /\ ∀ c u, q.2[c]? = some u -> w.cell? ⟨b, off + (i * s.n + c), none⟩ = some u := by
    intro i hi
    obtain ⟨cs, hcs, ht⟩ := hel i (by omega)
    obtain ⟨x, hx, hb⟩ := s.read ht
    rw [s.cells] at hcs
    obtain ⟨_, hlen, hcell⟩ := World.cells?_some hcs
    obtain ⟨b, off, spot⟩ := a
    have hspot : spot = none := by
     obtain ⟨cs0, hcs0, _⟩ := hel 0 (by omega)
     rw [s.cells] at hcs0
     obtain ⟨_, hlen0, hcell0⟩ := World.cells?_some hcs0
     have h0 := hcell0 0 hn
     rw [qG (by omega)] at h0
     have := World.cell?_spot h0
     simpa [Addr.add] using this
    subst hspot
    have cell : ∀ c, c < s.n -> w.cell? ⟨b, off + (i * s.n + c), none⟩ = cs[c]? := fun c hc => by
     have := hcell c hc
     rw [Go.Deep.add_add, Addr.add_lit] at this
     exact this
    refine ⟨(x, cs), ⟨hx, hb⟩, b, off, rfl, ?_, fun c u hu => ?_⟩
    ·have h0 := cell 0 hn
     rw [qG (by omega)] at h0
     exact World.block_lt_of_cell? _ _ h0
    ·have hc := (List.getElem?_eq_some_iff.1 hu).1
     rw [cell c (by simp only at hc; omega)]; exact hu
   have hex : ∃ q : List (α × List Value), q.length = len /\ ∀ (i : Nat) y, q[i]? = some y -> (s.At w (fun k => k < w.heap.size) y.2 y.1 /\ s.bulk y.1 ≤ Rows.uptoBulk (D i)) /\ ∃ b off, a = ⟨b, off, none⟩ /\ b < w.heap.size /\ ∀ c u, y.2[c]? = some u -> w.cell? ⟨b, off + (i * s.n + c), none⟩ = some u := by
    clear hel hmm hl hm h
    induction len with
    | zero => exact ⟨[], rfl, fun i y hy => by simp at hy⟩
    | succ len ih =>
     obtain ⟨q, h1, h2⟩ := ih (fun i hi => each i (by omega))
     obtain ⟨y, hy⟩ := each len (by omega)
     refine ⟨q ++ [y], by simp [h1], fun i z hz => ?_⟩
     by_cases hi : i < len
     ·rw [List.getElem?_append_left (by omega)] at hz; exact h2 i z hz
     ·have h3 := (List.getElem?_eq_some_iff.1 hz).1
      simp only [List.length_append, List.length_cons, List.length_nil] at h3
      have e : i = len := by omega
      subst e
      rw [List.getElem?_append_right (by omega)] at hz
      simp [h1] at hz
      subst hz; exact hy
   obtain ⟨q, hq, hall⟩ := hex
   refine ⟨q.map (·.1), ⟨some a, cap, by simp [hq], by simp [hq, hl], hm, fun i x hi => ?_⟩, ?_⟩
   ·rw [List.getElem?_map] at hi
    cases hy : q[i]? with
    | none => rw [hy] at hi; cases hi
    | some y =>
     rw [hy] at hi
     cases hi
     obtain ⟨⟨h1, _⟩, b, off, rfl, hb, hc⟩ := hall i y hy
     exact ⟨b, off, y.2, rfl, hb, hb, h1, hc⟩
   ·have := aCx (H := H) s.bulk (q.map (·.1)) ((List.range len).map D) (by simp [hq]) (fun i x d hx hd => by
     rw [List.getElem?_map] at hx hd
     cases hy : q[i]? with
     | none => rw [hy] at hx; cases hx
     | some y =>
      have hi := (List.getElem?_eq_some_iff.1 hy).1
      rw [hy] at hx
      rw [List.getElem?_range (by omega)] at hd
      cases hx; cases hd
      exact (hall i y hy).1.2)
    simp only [Rows.uptoBulk]
    omega
structure Flds (P : Program) (α : Type) where
 n : Nat
 At : World -> (Nat -> Prop) -> List Value -> α -> Prop
 bulk : α -> Nat
 ok : List Field -> Nat -> Prop
 len : ∀ {w G cs x}, At w G cs x -> cs.length = n
 kp : ∀ {w w' G F cs x}, At w G cs x -> Kp F w w' -> (∀ k, G k -> ¬ F k) -> At w' G cs x
 mono : ∀ {w G G' cs x}, At w G cs x -> (∀ k, G k -> G' k) -> At w G' cs x
 read : ∀ {H : Type} {enc : TypeId × Value -> H} {w : World} {fuel : Nat} {fs : List Field} {off : Nat} {cs : List Value} {xs : List (DataW H × List MemPlace)}, ok fs off -> off + n ≤ cs.length -> (fs.mapM fun f => DataW.trod enc P w 0 (fun _ => true) true fuel f.type ((cs.drop f.offset).take (P.cellsOf f.type))) = some xs ->
  ∃ x, At w (fun k => k < w.heap.size) ((cs.drop off).take n) x /\ bulk x ≤ Rows.uptoBulkAll (xs.map (·.1))
def aCh : Flds P Unit where
 n := 0
 At := fun _ _ cs _ => cs = []
 bulk := fun _ => 0
 ok := fun fs _ => fs = []
 len := fun h => by rw [h]; rfl
 kp := fun h _ _ => h
 mono := fun h _ => h
 read := fun h _ hm => by
  subst h
  exact ⟨(), by simp, by simp⟩
def fL (s : Shp P α) (r : Flds P β) : Flds P (α × β) where
 n := s.n + r.n
 At := fun w G cs x => ∃ a b, cs = a ++ b /\ s.At w G a x.1 /\ r.At w G b x.2
 bulk := fun x => s.bulk x.1 + r.bulk x.2
 ok := fun fs off => ∃ f fs', fs = f :: fs' /\ f.type = s.ty /\ f.offset = off /\ r.ok fs' (off + s.n)
 len := fun h => by obtain ⟨a, b, e, h1, h2⟩ := h; rw [e, List.length_append, s.len h1, r.len h2]
 kp := fun ⟨a, b, e, h1, h2⟩ hk hF => ⟨a, b, e, s.kp h1 hk hF, r.kp h2 hk hF⟩
 mono := fun ⟨a, b, e, h1, h2⟩ hG => ⟨a, b, e, s.mono h1 hG, r.mono h2 hG⟩
 read := fun {H enc w fuel fs off cs xs} ho hl hm => by
  obtain ⟨f, fs', rfl, h1, h2, h3⟩ := ho
  rw [List.mapM_cons] at hm
  obtain ⟨y, hy, hm⟩ := Option.bind_eq_some_iff.1 hm
  obtain ⟨ys, hys, hm⟩ := Option.bind_eq_some_iff.1 hm
  cases hm
  rw [h1, h2, s.cells] at hy
  obtain ⟨x, hx, hb⟩ := s.read (d := y.1) (p := y.2) hy
  obtain ⟨z, hz, hc⟩ := r.read h3 (by omega) hys
  refine ⟨(x, z), ⟨_, _, ?_, hx, hz⟩, ?_⟩
  ·rw [<- List.drop_drop, List.take_add]
  ·simp only [List.map_cons, Rows.uptoBulkAll]; omega
def mC (t : TypeId) (r : Flds P α) {fs : Array Field} (hu : P.underlying t = some (.struct fs)) (hok : r.ok fs.toList 0) (hc : P.cellsOf t = r.n) : Shp P α where
 ty := t
 n := r.n
 At := r.At
 bulk := fun x => r.bulk x + 1
 cells := hc
 len := r.len
 kp := r.kp
 mono := r.mono
 read := fun {H enc w fuel cs d p} h => by
  cases fuel with
  | zero => simp [DataW.trod] at h
  | succ fuel =>
   unfold DataW.trod at h
   rw [hu] at h
   simp only at h
   split at h
   ·rename_i hl
    rw [hc] at hl
    obtain ⟨xs, hm, e⟩ := Option.map_eq_some_iff.1 h
    cases e
    obtain ⟨x, hx, hb⟩ := r.read hok (by omega) hm
    rw [List.drop_zero, <- hl, List.take_length] at hx
    exact ⟨x, hx, by simp only [Rows.uptoBulk]; omega⟩
   ·cases h
theorem Shp.arg (s : Shp P α) {H : Type} {enc : TypeId × Value -> H} {W : World} {v : Value} {d : DataW H} {p : List MemPlace} (h : DataW.Trod enc P W 0 (fun _ => true) true s.ty v d p) {N : Nat} (hN : Rows.uptoBulk d ≤ N) :
 ∃ x, s.At W (fun k => k < W.heap.size) v.cells.toList x /\ s.bulk x ≤ N := by
 obtain ⟨fuel, hf⟩ := h
 obtain ⟨x, hx, hb⟩ := s.read hf
 exact ⟨x, hx, Nat.le_trans hb hN⟩
theorem aE3 {t : TypeId} {hu : P.underlying t = some .string} {hc : P.cellsOf t = 1} {w : World} {G : Nat -> Prop} {ao : Option Addr} {ss : List ByteArray} (h : ElemsAt (aAq t hu hc) w G ao ss) : CellsAt w ao (strs ss) := fun i u hu' => by
 simp only [strs, List.getElem?_map] at hu'
 cases hx : ss[i]? with
 | none => rw [hx] at hu'; cases hu'
 | some x =>
  rw [hx] at hu'
  cases hu'
  obtain ⟨b, off, es, e, _, _, ha, hcell⟩ := h i x hx
  refine ⟨b, off, e, ?_⟩
  have := hcell 0 (.string x) (by rw [ha.1]; rfl)
  simpa [aAq] using this
end
section
variable {P : Program} {α β : Type}
theorem aH6 {t : TypeId} {s : Shp P α} (hu : P.underlying t = some (.slice s.ty)) (hc : P.cellsOf t = 1) (hn : 0 < s.n) {H : Type} {enc : TypeId × Value -> H} {W : World} {base : Nat} {v : Value} {d : DataW H} {p : List MemPlace}
 (hok : Value.okWide P W .any base t v) (h : DataW.Trod enc P W 0 (fun _ => true) true t v d p) {N : Nat} (hN : Rows.uptoBulk d ≤ N) :
 ∃ ao cap xs, v = .slice ao xs.length cap /\ xs.length ≤ cap /\ ElemsAt s W (fun k => k < W.heap.size) ao xs /\ dA s.bulk xs + 1 ≤ N := by
 obtain ⟨ao, len, cap, rfl⟩ := okWide_slice hu hok
 obtain ⟨x, ⟨ao', cap', e, hl, _, hx⟩, hb⟩ := (pD t s hu hc hn).arg h hN
 simp [Value.cells] at e
 obtain ⟨rfl, rfl, rfl⟩ := e
 exact ⟨ao, cap, x, rfl, hl, hx, hb⟩
theorem aGc {H : Type} {l : List (DataW H)} {N : Nat} (h : Rows.uptoBulkAll l ≤ N) {d : DataW H} (hd : d ∈ l) : Rows.uptoBulk d ≤ N := by
 induction l with
 | nil => cases hd
 | cons x l ih =>
  simp only [Rows.uptoBulkAll] at h
  rcases List.mem_cons.1 hd with rfl | hd
  ·omega
  ·exact ih (by omega) hd
end
end
end Go.Proofs.YtikgpedgmnbcaaaGreatDoor
