/- Texts joined for a claim (Th, Base, NumPlain, Shelf, NumW, NumN, Same, AggTot, Draw, AggRef, AggTotK, AggKey, Marks, Arr, Keep, SetLaw, Arr2). -/
import Derived.Deep.RegionHeld3
import Derived.Lib.Hide
import Derived.WalkKit
import Derived.WalkLawsBesides
import Derived.WalkSpells
import Derived.Lib.ParseIntBCases
import Derived.Lib.ItoaNum
import Derived.Shelf.Spec.BitsCarry
import Derived.Ground.Names7Prog
import Derived.Shelf.Strings.Builder1
import Derived.Shelf.Small.Bits
import Derived.Shelf.Small.Strs
import Derived.Shelf.Strconv.Itoa0
import Derived.Shelf.Strconv.Itoa1
import Derived.Shelf.LaysM
import Derived.Shelf.Strconv.Itoa2
import Derived.Shelf.Strconv.Itoa3
import Derived.Shelf.Strconv.Itoa4
import Derived.Shelf.Strconv.ParseIntEmpty
import Derived.Shelf.Strconv.Clone
import Derived.Shelf.Strconv.SyntaxError
import Derived.Shelf.LaysC
import Derived.Shelf.Strconv.ToError
import Derived.Shelf.Strconv.Lower
import Derived.Shelf.Strconv.ParseUint10
import Derived.Shelf.Strconv.ParseUint10Empty
import Derived.Shelf.Strconv.ParseUint10Any
import Derived.Shelf.Strconv.ParseInt10
import Derived.Shelf.Strconv.RangeError
import Derived.Shelf.Strconv.ToErrorRange
import Derived.Shelf.Strconv.ParseUintEmpty
import Derived.Shelf.Strconv.ParseUint10b64
import Derived.Shelf.Strconv.ParseUint10b32
import Derived.Shelf.Strconv.ParseUint10b16
import Derived.Shelf.Strconv.ParseUint10b8
import Derived.Shelf.Strconv.ParseUint10At
import Derived.Shelf.Strconv.ParseInt10At64
import Derived.Shelf.Strconv.ParseInt10At32
import Derived.Shelf.Strconv.ParseInt10At16
import Derived.Shelf.Strconv.ParseInt10At8
import Derived.Shelf.Strconv.ParseInt10All
import Derived.Shelf.Strconv.ParseIntPublic10
import Derived.Shelf.Strconv.ErrVarParseInt
import Derived.Shelf.Bits.Mul64
import Derived.Ground.Names2Prog
import Derived.Shelf.Slices.ReverseS
import Derived.Shelf.Slices.Clone
import Derived.Shelf.Slices.Cells
import Derived.Ground.SlgnProg
import Derived.Shelf.SlicesE.Clone
import Derived.Ground.SlsfProg
import Derived.Shelf.SlSortCmp.Insertion
import Derived.Shelf.SlSortCmp.SiftDown1
import Derived.Shelf.SlSortCmp.HeapSort1
import Derived.Shelf.SlSortCmp.Insertion1
import Derived.Shelf.SlSortCmp.Median1
import Derived.Shelf.SlSortCmp.Pivot1
import Derived.Shelf.SlSortCmp.ReverseRange1
import Derived.Shelf.SlSortCmp.PartialInsertion1
import Derived.Shelf.SlSortCmp.PartitionEqual1
import Derived.Shelf.SlSortCmp.Partition1
import Derived.Shelf.SlSortCmp.Pdq1
import Derived.Shelf.SlSortCmp.Whole1
import Derived.Shelf.SlSortCmp.NoneTotal
import Derived.Test.YtikgpedgmnbcaaaGreatDoorProg
import Derived.Laws.IdiomStrings
import Derived.Lib.ConvBytes
import Derived.IntWalk
import Derived.Lib.ItoaLen
import Derived.Lib.AppendStr
import Derived.RangeFuncNested
import Derived.RangeFuncBound
import Derived.RangeFuncCalls
import Derived.RangeFuncLeaves
import Derived.Shelf.Abstract
import Derived.Shelf.RegionOpen
import Derived.OwnWalkIn
import Derived.TacticsInMore
import Derived.LoopNIn
import Derived.LoopIn
set_option linter.unusedVariables false
set_option linter.unusedSimpArgs false
set_option maxRecDepth 100000
namespace Go.Proofs.YtikgpedgmnbcaaaGreatDoor
section
theorem sI {α : Type _} (a : α) (l : List α) (i : Nat) : l.toArray.setIfInBounds i a = (l.set i a).toArray := List.setIfInBounds_toArray ..
theorem sZ {α : Type _} {b a : α} {zs : List α} : (a :: zs).set 0 b = b :: zs := rfl
theorem sS {α : Type _} {b a : α} {n : Nat} {zs : List α} : (a :: zs).set (n + 1) b = a :: zs.set n b := rfl
theorem qH {p : Prop} (h : p) : RowKit.Hid p := h
theorem qG {α : Type _} {l : List α} {i : Nat} (h : i < l.length) : l[i]? = some l[i] := List.getElem?_eq_getElem h
end
section
open Go.RowKit
def Ret (v : Value) (w : World) (e : Ending) (w' : World) : Prop := e = .returned v /\ w = w'
theorem Ret.mk {v v' : Value} {w : World} (h : v = v') : Ret v w (.returned v') w := ⟨by rw [h], rfl⟩
structure Kp (F : Nat -> Prop) (w w' : World) : Prop where
 os : w'.os = w.os
 tape : w'.tape = w.tape
 output : w'.output = w.output
 size : w.heap.size ≤ w'.heap.size
 block : ∀ k, k < w.heap.size -> ¬ F k -> w'.heap[k]? = w.heap[k]?
abbrev Ext (w w' : World) : Prop := Kp (fun _ => False) w w'
abbrev New (w : World) : Nat -> Prop := fun g => w.heap.size ≤ g
theorem Kp.refl {F : Nat -> Prop} (w : World) : Kp F w w := ⟨rfl, rfl, rfl, Nat.le_refl _, fun _ _ _ => rfl⟩
theorem Kp.trans' {F G : Nat -> Prop} {a b c : World} (h : Kp F a b) (k : Kp G b c) (hg : ∀ i, i < a.heap.size -> G i -> F i) : Kp F a c :=
 ⟨k.os.trans h.os, k.tape.trans h.tape, k.output.trans h.output, Nat.le_trans h.size k.size, fun i hi hf =>
  (k.block i (Nat.lt_of_lt_of_le hi h.size) (fun g => hf (hg i hi g))).trans (h.block i hi hf)⟩
theorem Kp.trans {F : Nat -> Prop} {a b c : World} (h : Kp F a b) (k : Kp F b c) : Kp F a c := h.trans' k fun _ _ g => g
theorem Kp.mono {F G : Nat -> Prop} {a b : World} (h : Kp F a b) (hg : ∀ i, i < a.heap.size -> F i -> G i) : Kp G a b :=
 ⟨h.os, h.tape, h.output, h.size, fun i hi hf => h.block i hi fun x => hf (hg i hi x)⟩
theorem Kp.ext {F : Nat -> Prop} {a b c : World} (h : Kp F a b) (k : Ext b c) : Kp F a c := h.trans' k fun _ _ g => g.elim
theorem Ext.kp {F : Nat -> Prop} {a b : World} (h : Ext a b) : Kp F a b := h.mono fun _ _ x => x.elim
theorem Kp.alloc {F : Nat -> Prop} {a b : World} (h : Kp F a b) (o : Obj) : Kp F a (b.alloc o) :=
 h.ext ⟨rfl, rfl, rfl, by simp, fun k hk _ => Below.heap_alloc _ _ _ hk⟩
theorem Kp.drew {F : Nat -> Prop} {a b : World} (h : Kp F a b) : Kp F a b.drew := ⟨h.os, h.tape, h.output, h.size, h.block⟩
theorem Kp.drewN {F : Nat -> Prop} {a b : World} (h : Kp F a b) (n : Nat) : Kp F a (b.drewN n) := ⟨h.os, h.tape, h.output, h.size, h.block⟩
theorem Kp.setCell {F : Nat -> Prop} {a b : World} (h : Kp F a b) {p : Addr} (hp : p.block < a.heap.size -> F p.block) (u : Value) : Kp F a (b.setCell p u) := by
 refine h.trans' (G := fun k => k = p.block) ⟨rfl, rfl, rfl, by simp [World.setCell], fun k hk hf => Below.heap_setCell _ _ _ _ hf⟩ ?_
 rintro i hi rfl
 exact hp hi
theorem Kp.below {w w' : World} (h : Ext w w') : Below w.heap.size w w' := ⟨h.os, h.tape, h.output, h.size, fun k hk => h.block k hk id⟩
theorem Kp.of_below {w w' : World} (h : Below w.heap.size w w') : Ext w w' := ⟨h.os, h.tape, h.output, h.size, fun k hk _ => h.block k hk⟩
theorem Kp.grown {F : Nat -> Prop} {a b c : World} {row : Option Nat} (h : Kp F a b) (hg : b.grownBy c row) (hr : ∀ k, row = some k -> k < a.heap.size -> F k) : Kp F a c :=
 h.trans' (G := fun k => row = some k) ⟨hg.os, hg.tape, hg.output, hg.size, fun k hk hf => hg.block k hk fun e => hf e.symm⟩ fun i hi e => hr i e hi
theorem Kp.cell {F : Nat -> Prop} {w w' : World} (h : Kp F w w') {b o : Nat} {v : Value} (hc : w.cell? ⟨b, o, none⟩ = some v) (hf : ¬ F b) : w'.cell? ⟨b, o, none⟩ = some v := by
 have hb : b < w.heap.size := World.block_lt_of_cell? _ _ hc
 rw [World.cell?_of_block (w := w) (h.block b hb hf)]; exact hc
def Blk (w : World) (g : Nat) (cs : List Value) (e : TypeId) : Prop := w.heap[g]? = some (.cells cs.toArray e (0, 0))
section
variable {w w' : World} {g : Nat} {cs : List Value} {e : TypeId}
theorem Blk.lt (h : Blk w g cs e) : g < w.heap.size := lt_of_block h
theorem Blk.cell (h : Blk w g cs e) (i : Nat) (hi : i < cs.length) : w.cell? ⟨g, i, none⟩ = some cs[i] := by
 unfold Blk at h; simp [World.cell?, h, hi]
theorem Blk.cell' (h : Blk w g cs e) (i : Nat) : w.cell? ⟨g, i, none⟩ = cs[i]? := by
 unfold Blk at h; simp [World.cell?, h]
theorem Blk.free (h : Blk w g cs e) (i : Nat) : w.frozen? ⟨g, i, none⟩ = false := by
 unfold Blk at h; simp [World.frozen?, h]
theorem Blk.kp {F : Nat -> Prop} (h : Blk w g cs e) (k : Kp F w w') (hf : ¬ F g) : Blk w' g cs e := (k.block g h.lt hf).trans h
theorem Blk.ext (h : Blk w g cs e) (k : Ext w w') : Blk w' g cs e := h.kp k id
theorem Blk.alloc (h : Blk w g cs e) (o : Obj) : Blk (w.alloc o) g cs e := h.ext ((Kp.refl w).alloc o)
theorem Blk.drew (h : Blk w g cs e) : Blk w.drew g cs e := h
theorem Blk.new (w : World) (cs : List Value) (e : TypeId) : Blk (w.alloc (.cells cs.toArray e)) w.heap.size cs e := by
 show (w.heap.push _)[w.heap.size]? = _; simp
theorem Blk.set (h : Blk w g cs e) (i : Nat) (v : Value) : Blk (w.setCell ⟨g, i, none⟩ v) g (cs.set i v) e := by
 unfold Blk at *
 simp only [World.setCell, Array.getElem?_modify, h]
 simp
theorem Blk.congrL {cs' : List Value} (h : Blk w g cs e) (hc : cs = cs') : Blk w g cs' e := hc ▸ h
theorem Blk.other (h : Blk w g cs e) {p : Addr} (hp : g ≠ p.block) (v : Value) : Blk (w.setCell p v) g cs e := by
 unfold Blk at *; rw [Below.heap_setCell _ _ _ _ hp]; exact h
end
def CellsAt (w : World) (ao : Option Addr) (vs : List Value) : Prop :=
 ∀ i u, vs[i]? = some u -> ∃ b off, ao = some ⟨b, off, none⟩ /\ w.cell? ⟨b, off + i, none⟩ = some u
def Off (F : Nat -> Prop) (ao : Option Addr) : Prop := ∀ a, ao = some a -> ¬ F a.block
section
variable {w w' : World} {ao : Option Addr} {vs : List Value}
theorem CellsAt.nil (w : World) (ao : Option Addr) : CellsAt w ao [] := fun i u h => by simp at h
theorem CellsAt.kp {F : Nat -> Prop} (h : CellsAt w ao vs) (k : Kp F w w') (hf : Off F ao) : CellsAt w' ao vs := fun i u hu => by
 obtain ⟨b, off, h1, h2⟩ := h i u hu
 exact ⟨b, off, h1, k.cell h2 (hf _ h1)⟩
theorem CellsAt.ext (h : CellsAt w ao vs) (k : Ext w w') : CellsAt w' ao vs := h.kp k fun _ _ => id
theorem CellsAt.alloc (h : CellsAt w ao vs) (o : Obj) : CellsAt (w.alloc o) ao vs := h.ext ((Kp.refl w).alloc o)
theorem CellsAt.drewN (h : CellsAt w ao vs) (n : Nat) : CellsAt (w.drewN n) ao vs := h.ext ((Kp.refl w).drewN n)
theorem CellsAt.getv (h : CellsAt w ao vs) {k : Nat} (hk : k < vs.length) : ∃ b off, ao = some ⟨b, off, none⟩ /\ w.cell? ⟨b, off + k, none⟩ = some vs[k] :=
 h k _ (qG hk)
theorem CellsAt.off (h : CellsAt w ao vs) (hv : vs ≠ []) : ∃ b off, ao = some ⟨b, off, none⟩ /\ b < w.heap.size := by
 have hk : 0 < vs.length := by cases vs <;> simp_all
 obtain ⟨b, off, h1, h2⟩ := h.getv hk
 exact ⟨b, off, h1, World.block_lt_of_cell? _ _ h2⟩
theorem CellsAt.blk {g off : Nat} {cs : List Value} {e : TypeId} (h : Blk w g cs e) (n : Nat) : CellsAt w (some ⟨g, off, none⟩) ((cs.drop off).take n) := fun i u hu => by
 refine ⟨g, off, rfl, ?_⟩
 rw [h.cell']
 rw [List.getElem?_take] at hu
 split at hu
 ·rw [List.getElem?_drop] at hu; exact hu
 ·cases hu
theorem CellsAt.pre {g : Nat} {xs rest : List Value} {e : TypeId} (h : Blk w g (xs ++ rest) e) : CellsAt w (some ⟨g, 0, none⟩) xs := by
 have := CellsAt.blk (off := 0) h xs.length
 simpa using this
theorem CellsAt.one (w : World) (x : Value) (e : TypeId) : CellsAt (w.alloc (.cells #[x] e)) (some ⟨w.heap.size, 0, none⟩) [x] := by
 have := Blk.new w [x] e
 exact CellsAt.pre (rest := []) this
theorem CellsAt.two (w : World) (x y : Value) (e : TypeId) : CellsAt (w.alloc (.cells #[x, y] e)) (some ⟨w.heap.size, 0, none⟩) [x, y] := by
 have := Blk.new w [x, y] e
 exact CellsAt.pre (rest := []) this
end
def strs (ss : List ByteArray) : List Value := ss.map Value.string
def ints (zs : List Int) : List Value := zs.map (Value.int .i64)
theorem aD8 (ss : List ByteArray) (k : Nat) (hk : k < ss.length) : (strs ss)[k]? = some (.string ss[k]) := by simp [strs, hk]
theorem gK (ss : List ByteArray) : (strs ss).length = ss.length := by simp [strs]
theorem zP (ss : List Int) : (ints ss).length = ss.length := by simp [ints]
theorem CellsAt.str {w : World} {ao : Option Addr} {ss : List ByteArray} (h : CellsAt w ao (strs ss)) {k : Nat} (hk : k < ss.length) : ∃ b off, ao = some ⟨b, off, none⟩ /\ w.cell? ⟨b, off + k, none⟩ = some (.string ss[k]) :=
 h k _ (aD8 ss k hk)
def Row (w : World) (e : TypeId) (k : Nat) (v : Value) (n : Nat) (xs : List Value) (M : Nat -> Prop) : Prop :=
 xs.length = n * k /\ (v = .slice none 0 0 /\ n = 0 \/
  ∃ g cap rest, v = .slice (some ⟨g, 0, none⟩) n cap /\ M g /\ Blk w g (xs ++ rest) e /\ (xs ++ rest).length = cap * k /\ n ≤ cap /\ cap ≤ maxLen)
section
variable {w w' : World} {e : TypeId} {k : Nat} {v : Value} {n : Nat} {xs : List Value} {M : Nat -> Prop}
theorem Row.nil (w : World) (e : TypeId) (k : Nat) (M : Nat -> Prop) : Row w e k (.slice none 0 0) 0 [] M := ⟨by simp, .inl ⟨rfl, rfl⟩⟩
theorem Row.mono {M' : Nat -> Prop} (h : Row w e k v n xs M) (hm : ∀ g, M g -> M' g) : Row w e k v n xs M' := by
 obtain ⟨h1, h2 | ⟨g, cap, rest, a, b, c⟩⟩ := h
 ·exact ⟨h1, .inl h2⟩
 ·exact ⟨h1, .inr ⟨g, cap, rest, a, hm g b, c⟩⟩
theorem Row.kp' {F : Nat -> Prop} (h : Row w e k v n xs M) (hk : Kp F w w') (hf : ∀ g, v.ownBlock = some g -> M g -> ¬ F g) : Row w' e k v n xs M := by
 obtain ⟨h1, h2 | ⟨g, cap, rest, a, b, c, d⟩⟩ := h
 ·exact ⟨h1, .inl h2⟩
 ·exact ⟨h1, .inr ⟨g, cap, rest, a, b, c.kp hk (hf g (by rw [a]; rfl) b), d⟩⟩
theorem Row.kp {F : Nat -> Prop} (h : Row w e k v n xs M) (hk : Kp F w w') (hf : ∀ g, M g -> ¬ F g) : Row w' e k v n xs M := h.kp' hk fun g _ => hf g
theorem Row.ext (h : Row w e k v n xs M) (hk : Ext w w') : Row w' e k v n xs M := h.kp hk fun _ _ => id
theorem Row.alloc (h : Row w e k v n xs M) (o : Obj) : Row (w.alloc o) e k v n xs M := h.ext ((Kp.refl w).alloc o)
theorem Row.drew (h : Row w e k v n xs M) : Row w.drew e k v n xs M := h.ext ((Kp.refl w).drew)
theorem Row.shape (h : Row w e k v n xs M) : ∃ ao cap, v = .slice ao n cap /\ CellsAt w ao xs /\ n ≤ cap := by
 obtain ⟨h1, ⟨rfl, rfl⟩ | ⟨g, cap, rest, rfl, b, c, d, e, f⟩⟩ := h
 ·have : xs = [] := List.eq_nil_of_length_eq_zero (by simpa using h1)
  subst this
  exact ⟨none, 0, rfl, CellsAt.nil _ _, Nat.le_refl _⟩
 ·exact ⟨_, cap, rfl, CellsAt.pre c, e⟩
theorem Row.empty (w : World) (e : TypeId) (k : Nat) (M : Nat -> Prop) (hM : M w.heap.size) : Row (w.alloc (.cells #[] e)) e k (.slice (some ⟨w.heap.size, 0, none⟩) 0 0) 0 [] M :=
 ⟨by simp, .inr ⟨_, 0, [], rfl, hM, Blk.new w [] e, by simp, Nat.le_refl _, by decide⟩⟩
theorem Row.block (h : Row w e k v n xs M) : ∀ g, v.ownBlock = some g -> M g := by
 obtain ⟨h1, ⟨rfl, rfl⟩ | ⟨g, cap, rest, rfl, b, c, d⟩⟩ := h
 ·intro g hg; cases hg
 ·intro g' hg; cases hg; exact b
end
def cP (P : Program) (t e : TypeId) (k bytes : Nat) (z : Value) : Prop :=
 P.underlying t = some (.slice e) /\ (P.info? e).map (fun i => (i.zero, i.size, i.bytes)) = some (some z, k, bytes) /\ z.cells.size = k /\ 0 < k
section
variable {P : Program} {w : World} {t e : TypeId} {k bytes : Nat} {z : Value}
theorem oO (E : cP P t e k bytes z) (ty : TypeId) {ao : Option Addr} {n cap : Nat} (hc : n ≤ cap) (ao' : Option Addr) (c : Nat) :
 (Builtin.append_ #[t, t] ty #[.slice ao n cap, .slice ao' 0 c]).run P w = .ok (.slice ao n cap) w := by
 obtain ⟨ht, hi, hz, hk⟩ := E
 obtain ⟨i, hi, h1, h2, h3⟩ := info_parts hi
 cases ao' <;> cases ao <;> simp [Builtin.append_, run_underlying ht, sizeOf, typeInfo, hi, Builtin.lenOf, Builtin.firstCells, loadCells, loadCellsFrom, hc, storeCells]
theorem nK (E : cP P t e k bytes z) (ty : TypeId) {v : Value} {n : Nat} {xs : List Value} {M : Nat -> Prop} (hr : Row w e k v n xs M)
 {ao : Option Addr} {m c : Nat} {news : List Value} (hl : news.length = m * k) (hs : CellsAt w ao news) (h1 : ∀ u ∈ news, u.oneCell' = true) (hb : (n + m) * bytes ≤ 140737488355328) (h63 : n + m ≤ maxLen) :
 ∃ v' w', (Builtin.append_ #[t, t] ty #[v, .slice ao m c]).run P w = .ok v' w' /\ Row w' e k v' (n + m) (xs ++ news) (fun g => v.ownBlock = some g \/ w.heap.size ≤ g) /\ Kp (fun g => v.ownBlock = some g) w w' /\ (v' = .slice none 0 0 ↔ v = .slice none 0 0 /\ m = 0) := by
 by_cases hm : m = 0
 ·subst hm
  have hn : news = [] := List.eq_nil_of_length_eq_zero (by simpa using hl)
  subst hn
  obtain ⟨ao1, cap1, rfl, _, hcap⟩ := hr.shape
  refine ⟨_, w, oO E ty hcap _ _, ?_, Kp.refl _, by simp⟩
  simp only [Nat.add_zero, List.append_nil]
  obtain ⟨h1, h2 | ⟨g, cap, rest, a, b, c⟩⟩ := hr
  ·exact ⟨h1, .inl h2⟩
  ·exact ⟨h1, .inr ⟨g, cap, rest, a, .inl (by rw [a]; rfl), c⟩⟩
 ·have hne : news ≠ [] := by
   rintro rfl
   have h0 := Nat.mul_pos (Nat.pos_of_ne_zero hm) E.2.2.2
   simp only [List.length_nil] at hl; omega
  obtain ⟨b, off, rfl, hlt⟩ := hs.off hne
  have hsrc : ∀ j u, news[j]? = some u -> w.cell? ((⟨b, off, none⟩ : Addr).add j) = some u := fun j u hu => by
   obtain ⟨b', off', he, hc⟩ := hs j u hu
   cases he
   rw [Addr.add_lit]; exact hc
  obtain ⟨ht, hi, hz, hk⟩ := E
  obtain ⟨i, hi, hz1, hz2, hz3⟩ := info_parts hi
  have hsmall : n + m ≤ 9223372036854775807 := h63
  have grown : ∀ old, (w.drew.alloc (.cells (xs.toArray ++ news.toArray ++ Builtin.zeroCells z.cells (grownCap w (n + m) old e - (n + m))) e)).heap[w.heap.size]? =
   some (.cells ((xs ++ news) ++ (Builtin.zeroCells z.cells (grownCap w (n + m) old e - (n + m))).toList).toArray e (0, 0)) := fun old => by
   show (w.heap.push _)[w.heap.size]? = _
   simp
  have lens : ∀ old, ((xs ++ news) ++ (Builtin.zeroCells z.cells (grownCap w (n + m) old e - (n + m))).toList).length = grownCap w (n + m) old e * k := fun old => by
   have hge := grownCap_ge w (n + m) old e
   simp only [List.length_append, Array.length_toList, size_zeroCells, hz, hr.1, hl, <- Nat.add_mul]
   congr 1; omega
  obtain ⟨hx, ⟨rfl, rfl⟩ | ⟨g, cap, rest, rfl, hM, hB, hlen, hnc, hcm⟩⟩ := hr
  ·have hx0 : xs = [] := List.eq_nil_of_length_eq_zero (by simpa using hx)
   subst hx0
   have hr := run_append_nil (P := P) w t ty e i z ht hi hz1 ⟨b, off, none⟩ m c news (by rw [hz2]; exact hl) hsrc (by omega) (by omega) (by rw [hz3]; simp only [Nat.zero_add] at hb; omega)
   refine ⟨_, _, hr, ?_, ⟨rfl, rfl, rfl, by simp, fun k hk _ => Below.heap_alloc w.drew _ k hk⟩, by simp [hm]⟩
   have h0 := grown 0
   have h2 := lens 0
   simp only [Nat.zero_add, List.nil_append, Array.empty_append] at h0 h2 ⊢
   exact ⟨hl, .inr ⟨_, _, _, rfl, .inr (Nat.le_refl _), h0, h2, grownCap_ge w m 0 e, grownCap_le_maxLen w m 0 e (by omega)⟩⟩
  ·by_cases hroom : n + m ≤ cap
   ·have hr := run_append_room (P := P) w t ty e i ht hi g n cap _ hB ⟨b, off, none⟩ m c news (by rw [hz2]; exact hl) hsrc h1 hroom (by
     simp only [hz2, List.size_toArray, hlen, hl, <- Nat.add_mul]; exact Nat.mul_le_mul_right _ hroom)
    refine ⟨_, _, hr, ⟨by rw [List.length_append, hx, hl, Nat.add_mul], .inr ⟨g, cap, rest.drop news.length, rfl, .inl rfl, ?_, ?_, hroom, hcm⟩⟩, ⟨rfl, rfl, rfl, by simp, fun k _ hk => setRow_other w g k _ (fun e => hk (by simp [Value.ownBlock, e]))⟩, by simp⟩
    ·show _ = _
     rw [setRow_heap w g _ _ e _ hB]
     congr 2
     simp only [hz2]
     rw [<- hx]
     simp
    ·have : news.length ≤ rest.length := by
      have := hlen
      simp only [List.length_append, hx] at this
      have h3 : (n + m) * k ≤ cap * k := Nat.mul_le_mul_right _ hroom
      rw [Nat.add_mul] at h3
      omega
     simp only [List.length_append, List.length_drop] at hlen ⊢
     omega
   ·have holds : ∀ j u, xs[j]? = some u -> w.cell? ((⟨g, 0, none⟩ : Addr).add j) = some u := fun j u hu => by
     rw [Addr.add_lit, Nat.zero_add, hB.cell', List.getElem?_append_left (List.getElem?_eq_some_iff.1 hu).1]; exact hu
    have hr := run_append_grow (P := P) w t ty e i z ht hi hz1 ⟨g, 0, none⟩ n cap xs (by rw [hz2]; exact hx) holds ⟨b, off, none⟩ m c news (by rw [hz2]; exact hl) hsrc (by omega) (by omega) (by rw [hz3]; exact growslice_fits (by omega) hb)
    exact ⟨_, _, hr, ⟨by rw [List.length_append, hx, hl, Nat.add_mul], .inr ⟨_, _, _, rfl, .inr (Nat.le_refl _), grown cap, lens cap, grownCap_ge w (n + m) cap e, grownCap_le_maxLen w (n + m) cap e (by omega)⟩⟩, ⟨rfl, rfl, rfl, by simp, fun k hk _ => Below.heap_alloc w.drew _ k hk⟩, by simp⟩
theorem aA9 (E : cP P t e k bytes z) {ops : Array Oper} {rest : List Oper} {o : Oper} {a : Act} {Q : Exit -> Act -> World -> Prop} (hgd : o.guard = none) (s x : Operand)
 (ho : o.op = .call { callee := .builtin .append, args := #[s, x], argTypes := #[t, t] })
 {F : Nat -> Prop} {w0 : World} (hkp : Kp F w0 w) {M : Nat -> Prop} (hM : ∀ g, M g -> g < w0.heap.size -> F g) (hN : ∀ g, w.heap.size ≤ g -> M g)
 {v : Value} {n : Nat} {xs : List Value} (hs : a.eval s = v) (hr : Row w e k v n xs M)
 {ao : Option Addr} {m c : Nat} {news : List Value} (hx : a.eval x = .slice ao m c) (hl : news.length = m * k) (hsrc : CellsAt w ao news) (h1 : ∀ u ∈ news, u.oneCell' = true)
 (hb : (n + m) * bytes ≤ 140737488355328) (h63 : n + m ≤ maxLen)
 (h : ∀ v' w', Row w' e k v' (n + m) (xs ++ news) M -> Kp F w0 w' -> Kp (fun g => v.ownBlock = some g) w w' -> (v' = .slice none 0 0 ↔ v = .slice none 0 0 /\ m = 0) -> wpList P ops Q rest (a.put o.dst v') w') : wpList P ops Q (o :: rest) a w := by
 refine wpList_plain hgd fun K hK => ?_
 obtain ⟨v', w', hrun, h2, h3, h4⟩ := nK (P := P) E o.type hr hl hsrc h1 hb h63 (c := c)
 unfold Oper.wp execOp
 simp only [ho, resolve, invoke, builtin, Sem.run_bind, Sem.run_pure, Result.andThen_ok, List.map_toArray, List.map_cons, List.map_nil, hs, hx, hrun]
 refine hK _ _ (h v' w' (h2.mono fun g hg => ?_) (hkp.trans' h3 fun i hi hg => hM i (hr.block i hg) hi) h3 h4)
 rcases hg with hg | hg
 ·exact hr.block g hg
 ·exact hN g hg
theorem jD (E : cP P t e k bytes z) {ops : Array Oper} {rest : List Oper} {o : Oper} {a : Act} {Q : Exit -> Act -> World -> Prop} (hgd : o.guard = none) (s x : Operand)
 (ho : o.op = .call { callee := .builtin .append, args := #[s, x], argTypes := #[t, t] })
 {F : Nat -> Prop} {w0 : World} (hkp : Kp F w0 w)
 {v : Value} {n : Nat} {xs : List Value} (hs : a.eval s = v) (hr : Row w e k v n xs (New w0))
 {ao : Option Addr} {m c : Nat} {news : List Value} (hx : a.eval x = .slice ao m c) (hsrc : CellsAt w ao news) (hl : news.length = m * k) (h1 : ∀ u ∈ news, u.oneCell' = true)
 (hb : (n + m) * bytes ≤ 140737488355328) (h63 : n + m ≤ maxLen)
 (h : ∀ v' w', Row w' e k v' (n + m) (xs ++ news) (New w0) -> Kp F w0 w' -> Kp (fun g => v.ownBlock = some g) w w' -> (v' = .slice none 0 0 ↔ v = .slice none 0 0 /\ m = 0) -> wpList P ops Q rest (a.put o.dst v') w') : wpList P ops Q (o :: rest) a w :=
 aA9 E hgd s x ho hkp (fun g h1 h2 => absurd h2 (Nat.not_lt.2 h1)) (fun g h1 => Nat.le_trans hkp.size h1) hs hr hx hl hsrc h1 hb h63 h
end
def Halted (p : Prop) : Prop := p
theorem Halted.out {p : Prop} (h : Halted p) : p := h
theorem Halted.mk {p : Prop} (h : p) : Halted p := h
def RetN (w : World) (P : World -> Value -> Prop) (e : Ending) (w' : World) : Prop := ∃ v, e = .returned v /\ Ext w w' /\ P w' v
theorem RetN.mk {w w' : World} {P : World -> Value -> Prop} {v : Value} (h : Ext w w') (hp : P w' v) : RetN w P (.returned v) w' := ⟨v, rfl, h, hp⟩
def RetF (F : Nat -> Prop) (w : World) (P : World -> Value -> Prop) (e : Ending) (w' : World) : Prop := ∃ v, e = .returned v /\ Kp F w w' /\ P w' v
theorem RetF.mk {F : Nat -> Prop} {w w' : World} {P : World -> Value -> Prop} {v : Value} (h : Kp F w w') (hp : P w' v) : RetF F w P (.returned v) w' := ⟨v, rfl, h, hp⟩
end
section
open Go.Lib
def zO (c : UInt8) : Bool := decide (48 ≤ c.toNat /\ c.toNat ≤ 57)
def iC (a : Nat) (b : List UInt8) : Nat := b.foldl (fun n c => 10 * n + (c.toNat - 48)) a
def aFv (b : List UInt8) : Nat := iC 0 b
theorem xR (a : Nat) : iC a [] = a := rfl
theorem wE (a : Nat) (c : UInt8) (b : List UInt8) : iC a (c :: b) = iC (10 * a + (c.toNat - 48)) b := by
 unfold iC; rw [List.foldl_cons]
theorem wD (a : Nat) (b : List UInt8) (c : UInt8) : iC a (b ++ [c]) = 10 * iC a b + (c.toNat - 48) := by
 unfold iC; rw [List.foldl_append]; rfl
theorem aHm {d : Nat} (h : d < 10) : zO (UInt8.ofNat (48 + d)) = true /\ (UInt8.ofNat (48 + d)).toNat = 48 + d := by
 have e : (UInt8.ofNat (48 + d)).toNat = 48 + d := by simp [UInt8.toNat_ofNat']; omega
 exact ⟨decide_eq_true (by rw [e]; omega), e⟩
def Canon (b : List UInt8) : Prop := b.all zO = true /\ ∃ c r, b = c :: r /\ c.toNat ≠ 48
theorem wY (u : Nat) : aFv (decDigits u) = u /\ (decDigits u).all zO = true /\ (1 ≤ u -> Canon (decDigits u)) := by
 induction u using Nat.strongRecOn with
 | _ u ih =>
  by_cases h : u < 10
  ·rw [decDigits_one h]
   obtain ⟨h1, h2⟩ := aHm h
   have hall : ([UInt8.ofNat (48 + u)] : List UInt8).all zO = true := by rw [List.all_cons, h1]; rfl
   refine ⟨?_, hall, fun hu => ⟨hall, _, _, rfl, by rw [h2]; omega⟩⟩
   unfold aFv; rw [wE, xR, h2]; omega
  ·obtain ⟨i1, i2, i3⟩ := ih (u / 10) (by omega)
   rw [decDigits, dif_neg h]
   obtain ⟨h1, h2⟩ := aHm (show u % 10 < 10 by omega)
   have hall : (decDigits (u / 10) ++ [UInt8.ofNat (48 + u % 10)]).all zO = true := by
    rw [List.all_append, i2, List.all_cons, h1]; rfl
   refine ⟨?_, hall, fun _ => ⟨hall, ?_⟩⟩
   ·rw [aFv, wD]; rw [aFv] at i1; rw [i1, h2]; omega
   ·obtain ⟨_, c, r, e, hc⟩ := i3 (by omega)
    exact ⟨c, r ++ [UInt8.ofNat (48 + u % 10)], by rw [e]; rfl, hc⟩
def cF (l : List UInt8) : Int × Bool :=
 match parseIntB 64 l with
 | .ok v => if itoa v = l then (v, true) else (0, false)
 | _ => (0, false)
end
end Go.Proofs.YtikgpedgmnbcaaaGreatDoor
namespace Go.Proofs
open Go.Shelf
def Tryz.lays169_ren : Go.Shelf.Ren := ⟨fun | 169 => 165 | n => n, fun | 70 => 228 | 9 => 9 | 0 => 0 | 72 => 230 | 37 => 210 | 127 => 261 | 3 => 3 | 5 => 5 | n => n, fun | n => n⟩
theorem Tryz.lays169 : Go.Proofs.Lays.n169 Tryz.prog Tryz.lays169_ren := {
 mixed := by kernel_rfl
 f169 := Tryz.func165.trans (congrArg some (by kernel_rfl))
 t0 := Tryz.underlying0
 a0 := Tryz.isAgg0
 z0 := Tryz.sizeOf0
 v0 := Tryz.zeroValue0
 t3 := Tryz.underlying3
 a3 := Tryz.isAgg3
 z3 := Tryz.sizeOf3
 v3 := Tryz.zeroValue3
 t9 := Tryz.underlying9
 a9 := Tryz.isAgg9
 z9 := Tryz.sizeOf9
 v9 := Tryz.zeroValue9
 t37 := Tryz.underlying210
 a37 := Tryz.isAgg210
 z37 := Tryz.sizeOf210
 v37 := Tryz.zeroValue210
 t70 := Tryz.underlying228
 a70 := Tryz.isAgg228
 z70 := Tryz.sizeOf228
 v70 := Tryz.zeroValue228
 t72 := Tryz.underlying230
 a72 := Tryz.isAgg230
 z72 := Tryz.sizeOf230
 v72 := Tryz.zeroValue230
 t127 := Tryz.underlying261
 a127 := Tryz.isAgg261
 z127 := Tryz.sizeOf261
 v127 := Tryz.zeroValue261 }
theorem Tryz.Builder_Extra_169 : Builder.Extra Tryz.prog Tryz.lays169_ren := {
 sizeBuilder := by kernel_rfl
 liesBuilder := by kernel_rfl
 t5 := Tryz.underlying5
 a5 := Tryz.isAgg5
 z5 := Tryz.sizeOf5
 v5 := Tryz.zeroValue5
 infoByte := by kernel_rfl
 cellsByte := by kernel_rfl
 sizeByte := by kernel_rfl
 neB5 := by decide }
open Go.RowKit in
theorem Tryz.Builder_String_any (B b : Nat) (l : List UInt8) (w : World) (h : Lib.IsBuilder 230 5 B b (Lib.byteCells l) w) (hBw : B ≤ w.heap.size) :
 Calls Tryz.prog 165 #[.pointer (some ⟨b, 0, none⟩)] w fun e w' => e = .returned (.string ⟨l.toArray⟩) /\ Below B w w' := Any.Builder_String_any Tryz.lays169 Tryz.Builder_Extra_169 B b l w h hBw
def Tryz.lays106_ren : Go.Shelf.Ren := ⟨fun | 106 => 171 | 213 => 202 | 265 => 219 | n => n, fun | 9 => 9 | 3 => 3 | n => n, fun | n => n⟩
theorem Tryz.lays106 : Go.Proofs.Lays.n106 Tryz.prog Tryz.lays106_ren := {
 mixed := by kernel_rfl
 f106 := Tryz.func171.trans (congrArg some (by kernel_rfl))
 f213 := Tryz.func202.trans (congrArg some (by kernel_rfl))
 f265 := Tryz.func219.trans (congrArg some (by kernel_rfl))
 t3 := Tryz.underlying3
 a3 := Tryz.isAgg3
 z3 := Tryz.sizeOf3
 v3 := Tryz.zeroValue3
 t9 := Tryz.underlying9
 a9 := Tryz.isAgg9
 z9 := Tryz.sizeOf9
 v9 := Tryz.zeroValue9 }
open Go.RowKit in
theorem Tryz.strings_Compare (a b : ByteArray) (w : World) :
 Calls Tryz.prog 171 #[.string a, .string b] w fun e w' => e = .returned (.int .i64 (Lib.compareBytes a.data.toList b.data.toList)) /\ w' = w := Any.strings_Compare Tryz.lays106 a b w
def Tryz.laysM171_ren : Go.Shelf.Ren := ⟨fun | 171 => 163 | 243 => 201 | 246 => 101 | 283 => 154 | 284 => 155 | 285 => 156 | 286 => 157 | 129 => 191 | 317 => 190 | 318 => 192 | 319 => 193 | 320 => 194 | 337 => 207 | 338 => 208 | n => n, fun | 3 => 3 | 9 => 9 | 2 => 2 | 4 => 4 | 171 => 220 | 0 => 0 | 53 => 95 | 37 => 210 | 5 => 5 | 173 => 223 | 212 => 252 | 51 => 253 | 20 => 20 | 213 => 254 | 46 => 103 | 232 => 296 | 233 => 297 | n => n, fun | 17 => 2 | 18 => 4 | 19 => 5 | n => n⟩
theorem Tryz.laysM171 : Go.Proofs.LaysM.n171 Tryz.prog Tryz.laysM171_ren := {
 mixed := by kernel_rfl
 f129 := Tryz.func191.trans (congrArg some (by kernel_rfl))
 f171 := Tryz.func163.trans (congrArg some (by kernel_rfl))
 f243 := Tryz.func201.trans (congrArg some (by kernel_rfl))
 f246 := Tryz.func101.trans (congrArg some (by kernel_rfl))
 f283 := Tryz.func154.trans (congrArg some (by kernel_rfl))
 f284 := Tryz.func155.trans (congrArg some (by kernel_rfl))
 f285 := Tryz.func156.trans (congrArg some (by kernel_rfl))
 f286 := Tryz.func157.trans (congrArg some (by kernel_rfl))
 f317 := Tryz.func190.trans (congrArg some (by kernel_rfl))
 f318 := Tryz.func192.trans (congrArg some (by kernel_rfl))
 f319 := Tryz.func193.trans (congrArg some (by kernel_rfl))
 f320 := Tryz.func194.trans (congrArg some (by kernel_rfl))
 f337 := Tryz.func207.trans (congrArg some (by kernel_rfl))
 f338 := Tryz.func208.trans (congrArg some (by kernel_rfl))
 t0 := Tryz.underlying0
 a0 := Tryz.isAgg0
 z0 := Tryz.sizeOf0
 v0 := Tryz.zeroValue0
 t2 := Tryz.underlying2
 a2 := Tryz.isAgg2
 z2 := Tryz.sizeOf2
 v2 := Tryz.zeroValue2
 t3 := Tryz.underlying3
 a3 := Tryz.isAgg3
 z3 := Tryz.sizeOf3
 v3 := Tryz.zeroValue3
 t4 := Tryz.underlying4
 a4 := Tryz.isAgg4
 z4 := Tryz.sizeOf4
 v4 := Tryz.zeroValue4
 t5 := Tryz.underlying5
 a5 := Tryz.isAgg5
 z5 := Tryz.sizeOf5
 v5 := Tryz.zeroValue5
 t9 := Tryz.underlying9
 a9 := Tryz.isAgg9
 z9 := Tryz.sizeOf9
 v9 := Tryz.zeroValue9
 t20 := Tryz.underlying20
 a20 := Tryz.isAgg20
 z20 := Tryz.sizeOf20
 v20 := Tryz.zeroValue20
 t37 := Tryz.underlying210
 a37 := Tryz.isAgg210
 z37 := Tryz.sizeOf210
 v37 := Tryz.zeroValue210
 t46 := Tryz.underlying103
 a46 := Tryz.isAgg103
 z46 := Tryz.sizeOf103
 v46 := Tryz.zeroValue103
 t51 := Tryz.underlying253
 a51 := Tryz.isAgg253
 z51 := Tryz.sizeOf253
 v51 := Tryz.zeroValue253
 t53 := Tryz.underlying95
 a53 := Tryz.isAgg95
 z53 := Tryz.sizeOf95
 v53 := Tryz.zeroValue95
 t171 := Tryz.underlying220
 a171 := Tryz.isAgg220
 z171 := Tryz.sizeOf220
 v171 := Tryz.zeroValue220
 t173 := Tryz.underlying223
 a173 := Tryz.isAgg223
 z173 := Tryz.sizeOf223
 v173 := Tryz.zeroValue223
 t212 := Tryz.underlying252
 a212 := Tryz.isAgg252
 z212 := Tryz.sizeOf252
 v212 := Tryz.zeroValue252
 t213 := Tryz.underlying254
 a213 := Tryz.isAgg254
 z213 := Tryz.sizeOf254
 t232 := Tryz.underlying296
 a232 := Tryz.isAgg296
 z232 := Tryz.sizeOf296
 v232 := Tryz.zeroValue296
 t233 := Tryz.underlying297
 a233 := Tryz.isAgg297
 z233 := Tryz.sizeOf297
 v233 := Tryz.zeroValue297
 g17 := by kernel_rfl
 g18 := by kernel_rfl
 g19 := by kernel_rfl
 i0 := by kernel_rfl
 i2 := by kernel_rfl
 i3 := by kernel_rfl
 i4 := by kernel_rfl
 i5 := by kernel_rfl
 i9 := by kernel_rfl
 i20 := by kernel_rfl
 i37 := by kernel_rfl
 i46 := by kernel_rfl
 i51 := by kernel_rfl
 i53 := by kernel_rfl
 i171 := by kernel_rfl
 i173 := by kernel_rfl
 i212 := by kernel_rfl
 i232 := by kernel_rfl
 i233 := by kernel_rfl
 m17 := by kernel_rfl
 m18 := by kernel_rfl
 m19 := by kernel_rfl }
open Go.RowKit Go.Sort Go.Lib in
theorem Tryz.strconv_Itoa (n : Int) (h0 : -9223372036854775808 ≤ n) (h1 : n ≤ 9223372036854775807) (w : World) (htab : Lib.TabIs Tryz.prog w "internal/strconv.uint64pow10" .u64 Lib.pow10Tab) :
 Calls Tryz.prog 163 #[.int .i64 n] w fun e w' => e = .returned (.string ⟨(Lib.itoa n).toArray⟩) /\ ∃ k os, w' = grow (w.drewN k) os := Any.strconv_Itoa Tryz.laysM171 n h0 h1 w htab
def Tryz.laysM173_ren : Go.Shelf.Ren := ⟨fun | 173 => 54 | 246 => 101 | 283 => 154 | 284 => 155 | 285 => 156 | 286 => 157 | 129 => 191 | 317 => 190 | 318 => 192 | 319 => 193 | 320 => 194 | 337 => 207 | 338 => 208 | n => n, fun | 2 => 2 | 3 => 3 | 9 => 9 | 4 => 4 | 171 => 220 | 0 => 0 | 53 => 95 | 37 => 210 | 5 => 5 | 173 => 223 | 212 => 252 | 51 => 253 | 20 => 20 | 213 => 254 | 46 => 103 | 232 => 296 | 233 => 297 | n => n, fun | 17 => 2 | 18 => 4 | 19 => 5 | n => n⟩
theorem Tryz.laysM173 : Go.Proofs.LaysM.n173 Tryz.prog Tryz.laysM173_ren := {
 mixed := by kernel_rfl
 f129 := Tryz.func191.trans (congrArg some (by kernel_rfl))
 f173 := Tryz.func54.trans (congrArg some (by kernel_rfl))
 f246 := Tryz.func101.trans (congrArg some (by kernel_rfl))
 f283 := Tryz.func154.trans (congrArg some (by kernel_rfl))
 f284 := Tryz.func155.trans (congrArg some (by kernel_rfl))
 f285 := Tryz.func156.trans (congrArg some (by kernel_rfl))
 f286 := Tryz.func157.trans (congrArg some (by kernel_rfl))
 f317 := Tryz.func190.trans (congrArg some (by kernel_rfl))
 f318 := Tryz.func192.trans (congrArg some (by kernel_rfl))
 f319 := Tryz.func193.trans (congrArg some (by kernel_rfl))
 f320 := Tryz.func194.trans (congrArg some (by kernel_rfl))
 f337 := Tryz.func207.trans (congrArg some (by kernel_rfl))
 f338 := Tryz.func208.trans (congrArg some (by kernel_rfl))
 t0 := Tryz.underlying0
 a0 := Tryz.isAgg0
 z0 := Tryz.sizeOf0
 v0 := Tryz.zeroValue0
 t2 := Tryz.underlying2
 a2 := Tryz.isAgg2
 z2 := Tryz.sizeOf2
 v2 := Tryz.zeroValue2
 t3 := Tryz.underlying3
 a3 := Tryz.isAgg3
 z3 := Tryz.sizeOf3
 v3 := Tryz.zeroValue3
 t4 := Tryz.underlying4
 a4 := Tryz.isAgg4
 z4 := Tryz.sizeOf4
 v4 := Tryz.zeroValue4
 t5 := Tryz.underlying5
 a5 := Tryz.isAgg5
 z5 := Tryz.sizeOf5
 v5 := Tryz.zeroValue5
 t9 := Tryz.underlying9
 a9 := Tryz.isAgg9
 z9 := Tryz.sizeOf9
 v9 := Tryz.zeroValue9
 t20 := Tryz.underlying20
 a20 := Tryz.isAgg20
 z20 := Tryz.sizeOf20
 v20 := Tryz.zeroValue20
 t37 := Tryz.underlying210
 a37 := Tryz.isAgg210
 z37 := Tryz.sizeOf210
 v37 := Tryz.zeroValue210
 t46 := Tryz.underlying103
 a46 := Tryz.isAgg103
 z46 := Tryz.sizeOf103
 v46 := Tryz.zeroValue103
 t51 := Tryz.underlying253
 a51 := Tryz.isAgg253
 z51 := Tryz.sizeOf253
 v51 := Tryz.zeroValue253
 t53 := Tryz.underlying95
 a53 := Tryz.isAgg95
 z53 := Tryz.sizeOf95
 v53 := Tryz.zeroValue95
 t171 := Tryz.underlying220
 a171 := Tryz.isAgg220
 z171 := Tryz.sizeOf220
 v171 := Tryz.zeroValue220
 t173 := Tryz.underlying223
 a173 := Tryz.isAgg223
 z173 := Tryz.sizeOf223
 v173 := Tryz.zeroValue223
 t212 := Tryz.underlying252
 a212 := Tryz.isAgg252
 z212 := Tryz.sizeOf252
 v212 := Tryz.zeroValue252
 t213 := Tryz.underlying254
 a213 := Tryz.isAgg254
 z213 := Tryz.sizeOf254
 t232 := Tryz.underlying296
 a232 := Tryz.isAgg296
 z232 := Tryz.sizeOf296
 v232 := Tryz.zeroValue296
 t233 := Tryz.underlying297
 a233 := Tryz.isAgg297
 z233 := Tryz.sizeOf297
 v233 := Tryz.zeroValue297
 g17 := by kernel_rfl
 g18 := by kernel_rfl
 g19 := by kernel_rfl
 i0 := by kernel_rfl
 i2 := by kernel_rfl
 i3 := by kernel_rfl
 i4 := by kernel_rfl
 i5 := by kernel_rfl
 i9 := by kernel_rfl
 i20 := by kernel_rfl
 i37 := by kernel_rfl
 i46 := by kernel_rfl
 i51 := by kernel_rfl
 i53 := by kernel_rfl
 i171 := by kernel_rfl
 i173 := by kernel_rfl
 i212 := by kernel_rfl
 i232 := by kernel_rfl
 i233 := by kernel_rfl
 m17 := by kernel_rfl
 m18 := by kernel_rfl
 m19 := by kernel_rfl }
open Go.RowKit Go.Sort Go.Lib in
theorem Tryz.strconv_FormatInt_10 (n : Int) (h0 : -9223372036854775808 ≤ n) (h1 : n ≤ 9223372036854775807) (w : World) (htab : Lib.TabIs Tryz.prog w "internal/strconv.uint64pow10" .u64 Lib.pow10Tab) :
 Calls Tryz.prog 54 #[.int .i64 n, .int .i64 10] w fun e w' => e = .returned (.string ⟨(Lib.itoa n).toArray⟩) /\ ∃ k os, w' = grow (w.drewN k) os := Any.strconv_FormatInt_10 Tryz.laysM173 n h0 h1 w htab
def Tryz.laysC174_ren : Go.Shelf.Ren := ⟨fun | 174 => 53 | 247 => 99 | 245 => 100 | 287 => 149 | 279 => 150 | 280 => 151 | 281 => 152 | 282 => 153 | 321 => 186 | 322 => 187 | 316 => 188 | 171 => 163 | 205 => 189 | 243 => 201 | 246 => 101 | 283 => 154 | 284 => 155 | 285 => 156 | 286 => 157 | 129 => 191 | 317 => 190 | 318 => 192 | 319 => 193 | 320 => 194 | 337 => 207 | 338 => 208 | n => n, fun | 9 => 9 | 3 => 3 | 2 => 2 | 75 => 106 | 85 => 107 | 4 => 4 | 167 => 213 | 5 => 5 | 53 => 95 | 175 => 214 | 46 => 103 | 168 => 216 | 37 => 210 | 0 => 0 | 210 => 248 | 21 => 21 | 127 => 261 | 145 => 267 | 143 => 265 | 171 => 220 | 173 => 223 | 212 => 252 | 51 => 253 | 20 => 20 | 213 => 254 | 232 => 296 | 233 => 297 | 80 => 234 | n => n, fun | 15 => 0 | 16 => 1 | 17 => 2 | 18 => 4 | 19 => 5 | n => n⟩
theorem Tryz.laysC174 : Go.Proofs.LaysC.n174 Tryz.prog Tryz.laysC174_ren := {
 mixed := by kernel_rfl
 f129 := Tryz.func191.trans (congrArg some (by kernel_rfl))
 f171 := Tryz.func163.trans (congrArg some (by kernel_rfl))
 f174 := Tryz.func53.trans (congrArg some (by kernel_rfl))
 f205 := Tryz.func189.trans (congrArg some (by kernel_rfl))
 f243 := Tryz.func201.trans (congrArg some (by kernel_rfl))
 f245 := Tryz.func100.trans (congrArg some (by kernel_rfl))
 f246 := Tryz.func101.trans (congrArg some (by kernel_rfl))
 f247 := Tryz.func99.trans (congrArg some (by kernel_rfl))
 f279 := Tryz.func150.trans (congrArg some (by kernel_rfl))
 f280 := Tryz.func151.trans (congrArg some (by kernel_rfl))
 f281 := Tryz.func152.trans (congrArg some (by kernel_rfl))
 f282 := Tryz.func153.trans (congrArg some (by kernel_rfl))
 f283 := Tryz.func154.trans (congrArg some (by kernel_rfl))
 f284 := Tryz.func155.trans (congrArg some (by kernel_rfl))
 f285 := Tryz.func156.trans (congrArg some (by kernel_rfl))
 f286 := Tryz.func157.trans (congrArg some (by kernel_rfl))
 f287 := Tryz.func149.trans (congrArg some (by kernel_rfl))
 f316 := Tryz.func188.trans (congrArg some (by kernel_rfl))
 f317 := Tryz.func190.trans (congrArg some (by kernel_rfl))
 f318 := Tryz.func192.trans (congrArg some (by kernel_rfl))
 f319 := Tryz.func193.trans (congrArg some (by kernel_rfl))
 f320 := Tryz.func194.trans (congrArg some (by kernel_rfl))
 f321 := Tryz.func186.trans (congrArg some (by kernel_rfl))
 f322 := Tryz.func187.trans (congrArg some (by kernel_rfl))
 f337 := Tryz.func207.trans (congrArg some (by kernel_rfl))
 f338 := Tryz.func208.trans (congrArg some (by kernel_rfl))
 t0 := Tryz.underlying0
 a0 := Tryz.isAgg0
 z0 := Tryz.sizeOf0
 v0 := Tryz.zeroValue0
 t2 := Tryz.underlying2
 a2 := Tryz.isAgg2
 z2 := Tryz.sizeOf2
 v2 := Tryz.zeroValue2
 t3 := Tryz.underlying3
 a3 := Tryz.isAgg3
 z3 := Tryz.sizeOf3
 v3 := Tryz.zeroValue3
 t4 := Tryz.underlying4
 a4 := Tryz.isAgg4
 z4 := Tryz.sizeOf4
 v4 := Tryz.zeroValue4
 t5 := Tryz.underlying5
 a5 := Tryz.isAgg5
 z5 := Tryz.sizeOf5
 v5 := Tryz.zeroValue5
 t9 := Tryz.underlying9
 a9 := Tryz.isAgg9
 z9 := Tryz.sizeOf9
 v9 := Tryz.zeroValue9
 t20 := Tryz.underlying20
 a20 := Tryz.isAgg20
 z20 := Tryz.sizeOf20
 v20 := Tryz.zeroValue20
 t21 := Tryz.underlying21
 a21 := Tryz.isAgg21
 z21 := Tryz.sizeOf21
 v21 := Tryz.zeroValue21
 t37 := Tryz.underlying210
 a37 := Tryz.isAgg210
 z37 := Tryz.sizeOf210
 v37 := Tryz.zeroValue210
 t46 := Tryz.underlying103
 a46 := Tryz.isAgg103
 z46 := Tryz.sizeOf103
 v46 := Tryz.zeroValue103
 t51 := Tryz.underlying253
 a51 := Tryz.isAgg253
 z51 := Tryz.sizeOf253
 v51 := Tryz.zeroValue253
 t53 := Tryz.underlying95
 a53 := Tryz.isAgg95
 z53 := Tryz.sizeOf95
 v53 := Tryz.zeroValue95
 t75 := Tryz.underlying106
 a75 := Tryz.isAgg106
 z75 := Tryz.sizeOf106
 v75 := Tryz.zeroValue106
 t85 := Tryz.underlying107
 a85 := Tryz.isAgg107
 z85 := Tryz.sizeOf107
 v85 := Tryz.zeroValue107
 t127 := Tryz.underlying261
 a127 := Tryz.isAgg261
 z127 := Tryz.sizeOf261
 v127 := Tryz.zeroValue261
 t143 := Tryz.underlying265
 a143 := Tryz.isAgg265
 z143 := Tryz.sizeOf265
 v143 := Tryz.zeroValue265
 t145 := Tryz.underlying267
 a145 := Tryz.isAgg267
 z145 := Tryz.sizeOf267
 v145 := Tryz.zeroValue267
 t167 := Tryz.underlying213
 a167 := Tryz.isAgg213
 z167 := Tryz.sizeOf213
 v167 := Tryz.zeroValue213
 t168 := Tryz.underlying216
 a168 := Tryz.isAgg216
 z168 := Tryz.sizeOf216
 v168 := Tryz.zeroValue216
 t171 := Tryz.underlying220
 a171 := Tryz.isAgg220
 z171 := Tryz.sizeOf220
 v171 := Tryz.zeroValue220
 t173 := Tryz.underlying223
 a173 := Tryz.isAgg223
 z173 := Tryz.sizeOf223
 v173 := Tryz.zeroValue223
 t175 := Tryz.underlying214
 a175 := Tryz.isAgg214
 z175 := Tryz.sizeOf214
 v175 := Tryz.zeroValue214
 t210 := Tryz.underlying248
 a210 := Tryz.isAgg248
 z210 := Tryz.sizeOf248
 v210 := Tryz.zeroValue248
 t212 := Tryz.underlying252
 a212 := Tryz.isAgg252
 z212 := Tryz.sizeOf252
 v212 := Tryz.zeroValue252
 t213 := Tryz.underlying254
 a213 := Tryz.isAgg254
 z213 := Tryz.sizeOf254
 t232 := Tryz.underlying296
 a232 := Tryz.isAgg296
 z232 := Tryz.sizeOf296
 v232 := Tryz.zeroValue296
 t233 := Tryz.underlying297
 a233 := Tryz.isAgg297
 z233 := Tryz.sizeOf297
 v233 := Tryz.zeroValue297
 g15 := by kernel_rfl
 g16 := by kernel_rfl
 g17 := by kernel_rfl
 g18 := by kernel_rfl
 g19 := by kernel_rfl
 t80 := Tryz.underlying234
 a80 := Tryz.isAgg234
 z80 := Tryz.sizeOf234
 v80 := Tryz.zeroValue234
 i0 := by kernel_rfl
 i2 := by kernel_rfl
 i3 := by kernel_rfl
 i4 := by kernel_rfl
 i5 := by kernel_rfl
 i9 := by kernel_rfl
 i20 := by kernel_rfl
 i21 := by kernel_rfl
 i37 := by kernel_rfl
 i46 := by kernel_rfl
 i51 := by kernel_rfl
 i53 := by kernel_rfl
 i75 := by kernel_rfl
 i80 := by kernel_rfl
 i85 := by kernel_rfl
 i127 := by kernel_rfl
 i143 := by kernel_rfl
 i145 := by kernel_rfl
 i167 := by kernel_rfl
 i168 := by kernel_rfl
 i171 := by kernel_rfl
 i173 := by kernel_rfl
 i175 := by kernel_rfl
 i210 := by kernel_rfl
 i212 := by kernel_rfl
 i232 := by kernel_rfl
 i233 := by kernel_rfl
 m15 := by kernel_rfl
 m16 := by kernel_rfl
 m17 := by kernel_rfl
 m18 := by kernel_rfl
 m19 := by kernel_rfl
 c0 := by kernel_rfl
 c2 := by kernel_rfl
 c3 := by kernel_rfl
 c4 := by kernel_rfl
 c5 := by kernel_rfl
 c9 := by kernel_rfl
 c20 := by kernel_rfl
 c21 := by kernel_rfl
 c37 := by kernel_rfl
 c46 := by kernel_rfl
 c51 := by kernel_rfl
 c53 := by kernel_rfl
 c75 := by kernel_rfl
 c80 := by kernel_rfl
 c85 := by kernel_rfl
 c127 := by kernel_rfl
 c143 := by kernel_rfl
 c145 := by kernel_rfl
 c167 := by kernel_rfl
 c168 := by kernel_rfl
 c171 := by kernel_rfl
 c173 := by kernel_rfl
 c175 := by kernel_rfl
 c210 := by kernel_rfl
 c212 := by kernel_rfl
 c213 := by kernel_rfl
 c232 := by kernel_rfl
 c233 := by kernel_rfl }
open Go.RowKit in
theorem Tryz.strconv_ParseInt_10_at64_ok (s : ByteArray) (hmax : s.size ≤ 9223372036854775806) (v : Int) (h : Lib.parseIntB 64 s.data.toList = .ok v) (w : World) :
 Calls Tryz.prog 53 #[.string s, .int .i64 10, .int .i64 64] w fun e w' => e = .returned (.tuple #[.int .i64 v, .nilIface]) /\ (w' = w \/ ∃ t, w' = Lib.bytesWorld w 5 t) := Any.strconv_ParseInt_10_at64_ok Tryz.laysC174 s hmax v h w
open Go.RowKit in
theorem Tryz.strconv_ParseInt_10_at64_syntax_var (s : ByteArray) (hlim : s.size ≤ 281474976710656) (h : Lib.parseIntB 64 s.data.toList = .«syntax») (tp : TypeId) (p : Value) (w : World) (hvar : w.var? Tryz.prog "strconv.ErrSyntax" = some #[.iface tp p]) :
 Calls Tryz.prog 53 #[.string s, .int .i64 10, .int .i64 64] w fun e w' => ∃ N, e = .returned (.tuple #[.int .i64 (0), .iface 216 (.pointer (some ⟨N, 0, none⟩))]) /\ w.heap.size ≤ N /\ w'.heap[N]? = some (.cells #[.string ⟨#[80, 97, 114, 115, 101, 73, 110, 116]⟩, .string s, .iface tp p] 248 (0, 0)) /\ Below w.heap.size w w' := Any.strconv_ParseInt_10_at64_syntax_var Tryz.laysC174 s hlim h tp p w hvar
open Go.RowKit in
theorem Tryz.strconv_ParseInt_10_at64_range_var (s : ByteArray) (hlim : s.size ≤ 281474976710656) (h : Lib.parseIntB 64 s.data.toList = .range) (tp : TypeId) (p : Value) (w : World) (hvar : w.var? Tryz.prog "strconv.ErrRange" = some #[.iface tp p]) :
 Calls Tryz.prog 53 #[.string s, .int .i64 10, .int .i64 64] w fun e w' => ∃ N, e = .returned (.tuple #[.int .i64 (Lib.intSat 64 s.data.toList), .iface 216 (.pointer (some ⟨N, 0, none⟩))]) /\ w.heap.size ≤ N /\ w'.heap[N]? = some (.cells #[.string ⟨#[80, 97, 114, 115, 101, 73, 110, 116]⟩, .string s, .iface tp p] 248 (0, 0)) /\ Below w.heap.size w w' := Any.strconv_ParseInt_10_at64_range_var Tryz.laysC174 s hlim h tp p w hvar
def Tryz.lays212_ren : Go.Shelf.Ren := ⟨fun | 212 => 199 | 263 => 216 | 264 => 217 | n => n, fun | 46 => 103 | 51 => 253 | 146 => 290 | 53 => 95 | 148 => 101 | n => n, fun | n => n⟩
theorem Tryz.lays212 : Go.Proofs.Lays.n212 Tryz.prog Tryz.lays212_ren := {
 mixed := by kernel_rfl
 f212 := Tryz.func199.trans (congrArg some (by kernel_rfl))
 f263 := Tryz.func216.trans (congrArg some (by kernel_rfl))
 f264 := Tryz.func217.trans (congrArg some (by kernel_rfl))
 t46 := Tryz.underlying103
 a46 := Tryz.isAgg103
 z46 := Tryz.sizeOf103
 v46 := Tryz.zeroValue103
 t51 := Tryz.underlying253
 a51 := Tryz.isAgg253
 z51 := Tryz.sizeOf253
 v51 := Tryz.zeroValue253
 t53 := Tryz.underlying95
 a53 := Tryz.isAgg95
 z53 := Tryz.sizeOf95
 v53 := Tryz.zeroValue95
 t146 := Tryz.underlying290
 a146 := Tryz.isAgg290
 z146 := Tryz.sizeOf290
 v146 := Tryz.zeroValue290
 t148 := Tryz.underlying101
 a148 := Tryz.isAgg101
 z148 := Tryz.sizeOf101
 v148 := Tryz.zeroValue101 }
open Go.RowKit Go.Lib in
theorem Tryz.bits_Mul (x y : Nat) (hx : x < 18446744073709551616) (hy : y < 18446744073709551616) (w : World) :
 Calls Tryz.prog 199 #[.int .u64 x, .int .u64 y] w fun e w' => e = .returned (.tuple #[.int .u64 ((x * y / 18446744073709551616 : Nat) : Int), .int .u64 ((x * y % 18446744073709551616 : Nat) : Int)]) /\ w' = w := Any.bits_Mul Tryz.lays212 x y hx hy w
def Tryz.laysSlF6_f250_ren : Go.Shelf.Ren := ⟨fun | 6 => 250 | 15 => 258 | 14 => 257 | 28 => 268 | 29 => 191 | 20 => 260 | 21 => 261 | 22 => 262 | 23 => 263 | 24 => 264 | 25 => 265 | 26 => 266 | 27 => 267 | 46 => 271 | 47 => 272 | 48 => 273 | 49 => 274 | 50 => 275 | 57 => 276 | n => n, fun | 22 => 51 | 24 => 66 | 25 => 132 | 3 => 3 | 39 => 103 | 0 => 0 | 53 => 253 | 55 => 95 | 4 => 4 | 46 => 334 | 45 => 333 | 50 => 71 | 5 => 5 | 9 => 9 | 66 => 340 | 70 => 344 | 76 => 346 | 77 => 347 | n => n, fun | n => n⟩
theorem Tryz.laysSlF6_f250 : Go.Proofs.SlLaysF.n6 Tryz.prog Tryz.laysSlF6_f250_ren := {
 mixed := by kernel_rfl
 f6 := ⟨Tryz.f250.name, by decide, Tryz.func250.trans (congrArg some (by kernel_rfl))⟩
 f14 := ⟨Tryz.f257.name, by decide, Tryz.func257.trans (congrArg some (by kernel_rfl))⟩
 f15 := Tryz.func258.trans (congrArg some (by kernel_rfl))
 f20 := ⟨Tryz.f260.name, by decide, Tryz.func260.trans (congrArg some (by kernel_rfl))⟩
 f21 := ⟨Tryz.f261.name, by decide, Tryz.func261.trans (congrArg some (by kernel_rfl))⟩
 f22 := ⟨Tryz.f262.name, by decide, Tryz.func262.trans (congrArg some (by kernel_rfl))⟩
 f23 := ⟨Tryz.f263.name, by decide, Tryz.func263.trans (congrArg some (by kernel_rfl))⟩
 f24 := ⟨Tryz.f264.name, by decide, Tryz.func264.trans (congrArg some (by kernel_rfl))⟩
 f25 := ⟨Tryz.f265.name, by decide, Tryz.func265.trans (congrArg some (by kernel_rfl))⟩
 f26 := ⟨Tryz.f266.name, by decide, Tryz.func266.trans (congrArg some (by kernel_rfl))⟩
 f27 := ⟨Tryz.f267.name, by decide, Tryz.func267.trans (congrArg some (by kernel_rfl))⟩
 f28 := Tryz.func268.trans (congrArg some (by kernel_rfl))
 f29 := Tryz.func191.trans (congrArg some (by kernel_rfl))
 f46 := ⟨Tryz.f271.name, by decide, Tryz.func271.trans (congrArg some (by kernel_rfl))⟩
 f47 := Tryz.func272.trans (congrArg some (by kernel_rfl))
 f48 := Tryz.func273.trans (congrArg some (by kernel_rfl))
 f49 := ⟨Tryz.f274.name, by decide, Tryz.func274.trans (congrArg some (by kernel_rfl))⟩
 f50 := ⟨Tryz.f275.name, by decide, Tryz.func275.trans (congrArg some (by kernel_rfl))⟩
 f57 := ⟨Tryz.f276.name, by decide, Tryz.func276.trans (congrArg some (by kernel_rfl))⟩
 t0 := Tryz.underlying0
 a0 := Tryz.isAgg0
 z0 := Tryz.sizeOf0
 v0 := Tryz.zeroValue0
 t3 := Tryz.underlying3
 a3 := Tryz.isAgg3
 z3 := Tryz.sizeOf3
 v3 := Tryz.zeroValue3
 t4 := Tryz.underlying4
 a4 := Tryz.isAgg4
 z4 := Tryz.sizeOf4
 v4 := Tryz.zeroValue4
 t5 := Tryz.underlying5
 a5 := Tryz.isAgg5
 z5 := Tryz.sizeOf5
 v5 := Tryz.zeroValue5
 t9 := Tryz.underlying9
 a9 := Tryz.isAgg9
 z9 := Tryz.sizeOf9
 v9 := Tryz.zeroValue9
 t22 := Tryz.underlying51
 a22 := Tryz.isAgg51
 z22 := Tryz.sizeOf51
 v22 := Tryz.zeroValue51
 a24 := Tryz.isAgg66
 z24 := Tryz.sizeOf66
 t25 := Tryz.underlying132
 a25 := Tryz.isAgg132
 z25 := Tryz.sizeOf132
 v25 := Tryz.zeroValue132
 t39 := Tryz.underlying103
 a39 := Tryz.isAgg103
 z39 := Tryz.sizeOf103
 v39 := Tryz.zeroValue103
 t45 := Tryz.underlying333
 a45 := Tryz.isAgg333
 z45 := Tryz.sizeOf333
 v45 := Tryz.zeroValue333
 t46 := Tryz.underlying334
 a46 := Tryz.isAgg334
 z46 := Tryz.sizeOf334
 v46 := Tryz.zeroValue334
 t50 := Tryz.underlying71
 a50 := Tryz.isAgg71
 z50 := Tryz.sizeOf71
 v50 := Tryz.zeroValue71
 t53 := Tryz.underlying253
 a53 := Tryz.isAgg253
 z53 := Tryz.sizeOf253
 v53 := Tryz.zeroValue253
 t55 := Tryz.underlying95
 a55 := Tryz.isAgg95
 z55 := Tryz.sizeOf95
 v55 := Tryz.zeroValue95
 t66 := Tryz.underlying340
 a66 := Tryz.isAgg340
 z66 := Tryz.sizeOf340
 v66 := Tryz.zeroValue340
 t70 := Tryz.underlying344
 a70 := Tryz.isAgg344
 z70 := Tryz.sizeOf344
 v70 := Tryz.zeroValue344
 t76 := Tryz.underlying346
 a76 := Tryz.isAgg346
 z76 := Tryz.sizeOf346
 v76 := Tryz.zeroValue346
 t77 := Tryz.underlying347
 a77 := Tryz.isAgg347
 z77 := Tryz.sizeOf347
 v77 := Tryz.zeroValue347 }
def Tryz.laysSlF06_f250_ren : Go.Shelf.Ren := ⟨fun | 6 => 250 | 15 => 258 | 14 => 257 | 28 => 268 | 29 => 191 | 20 => 260 | 21 => 261 | 22 => 262 | 23 => 263 | 24 => 264 | 25 => 265 | 26 => 266 | 27 => 267 | 46 => 271 | 47 => 272 | 48 => 273 | 49 => 274 | 50 => 275 | 57 => 276 | n => n, fun | 22 => 51 | 24 => 66 | 25 => 132 | 3 => 3 | 39 => 103 | 0 => 0 | 53 => 253 | 55 => 95 | 4 => 4 | 46 => 334 | 45 => 333 | 50 => 71 | 5 => 5 | 9 => 9 | 66 => 340 | 70 => 344 | 76 => 346 | 77 => 347 | n => n, fun | n => n⟩
theorem Tryz.laysSlF06_f250 : Go.Proofs.SlLaysF0.n6 Tryz.prog Tryz.laysSlF06_f250_ren := {
 mixed := by kernel_rfl
 f6 := ⟨Tryz.f250.name, by decide, Tryz.func250.trans (congrArg some (by kernel_rfl))⟩
 f14 := ⟨Tryz.f257.name, by decide, Tryz.func257.trans (congrArg some (by kernel_rfl))⟩
 f15 := Tryz.func258.trans (congrArg some (by kernel_rfl))
 f20 := ⟨Tryz.f260.name, by decide, Tryz.func260.trans (congrArg some (by kernel_rfl))⟩
 f21 := ⟨Tryz.f261.name, by decide, Tryz.func261.trans (congrArg some (by kernel_rfl))⟩
 f22 := ⟨Tryz.f262.name, by decide, Tryz.func262.trans (congrArg some (by kernel_rfl))⟩
 f23 := ⟨Tryz.f263.name, by decide, Tryz.func263.trans (congrArg some (by kernel_rfl))⟩
 f24 := ⟨Tryz.f264.name, by decide, Tryz.func264.trans (congrArg some (by kernel_rfl))⟩
 f25 := ⟨Tryz.f265.name, by decide, Tryz.func265.trans (congrArg some (by kernel_rfl))⟩
 f26 := ⟨Tryz.f266.name, by decide, Tryz.func266.trans (congrArg some (by kernel_rfl))⟩
 f27 := ⟨Tryz.f267.name, by decide, Tryz.func267.trans (congrArg some (by kernel_rfl))⟩
 f28 := Tryz.func268.trans (congrArg some (by kernel_rfl))
 f29 := Tryz.func191.trans (congrArg some (by kernel_rfl))
 f46 := ⟨Tryz.f271.name, by decide, Tryz.func271.trans (congrArg some (by kernel_rfl))⟩
 f47 := Tryz.func272.trans (congrArg some (by kernel_rfl))
 f48 := Tryz.func273.trans (congrArg some (by kernel_rfl))
 f49 := ⟨Tryz.f274.name, by decide, Tryz.func274.trans (congrArg some (by kernel_rfl))⟩
 f50 := ⟨Tryz.f275.name, by decide, Tryz.func275.trans (congrArg some (by kernel_rfl))⟩
 f57 := ⟨Tryz.f276.name, by decide, Tryz.func276.trans (congrArg some (by kernel_rfl))⟩
 t0 := Tryz.underlying0
 a0 := Tryz.isAgg0
 z0 := Tryz.sizeOf0
 v0 := Tryz.zeroValue0
 t3 := Tryz.underlying3
 a3 := Tryz.isAgg3
 z3 := Tryz.sizeOf3
 v3 := Tryz.zeroValue3
 t4 := Tryz.underlying4
 a4 := Tryz.isAgg4
 z4 := Tryz.sizeOf4
 v4 := Tryz.zeroValue4
 t5 := Tryz.underlying5
 a5 := Tryz.isAgg5
 z5 := Tryz.sizeOf5
 v5 := Tryz.zeroValue5
 t9 := Tryz.underlying9
 a9 := Tryz.isAgg9
 z9 := Tryz.sizeOf9
 v9 := Tryz.zeroValue9
 t22 := Tryz.underlying51
 a22 := Tryz.isAgg51
 z22 := Tryz.sizeOf51
 v22 := Tryz.zeroValue51
 t25 := Tryz.underlying132
 a25 := Tryz.isAgg132
 z25 := Tryz.sizeOf132
 v25 := Tryz.zeroValue132
 t39 := Tryz.underlying103
 a39 := Tryz.isAgg103
 z39 := Tryz.sizeOf103
 v39 := Tryz.zeroValue103
 t45 := Tryz.underlying333
 a45 := Tryz.isAgg333
 z45 := Tryz.sizeOf333
 v45 := Tryz.zeroValue333
 t46 := Tryz.underlying334
 a46 := Tryz.isAgg334
 z46 := Tryz.sizeOf334
 v46 := Tryz.zeroValue334
 t50 := Tryz.underlying71
 a50 := Tryz.isAgg71
 z50 := Tryz.sizeOf71
 v50 := Tryz.zeroValue71
 t53 := Tryz.underlying253
 a53 := Tryz.isAgg253
 z53 := Tryz.sizeOf253
 v53 := Tryz.zeroValue253
 t55 := Tryz.underlying95
 a55 := Tryz.isAgg95
 z55 := Tryz.sizeOf95
 v55 := Tryz.zeroValue95
 t66 := Tryz.underlying340
 a66 := Tryz.isAgg340
 z66 := Tryz.sizeOf340
 v66 := Tryz.zeroValue340
 t70 := Tryz.underlying344
 a70 := Tryz.isAgg344
 z70 := Tryz.sizeOf344
 v70 := Tryz.zeroValue344
 t76 := Tryz.underlying346
 a76 := Tryz.isAgg346
 z76 := Tryz.sizeOf346
 v76 := Tryz.zeroValue346
 t77 := Tryz.underlying347
 a77 := Tryz.isAgg347
 z77 := Tryz.sizeOf347
 v77 := Tryz.zeroValue347 }
def Tryz.lays25_ren : Go.Shelf.Ren := ⟨fun | 25 => 51 | n => n, fun | 22 => 95 | n => n, fun | n => n⟩
theorem Tryz.lays25 : Go.Proofs.Lays7.n25 Tryz.prog Tryz.lays25_ren := {
 mixed := by kernel_rfl
 f25 := Tryz.func51.trans (congrArg some (by kernel_rfl))
 t22 := Tryz.underlying95
 a22 := Tryz.isAgg95
 z22 := Tryz.sizeOf95
 v22 := Tryz.zeroValue95
 i22 := by kernel_rfl }
def Tryz.lays166_ren : Go.Shelf.Ren := ⟨fun | 166 => 162 | 240 => 200 | 276 => 218 | n => n, fun | 0 => 0 | 3 => 3 | 4 => 4 | 5 => 5 | 9 => 9 | 20 => 20 | 37 => 210 | 70 => 228 | 72 => 230 | 75 => 106 | 80 => 234 | 164 => 293 | n => n, fun | n => n⟩
theorem Tryz.lays166 : Go.Proofs.Lays.n166 Tryz.prog Tryz.lays166_ren := {
 mixed := by kernel_rfl
 f166 := Tryz.func162.trans (congrArg some (by kernel_rfl))
 f240 := Tryz.func200.trans (congrArg some (by kernel_rfl))
 f276 := Tryz.func218.trans (congrArg some (by kernel_rfl))
 t0 := Tryz.underlying0
 a0 := Tryz.isAgg0
 z0 := Tryz.sizeOf0
 v0 := Tryz.zeroValue0
 t3 := Tryz.underlying3
 a3 := Tryz.isAgg3
 z3 := Tryz.sizeOf3
 v3 := Tryz.zeroValue3
 t4 := Tryz.underlying4
 a4 := Tryz.isAgg4
 z4 := Tryz.sizeOf4
 v4 := Tryz.zeroValue4
 t9 := Tryz.underlying9
 a9 := Tryz.isAgg9
 z9 := Tryz.sizeOf9
 v9 := Tryz.zeroValue9
 t20 := Tryz.underlying20
 a20 := Tryz.isAgg20
 z20 := Tryz.sizeOf20
 v20 := Tryz.zeroValue20
 t37 := Tryz.underlying210
 a37 := Tryz.isAgg210
 z37 := Tryz.sizeOf210
 v37 := Tryz.zeroValue210
 t70 := Tryz.underlying228
 a70 := Tryz.isAgg228
 z70 := Tryz.sizeOf228
 v70 := Tryz.zeroValue228
 t72 := Tryz.underlying230
 a72 := Tryz.isAgg230
 z72 := Tryz.sizeOf230
 v72 := Tryz.zeroValue230
 t75 := Tryz.underlying106
 a75 := Tryz.isAgg106
 z75 := Tryz.sizeOf106
 v75 := Tryz.zeroValue106
 t164 := Tryz.underlying293
 a164 := Tryz.isAgg293
 z164 := Tryz.sizeOf293
 v164 := Tryz.zeroValue293 }
def Tryz.lays167_ren : Go.Shelf.Ren := ⟨fun | 167 => 164 | 240 => 200 | 276 => 218 | n => n, fun | 0 => 0 | 4 => 4 | 5 => 5 | 9 => 9 | 20 => 20 | 37 => 210 | 70 => 228 | 72 => 230 | 75 => 106 | 80 => 234 | 164 => 293 | n => n, fun | n => n⟩
theorem Tryz.lays167 : Go.Proofs.Lays.n167 Tryz.prog Tryz.lays167_ren := {
 mixed := by kernel_rfl
 f167 := Tryz.func164.trans (congrArg some (by kernel_rfl))
 f240 := Tryz.func200.trans (congrArg some (by kernel_rfl))
 f276 := Tryz.func218.trans (congrArg some (by kernel_rfl))
 t0 := Tryz.underlying0
 a0 := Tryz.isAgg0
 z0 := Tryz.sizeOf0
 v0 := Tryz.zeroValue0
 t4 := Tryz.underlying4
 a4 := Tryz.isAgg4
 z4 := Tryz.sizeOf4
 v4 := Tryz.zeroValue4
 t5 := Tryz.underlying5
 a5 := Tryz.isAgg5
 z5 := Tryz.sizeOf5
 v5 := Tryz.zeroValue5
 t9 := Tryz.underlying9
 a9 := Tryz.isAgg9
 z9 := Tryz.sizeOf9
 v9 := Tryz.zeroValue9
 t20 := Tryz.underlying20
 a20 := Tryz.isAgg20
 z20 := Tryz.sizeOf20
 v20 := Tryz.zeroValue20
 t37 := Tryz.underlying210
 a37 := Tryz.isAgg210
 z37 := Tryz.sizeOf210
 v37 := Tryz.zeroValue210
 t70 := Tryz.underlying228
 a70 := Tryz.isAgg228
 z70 := Tryz.sizeOf228
 v70 := Tryz.zeroValue228
 t72 := Tryz.underlying230
 a72 := Tryz.isAgg230
 z72 := Tryz.sizeOf230
 v72 := Tryz.zeroValue230
 t75 := Tryz.underlying106
 a75 := Tryz.isAgg106
 z75 := Tryz.sizeOf106
 v75 := Tryz.zeroValue106
 t164 := Tryz.underlying293
 a164 := Tryz.isAgg293
 z164 := Tryz.sizeOf293
 v164 := Tryz.zeroValue293 }
theorem Tryz.Builder_Extra_166 : Builder.Extra Tryz.prog Tryz.lays166_ren := {
 sizeBuilder := by kernel_rfl
 liesBuilder := by kernel_rfl
 t5 := Tryz.underlying5
 a5 := Tryz.isAgg5
 z5 := Tryz.sizeOf5
 v5 := Tryz.zeroValue5
 infoByte := by kernel_rfl
 cellsByte := by kernel_rfl
 sizeByte := by kernel_rfl
 neB5 := by decide }
theorem Tryz.Builder_Extra_167 : Builder.Extra Tryz.prog Tryz.lays167_ren := {
 sizeBuilder := by kernel_rfl
 liesBuilder := by kernel_rfl
 t5 := Tryz.underlying5
 a5 := Tryz.isAgg5
 z5 := Tryz.sizeOf5
 v5 := Tryz.zeroValue5
 infoByte := by kernel_rfl
 cellsByte := by kernel_rfl
 sizeByte := by kernel_rfl
 neB5 := by decide }
open Go.RowKit in
theorem Tryz.Builder_WriteByte (B b : Nat) (bs : List Value) (c : Int) (w : World) (h : Lib.IsBuilder 230 5 B b bs w) (hlen : bs.length + 1 ≤ 140737488355328) (hBw : B ≤ w.heap.size) :
 Calls Tryz.prog 164 #[.pointer (some ⟨b, 0, none⟩), .int .u8 c] w fun e w' => e = .returned .nilIface /\ (Lib.BuilderAt 230 5 B b (.pointer (some ⟨b, 0, none⟩)) (bs ++ [.int .u8 c]) w' /\ Below B w w') := Any.Builder_WriteByte Tryz.lays167 Tryz.Builder_Extra_167 B b bs c w h hlen hBw
open Go.RowKit in
theorem Tryz.Builder_WriteString (B b : Nat) (bs : List Value) (s : ByteArray) (w : World) (h : Lib.IsBuilder 230 5 B b bs w) (hlen : bs.length + s.size ≤ 140737488355328) (hBw : B ≤ w.heap.size) :
 Calls Tryz.prog 162 #[.pointer (some ⟨b, 0, none⟩), .string s] w fun e w' => e = .returned (.tuple #[.int .i64 s.size, .nilIface]) /\ (Lib.BuilderAt 230 5 B b (.pointer (some ⟨b, 0, none⟩)) (bs ++ Lib.strCells s) w' /\ Below B w w') := Any.Builder_WriteString Tryz.lays166 Tryz.Builder_Extra_166 B b bs s w h hlen hBw
end Go.Proofs
namespace Go.Proofs.YtikgpedgmnbcaaaGreatDoor
section
open Go.RowKit
theorem wC {P : Program} {n : String} {cs : Array Value} {w w' : World} (h : w.var? P n = some cs) (hk : Ext w w') : w'.var? P n = some cs := by
 unfold World.var? at h ⊢
 cases hg : P.globalNamed n with
 | none => rw [hg] at h; cases h
 | some g =>
  rw [hg] at h
  simp only [Option.bind_some] at h ⊢
  have hlt : g < w.heap.size := by
   rcases Nat.lt_or_ge g w.heap.size with h' | h'
   ·exact h'
   ·rw [Array.getElem?_eq_none h'] at h; cases h
  rw [hk.block g hlt id]
  exact h
structure NumW (w : World) : Prop where
 tab : Lib.TabIs Tryz.prog w "internal/strconv.uint64pow10" .u64 Lib.pow10Tab
 esyn : ∃ tp p, w.var? Tryz.prog "strconv.ErrSyntax" = some #[.iface tp p]
 erng : ∃ tp p, w.var? Tryz.prog "strconv.ErrRange" = some #[.iface tp p]
theorem NumW.ext {w w' : World} (h : NumW w) (hk : Ext w w') : NumW w' := by
 obtain ⟨h1, ⟨a, b, h2⟩, ⟨c, d, h3⟩⟩ := h
 exact ⟨wC h1 hk, ⟨a, b, wC h2 hk⟩, ⟨c, d, wC h3 hk⟩⟩
theorem aAi (w : World) (os : Array Obj) : Ext w (Go.Sort.grow w os) := ⟨rfl, rfl, rfl, by simp, fun k hk _ => Go.Sort.heap_grow_old w os hk⟩
theorem kH (n : Int) (h0 : -9223372036854775808 ≤ n) (h1 : n ≤ 9223372036854775807) (w : World) (hN : NumW w) :
 Calls Tryz.prog 17 #[.int .i64 n] w (RetN w fun w' v => v = .string ⟨(Lib.itoa n).toArray⟩) := by
 have HF := qH (Go.Proofs.Tryz.strconv_FormatInt_10 n h0 h1 w hN.tab)
 clear hN
 go_enter Tryz.func17, Tryz.ntmps17
 go_wp2_with fail
 refine HF.out.mono ?_
 rintro e w' ⟨rfl, k, os, rfl⟩
 have hk : Ext w (Go.Sort.grow (w.drewN k) os) := ((Kp.refl w).drewN k).trans (aAi _ _)
 generalize Go.Sort.grow (w.drewN k) os = w1 at hk ⊢
 have HK := qH hk; clear hk
 go_wp2
 go_ret
 exact RetN.mk HK.out rfl
theorem xT {a b : ByteArray} (h : a.toList = b.toList) : a = b := by
 rw [ByteArray.toList_eq, ByteArray.toList_eq] at h
 exact ByteArray.ext (Array.toList_inj.1 h)
theorem pQ {l : List UInt8} (h : Lib.parseIntB 64 l = Lib.NumEnd.syntax \/ Lib.parseIntB 64 l = .range) : cF l = (0, false) := by
 unfold cF; rcases h with h | h <;> rw [h]
set_option maxHeartbeats 1000000 in
theorem aB0 (s : ByteArray) (hs : s.size ≤ 281474976710656) (w : World) (hN : NumW w) :
 Calls Tryz.prog 16 #[.string s] w (RetN w fun w' v => v = .tuple #[.int .i64 (cF s.data.toList).1, .bool (cF s.data.toList).2]) := by
 have hq0 : ∀ w : World, (binOp .neq 106 .nilIface .nilIface).run Tryz.prog w = .ok (.bool false) w := fun _ => by kernel_rfl
 have hq1 : ∀ (N : Nat) (w : World), (binOp .neq 106 (.iface 216 (.pointer (some ⟨N, 0, none⟩))) .nilIface).run Tryz.prog w = .ok (.bool true) w := fun _ _ => by kernel_rfl
 cases hp : Lib.parseIntB 64 s.data.toList with
 | ok v =>
  have hb := Lib.parseIntB_bounds hp
  have HP := qH (Go.Proofs.Tryz.strconv_ParseInt_10_at64_ok s (by omega) v hp w)
  have hb0 : -9223372036854775808 ≤ v := by have := hb.1; omega
  have hb1 : v ≤ 9223372036854775807 := by have := hb.2; omega
  have HW := qH (fun w1 (hw : Ext w w1) => kH v hb0 hb1 w1 (hN.ext hw))
  obtain ⟨x, ex⟩ : ∃ x : ByteArray, x = ⟨(Lib.itoa v).toArray⟩ := ⟨_, rfl⟩
  rw [<- ex] at HW
  by_cases he : x = s
  ·have hsp : cF s.data.toList = (v, true) := by
    unfold cF; rw [hp]
    simp only
    rw [if_pos (by rw [<- he, ex])]
   have HSP := qH hsp
   have e' : (!(x.toList == s.toList)) = false := by rw [he]; simp
   clear hb hN hsp he ex hp
   go_enter Tryz.func16, Tryz.ntmps16
   go_wp2_with fail
   refine HP.out.mono ?_
   rintro e w1 ⟨rfl, hw1⟩
   have hk : Ext w w1 := by
    rcases hw1 with rfl | ⟨t, rfl⟩
    ·exact Kp.refl _
    ·exact Kp.of_below (Lib.bytesWorld_below w 5 t)
   clear hw1
   go_wp2_with fail
   refine (HW.out w1 hk).mono ?_
   rintro e w2 ⟨v2, rfl, hk2, rfl⟩
   have HK := qH (hk.trans hk2); clear hk hk2
   go_wp2
   go_ret2
   exact RetN.mk HK.out (by rw [HSP.out]; rfl)
  ·have hsp : cF s.data.toList = (0, false) := by
    unfold cF; rw [hp]
    simp only
    rw [if_neg (fun h => he (by rw [ex, h]))]
   have HSP := qH hsp
   have e' : (!(x.toList == s.toList)) = true := by
    cases h : (x.toList == s.toList)
    ·rfl
    ·exact absurd (xT (eq_of_beq h)) he
   clear hb hN hsp he ex hp
   go_enter Tryz.func16, Tryz.ntmps16
   go_wp2_with fail
   refine HP.out.mono ?_
   rintro e w1 ⟨rfl, hw1⟩
   have hk : Ext w w1 := by
    rcases hw1 with rfl | ⟨t, rfl⟩
    ·exact Kp.refl _
    ·exact Kp.of_below (Lib.bytesWorld_below w 5 t)
   clear hw1
   go_wp2_with fail
   refine (HW.out w1 hk).mono ?_
   rintro e w2 ⟨v2, rfl, hk2, rfl⟩
   have HK := qH (hk.trans hk2); clear hk hk2
   go_wp2
   go_ret2
   exact RetN.mk HK.out (by rw [HSP.out]; rfl)
 | range =>
  obtain ⟨tp, p, hv⟩ := hN.erng
  have HP := qH (Go.Proofs.Tryz.strconv_ParseInt_10_at64_range_var s hs hp tp p w hv)
  have HSP := qH (pQ (.inr hp))
  clear hN hv hp
  go_enter Tryz.func16, Tryz.ntmps16
  go_wp2_with fail
  refine HP.out.mono ?_
  rintro e w1 ⟨N, rfl, _, _, hbel⟩
  have hk := Kp.of_below hbel
  have HK := qH hk; clear hk hbel
  have hq := hq1 N
  go_wp2
  go_ret2
  exact RetN.mk HK.out (by rw [HSP.out]; rfl)
 | _ =>
  obtain ⟨tp, p, hv⟩ := hN.esyn
  have HP := qH (Go.Proofs.Tryz.strconv_ParseInt_10_at64_syntax_var s hs hp tp p w hv)
  have HSP := qH (pQ (.inl hp))
  clear hN hv hp
  go_enter Tryz.func16, Tryz.ntmps16
  go_wp2_with fail
  refine HP.out.mono ?_
  rintro e w1 ⟨N, rfl, _, _, hbel⟩
  have hk := Kp.of_below hbel
  have HK := qH hk; clear hk hbel
  have hq := hq1 N
  go_wp2
  go_ret2
  exact RetN.mk HK.out (by rw [HSP.out]; rfl)
def Same (S : Nat -> Prop) (w0 w : World) : Prop := ∀ k, S k -> k < w0.heap.size /\ w.heap[k]? = w0.heap[k]?
section
variable {S S' : Nat -> Prop} {w0 w w' : World}
theorem Same.refl (h : ∀ k, S k -> k < w.heap.size) : Same S w w := fun k hk => ⟨h k hk, rfl⟩
theorem Same.trans (h : Same S w0 w) (h' : Same S w w') : Same S w0 w' := fun k hk => ⟨(h k hk).1, (h' k hk).2.trans (h k hk).2⟩
theorem Kp.same {F : Nat -> Prop} (h : Kp F w w') (hS : ∀ k, S k -> k < w.heap.size) (hd : ∀ k, S k -> ¬ F k) : Same S w w' := fun k hk => ⟨hS k hk, h.block k (hS k hk) (hd k hk)⟩
end
theorem Row.lt {w : World} {e : TypeId} {k : Nat} {v : Value} {n : Nat} {xs : List Value} {M : Nat -> Prop} (h : Row w e k v n xs M) : ∀ g, v.ownBlock = some g -> g < w.heap.size := by
 obtain ⟨_, ⟨rfl, _⟩ | ⟨g, cap, rest, rfl, _, hb, _⟩⟩ := h
 ·intro g hg; cases hg
 ·intro g' hg
  have e : g = g' := Option.some.inj hg
  rw [<- e]; exact hb.lt
theorem aK (w : World) (o : Obj) : (w.alloc o).heap.size = w.heap.size + 1 := by simp
def eD (b : Nat) (iv : Value) (k : Nat) : Prop := k = b \/ iv.ownBlock = some k
end
section
open Go.RowKit
attribute [local go_sem] Oper.semAt_some
def loZ (z : Int) : Nat := (z % 18446744073709551616).toNat
def hiZ (z : Int) : Nat := (z / 18446744073709551616 % 18446744073709551616).toNat
theorem gP (z : Int) : ((loZ z : Nat) : Int) = z % 18446744073709551616 := by unfold loZ; omega
theorem aCj (z : Int) : ((hiZ z : Nat) : Int) = z / 18446744073709551616 % 18446744073709551616 := by unfold hiZ; omega
def TotalAt (W : World) (b : Nat) (z : Int) : Prop := Blk W b [.int .u64 (loZ z : Nat), .int .u64 (hiZ z : Nat)] 98
theorem TotalAt.kp {W W' : World} {F : Nat -> Prop} {b : Nat} {z : Int} (h : TotalAt W b z) (hk : Kp F W W') (hF : ¬ F b) : TotalAt W' b z := Blk.kp h hk hF
theorem jS (w : World) : Calls Tryz.prog 9 #[] w (RetN w fun w' v => v = .pointer (some ⟨w.heap.size, 0, none⟩) /\ w'.heap.size = w.heap.size + 1 /\ TotalAt w' w.heap.size 0) := by
 go_enter Tryz.func9, Tryz.ntmps9
 go_wp2
 go_ret
 exact RetN.mk ((Kp.refl w).alloc _) ⟨rfl, by rw [aK], Blk.new w [.int .u64 0, .int .u64 0] _⟩
theorem aBh (n : Int) (w : World) : Calls Tryz.prog 11 #[.pointer none, .int .i64 n] w fun e w' => e = .returned (.tuple #[]) /\ Ext w w' := by
 go_enter Tryz.func11, Tryz.ntmps11
 go_wp2
 refine bodyPost_ret (results_none rfl _ _ _) rfl ?_
 exact ⟨rfl, Kp.refl w⟩
theorem vX (x y c : Nat) (hc : c ≤ 1) (w : World) : (callFunc 51 #[.int .u64 (x : Int), .int .u64 (y : Int), .int .u64 (c : Int)]).run Tryz.prog w = .ok (.value (.tuple #[.int .u64 (((x + y + c) % 18446744073709551616 : Nat) : Int), .int .u64 (((x + y + c) / 18446744073709551616 : Nat) : Int)])) w := Any7.bits_Add64 Tryz.lays25 x y c hc w
set_option maxHeartbeats 1000000 in
theorem mR (b : Nat) (z n : Int) (hn0 : -9223372036854775808 ≤ n) (hn1 : n ≤ 9223372036854775807) (w : World) (h : TotalAt w b z) : Calls Tryz.prog 11 #[.pointer (some ⟨b, 0, none⟩), .int .i64 n] w fun e w' => e = .returned (.tuple #[]) /\ Kp (fun k => k = b) w w' /\ TotalAt w' b (z + n) := by
 obtain ⟨x, ex⟩ : ∃ x, loZ z = x := ⟨_, rfl⟩
 obtain ⟨y, ey⟩ : ∃ x, hiZ z = x := ⟨_, rfl⟩
 obtain ⟨nu, enu⟩ : ∃ m : Nat, IntKind.u64.wrap n = (m : Int) /\ m = loZ n := ⟨loZ n, by rw [gP]; rfl, rfl⟩
 obtain ⟨sg, esg⟩ : ∃ m : Nat, IntKind.u64.wrap (n / 9223372036854775808) = (m : Int) /\ m = loZ (n / 9223372036854775808) := ⟨loZ (n / 9223372036854775808), by rw [gP]; rfl, rfl⟩
 obtain ⟨s1, es1⟩ : ∃ m, (x + nu + 0) % 18446744073709551616 = m := ⟨_, rfl⟩
 obtain ⟨c1, ec1⟩ : ∃ m, (x + nu + 0) / 18446744073709551616 = m := ⟨_, rfl⟩
 have hx : x < 18446744073709551616 := by have := gP z; omega
 have hnu : nu < 18446744073709551616 := by have := gP n; omega
 have hc1 : c1 ≤ 1 := by omega
 have ha1 : ∀ W, (callFunc 51 #[.int .u64 (x : Int), .int .u64 (nu : Int), .int .u64 0]).run Tryz.prog W = .ok (.value (.tuple #[.int .u64 (((x + nu + 0) % 18446744073709551616 : Nat) : Int), .int .u64 (((x + nu + 0) / 18446744073709551616 : Nat) : Int)])) W := fun W => vX x nu 0 (by omega) W
 have ha2 := fun W => vX y sg c1 hc1 W
 simp only [es1, ec1] at ha1
 obtain ⟨s2, es2⟩ : ∃ m, (y + sg + c1) % 18446744073709551616 = m := ⟨_, rfl⟩
 obtain ⟨c2, ec2⟩ : ∃ m, (y + sg + c1) / 18446744073709551616 = m := ⟨_, rfl⟩
 simp only [es2, ec2] at ha2
 have hb := h
 unfold TotalAt at hb
 rw [ex, ey] at hb
 have c0 : w.cell? ⟨b, 0, none⟩ = some (.int .u64 (x : Nat)) := by rw [hb.cell']; rfl
 have c1' : w.cell? ⟨b, 1, none⟩ = some (.int .u64 (y : Nat)) := by rw [hb.cell']; rfl
 have f0 := hb.free 0
 have f1 := hb.free 1
 have HF := qH (show s1 = loZ (z + n) /\ s2 = hiZ (z + n) from by
  have a1 := gP z; have a2 := aCj z; have a3 := gP n; have a4 := gP (n / 9223372036854775808)
  have b1 := gP (z + n); have b2 := aCj (z + n)
  have e1 := enu.2; have e2 := esg.2
  constructor <;> omega)
 have HB := qH hb
 have e1 := enu.1
 have e2 := esg.1
 clear h hb enu esg es1 ec1 es2 ec2 ex ey
 go_enter Tryz.func11, Tryz.ntmps11
 go_wp2
 go_end0
 have ks : Kp (fun k => k = b) w ((w.setCell ⟨b, 0, none⟩ (.int .u64 (s1 : Nat))).setCell ⟨b, 1, none⟩ (.int .u64 (s2 : Nat))) := Kp.setCell (F := fun k => k = b) (p := ⟨b, 1, none⟩) (Kp.setCell (F := fun k => k = b) (p := ⟨b, 0, none⟩) (Kp.refl w) (fun _ => rfl) _) (fun _ => rfl) _
 refine ⟨rfl, ks, ?_⟩
 have h2 := (HB.out.set 0 (.int .u64 (s1 : Nat))).set 1 (.int .u64 (s2 : Nat))
 unfold TotalAt
 rw [<- HF.out.1, <- HF.out.2]
 exact h2
theorem aBg (w : World) : Calls Tryz.prog 13 #[.pointer none] w (Ret (.tuple #[.int .i64 0, .bool false]) w) := by
 go_enter Tryz.func13, Tryz.ntmps13
 go_wp2
 go_ret2
 exact Ret.mk rfl
theorem aDm (a b c d : Int) (w : World) : (Op.equalIn 10000 96 (.agg #[.int .u64 a, .int .u64 b]) (.agg #[.int .u64 c, .int .u64 d])).run Tryz.prog w = .ok (a == c && b == d) w := by
 have u3 := Tryz.underlying95
 have a3 := Tryz.isAgg95
 have z3 := Tryz.sizeOf95
 rw [show (10000 : Nat) = 9999 + 1 from rfl, Op.equalIn]
 simp only [Sem.run_bind, run_underlying Tryz.underlying96, Result.andThen_ok]
 simp only [Std.Legacy.Range.forIn_eq_forIn_range', Std.Legacy.Range.size, Nat.sub_zero, Nat.add_sub_cancel, Nat.div_one, List.range'_succ, List.range'_zero, List.forIn_cons, List.forIn_nil]
 go_simp
 by_cases h1 : a = c <;> by_cases h2 : b = d <;> simp [h1, h2]
def qE (z : Int) : Int × Bool := if -9223372036854775808 ≤ z /\ z ≤ 9223372036854775807 then (z, true) else (0, false)
set_option maxHeartbeats 1000000 in
theorem mQ (b : Nat) (z : Int) (hz0 : -170141183460469231731687303715884105728 ≤ z) (hz1 : z < 170141183460469231731687303715884105728) (w : World) (h : TotalAt w b z) : Calls Tryz.prog 13 #[.pointer (some ⟨b, 0, none⟩)] w (Ret (.tuple #[.int .i64 (qE z).1, .bool (qE z).2]) w) := by
 have hb := h
 unfold TotalAt at hb
 obtain ⟨x, ex⟩ : ∃ x, loZ z = x := ⟨_, rfl⟩
 obtain ⟨y, ey⟩ : ∃ x, hiZ z = x := ⟨_, rfl⟩
 have a1 := gP z
 have a2 := aCj z
 rw [ex] at hb a1
 rw [ey] at hb a2
 have c0 : w.cell? ⟨b, 0, none⟩ = some (.int .u64 (x : Nat)) := by rw [hb.cell']; rfl
 have c1 : w.cell? ⟨b, 1, none⟩ = some (.int .u64 (y : Nat)) := by rw [hb.cell']; rfl
 obtain ⟨n, en⟩ : ∃ n : Int, IntKind.i64.wrap (x : Int) = n := ⟨_, rfl⟩
 obtain ⟨sg, esg⟩ : ∃ m : Nat, IntKind.u64.wrap (n / 9223372036854775808) = (m : Int) /\ m = loZ (n / 9223372036854775808) := ⟨loZ (n / 9223372036854775808), by rw [gP]; rfl, rfl⟩
 have hn : (x < 9223372036854775808 -> n = x) /\ (9223372036854775808 ≤ x -> n = (x : Int) - 18446744073709551616) := by
  rw [<- en, IntKind.wrap_i64]
  constructor <;> intro h1 <;> omega
 have e2 : IntKind.u64.wrap n = (x : Int) := by rw [IntKind.wrap_u64]; omega
 have e1 := esg.1
 have a4 := gP (n / 9223372036854775808)
 have e3 := esg.2
 by_cases hyx : y = sg
 ·have HF := qH (show qE z = (n, true) from by
   unfold qE
   rw [if_pos (by omega)]
   exact Prod.ext (by show z = n; omega) rfl)
  subst hyx
  have hq := aDm x y x y w
  simp only [BEq.rfl, Bool.and_self] at hq
  clear h hb esg hn a1 a2 a4 e3 ex ey
  go_enter Tryz.func13, Tryz.ntmps13
  go_wp2
  go_ret2
  exact Ret.mk (by rw [HF.out]; rfl)
 ·have HF := qH (show qE z = (0, false) from by
   unfold qE
   rw [if_neg (by omega)])
  have hq := aDm x y x sg w
  have hys : ((y : Int) == (sg : Int)) = false := by simp; omega
  simp only [hys, Bool.and_false] at hq
  clear h hb esg hn a1 a2 a4 e3 ex ey hys
  go_enter Tryz.func13, Tryz.ntmps13
  go_wp2
  go_ret2
  exact Ret.mk (by rw [HF.out]; rfl)
end
section
section
variable {P : Program} {ops : Array Oper} {Q : Exit -> Act -> World -> Prop} {md : Region.Mode} {S : World -> Prop} {lates : List Nat}
def dA (lates : List Nat) (listed : Array Bool) : Bool := lates.all fun d => !listed.getD d true
def bS (P : Program) (md : Region.Mode) (ops : Array Oper) (Q : Exit -> Act -> World -> Prop) (S : World -> Prop) (lates : List Nat) : Nat -> Array Bool -> Act -> World -> Prop
 | 0, listed, a, w => Region.ready md ops listed = [] /\ Q .normal a w
 | fuel + 1, listed, a, w => (Region.ready md ops listed = [] -> Q .normal a w) /\
  ∀ i ∈ Region.ready md ops listed, wpOp P ops Q i (fun a' w' => (dA lates (listed.setIfInBounds i true) = true -> S w') /\ bS P md ops Q S lates fuel (listed.setIfInBounds i true) a' w') a w
theorem mO : ∀ (fuel : Nat) (listed : Array Bool) (a : Act) (w : World), bS P md ops Q S lates fuel listed a w -> wpAny P md ops Q fuel listed a w
 | 0, _, _, _, h => h
 | fuel + 1, _, _, _, h => ⟨h.1, fun i hi => wpOp_mono (fun a' w' h' => mO fuel _ a' w' h'.2) (h.2 i hi)⟩
def aDf (md : Region.Mode) (ops : Array Oper) (i : Nat) : List Nat :=
 (List.range ops.size).foldl (fun D j => if j == i || (match ops[j]? with | some o => o.after.any (fun e => Region.binds md e && D.contains e.on) | none => false) then j :: D else D) []
def wB (md : Region.Mode) (ops : Array Oper) (listed : Array Bool) (lates : List Nat) (i : Nat) (D : List Nat) : Bool :=
 lates.all (fun d => D.contains d && d != i) && D.all fun d => !listed.getD d true && (d == i || match ops[d]? with | some o => o.after.any (fun e => Region.binds md e && D.contains e.on) | none => false)
theorem aBb {listed : Array Bool} {i : Nat} {D : List Nat} (h : wB md ops listed lates i D = true) :
 (∀ d ∈ lates, d ∈ D /\ d ≠ i) /\ (∀ d ∈ D, listed.getD d true = false) /\ ∀ d ∈ D, d ≠ i -> ∀ o, ops[d]? = some o -> ∃ e ∈ o.after, Region.binds md e = true /\ e.on ∈ D := by
 unfold wB at h
 rw [Bool.and_eq_true, List.all_eq_true, List.all_eq_true] at h
 refine ⟨fun d hd => ?_, fun d hd => ?_, fun d hd hne o ho => ?_⟩
 ·have := h.1 d hd
  simp only [Bool.and_eq_true, List.contains_iff_mem, bne_iff_ne, ne_eq] at this
  exact this
 ·have := h.2 d hd
  rw [Bool.and_eq_true] at this
  simpa using this.1
 ·have h1 := h.2 d hd
  rw [Bool.and_eq_true, Bool.or_eq_true, ho] at h1
  rcases h1.2 with h2 | h2
  ·exact absurd (by simpa using h2) hne
  ·obtain ⟨e, he, hb⟩ := Array.any_eq_true'.1 h2
   rw [Bool.and_eq_true, List.contains_iff_mem] at hb
   exact ⟨e, he, hb.1, hb.2⟩
theorem aEi {listed : Array Bool} {D : List Nat} (hl : ∀ d ∈ lates, d ∈ D) (h : ∀ d ∈ D, listed.getD d true = false) : dA lates listed = true := by
 unfold dA
 rw [List.all_eq_true]
 intro d hd
 rw [h d (hl d hd)]; rfl
theorem jR {listed : Array Bool} {i : Nat} (hi : i ∉ lates) : dA lates (listed.setIfInBounds i true) = dA lates listed := by
 unfold dA
 rw [Bool.eq_iff_iff, List.all_eq_true, List.all_eq_true]
 have h : ∀ d ∈ lates, (listed.setIfInBounds i true).getD d true = listed.getD d true := fun d hd => getD_set_ne true (fun e => hi (e ▸ hd))
 exact ⟨fun k d hd => by rw [<- h d hd]; exact k d hd, fun k d hd => by rw [h d hd]; exact k d hd⟩
theorem vZ {i : Nat} {oi : Oper} {v : Value} {D : List Nat} (hi : ops[i]? = some oi) (hsel : ∀ (j : Nat) (o : Oper) cs b, ops[j]? = some o -> o.op ≠ .select cs b)
 (hQ : ∀ c a w, Q (.panic c) (a.put oi.dst v) w -> Q (.panic c) a w) (hl : ∀ d ∈ lates, d ∈ D /\ d ≠ i) (hD : ∀ d ∈ D, d ≠ i -> ∀ o, ops[d]? = some o -> ∃ e ∈ o.after, Region.binds md e = true /\ e.on ∈ D) :
 ∀ (fuel : Nat) (listed : Array Bool) (a : Act) (w : World),
  (∀ j oj, ops[j]? = some oj -> j ≠ i -> listed.getD j true = false -> (∀ e ∈ oj.after, Region.binds md e = true -> e.on ≠ i) -> oi.apart ops oj = true) ->
  (∀ d ∈ D, listed.getD d true = false) ->
  i ∈ Region.ready md ops listed -> YieldsIf P ops S oi v a -> S w ->
  bS P md ops Q S lates fuel (listed.setIfInBounds i true) (a.put oi.dst v) w -> bS P md ops Q S lates (fuel + 1) listed a w := by
 have hil : i ∉ lates := fun h => (hl i h).2 rfl
 intro fuel
 induction fuel with
 | zero =>
  intro listed a w _ _ hr hy hS H
  refine ⟨fun h => (by rw [h] at hr; cases hr), fun j hj => ?_⟩
  by_cases hji : j = i
  ·subst hji; exact hy.wpOp hi hS ⟨fun _ => hS, H⟩
  ·have := ready_mono hj hji
   rw [H.1] at this
   cases this
 | succ fuel ih =>
  intro listed a w hfree hun0 hr hy hS H
  refine ⟨fun h => (by rw [h] at hr; cases hr), fun j hj => ?_⟩
  by_cases hji : j = i
  ·subst hji; exact hy.wpOp hi hS ⟨fun _ => hS, H⟩
  ·have h1 := H.2 j (ready_mono hj hji)
   obtain ⟨hjun, oj, hoj, hall⟩ := mem_ready.1 hj
   have hjD : j ∉ D := fun hjd => by
    obtain ⟨e, he, hb, heD⟩ := hD j hjd hji oj hoj
    have h2 := hall e he hb
    have h0 := hun0 e.on heD
    rcases Nat.lt_or_ge e.on listed.size with h' | h'
    ·simp [h'] at h0 h2; rw [h0] at h2; cases h2
    ·simp [Array.getElem?_eq_none h'] at h2
   have hnot : ∀ e ∈ oj.after, Region.binds md e = true -> e.on ≠ i := fun e he hb heq => by
    have h1 := hall e he hb
    have h0 := (mem_ready.1 hr).1
    rw [heq] at h1
    rcases Nat.lt_or_ge i listed.size with h' | h'
    ·simp [h'] at h0 h1; rw [h0] at h1; cases h1
    ·simp [Array.getElem?_eq_none h'] at h1
   have h2 := wpOp_putIf hoj (hfree j oj hoj hji hjun hnot) (fun cs b => hsel i oi cs b hi) (fun cs b => hsel j oj cs b hoj) hQ hy h1
   have hfree' : ∀ k ok, ops[k]? = some ok -> k ≠ i -> (listed.setIfInBounds j true).getD k true = false ->
    (∀ e ∈ ok.after, Region.binds md e = true -> e.on ≠ i) -> oi.apart ops ok = true := fun k ok hk hki hun hno => by
    refine hfree k ok hk hki ?_ hno
    by_cases hjk : j = k
    ·subst hjk; exact hjun
    ·rw [getD_set_ne true hjk] at hun; exact hun
   have hun' : ∀ d ∈ D, (listed.setIfInBounds j true).getD d true = false := fun d hd => by
    rw [getD_set_ne true (fun e : j = d => hjD (e.symm ▸ hd))]; exact hun0 d hd
   have hnl : dA lates (listed.setIfInBounds j true) = true := aEi (fun d hd => (hl d hd).1) hun'
   have hnl2 : dA lates ((listed.setIfInBounds i true).setIfInBounds j true) = true := by
    rw [Array.setIfInBounds_comm _ _ (Ne.symm hji), jR hil]; exact hnl
   refine wpOp_mono (fun a' w' h3 => ⟨fun _ => h3.2.1 hnl2, ih (listed.setIfInBounds j true) a' w' hfree' hun' (ready_mono hr (Ne.symm hji)) h3.1 (h3.2.1 hnl2) ?_⟩) h2
   rw [Array.setIfInBounds_comm _ _ hji]
   exact h3.2.2
theorem pK {i : Nat} {oi : Oper} {v : Value} (hi : ops[i]? = some oi) (hsel : ∀ (j : Nat) (o : Oper) cs b, ops[j]? = some o -> o.op ≠ .select cs b)
 (hQ : ∀ c a w, Q (.panic c) (a.put oi.dst v) w -> Q (.panic c) a w) (hil : i ∉ lates) :
 ∀ (fuel : Nat) (listed : Array Bool) (a : Act) (w : World),
  (∀ j oj, ops[j]? = some oj -> j ≠ i -> listed.getD j true = false -> (∀ e ∈ oj.after, Region.binds md e = true -> e.on ≠ i) -> oi.apart ops oj = true) ->
  i ∈ Region.ready md ops listed -> YieldsIf P ops (fun _ => True) oi v a -> (dA lates listed = true -> S w) ->
  bS P md ops Q S lates fuel (listed.setIfInBounds i true) (a.put oi.dst v) w -> bS P md ops Q S lates (fuel + 1) listed a w := by
 intro fuel
 induction fuel with
 | zero =>
  intro listed a w _ hr hy hS H
  refine ⟨fun h => (by rw [h] at hr; cases hr), fun j hj => ?_⟩
  by_cases hji : j = i
  ·subst hji; exact hy.wpOp hi trivial ⟨fun h => hS (by rw [jR hil] at h; exact h), H⟩
  ·have := ready_mono hj hji
   rw [H.1] at this
   cases this
 | succ fuel ih =>
  intro listed a w hfree hr hy hS H
  refine ⟨fun h => (by rw [h] at hr; cases hr), fun j hj => ?_⟩
  by_cases hji : j = i
  ·subst hji; exact hy.wpOp hi trivial ⟨fun h => hS (by rw [jR hil] at h; exact h), H⟩
  ·have h1 := H.2 j (ready_mono hj hji)
   obtain ⟨hjun, oj, hoj, hall⟩ := mem_ready.1 hj
   have hnot : ∀ e ∈ oj.after, Region.binds md e = true -> e.on ≠ i := fun e he hb heq => by
    have h1 := hall e he hb
    have h0 := (mem_ready.1 hr).1
    rw [heq] at h1
    rcases Nat.lt_or_ge i listed.size with h' | h'
    ·simp [h'] at h0 h1; rw [h0] at h1; cases h1
    ·simp [Array.getElem?_eq_none h'] at h1
   have h2 := wpOp_putIf hoj (hfree j oj hoj hji hjun hnot) (fun cs b => hsel i oi cs b hi) (fun cs b => hsel j oj cs b hoj) hQ hy h1
   have hfree' : ∀ k ok, ops[k]? = some ok -> k ≠ i -> (listed.setIfInBounds j true).getD k true = false ->
    (∀ e ∈ ok.after, Region.binds md e = true -> e.on ≠ i) -> oi.apart ops ok = true := fun k ok hk hki hun hno => by
    refine hfree k ok hk hki ?_ hno
    by_cases hjk : j = k
    ·subst hjk; exact hjun
    ·rw [getD_set_ne true hjk] at hun; exact hun
   have hcm : dA lates (listed.setIfInBounds j true) = true -> dA lates ((listed.setIfInBounds i true).setIfInBounds j true) = true := fun h => by
    rw [Array.setIfInBounds_comm _ _ (Ne.symm hji), jR hil]; exact h
   refine wpOp_mono (fun a' w' h3 => ⟨fun h => h3.2.1 (hcm h), ih (listed.setIfInBounds j true) a' w' hfree' (ready_mono hr (Ne.symm hji)) h3.1 (fun h => h3.2.1 (hcm h)) ?_⟩) h2
   rw [Array.setIfInBounds_comm _ _ hji]
   exact h3.2.2
theorem aI {listed : Array Bool} {a : Act} {w : World} (hr : Region.ready md ops listed = []) (h : Q .normal a w) : ∀ fuel, bS P md ops Q S lates fuel listed a w
 | 0 => ⟨hr, h⟩
 | _ + 1 => ⟨fun _ => h, by rw [hr]; simp⟩
theorem aO {id : Nat} {a : Act} {w : World} (S : World -> Prop) (lates : List Nat) (hm : P.follows .mixedOrders = true) (hS : S w.drew)
 (h : S w.drew -> bS P .any ops Q S lates ops.size (Array.replicate ops.size false) a w.drew) : (Code.region id ops true).wp P Q a w :=
 wp_region_any hm (mO _ _ _ _ (h hS))
end
section
variable {P : Program} {l : List Oper} {Q : Exit -> Act -> World -> Prop} {md : Region.Mode} {S : World -> Prop} {lates : List Nat} {fuel : Nat} {listed : Array Bool} {a : Act} {w : World}
theorem qW {p : Prop} {b : Bool} (h : b = false) : b = true -> p := fun e => by rw [h] at e; cases e
theorem and4 {a b c d : Bool} (h : (a && b && c && d) = true) : a = true /\ b = true /\ c = true /\ d = true := by
 cases a <;> cases b <;> cases c <;> cases d <;> simp_all
theorem opAt {i : Nat} {oi : Oper} (hi : l[i]? = some oi) : l.toArray[i]? = some oi := by rw [List.getElem?_toArray]; exact hi
theorem aIs {i : Nat} {oi : Oper} {v : Value} (hi : l[i]? = some oi) (hy : ∀ w, S w -> (execOp a.eval oi).run P w = .ok (.value v) w)
 (h : bS P md l.toArray Q S lates fuel (listed.setIfInBounds i true) (a.put oi.dst v) w)
 (side : (Region.noSelect l.toArray && Region.free md l.toArray listed i && (Region.ready md l.toArray listed).contains i && wB md l.toArray listed lates i (aDf md l.toArray i)) = true := by kernel_rfl)
 (hw : Region.wanted oi (yielded l.toArray a.tmps) = true := by rfl) (hQ : ∀ c a w, Q (.panic c) (a.put oi.dst v) w -> Q (.panic c) a w := by exact fun _ _ _ h => h) (hS : S w := by assumption) :
 bS P md l.toArray Q S lates (fuel + 1) listed a w :=
 let c := and4 side
 let z := aBb c.2.2.2
 vZ (opAt hi) (Region.noSelect_spec c.1) hQ z.1 z.2.2 fuel listed a w (Region.free_spec (opAt hi) c.2.1) z.2.1 (by simpa using c.2.2.1) (.inl ⟨hw, hy⟩) hS h
theorem aE5 {i : Nat} {oi : Oper} {v : Value} (hi : l[i]? = some oi) (hy : ∀ w, (execOp a.eval oi).run P w = .ok (.value v) w)
 (h : bS P md l.toArray Q S lates fuel (listed.setIfInBounds i true) (a.put oi.dst v) w)
 (side : (Region.noSelect l.toArray && Region.free md l.toArray listed i && (Region.ready md l.toArray listed).contains i && !lates.contains i) = true := by kernel_rfl)
 (hw : Region.wanted oi (yielded l.toArray a.tmps) = true := by rfl) (hQ : ∀ c a w, Q (.panic c) (a.put oi.dst v) w -> Q (.panic c) a w := by exact fun _ _ _ h => h) (hS : dA lates listed = true -> S w := by first | exact fun _ => by assumption | exact qW (by kernel_rfl)) :
 bS P md l.toArray Q S lates (fuel + 1) listed a w :=
 let c := and4 side
 pK (opAt hi) (Region.noSelect_spec c.1) hQ (by simpa using c.2.2.2) fuel listed a w (Region.free_spec (opAt hi) c.2.1) (by simpa using c.2.2.1) (.inl ⟨hw, fun w _ => hy w⟩) hS h
theorem aHl {i : Nat} {oi : Oper} (hi : l[i]? = some oi) (h : bS P md l.toArray Q S lates fuel (listed.setIfInBounds i true) (a.put oi.dst undef) w)
 (side : (Region.noSelect l.toArray && Region.free md l.toArray listed i && (Region.ready md l.toArray listed).contains i && !lates.contains i) = true := by kernel_rfl)
 (hw : Region.wanted oi (yielded l.toArray a.tmps) = false := by rfl) (hQ : ∀ c a w, Q (.panic c) (a.put oi.dst undef) w -> Q (.panic c) a w := by exact fun _ _ _ h => h) (hS : dA lates listed = true -> S w := by first | exact fun _ => by assumption | exact qW (by kernel_rfl)) :
 bS P md l.toArray Q S lates (fuel + 1) listed a w :=
 let c := and4 side
 pK (opAt hi) (Region.noSelect_spec c.1) hQ (by simpa using c.2.2.2) fuel listed a w (Region.free_spec (opAt hi) c.2.1) (by simpa using c.2.2.1) (.inr ⟨hw, rfl⟩) hS h
theorem dF (i : Nat) {oi : Oper} {v : Value} (h : bS P md l.toArray Q S lates fuel (listed.setIfInBounds i true) (a.put oi.dst v) w) (hi : l[i]? = some oi := by rfl)
 (hy : ∀ w, (execOp a.eval oi).run P w = .ok (.value v) w := by (intro w; go_simp; try with_reducible rfl))
 (side : (Region.noSelect l.toArray && Region.free md l.toArray listed i && (Region.ready md l.toArray listed).contains i && !lates.contains i) = true := by kernel_rfl)
 (hw : Region.wanted oi (yielded l.toArray a.tmps) = true := by rfl) (hQ : ∀ c a w, Q (.panic c) (a.put oi.dst v) w -> Q (.panic c) a w := by exact fun _ _ _ h => h) (hS : dA lates listed = true -> S w := by first | exact fun _ => by assumption | exact qW (by kernel_rfl)) :
 bS P md l.toArray Q S lates (fuel + 1) listed a w := aE5 hi hy h side hw hQ hS
theorem dI (i : Nat) {oi : Oper} {v : Value} (h : bS P md l.toArray Q S lates fuel (listed.setIfInBounds i true) (a.put oi.dst v) w) (hi : l[i]? = some oi := by rfl)
 (hy : ∀ w, S w -> (execOp a.eval oi).run P w = .ok (.value v) w := by (intro w hSw; (try dsimp only at hSw); go_simp; try with_reducible rfl))
 (side : (Region.noSelect l.toArray && Region.free md l.toArray listed i && (Region.ready md l.toArray listed).contains i && wB md l.toArray listed lates i (aDf md l.toArray i)) = true := by kernel_rfl)
 (hw : Region.wanted oi (yielded l.toArray a.tmps) = true := by rfl) (hQ : ∀ c a w, Q (.panic c) (a.put oi.dst v) w -> Q (.panic c) a w := by exact fun _ _ _ h => h) (hS : S w := by assumption) :
 bS P md l.toArray Q S lates (fuel + 1) listed a w := aIs hi hy h side hw hQ hS
theorem dO (i : Nat) {oi : Oper} (h : bS P md l.toArray Q S lates fuel (listed.setIfInBounds i true) (a.put oi.dst undef) w) (hi : l[i]? = some oi := by rfl)
 (side : (Region.noSelect l.toArray && Region.free md l.toArray listed i && (Region.ready md l.toArray listed).contains i && !lates.contains i) = true := by kernel_rfl)
 (hw : Region.wanted oi (yielded l.toArray a.tmps) = false := by rfl) (hQ : ∀ c a w, Q (.panic c) (a.put oi.dst undef) w -> Q (.panic c) a w := by exact fun _ _ _ h => h) (hS : dA lates listed = true -> S w := by first | exact fun _ => by assumption | exact qW (by kernel_rfl)) :
 bS P md l.toArray Q S lates (fuel + 1) listed a w := aHl hi h side hw hQ hS
def Comes (P : Program) (md : Region.Mode) (l : List Oper) (Q : Exit -> Act -> World -> Prop) (S : World -> Prop) (lates : List Nat) (fuel : Nat) (listed : Array Bool) (a : Act) (w : World) (i : Nat) : Prop :=
 wpOp P l.toArray Q i (fun a' w' => (dA lates (listed.setIfInBounds i true) = true -> S w') /\ bS P md l.toArray Q S lates fuel (listed.setIfInBounds i true) a' w') a w
theorem aG {i : Nat} {o : Oper} (ho : l[i]? = some o)
 (h : ∀ K' : Act -> World -> Prop, Shut (∀ a w, S w -> (S w -> bS P md l.toArray Q S lates fuel (listed.setIfInBounds i true) a w) -> K' a w) -> if Region.wanted o (yielded l.toArray a.tmps) = true then Oper.wp P o a w K' Q else K' (a.put o.dst undef) w) : Comes P md l Q S lates fuel listed a w i :=
 wpOp_step (opAt ho) fun K' hK => h K' fun a w hS hW => hK a w ⟨fun _ => hS, hW hS⟩
theorem aJ {i : Nat} {o : Oper} (ho : l[i]? = some o) (hi : dA lates (listed.setIfInBounds i true) = false)
 (h : ∀ K' : Act -> World -> Prop, Shut (∀ a w, bS P md l.toArray Q S lates fuel (listed.setIfInBounds i true) a w -> K' a w) -> if Region.wanted o (yielded l.toArray a.tmps) = true then Oper.wp P o a w K' Q else K' (a.put o.dst undef) w) : Comes P md l Q S lates fuel listed a w i :=
 wpOp_step (opAt ho) fun K' hK => h K' fun a w hW => hK a w ⟨fun hn => absurd (hn.symm.trans hi) Bool.noConfusion, hW⟩
theorem aE {i : Nat} (h : Comes P md l Q S lates fuel listed a w i) (hr : Region.ready md l.toArray listed = [i] := by kernel_rfl) : bS P md l.toArray Q S lates (fuel + 1) listed a w :=
 ⟨fun h0 => absurd (hr ▸ h0) (by simp), fun j hj => by rw [hr] at hj; simp at hj; subst hj; exact h⟩
theorem tD {i k : Nat} (h : Comes P md l Q S lates fuel listed a w i) (h' : Comes P md l Q S lates fuel listed a w k) (hr : Region.ready md l.toArray listed = [i, k] := by kernel_rfl) : bS P md l.toArray Q S lates (fuel + 1) listed a w :=
 ⟨fun h0 => absurd (hr ▸ h0) (by simp), fun j hj => by
  rw [hr] at hj; simp at hj
  rcases hj with rfl | rfl
  ·exact h
  ·exact h'⟩
theorem aAk {o : Oper} {K : Act -> World -> Prop} {E : Prop} (hgd : o.guard = none) (s x : Operand) {t1 t2 : TypeId}
 (ho : o.op = .call { callee := .builtin .append, args := #[s, x], argTypes := #[t1, t2] }) {v u v' : Value} {w' : World} (hs : a.eval s = v) (hx : a.eval x = u)
 (hr : (Builtin.append_ #[t1, t2] o.type #[v, u]).run P w = .ok v' w') (h : K (a.put o.dst v') w') :
 if Region.wanted o (yielded l.toArray a.tmps) = true then Oper.wp P o a w K Q else E := by
 have hw : Region.wanted o (yielded l.toArray a.tmps) = true := by simp [Region.wanted, hgd]
 rw [if_pos hw]
 unfold Oper.wp execOp
 simp only [ho, resolve, invoke, builtin, Sem.run_bind, Sem.run_pure, Result.andThen_ok, List.map_toArray, List.map_cons, List.map_nil, hs, hx, hr]
 exact h
end
end
section
open Go.RowKit
attribute [local go_sem] Oper.semAt_some
def RefTot (W : World) (b P N : Nat) : Prop := Blk W b [.int .u64 ((P / 18446744073709551616 : Nat) : Int), .int .u64 ((P % 18446744073709551616 : Nat) : Int), .int .u64 ((N / 18446744073709551616 : Nat) : Int), .int .u64 ((N % 18446744073709551616 : Nat) : Int)] 100
theorem RefTot.kp {W W' : World} {F : Nat -> Prop} {b P N : Nat} (h : RefTot W b P N) (hk : Kp F W W') (hF : ¬ F b) : RefTot W' b P N := Blk.kp h hk hF
theorem kE (w : World) : Calls Tryz.prog 10 #[] w (RetN w fun w' v => v = .pointer (some ⟨w.heap.size, 0, none⟩) /\ w'.heap.size = w.heap.size + 1 /\ RefTot w' w.heap.size 0 0) := by
 go_enter Tryz.func10, Tryz.ntmps10
 go_wp2
 go_ret
 exact RetN.mk ((Kp.refl w).alloc _) ⟨rfl, by rw [aK], Blk.new w [.int .u64 0, .int .u64 0, .int .u64 0, .int .u64 0] _⟩
theorem aBp (n : Int) (w : World) : Calls Tryz.prog 12 #[.pointer none, .int .i64 n] w fun e w' => e = .returned (.tuple #[]) /\ Ext w w' := by
 go_enter Tryz.func12, Tryz.ntmps12
 go_wp2
 refine bodyPost_ret (results_none rfl _ _ _) rfl ?_
 exact ⟨rfl, Kp.refl w⟩
set_option maxHeartbeats 1000000 in
theorem rO (b P N : Nat) (n : Int) (hn0 : -9223372036854775808 ≤ n) (hn1 : n ≤ 9223372036854775807) (hP : P < 1267650600228229401496703205376) (hN : N < 1267650600228229401496703205376) (w : World) (h : RefTot w b P N) : Calls Tryz.prog 12 #[.pointer (some ⟨b, 0, none⟩), .int .i64 n] w fun e w' => e = .returned (.tuple #[]) /\ Kp (fun k => k = b) w w' /\ RefTot w' b (P + n.toNat) (N + (-n).toNat) := by
 have hb := h
 unfold RefTot at hb
 obtain ⟨ph, eph⟩ : ∃ x, P / 18446744073709551616 = x := ⟨_, rfl⟩
 obtain ⟨pl, epl⟩ : ∃ x, P % 18446744073709551616 = x := ⟨_, rfl⟩
 obtain ⟨nh, enh⟩ : ∃ x, N / 18446744073709551616 = x := ⟨_, rfl⟩
 obtain ⟨nl, enl⟩ : ∃ x, N % 18446744073709551616 = x := ⟨_, rfl⟩
 rw [eph, epl, enh, enl] at hb
 have c0 : w.cell? ⟨b, 0, none⟩ = some (.int .u64 (ph : Nat)) := by rw [hb.cell']; rfl
 have c1 : w.cell? ⟨b, 1, none⟩ = some (.int .u64 (pl : Nat)) := by rw [hb.cell']; rfl
 have c2 : w.cell? ⟨b, 2, none⟩ = some (.int .u64 (nh : Nat)) := by rw [hb.cell']; rfl
 have c3 : w.cell? ⟨b, 3, none⟩ = some (.int .u64 (nl : Nat)) := by rw [hb.cell']; rfl
 have f0 := hb.free 0
 have f1 := hb.free 1
 have f2 := hb.free 2
 have f3 := hb.free 3
 have HB := qH hb
 clear h hb
 by_cases hneg : n < 0
 ·obtain ⟨mm, emm⟩ : ∃ m : Nat, (-n).toNat = m := ⟨_, rfl⟩
  obtain ⟨un, eun⟩ : ∃ m : Int, IntKind.u64.wrap n = m := ⟨_, rfl⟩
  have e1 : IntKind.u64.wrap (-un) = (mm : Int) := by rw [IntKind.wrap_u64] at eun ⊢; omega
  obtain ⟨s3, es3⟩ : ∃ m : Nat, (nl + mm) % 18446744073709551616 = m := ⟨_, rfl⟩
  have e2 : IntKind.u64.wrap ((nl : Int) + mm) = (s3 : Int) := by rw [IntKind.wrap_u64]; omega
  by_cases hcy : s3 < mm
  ·have i1 : (s3 : Int) < (mm : Int) := by omega
   have e3 : IntKind.u64.wrap ((nh : Int) + 1) = ((nh + 1 : Nat) : Int) := by rw [IntKind.wrap_u64]; omega
   have HF := qH (show (P + n.toNat) / 18446744073709551616 = ph /\ (P + n.toNat) % 18446744073709551616 = pl /\ (N + mm) / 18446744073709551616 = nh + 1 /\ (N + mm) % 18446744073709551616 = s3 from by
    have : n.toNat = 0 := by omega
    refine ⟨?_, ?_, ?_, ?_⟩ <;> omega)
   have HM := qH emm
   clear emm eph epl enh enl es3 hcy hP hN
   go_enter Tryz.func12, Tryz.ntmps12
   go_wp2
   refine bodyPost_ret (results_none rfl _ _ _) rfl ?_
   have ks : Kp (fun k => k = b) w ((w.setCell ⟨b, 3, none⟩ (.int .u64 (s3 : Nat))).setCell ⟨b, 2, none⟩ (.int .u64 ((nh : Int) + 1))) := Kp.setCell (F := fun k => k = b) (p := ⟨b, 2, none⟩) (Kp.setCell (F := fun k => k = b) (p := ⟨b, 3, none⟩) (Kp.refl w) (fun _ => rfl) _) (fun _ => rfl) _
   refine ⟨rfl, ks, ?_⟩
   unfold RefTot
   rw [HM.out, HF.out.1, HF.out.2.1, HF.out.2.2.1, HF.out.2.2.2]
   exact ((HB.out.set 3 (.int .u64 (s3 : Nat))).set 2 (.int .u64 ((nh : Int) + 1)))
  ·have i1 : ¬ (s3 : Int) < (mm : Int) := by omega
   have HF := qH (show (P + n.toNat) / 18446744073709551616 = ph /\ (P + n.toNat) % 18446744073709551616 = pl /\ (N + mm) / 18446744073709551616 = nh /\ (N + mm) % 18446744073709551616 = s3 from by
    have : n.toNat = 0 := by omega
    refine ⟨?_, ?_, ?_, ?_⟩ <;> omega)
   have HM := qH emm
   clear emm eph epl enh enl es3 hcy hP hN
   go_enter Tryz.func12, Tryz.ntmps12
   go_wp2
   refine bodyPost_ret (results_none rfl _ _ _) rfl ?_
   have ks : Kp (fun k => k = b) w (w.setCell ⟨b, 3, none⟩ (.int .u64 (s3 : Nat))) := Kp.setCell (F := fun k => k = b) (p := ⟨b, 3, none⟩) (Kp.refl w) (fun _ => rfl) _
   refine ⟨rfl, ks, ?_⟩
   unfold RefTot
   rw [HM.out, HF.out.1, HF.out.2.1, HF.out.2.2.1, HF.out.2.2.2]
   exact (HB.out.set 3 (.int .u64 (s3 : Nat)))
 ·obtain ⟨mm, emm⟩ : ∃ m : Nat, n.toNat = m := ⟨_, rfl⟩
  have e1 : IntKind.u64.wrap n = (mm : Int) := by rw [IntKind.wrap_u64]; omega
  obtain ⟨s1, es1⟩ : ∃ m : Nat, (pl + mm) % 18446744073709551616 = m := ⟨_, rfl⟩
  have e2 : IntKind.u64.wrap ((pl : Int) + mm) = (s1 : Int) := by rw [IntKind.wrap_u64]; omega
  by_cases hcy : s1 < mm
  ·have i1 : (s1 : Int) < (mm : Int) := by omega
   have e3 : IntKind.u64.wrap ((ph : Int) + 1) = ((ph + 1 : Nat) : Int) := by rw [IntKind.wrap_u64]; omega
   have HF := qH (show (P + mm) / 18446744073709551616 = ph + 1 /\ (P + mm) % 18446744073709551616 = s1 /\ (N + (-n).toNat) / 18446744073709551616 = nh /\ (N + (-n).toNat) % 18446744073709551616 = nl from by
    have : (-n).toNat = 0 := by omega
    refine ⟨?_, ?_, ?_, ?_⟩ <;> omega)
   have HM := qH emm
   clear emm eph epl enh enl es1 hcy hP hN
   go_enter Tryz.func12, Tryz.ntmps12
   go_wp2
   go_end0
   have ks : Kp (fun k => k = b) w ((w.setCell ⟨b, 1, none⟩ (.int .u64 (s1 : Nat))).setCell ⟨b, 0, none⟩ (.int .u64 ((ph : Int) + 1))) := Kp.setCell (F := fun k => k = b) (p := ⟨b, 0, none⟩) (Kp.setCell (F := fun k => k = b) (p := ⟨b, 1, none⟩) (Kp.refl w) (fun _ => rfl) _) (fun _ => rfl) _
   refine ⟨rfl, ks, ?_⟩
   unfold RefTot
   rw [HM.out, HF.out.1, HF.out.2.1, HF.out.2.2.1, HF.out.2.2.2]
   exact ((HB.out.set 1 (.int .u64 (s1 : Nat))).set 0 (.int .u64 ((ph : Int) + 1)))
  ·have i1 : ¬ (s1 : Int) < (mm : Int) := by omega
   have HF := qH (show (P + mm) / 18446744073709551616 = ph /\ (P + mm) % 18446744073709551616 = s1 /\ (N + (-n).toNat) / 18446744073709551616 = nh /\ (N + (-n).toNat) % 18446744073709551616 = nl from by
    have : (-n).toNat = 0 := by omega
    refine ⟨?_, ?_, ?_, ?_⟩ <;> omega)
   have HM := qH emm
   clear emm eph epl enh enl es1 hcy hP hN
   go_enter Tryz.func12, Tryz.ntmps12
   go_wp2
   go_end0
   have ks : Kp (fun k => k = b) w (w.setCell ⟨b, 1, none⟩ (.int .u64 (s1 : Nat))) := Kp.setCell (F := fun k => k = b) (p := ⟨b, 1, none⟩) (Kp.refl w) (fun _ => rfl) _
   refine ⟨rfl, ks, ?_⟩
   unfold RefTot
   rw [HM.out, HF.out.1, HF.out.2.1, HF.out.2.2.1, HF.out.2.2.2]
   exact (HB.out.set 1 (.int .u64 (s1 : Nat)))
theorem aBo (w : World) : Calls Tryz.prog 14 #[.pointer none] w (Ret (.tuple #[.int .i64 0, .bool false]) w) := by
 go_enter Tryz.func14, Tryz.ntmps14
 go_wp2
 go_ret2
 exact Ret.mk rfl
theorem nM (a b : Nat) (hab : b ≤ a) (ha : a < 340282366920938463463374607431768211456) (w : World) : Calls Tryz.prog 52 #[.int .u64 ((a / 18446744073709551616 : Nat) : Int), .int .u64 ((a % 18446744073709551616 : Nat) : Int), .int .u64 ((b / 18446744073709551616 : Nat) : Int), .int .u64 ((b % 18446744073709551616 : Nat) : Int)] w (Ret (.tuple #[.int .u64 (((a - b) / 18446744073709551616 : Nat) : Int), .int .u64 (((a - b) % 18446744073709551616 : Nat) : Int)]) w) := by
 obtain ⟨ah, eah⟩ : ∃ x, a / 18446744073709551616 = x := ⟨_, rfl⟩
 obtain ⟨al, eal⟩ : ∃ x, a % 18446744073709551616 = x := ⟨_, rfl⟩
 obtain ⟨bh, ebh⟩ : ∃ x, b / 18446744073709551616 = x := ⟨_, rfl⟩
 obtain ⟨bl, ebl⟩ : ∃ x, b % 18446744073709551616 = x := ⟨_, rfl⟩
 obtain ⟨dh, edh⟩ : ∃ x, (a - b) / 18446744073709551616 = x := ⟨_, rfl⟩
 obtain ⟨dl, edl⟩ : ∃ x, (a - b) % 18446744073709551616 = x := ⟨_, rfl⟩
 rw [eah, eal, ebh, ebl, edh, edl]
 by_cases hlt : al < bl
 ·have i1 : (al : Int) < (bl : Int) := by omega
  have e1 : IntKind.u64.wrap ((ah : Int) - bh) = ((ah - bh : Nat) : Int) := by rw [IntKind.wrap_u64]; omega
  have e2 : IntKind.u64.wrap (((ah - bh : Nat) : Int) - 1) = (dh : Int) := by rw [IntKind.wrap_u64]; omega
  have e3 : IntKind.u64.wrap ((al : Int) - bl) = (dl : Int) := by rw [IntKind.wrap_u64]; omega
  clear hlt eah eal ebh ebl edh edl hab ha
  go_enter Tryz.func52, Tryz.ntmps52
  go_wp2
  go_ret2
  exact Ret.mk rfl
 ·have i1 : ¬ (al : Int) < (bl : Int) := by omega
  have e1 : IntKind.u64.wrap ((ah : Int) - bh) = (dh : Int) := by rw [IntKind.wrap_u64]; omega
  have e3 : IntKind.u64.wrap ((al : Int) - bl) = (dl : Int) := by rw [IntKind.wrap_u64]; omega
  clear hlt eah eal ebh ebl edh edl hab ha
  go_enter Tryz.func52, Tryz.ntmps52
  go_wp2
  go_ret2
  exact Ret.mk rfl
set_option maxHeartbeats 4000000 in
theorem rN (b P N : Nat) (hP : P < 1267650600228229401496703205376) (hN : N < 1267650600228229401496703205376) (w : World) (h : RefTot w b P N) : Calls Tryz.prog 14 #[.pointer (some ⟨b, 0, none⟩)] w (RetN w fun w' v => v = .tuple #[.int .i64 (qE ((P : Int) - N)).1, .bool (qE ((P : Int) - N)).2]) := by
 have hb := h
 unfold RefTot at hb
 obtain ⟨Z, eZ⟩ : ∃ x, qE ((P : Int) - N) = x := ⟨_, rfl⟩
 have hZ : (-9223372036854775808 ≤ (P : Int) - N /\ (P : Int) - N ≤ 9223372036854775807 -> Z = ((P : Int) - N, true)) /\ (¬ (-9223372036854775808 ≤ (P : Int) - N /\ (P : Int) - N ≤ 9223372036854775807) -> Z = (0, false)) := by
  rw [<- eZ]
  exact ⟨fun h => if_pos h, fun h => if_neg h⟩
 rw [eZ]
 obtain ⟨ph, eph⟩ : ∃ x, P / 18446744073709551616 = x := ⟨_, rfl⟩
 obtain ⟨pl, epl⟩ : ∃ x, P % 18446744073709551616 = x := ⟨_, rfl⟩
 obtain ⟨nh, enh⟩ : ∃ x, N / 18446744073709551616 = x := ⟨_, rfl⟩
 obtain ⟨nl, enl⟩ : ∃ x, N % 18446744073709551616 = x := ⟨_, rfl⟩
 rw [eph, epl, enh, enl] at hb
 have HJ := qH (show ∀ w', Ext w w' -> (fun w' : World => w'.cell? ⟨b, 0, none⟩ = some (.int .u64 (ph : Nat)) /\ w'.cell? ⟨b, 1, none⟩ = some (.int .u64 (pl : Nat)) /\ w'.cell? ⟨b, 2, none⟩ = some (.int .u64 (nh : Nat)) /\ w'.cell? ⟨b, 3, none⟩ = some (.int .u64 (nl : Nat))) w' from fun w' hw => ⟨by rw [(hb.ext hw).cell']; rfl, by rw [(hb.ext hw).cell']; rfl, by rw [(hb.ext hw).cell']; rfl, by rw [(hb.ext hw).cell']; rfl⟩)
 clear h hb eZ
 by_cases hge : N ≤ P
 ·have HMn := qH (fun W => nM P N hge (by omega) W)
  rw [eph, epl, enh, enl] at HMn
  obtain ⟨dh, edh⟩ : ∃ x, (P - N) / 18446744073709551616 = x := ⟨_, rfl⟩
  obtain ⟨dl, edl⟩ : ∃ x, (P - N) % 18446744073709551616 = x := ⟨_, rfl⟩
  rw [edh, edl] at HMn
  have HE := qH (show ((0 : Int) < (dh : Int) /\ Z = (0, false)) \/ (¬ (0 : Int) < (dh : Int) /\ (9223372036854775807 : Int) < (dl : Int) /\ Z = (0, false)) \/ (¬ (0 : Int) < (dh : Int) /\ ¬ (9223372036854775807 : Int) < (dl : Int) /\ Z = ((dl : Int), true) /\ IntKind.i64.wrap (dl : Int) = (dl : Int)) from by
   by_cases j1 : (0 : Int) < (dh : Int)
   ·exact .inl ⟨j1, hZ.2 (by omega)⟩
   ·by_cases j2 : (9223372036854775807 : Int) < (dl : Int)
    ·exact .inr (.inl ⟨j1, j2, hZ.2 (by omega)⟩)
    ·exact .inr (.inr ⟨j1, j2, by rw [hZ.1 (by omega)]; exact Prod.ext (by show (P : Int) - N = dl; omega) rfl, IntWalk.i64_in _ (by omega)⟩))
  have hA : (nh : Int) < (ph : Int) \/ (¬ (nh : Int) < (ph : Int) /\ ((ph : Int) == (nh : Int)) = true /\ (nl : Int) ≤ (pl : Int)) := by
   by_cases h1 : nh < ph
   ·exact .inl (by omega)
   ·exact .inr ⟨by omega, by simp; omega, by omega⟩
  clear eph epl enh enl hP hN hge edh edl hZ
  rcases hA with i1 | ⟨i1, i2, i3⟩
  ·go_enter Tryz.func14, Tryz.ntmps14
   go_wp2
   refine aO (fun w' : World => w'.cell? ⟨b, 0, none⟩ = some (.int .u64 (ph : Nat)) /\ w'.cell? ⟨b, 1, none⟩ = some (.int .u64 (pl : Nat)) /\ w'.cell? ⟨b, 2, none⟩ = some (.int .u64 (nh : Nat)) /\ w'.cell? ⟨b, 3, none⟩ = some (.int .u64 (nl : Nat))) [] (by kernel_rfl) (HJ.out _ (Kp.refl w).drew) (fun hHeld => ?_)
   refine dF 0 ?_; try simp only [Act.put,sI,sZ,sS]
   refine dF 1 ?_; try simp only [Act.put,sI,sZ,sS]
   refine dF 2 ?_; try simp only [Act.put,sI,sZ,sS]
   refine dI 3 ?_; try simp only [Act.put,sI,sZ,sS]
   refine dF 4 ?_; try simp only [Act.put,sI,sZ,sS]
   refine dF 5 ?_; try simp only [Act.put,sI,sZ,sS]
   refine dF 6 ?_; try simp only [Act.put,sI,sZ,sS]
   refine dI 7 ?_; try simp only [Act.put,sI,sZ,sS]
   refine dF 8 ?_; try simp only [Act.put,sI,sZ,sS]
   refine dF 9 ?_; try simp only [Act.put,sI,sZ,sS]
   (first | (refine dF 10 ?_) | (refine dO 10 ?_)); (try simp only [Act.put,sI,sZ,sS])
   (first | (refine dF 11 ?_) | (refine dO 11 ?_)); (try simp only [Act.put,sI,sZ,sS])
   (first | (refine dF 12 ?_) | (refine dO 12 ?_)); (try simp only [Act.put,sI,sZ,sS])
   (first | (refine dI 13 ?_) | (refine dO 13 ?_)); (try simp only [Act.put,sI,sZ,sS])
   (first | (refine dF 14 ?_) | (refine dO 14 ?_)); (try simp only [Act.put,sI,sZ,sS])
   (first | (refine dF 15 ?_) | (refine dO 15 ?_)); (try simp only [Act.put,sI,sZ,sS])
   (first | (refine dF 16 ?_) | (refine dO 16 ?_)); (try simp only [Act.put,sI,sZ,sS])
   (first | (refine dI 17 ?_) | (refine dO 17 ?_)); (try simp only [Act.put,sI,sZ,sS])
   (first | (refine dF 18 ?_) | (refine dO 18 ?_)); (try simp only [Act.put,sI,sZ,sS])
   (first | (refine dF 19 ?_) | (refine dO 19 ?_)); (try simp only [Act.put,sI,sZ,sS])
   (first | (refine dF 20 ?_) | (refine dO 20 ?_)); (try simp only [Act.put,sI,sZ,sS])
   (first | (refine dF 21 ?_) | (refine dO 21 ?_)); (try simp only [Act.put,sI,sZ,sS])
   (first | (refine dF 22 ?_) | (refine dO 22 ?_)); (try simp only [Act.put,sI,sZ,sS])
   (first | (refine dI 23 ?_) | (refine dO 23 ?_)); (try simp only [Act.put,sI,sZ,sS])
   (first | (refine dF 24 ?_) | (refine dO 24 ?_)); (try simp only [Act.put,sI,sZ,sS])
   (first | (refine dF 25 ?_) | (refine dO 25 ?_)); (try simp only [Act.put,sI,sZ,sS])
   (first | (refine dF 26 ?_) | (refine dO 26 ?_)); (try simp only [Act.put,sI,sZ,sS])
   (first | (refine dI 27 ?_) | (refine dO 27 ?_)); (try simp only [Act.put,sI,sZ,sS])
   (first | (refine dF 28 ?_) | (refine dO 28 ?_)); (try simp only [Act.put,sI,sZ,sS])
   (first | (refine dF 29 ?_) | (refine dO 29 ?_)); (try simp only [Act.put,sI,sZ,sS])
   refine dF 30 ?_; try simp only [Act.put,sI,sZ,sS]
   refine aI (by kernel_rfl) ?_ _
   clear hHeld
   go_wp2
   refine aO (fun w' : World => w'.cell? ⟨b, 0, none⟩ = some (.int .u64 (ph : Nat)) /\ w'.cell? ⟨b, 1, none⟩ = some (.int .u64 (pl : Nat)) /\ w'.cell? ⟨b, 2, none⟩ = some (.int .u64 (nh : Nat)) /\ w'.cell? ⟨b, 3, none⟩ = some (.int .u64 (nl : Nat))) [] (by kernel_rfl) (HJ.out _ (Kp.refl w).drew.drew) (fun hHeld => ?_)
   refine dF 0 ?_; try simp only [Act.put,sI,sZ,sS]
   refine dF 1 ?_; try simp only [Act.put,sI,sZ,sS]
   refine dF 2 ?_; try simp only [Act.put,sI,sZ,sS]
   refine dI 3 ?_; try simp only [Act.put,sI,sZ,sS]
   refine dF 4 ?_; try simp only [Act.put,sI,sZ,sS]
   refine dF 5 ?_; try simp only [Act.put,sI,sZ,sS]
   refine dF 6 ?_; try simp only [Act.put,sI,sZ,sS]
   refine dI 7 ?_; try simp only [Act.put,sI,sZ,sS]
   refine dF 8 ?_; try simp only [Act.put,sI,sZ,sS]
   refine dF 9 ?_; try simp only [Act.put,sI,sZ,sS]
   refine dF 10 ?_; try simp only [Act.put,sI,sZ,sS]
   refine dI 11 ?_; try simp only [Act.put,sI,sZ,sS]
   refine dF 12 ?_; try simp only [Act.put,sI,sZ,sS]
   refine dF 13 ?_; try simp only [Act.put,sI,sZ,sS]
   refine dF 14 ?_; try simp only [Act.put,sI,sZ,sS]
   refine dI 15 ?_; try simp only [Act.put,sI,sZ,sS]
   refine aE (i := 16) ?_
   refine aG (i := 16) rfl (fun K hK => ?_)
   go_simp
   (refine (HMn.out _).mono ?_; rintro e w5 ⟨rfl, rfl⟩)
   go_wp2_with fail
   refine hK.out _ _ ?_ (fun hHeld => ?_)
   ·(try dsimp only); (exact HJ.out _ (Kp.refl w).drew.drew)
   clear hK K; (try simp only [Act.put,sI,sZ,sS])
   refine dF 17 ?_; try simp only [Act.put,sI,sZ,sS]
   refine dF 18 ?_; try simp only [Act.put,sI,sZ,sS]
   refine dF 19 ?_; try simp only [Act.put,sI,sZ,sS]
   refine dF 20 ?_; try simp only [Act.put,sI,sZ,sS]
   refine dF 21 ?_; try simp only [Act.put,sI,sZ,sS]
   refine aI (by kernel_rfl) ?_ _
   clear hHeld
   rcases HE.out with ⟨j1, rfl⟩ | ⟨j1, j2, rfl⟩ | ⟨j1, j2, rfl, j3⟩
   all_goals
    go_wp2
    go_ret2
    exact RetN.mk (Kp.refl w).drew.drew rfl
  ·have i4 : ¬ nh < ph := by omega
   have i6 : (ph == nh) = true := by simp at i2 ⊢; omega
   have i5 : nl ≤ pl := by omega
   go_enter Tryz.func14, Tryz.ntmps14
   go_wp2
   refine aO (fun w' : World => w'.cell? ⟨b, 0, none⟩ = some (.int .u64 (ph : Nat)) /\ w'.cell? ⟨b, 1, none⟩ = some (.int .u64 (pl : Nat)) /\ w'.cell? ⟨b, 2, none⟩ = some (.int .u64 (nh : Nat)) /\ w'.cell? ⟨b, 3, none⟩ = some (.int .u64 (nl : Nat))) [] (by kernel_rfl) (HJ.out _ (Kp.refl w).drew) (fun hHeld => ?_)
   refine dF 0 ?_; try simp only [Act.put,sI,sZ,sS]
   refine dF 1 ?_; try simp only [Act.put,sI,sZ,sS]
   refine dF 2 ?_; try simp only [Act.put,sI,sZ,sS]
   refine dI 3 ?_; try simp only [Act.put,sI,sZ,sS]
   refine dF 4 ?_; try simp only [Act.put,sI,sZ,sS]
   refine dF 5 ?_; try simp only [Act.put,sI,sZ,sS]
   refine dF 6 ?_; try simp only [Act.put,sI,sZ,sS]
   refine dI 7 ?_; try simp only [Act.put,sI,sZ,sS]
   refine dF 8 ?_; try simp only [Act.put,sI,sZ,sS]
   refine dF 9 ?_; try simp only [Act.put,sI,sZ,sS]
   (first | (refine dF 10 ?_) | (refine dO 10 ?_)); (try simp only [Act.put,sI,sZ,sS])
   (first | (refine dF 11 ?_) | (refine dO 11 ?_)); (try simp only [Act.put,sI,sZ,sS])
   (first | (refine dF 12 ?_) | (refine dO 12 ?_)); (try simp only [Act.put,sI,sZ,sS])
   (first | (refine dI 13 ?_) | (refine dO 13 ?_)); (try simp only [Act.put,sI,sZ,sS])
   (first | (refine dF 14 ?_) | (refine dO 14 ?_)); (try simp only [Act.put,sI,sZ,sS])
   (first | (refine dF 15 ?_) | (refine dO 15 ?_)); (try simp only [Act.put,sI,sZ,sS])
   (first | (refine dF 16 ?_) | (refine dO 16 ?_)); (try simp only [Act.put,sI,sZ,sS])
   (first | (refine dI 17 ?_) | (refine dO 17 ?_)); (try simp only [Act.put,sI,sZ,sS])
   (first | (refine dF 18 ?_) | (refine dO 18 ?_)); (try simp only [Act.put,sI,sZ,sS])
   (first | (refine dF 19 ?_) | (refine dO 19 ?_)); (try simp only [Act.put,sI,sZ,sS])
   (first | (refine dF 20 ?_) | (refine dO 20 ?_)); (try simp only [Act.put,sI,sZ,sS])
   (first | (refine dF 21 ?_) | (refine dO 21 ?_)); (try simp only [Act.put,sI,sZ,sS])
   (first | (refine dF 22 ?_) | (refine dO 22 ?_)); (try simp only [Act.put,sI,sZ,sS])
   (first | (refine dI 23 ?_) | (refine dO 23 ?_)); (try simp only [Act.put,sI,sZ,sS])
   (first | (refine dF 24 ?_) | (refine dO 24 ?_)); (try simp only [Act.put,sI,sZ,sS])
   (first | (refine dF 25 ?_) | (refine dO 25 ?_)); (try simp only [Act.put,sI,sZ,sS])
   (first | (refine dF 26 ?_) | (refine dO 26 ?_)); (try simp only [Act.put,sI,sZ,sS])
   (first | (refine dI 27 ?_) | (refine dO 27 ?_)); (try simp only [Act.put,sI,sZ,sS])
   (first | (refine dF 28 ?_) | (refine dO 28 ?_)); (try simp only [Act.put,sI,sZ,sS])
   (first | (refine dF 29 ?_) | (refine dO 29 ?_)); (try simp only [Act.put,sI,sZ,sS])
   refine dF 30 ?_; try simp only [Act.put,sI,sZ,sS]
   refine aI (by kernel_rfl) ?_ _
   clear hHeld
   go_wp2
   refine aO (fun w' : World => w'.cell? ⟨b, 0, none⟩ = some (.int .u64 (ph : Nat)) /\ w'.cell? ⟨b, 1, none⟩ = some (.int .u64 (pl : Nat)) /\ w'.cell? ⟨b, 2, none⟩ = some (.int .u64 (nh : Nat)) /\ w'.cell? ⟨b, 3, none⟩ = some (.int .u64 (nl : Nat))) [] (by kernel_rfl) (HJ.out _ (Kp.refl w).drew.drew) (fun hHeld => ?_)
   refine dF 0 ?_; try simp only [Act.put,sI,sZ,sS]
   refine dF 1 ?_; try simp only [Act.put,sI,sZ,sS]
   refine dF 2 ?_; try simp only [Act.put,sI,sZ,sS]
   refine dI 3 ?_; try simp only [Act.put,sI,sZ,sS]
   refine dF 4 ?_; try simp only [Act.put,sI,sZ,sS]
   refine dF 5 ?_; try simp only [Act.put,sI,sZ,sS]
   refine dF 6 ?_; try simp only [Act.put,sI,sZ,sS]
   refine dI 7 ?_; try simp only [Act.put,sI,sZ,sS]
   refine dF 8 ?_; try simp only [Act.put,sI,sZ,sS]
   refine dF 9 ?_; try simp only [Act.put,sI,sZ,sS]
   refine dF 10 ?_; try simp only [Act.put,sI,sZ,sS]
   refine dI 11 ?_; try simp only [Act.put,sI,sZ,sS]
   refine dF 12 ?_; try simp only [Act.put,sI,sZ,sS]
   refine dF 13 ?_; try simp only [Act.put,sI,sZ,sS]
   refine dF 14 ?_; try simp only [Act.put,sI,sZ,sS]
   refine dI 15 ?_; try simp only [Act.put,sI,sZ,sS]
   refine aE (i := 16) ?_
   refine aG (i := 16) rfl (fun K hK => ?_)
   go_simp
   (refine (HMn.out _).mono ?_; rintro e w5 ⟨rfl, rfl⟩)
   go_wp2_with fail
   refine hK.out _ _ ?_ (fun hHeld => ?_)
   ·(try dsimp only); (exact HJ.out _ (Kp.refl w).drew.drew)
   clear hK K; (try simp only [Act.put,sI,sZ,sS])
   refine dF 17 ?_; try simp only [Act.put,sI,sZ,sS]
   refine dF 18 ?_; try simp only [Act.put,sI,sZ,sS]
   refine dF 19 ?_; try simp only [Act.put,sI,sZ,sS]
   refine dF 20 ?_; try simp only [Act.put,sI,sZ,sS]
   refine dF 21 ?_; try simp only [Act.put,sI,sZ,sS]
   refine aI (by kernel_rfl) ?_ _
   clear hHeld
   rcases HE.out with ⟨j1, rfl⟩ | ⟨j1, j2, rfl⟩ | ⟨j1, j2, rfl, j3⟩
   all_goals
    go_wp2
    go_ret2
    exact RetN.mk (Kp.refl w).drew.drew rfl
 ·have HMn := qH (fun W => nM N P (by omega) (by omega) W)
  rw [eph, epl, enh, enl] at HMn
  obtain ⟨dh, edh⟩ : ∃ x, (N - P) / 18446744073709551616 = x := ⟨_, rfl⟩
  obtain ⟨dl, edl⟩ : ∃ x, (N - P) % 18446744073709551616 = x := ⟨_, rfl⟩
  rw [edh, edl] at HMn
  have HE := qH (show ((0 : Int) < (dh : Int) /\ Z = (0, false)) \/ (¬ (0 : Int) < (dh : Int) /\ (9223372036854775808 : Int) < (dl : Int) /\ Z = (0, false)) \/ (¬ (0 : Int) < (dh : Int) /\ ¬ (9223372036854775808 : Int) < (dl : Int) /\ Z = (-(dl : Int), true) /\ IntKind.i64.wrap (IntKind.u64.wrap (-(dl : Int))) = -(dl : Int)) from by
   by_cases j1 : (0 : Int) < (dh : Int)
   ·exact .inl ⟨j1, hZ.2 (by omega)⟩
   ·by_cases j2 : (9223372036854775808 : Int) < (dl : Int)
    ·exact .inr (.inl ⟨j1, j2, hZ.2 (by omega)⟩)
    ·exact .inr (.inr ⟨j1, j2, by rw [hZ.1 (by omega)]; exact Prod.ext (by show (P : Int) - N = -dl; omega) rfl, by rw [IntKind.wrap_u64, IntKind.wrap_i64]; omega⟩))
  have hA : ¬ (nh : Int) < (ph : Int) /\ (((ph : Int) == (nh : Int)) = false \/ (((ph : Int) == (nh : Int)) = true /\ ¬ (nl : Int) ≤ (pl : Int))) := by
   refine ⟨by omega, ?_⟩
   by_cases h2 : ph = nh
   ·exact .inr ⟨by simp; omega, by omega⟩
   ·exact .inl (by simp; omega)
  clear eph epl enh enl hP hN hge edh edl hZ
  obtain ⟨i1, i2 | ⟨i2, i3⟩⟩ := hA
  ·have i4 : ¬ nh < ph := by omega
   have i6 : (ph == nh) = false := by simp at i2 ⊢; omega
   go_enter Tryz.func14, Tryz.ntmps14
   go_wp2
   refine aO (fun w' : World => w'.cell? ⟨b, 0, none⟩ = some (.int .u64 (ph : Nat)) /\ w'.cell? ⟨b, 1, none⟩ = some (.int .u64 (pl : Nat)) /\ w'.cell? ⟨b, 2, none⟩ = some (.int .u64 (nh : Nat)) /\ w'.cell? ⟨b, 3, none⟩ = some (.int .u64 (nl : Nat))) [] (by kernel_rfl) (HJ.out _ (Kp.refl w).drew) (fun hHeld => ?_)
   refine dF 0 ?_; try simp only [Act.put,sI,sZ,sS]
   refine dF 1 ?_; try simp only [Act.put,sI,sZ,sS]
   refine dF 2 ?_; try simp only [Act.put,sI,sZ,sS]
   refine dI 3 ?_; try simp only [Act.put,sI,sZ,sS]
   refine dF 4 ?_; try simp only [Act.put,sI,sZ,sS]
   refine dF 5 ?_; try simp only [Act.put,sI,sZ,sS]
   refine dF 6 ?_; try simp only [Act.put,sI,sZ,sS]
   refine dI 7 ?_; try simp only [Act.put,sI,sZ,sS]
   refine dF 8 ?_; try simp only [Act.put,sI,sZ,sS]
   refine dF 9 ?_; try simp only [Act.put,sI,sZ,sS]
   (first | (refine dF 10 ?_) | (refine dO 10 ?_)); (try simp only [Act.put,sI,sZ,sS])
   (first | (refine dF 11 ?_) | (refine dO 11 ?_)); (try simp only [Act.put,sI,sZ,sS])
   (first | (refine dF 12 ?_) | (refine dO 12 ?_)); (try simp only [Act.put,sI,sZ,sS])
   (first | (refine dI 13 ?_) | (refine dO 13 ?_)); (try simp only [Act.put,sI,sZ,sS])
   (first | (refine dF 14 ?_) | (refine dO 14 ?_)); (try simp only [Act.put,sI,sZ,sS])
   (first | (refine dF 15 ?_) | (refine dO 15 ?_)); (try simp only [Act.put,sI,sZ,sS])
   (first | (refine dF 16 ?_) | (refine dO 16 ?_)); (try simp only [Act.put,sI,sZ,sS])
   (first | (refine dI 17 ?_) | (refine dO 17 ?_)); (try simp only [Act.put,sI,sZ,sS])
   (first | (refine dF 18 ?_) | (refine dO 18 ?_)); (try simp only [Act.put,sI,sZ,sS])
   (first | (refine dF 19 ?_) | (refine dO 19 ?_)); (try simp only [Act.put,sI,sZ,sS])
   (first | (refine dF 20 ?_) | (refine dO 20 ?_)); (try simp only [Act.put,sI,sZ,sS])
   (first | (refine dF 21 ?_) | (refine dO 21 ?_)); (try simp only [Act.put,sI,sZ,sS])
   (first | (refine dF 22 ?_) | (refine dO 22 ?_)); (try simp only [Act.put,sI,sZ,sS])
   (first | (refine dI 23 ?_) | (refine dO 23 ?_)); (try simp only [Act.put,sI,sZ,sS])
   (first | (refine dF 24 ?_) | (refine dO 24 ?_)); (try simp only [Act.put,sI,sZ,sS])
   (first | (refine dF 25 ?_) | (refine dO 25 ?_)); (try simp only [Act.put,sI,sZ,sS])
   (first | (refine dF 26 ?_) | (refine dO 26 ?_)); (try simp only [Act.put,sI,sZ,sS])
   (first | (refine dI 27 ?_) | (refine dO 27 ?_)); (try simp only [Act.put,sI,sZ,sS])
   (first | (refine dF 28 ?_) | (refine dO 28 ?_)); (try simp only [Act.put,sI,sZ,sS])
   (first | (refine dF 29 ?_) | (refine dO 29 ?_)); (try simp only [Act.put,sI,sZ,sS])
   refine dF 30 ?_; try simp only [Act.put,sI,sZ,sS]
   refine aI (by kernel_rfl) ?_ _
   clear hHeld
   go_wp2
   refine aO (fun w' : World => w'.cell? ⟨b, 0, none⟩ = some (.int .u64 (ph : Nat)) /\ w'.cell? ⟨b, 1, none⟩ = some (.int .u64 (pl : Nat)) /\ w'.cell? ⟨b, 2, none⟩ = some (.int .u64 (nh : Nat)) /\ w'.cell? ⟨b, 3, none⟩ = some (.int .u64 (nl : Nat))) [] (by kernel_rfl) (HJ.out _ (Kp.refl w).drew.drew) (fun hHeld => ?_)
   refine dF 0 ?_; try simp only [Act.put,sI,sZ,sS]
   refine dF 1 ?_; try simp only [Act.put,sI,sZ,sS]
   refine dF 2 ?_; try simp only [Act.put,sI,sZ,sS]
   refine dI 3 ?_; try simp only [Act.put,sI,sZ,sS]
   refine dF 4 ?_; try simp only [Act.put,sI,sZ,sS]
   refine dF 5 ?_; try simp only [Act.put,sI,sZ,sS]
   refine dF 6 ?_; try simp only [Act.put,sI,sZ,sS]
   refine dI 7 ?_; try simp only [Act.put,sI,sZ,sS]
   refine dF 8 ?_; try simp only [Act.put,sI,sZ,sS]
   refine dF 9 ?_; try simp only [Act.put,sI,sZ,sS]
   refine dF 10 ?_; try simp only [Act.put,sI,sZ,sS]
   refine dI 11 ?_; try simp only [Act.put,sI,sZ,sS]
   refine dF 12 ?_; try simp only [Act.put,sI,sZ,sS]
   refine dF 13 ?_; try simp only [Act.put,sI,sZ,sS]
   refine dF 14 ?_; try simp only [Act.put,sI,sZ,sS]
   refine dI 15 ?_; try simp only [Act.put,sI,sZ,sS]
   refine aE (i := 16) ?_
   refine aG (i := 16) rfl (fun K hK => ?_)
   go_simp
   (refine (HMn.out _).mono ?_; rintro e w5 ⟨rfl, rfl⟩)
   go_wp2_with fail
   refine hK.out _ _ ?_ (fun hHeld => ?_)
   ·(try dsimp only); (exact HJ.out _ (Kp.refl w).drew.drew)
   clear hK K; (try simp only [Act.put,sI,sZ,sS])
   refine dF 17 ?_; try simp only [Act.put,sI,sZ,sS]
   refine dF 18 ?_; try simp only [Act.put,sI,sZ,sS]
   refine dF 19 ?_; try simp only [Act.put,sI,sZ,sS]
   refine dF 20 ?_; try simp only [Act.put,sI,sZ,sS]
   refine dF 21 ?_; try simp only [Act.put,sI,sZ,sS]
   refine aI (by kernel_rfl) ?_ _
   clear hHeld
   rcases HE.out with ⟨j1, rfl⟩ | ⟨j1, j2, rfl⟩ | ⟨j1, j2, rfl, j3⟩
   all_goals
    go_wp2
    go_ret2
    exact RetN.mk (Kp.refl w).drew.drew rfl
  ·have i4 : ¬ nh < ph := by omega
   have i6 : (ph == nh) = true := by simp at i2 ⊢; omega
   have i5 : ¬ nl ≤ pl := by omega
   go_enter Tryz.func14, Tryz.ntmps14
   go_wp2
   refine aO (fun w' : World => w'.cell? ⟨b, 0, none⟩ = some (.int .u64 (ph : Nat)) /\ w'.cell? ⟨b, 1, none⟩ = some (.int .u64 (pl : Nat)) /\ w'.cell? ⟨b, 2, none⟩ = some (.int .u64 (nh : Nat)) /\ w'.cell? ⟨b, 3, none⟩ = some (.int .u64 (nl : Nat))) [] (by kernel_rfl) (HJ.out _ (Kp.refl w).drew) (fun hHeld => ?_)
   refine dF 0 ?_; try simp only [Act.put,sI,sZ,sS]
   refine dF 1 ?_; try simp only [Act.put,sI,sZ,sS]
   refine dF 2 ?_; try simp only [Act.put,sI,sZ,sS]
   refine dI 3 ?_; try simp only [Act.put,sI,sZ,sS]
   refine dF 4 ?_; try simp only [Act.put,sI,sZ,sS]
   refine dF 5 ?_; try simp only [Act.put,sI,sZ,sS]
   refine dF 6 ?_; try simp only [Act.put,sI,sZ,sS]
   refine dI 7 ?_; try simp only [Act.put,sI,sZ,sS]
   refine dF 8 ?_; try simp only [Act.put,sI,sZ,sS]
   refine dF 9 ?_; try simp only [Act.put,sI,sZ,sS]
   (first | (refine dF 10 ?_) | (refine dO 10 ?_)); (try simp only [Act.put,sI,sZ,sS])
   (first | (refine dF 11 ?_) | (refine dO 11 ?_)); (try simp only [Act.put,sI,sZ,sS])
   (first | (refine dF 12 ?_) | (refine dO 12 ?_)); (try simp only [Act.put,sI,sZ,sS])
   (first | (refine dI 13 ?_) | (refine dO 13 ?_)); (try simp only [Act.put,sI,sZ,sS])
   (first | (refine dF 14 ?_) | (refine dO 14 ?_)); (try simp only [Act.put,sI,sZ,sS])
   (first | (refine dF 15 ?_) | (refine dO 15 ?_)); (try simp only [Act.put,sI,sZ,sS])
   (first | (refine dF 16 ?_) | (refine dO 16 ?_)); (try simp only [Act.put,sI,sZ,sS])
   (first | (refine dI 17 ?_) | (refine dO 17 ?_)); (try simp only [Act.put,sI,sZ,sS])
   (first | (refine dF 18 ?_) | (refine dO 18 ?_)); (try simp only [Act.put,sI,sZ,sS])
   (first | (refine dF 19 ?_) | (refine dO 19 ?_)); (try simp only [Act.put,sI,sZ,sS])
   (first | (refine dF 20 ?_) | (refine dO 20 ?_)); (try simp only [Act.put,sI,sZ,sS])
   (first | (refine dF 21 ?_) | (refine dO 21 ?_)); (try simp only [Act.put,sI,sZ,sS])
   (first | (refine dF 22 ?_) | (refine dO 22 ?_)); (try simp only [Act.put,sI,sZ,sS])
   (first | (refine dI 23 ?_) | (refine dO 23 ?_)); (try simp only [Act.put,sI,sZ,sS])
   (first | (refine dF 24 ?_) | (refine dO 24 ?_)); (try simp only [Act.put,sI,sZ,sS])
   (first | (refine dF 25 ?_) | (refine dO 25 ?_)); (try simp only [Act.put,sI,sZ,sS])
   (first | (refine dF 26 ?_) | (refine dO 26 ?_)); (try simp only [Act.put,sI,sZ,sS])
   (first | (refine dI 27 ?_) | (refine dO 27 ?_)); (try simp only [Act.put,sI,sZ,sS])
   (first | (refine dF 28 ?_) | (refine dO 28 ?_)); (try simp only [Act.put,sI,sZ,sS])
   (first | (refine dF 29 ?_) | (refine dO 29 ?_)); (try simp only [Act.put,sI,sZ,sS])
   refine dF 30 ?_; try simp only [Act.put,sI,sZ,sS]
   refine aI (by kernel_rfl) ?_ _
   clear hHeld
   go_wp2
   refine aO (fun w' : World => w'.cell? ⟨b, 0, none⟩ = some (.int .u64 (ph : Nat)) /\ w'.cell? ⟨b, 1, none⟩ = some (.int .u64 (pl : Nat)) /\ w'.cell? ⟨b, 2, none⟩ = some (.int .u64 (nh : Nat)) /\ w'.cell? ⟨b, 3, none⟩ = some (.int .u64 (nl : Nat))) [] (by kernel_rfl) (HJ.out _ (Kp.refl w).drew.drew) (fun hHeld => ?_)
   refine dF 0 ?_; try simp only [Act.put,sI,sZ,sS]
   refine dF 1 ?_; try simp only [Act.put,sI,sZ,sS]
   refine dF 2 ?_; try simp only [Act.put,sI,sZ,sS]
   refine dI 3 ?_; try simp only [Act.put,sI,sZ,sS]
   refine dF 4 ?_; try simp only [Act.put,sI,sZ,sS]
   refine dF 5 ?_; try simp only [Act.put,sI,sZ,sS]
   refine dF 6 ?_; try simp only [Act.put,sI,sZ,sS]
   refine dI 7 ?_; try simp only [Act.put,sI,sZ,sS]
   refine dF 8 ?_; try simp only [Act.put,sI,sZ,sS]
   refine dF 9 ?_; try simp only [Act.put,sI,sZ,sS]
   refine dF 10 ?_; try simp only [Act.put,sI,sZ,sS]
   refine dI 11 ?_; try simp only [Act.put,sI,sZ,sS]
   refine dF 12 ?_; try simp only [Act.put,sI,sZ,sS]
   refine dF 13 ?_; try simp only [Act.put,sI,sZ,sS]
   refine dF 14 ?_; try simp only [Act.put,sI,sZ,sS]
   refine dI 15 ?_; try simp only [Act.put,sI,sZ,sS]
   refine aE (i := 16) ?_
   refine aG (i := 16) rfl (fun K hK => ?_)
   go_simp
   (refine (HMn.out _).mono ?_; rintro e w5 ⟨rfl, rfl⟩)
   go_wp2_with fail
   refine hK.out _ _ ?_ (fun hHeld => ?_)
   ·(try dsimp only); (exact HJ.out _ (Kp.refl w).drew.drew)
   clear hK K; (try simp only [Act.put,sI,sZ,sS])
   refine dF 17 ?_; try simp only [Act.put,sI,sZ,sS]
   refine dF 18 ?_; try simp only [Act.put,sI,sZ,sS]
   refine dF 19 ?_; try simp only [Act.put,sI,sZ,sS]
   refine dF 20 ?_; try simp only [Act.put,sI,sZ,sS]
   refine dF 21 ?_; try simp only [Act.put,sI,sZ,sS]
   refine aI (by kernel_rfl) ?_ _
   clear hHeld
   rcases HE.out with ⟨j1, rfl⟩ | ⟨j1, j2, rfl⟩ | ⟨j1, j2, rfl, j3⟩
   all_goals
    go_wp2
    go_ret2
    exact RetN.mk (Kp.refl w).drew.drew rfl
def pvT (ta tb k : Nat) : Value := if k = 0 then .pointer (some ⟨ta, 0, none⟩) else if k = 1 then .pointer (some ⟨tb, 0, none⟩) else .pointer none
abbrev PN := Nat -> Nat × Nat
def rP (A : PN) (k : Nat) (x : Int) : PN := fun j => if j = k then ((A k).1 + x.toNat, (A k).2 + (-x).toNat) else A j
def smallA (A : PN) (m : Nat) : Prop := ∀ j, (A j).1 ≤ m * 9223372036854775808 /\ (A j).2 ≤ m * 9223372036854775808
theorem smallA.put {A : PN} {m k : Nat} {x : Int} (h : smallA A m) (h0 : -9223372036854775808 ≤ x) (h1 : x ≤ 9223372036854775807) : smallA (rP A k x) (m + 1) := fun j => by
 obtain ⟨a1, a2⟩ := h j
 obtain ⟨b1, b2⟩ := h k
 have e : rP A k x j = if j = k then ((A k).1 + x.toNat, (A k).2 + (-x).toNat) else A j := rfl
 rw [e, Nat.succ_mul]
 by_cases hj : j = k
 ·rw [if_pos hj]
  show (A k).1 + x.toNat ≤ _ /\ (A k).2 + (-x).toNat ≤ _
  generalize m * 9223372036854775808 = M at *
  omega
 ·rw [if_neg hj]
  generalize m * 9223372036854775808 = M at *
  omega
def TotA (W : World) (ta tb : Nat) (A : PN) : Prop := TotalAt W ta (((A 0).1 : Int) - (A 0).2) /\ TotalAt W tb (((A 1).1 : Int) - (A 1).2)
def TotR (W : World) (ra rb : Nat) (A : PN) : Prop := RefTot W ra (A 0).1 (A 0).2 /\ RefTot W rb (A 1).1 (A 1).2
def resA (A : PN) (k : Nat) : Int × Bool := if k < 2 then qE (((A k).1 : Int) - (A k).2) else (0, false)
theorem TotA.kp {W W' : World} {F : Nat -> Prop} {ta tb : Nat} {A : PN} (h : TotA W ta tb A) (hk : Kp F W W') (h1 : ¬ F ta) (h2 : ¬ F tb) : TotA W' ta tb A := ⟨TotalAt.kp h.1 hk h1, TotalAt.kp h.2 hk h2⟩
theorem TotR.kp {W W' : World} {F : Nat -> Prop} {ta tb : Nat} {A : PN} (h : TotR W ta tb A) (hk : Kp F W W') (h1 : ¬ F ta) (h2 : ¬ F tb) : TotR W' ta tb A := ⟨RefTot.kp h.1 hk h1, RefTot.kp h.2 hk h2⟩
theorem aDx {k : Nat} (h : k < 3) : k = 0 \/ k = 1 \/ k = 2 := by omega
theorem put0 (A : PN) (x : Int) : rP A 0 x 0 = ((A 0).1 + x.toNat, (A 0).2 + (-x).toNat) /\ rP A 0 x 1 = A 1 := ⟨rfl, rfl⟩
theorem put1 (A : PN) (x : Int) : rP A 1 x 1 = ((A 1).1 + x.toNat, (A 1).2 + (-x).toNat) /\ rP A 1 x 0 = A 0 := ⟨rfl, rfl⟩
theorem aGh (a b : Nat) (x : Int) : (((a + x.toNat : Nat) : Int) - ((b + (-x).toNat : Nat) : Int)) = (a : Int) - b + x := by omega
theorem aF0 {W : World} {ta tb k : Nat} {A : PN} {x : Int} (hk : k < 3) (hne : ta ≠ tb) (h : TotA W ta tb A) (h0 : -9223372036854775808 ≤ x) (h1 : x ≤ 9223372036854775807) :
 Calls Tryz.prog 11 #[pvT ta tb k, .int .i64 x] W fun e w' => e = .returned (.tuple #[]) /\ Kp (fun q => q = ta \/ q = tb) W w' /\ TotA w' ta tb (rP A k x) := by
 rcases aDx hk with rfl | rfl | rfl
 ·refine (mR ta _ x h0 h1 W h.1).mono ?_
  rintro e w' ⟨rfl, hk', hT⟩
  refine ⟨rfl, hk'.mono fun q _ e => .inl e, ?_, TotalAt.kp h.2 hk' fun e => hne e.symm⟩
  rw [(put0 A x).1, aGh]
  exact hT
 ·refine (mR tb _ x h0 h1 W h.2).mono ?_
  rintro e w' ⟨rfl, hk', hT⟩
  refine ⟨rfl, hk'.mono fun q _ e => .inr e, TotalAt.kp h.1 hk' hne, ?_⟩
  rw [(put1 A x).1, aGh]
  exact hT
 ·refine (aBh x W).mono ?_
  rintro e w' ⟨rfl, hk'⟩
  exact ⟨rfl, Ext.kp hk', TotalAt.kp h.1 hk' id, TotalAt.kp h.2 hk' id⟩
theorem aFy {W : World} {ta tb k m : Nat} {A : PN} {x : Int} (hk : k < 3) (hne : ta ≠ tb) (h : TotR W ta tb A) (h0 : -9223372036854775808 ≤ x) (h1 : x ≤ 9223372036854775807) (hs : smallA A m) (hm : m ≤ 1048576) :
 Calls Tryz.prog 12 #[pvT ta tb k, .int .i64 x] W fun e w' => e = .returned (.tuple #[]) /\ Kp (fun q => q = ta \/ q = tb) W w' /\ TotR w' ta tb (rP A k x) := by
 have hb : ∀ j, (A j).1 < 1267650600228229401496703205376 /\ (A j).2 < 1267650600228229401496703205376 := fun j => by have := hs j; omega
 rcases aDx hk with rfl | rfl | rfl
 ·refine (rO ta _ _ x h0 h1 (hb 0).1 (hb 0).2 W h.1).mono ?_
  rintro e w' ⟨rfl, hk', hT⟩
  exact ⟨rfl, hk'.mono fun q _ e => .inl e, hT, RefTot.kp h.2 hk' fun e => hne e.symm⟩
 ·refine (rO tb _ _ x h0 h1 (hb 1).1 (hb 1).2 W h.2).mono ?_
  rintro e w' ⟨rfl, hk', hT⟩
  exact ⟨rfl, hk'.mono fun q _ e => .inr e, RefTot.kp h.1 hk' hne, hT⟩
 ·refine (aBp x W).mono ?_
  rintro e w' ⟨rfl, hk'⟩
  exact ⟨rfl, Ext.kp hk', RefTot.kp h.1 hk' id, RefTot.kp h.2 hk' id⟩
theorem aFz {W : World} {ta tb k m : Nat} {A : PN} (hk : k < 3) (h : TotA W ta tb A) (hs : smallA A m) (hm : m ≤ 1048576) :
 Calls Tryz.prog 13 #[pvT ta tb k] W (RetN W fun w' v => v = .tuple #[.int .i64 (resA A k).1, .bool (resA A k).2]) := by
 have hb : ∀ j, -170141183460469231731687303715884105728 ≤ ((A j).1 : Int) - (A j).2 /\ ((A j).1 : Int) - (A j).2 < 170141183460469231731687303715884105728 := fun j => by have := hs j; omega
 rcases aDx hk with rfl | rfl | rfl
 ·refine (mQ ta _ (hb 0).1 (hb 0).2 W h.1).mono ?_
  rintro e w' ⟨rfl, rfl⟩
  exact RetN.mk (Kp.refl _) rfl
 ·refine (mQ tb _ (hb 1).1 (hb 1).2 W h.2).mono ?_
  rintro e w' ⟨rfl, rfl⟩
  exact RetN.mk (Kp.refl _) rfl
 ·refine (aBg W).mono ?_
  rintro e w' ⟨rfl, rfl⟩
  exact RetN.mk (Kp.refl _) rfl
theorem aFx {W : World} {ta tb k m : Nat} {A : PN} (hk : k < 3) (h : TotR W ta tb A) (hs : smallA A m) (hm : m ≤ 1048576) :
 Calls Tryz.prog 14 #[pvT ta tb k] W (RetN W fun w' v => v = .tuple #[.int .i64 (resA A k).1, .bool (resA A k).2]) := by
 have hb : ∀ j, (A j).1 < 1267650600228229401496703205376 /\ (A j).2 < 1267650600228229401496703205376 := fun j => by have := hs j; omega
 rcases aDx hk with rfl | rfl | rfl
 ·exact rN ta _ _ (hb 0).1 (hb 0).2 W h.1
 ·exact rN tb _ _ (hb 1).1 (hb 1).2 W h.2
 ·refine (aBo W).mono ?_
  rintro e w' ⟨rfl, rfl⟩
  exact RetN.mk (Kp.refl _) rfl
def iB (row : List ByteArray) : List UInt8 := row.flatMap fun s => Lib.itoa s.size ++ 32 :: s.data.toList
def mF (row : List ByteArray) : ByteArray := ⟨(iB row).toArray⟩
theorem aEw (row : List ByteArray) (s : ByteArray) : iB (row ++ [s]) = iB row ++ Lib.itoa s.size ++ [32] ++ s.data.toList := by unfold iB; simp
def jA (l : List UInt8) : List Value := l.map fun b => Value.int .u8 b.toNat
theorem pD (a b : List UInt8) : jA (a ++ b) = jA a ++ jA b := by unfold jA; simp
theorem strC (l : List UInt8) : Lib.strCells ⟨l.toArray⟩ = jA l := by unfold Lib.strCells jA; simp
theorem aIm {T e : TypeId} {B b : Nat} {bs : List Value} {w w' : World} (h : Lib.IsBuilder T e B b bs w) (hk : Ext w w') : Lib.IsBuilder T e B b bs w' := by
 have key : ∀ p, Lib.BuilderAt T e B b p bs w -> Lib.BuilderAt T e B b p bs w' := fun p ⟨h1, v, h2, h3, h4⟩ =>
  ⟨h1, v, (hk.block b (lt_of_block h2) id).trans h2, h3.kept (row := none) ⟨hk.os, hk.tape, hk.output, hk.size, fun k hk' _ => hk.block k hk' id⟩ (by
   cases hv : v.ownBlock with
   | none => exact .inl rfl
   | some g => exact .inr (by simp)), h4⟩
 exact h.imp (key _) (key _)
def KeyTo (w w1 : World) (B b : Nat) (row : List ByteArray) (n : Nat) (iv : Value) (W : World) : Prop := ∃ i : Nat, i ≤ n /\ iv = .int .i64 i /\ Hid (Lib.IsBuilder 230 5 B b (jA (iB (row.take i))) W) /\ Hid (Below B w1 W) /\ Hid (Ext w W)
theorem aGz (row : List ByteArray) (h : ∀ s ∈ row, s.size ≤ 1048576) : (iB row).length ≤ row.length * 2097152 := by
 induction row with
 | nil => exact Nat.zero_le _
 | cons s row ih =>
  have h1 := h s (List.mem_cons_self ..)
  have h2 := ih fun t ht => h t (List.mem_cons_of_mem _ ht)
  have h3 : (Lib.itoa (s.size : Int)).length ≤ 21 := Lib.itoa_length_le _ (by omega) (by omega)
  have e : iB (s :: row) = Lib.itoa s.size ++ 32 :: s.data.toList ++ iB row := rfl
  have h4 : s.data.toList.length = s.size := rfl
  rw [e, List.length_append, List.length_append, List.length_cons, List.length_cons, h4, Nat.succ_mul]
  omega
set_option maxHeartbeats 4000000 in
theorem aC6 {w : World} {ra : Option Addr} {n c : Nat} {row : List ByteArray} (hn : n = row.length) (hr : CellsAt w ra (strs row)) (hN : NumW w) (hs : ∀ s ∈ row, s.size ≤ 1048576) (hl : n ≤ 1048576) :
 Calls Tryz.prog 116 #[.slice ra n c] w (RetN w fun w' v => v = .string (mF row)) := by
 obtain ⟨b, eb⟩ : ∃ g, w.heap.size = g := ⟨_, rfl⟩
 obtain ⟨w1, e1⟩ : ∃ x, w.alloc (.cells #[.pointer none, .slice none 0 0] 230) = x := ⟨_, rfl⟩
 have hb1 : Lib.IsBuilder 230 5 b b [] w1 := .inl ⟨Nat.le_refl _, .slice none 0 0, by rw [<- e1, <- eb]; exact Blk.new w [.pointer none, .slice none 0 0] _, World.ownsRow_nil _ _ _ _, by simp [Value.ownBlock]⟩
 have hx1 : Ext w w1 := by rw [<- e1]; exact (Kp.refl w).alloc _
 have H1 := qH (And.intro hb1 (And.intro hx1 (show w.heap.size = b from eb)))
 have HR := qH (And.intro hn (And.intro hr (And.intro hN hs)))
 have HEq := qH (And.intro eb e1)
 clear hb1 hx1 eb e1 hn hr hN hs
 go_enter Tryz.func116, Tryz.ntmps116
 go_wp2
 simp only [HEq.out.1, HEq.out.2]
 go_loopw [8] (fun iv wr => KeyTo w w1 b b row n iv wr) (fun iv _ => n - (intOf iv).toNat)
 case atStart => exact ⟨0, Nat.zero_le _, rfl, qH H1.out.1, qH (Below.refl _ _), qH H1.out.2.1⟩
 case round =>
  obtain ⟨i, hi, rfl, hB, hbel, hex⟩ := hrel
  by_cases hlt : i < n
  ·obtain ⟨s, hs⟩ : ∃ s, row[i]? = some s := ⟨_, qG (by rw [<- HR.out.1]; exact hlt)⟩
   obtain ⟨rb, ro, era, c0⟩ := HR.out.2.1 i (.string s) (by simp [strs, hs])
   subst era
   replace c0 := hex.out.cell c0 id
   have i1 : (i : Int) < (n : Int) := by omega
   have hss := HR.out.2.2.2 s (List.mem_of_getElem? hs)
   have HI := qH (Tryz.strconv_Itoa (s.size : Int) (by omega) (by omega) wr (HR.out.2.2.1.ext hex.out).tab)
   have HS := qH hs
   clear hs
   go_wp2_with fail
   refine HI.out.mono ?_
   rintro e w2 ⟨rfl, k, os, rfl⟩
   obtain ⟨w2, e2⟩ : ∃ x, Go.Sort.grow (wr.drewN k) os = x := ⟨_, rfl⟩
   have hk2 : Ext wr w2 := by rw [<- e2]; exact ((Kp.refl wr).drewN k).trans (aAi _ _)
   rw [e2]
   obtain ⟨it, eit⟩ : ∃ x, Lib.itoa (s.size : Int) = x := ⟨_, rfl⟩
   have hil : it.length ≤ 21 := by rw [<- eit]; exact Lib.itoa_length_le _ (by omega) (by omega)
   have hkl := aGz (row.take i) (fun t ht => HR.out.2.2.2 t (List.mem_of_mem_take ht))
   rw [List.length_take] at hkl
   have hil2 : (⟨it.toArray⟩ : ByteArray).size = it.length := by simp [ByteArray.size]
   have hnl := HR.out.1
   obtain ⟨pre, epre⟩ : ∃ x, iB (row.take i) = x := ⟨_, rfl⟩
   rw [epre] at hkl hB
   have hcl : ∀ l : List UInt8, (jA l).length = l.length := fun l => by unfold jA; simp
   rw [eit]
   have HX2 := qH (show Ext w w2 /\ Below b w1 w2 from ⟨hex.out.trans hk2, hbel.out.trans ((Kp.below hk2).mono (by rw [<- H1.out.2.2]; exact hex.out.size))⟩)
   have hpl : pre.length ≤ 2199023255552 := by
    have h1 : (min i row.length) * 2097152 ≤ 1048576 * 2097152 := Nat.mul_le_mul_right _ (by omega)
    omega
   have HW := qH (Tryz.Builder_WriteString b b (jA pre) ⟨it.toArray⟩ w2 (aIm hB.out hk2) (by rw [hcl, hil2]; omega) (by rw [<- H1.out.2.2]; exact HX2.out.1.size))
   have HE := qH (And.intro epre (And.intro eit (And.intro hil (And.intro hpl hcl))))
   clear e2 hk2 eit hil hkl hil2 epre hcl hpl c0 hB hnl
   go_wp2_with fail
   refine HW.out.mono ?_
   rintro e w3 ⟨rfl, hB3, hbel3⟩
   have hx3 : Ext w w3 := Kp.of_below (HX2.out.1.below.trans (by rw [H1.out.2.2]; exact hbel3))
   have HX3 := qH (show Ext w w3 /\ Below b w1 w3 from ⟨hx3, HX2.out.2.trans hbel3⟩)
   have HB3 := qH hB3
   have HW2 := qH (Tryz.Builder_WriteByte b b (jA pre ++ Lib.strCells ⟨it.toArray⟩) 32 w3 (.inr HB3.out) (by rw [strC, List.length_append, HE.out.2.2.2.2, HE.out.2.2.2.2]; have h1 := HE.out.2.2.1; have h2 := HE.out.2.2.2.1; omega) (by rw [<- H1.out.2.2]; exact hx3.size))
   clear hB3 hbel3 hx3
   go_wp2_with fail
   refine HW2.out.mono ?_
   rintro e w4 ⟨rfl, hB4, hbel4⟩
   have hx4 : Ext w w4 := Kp.of_below (HX3.out.1.below.trans (by rw [H1.out.2.2]; exact hbel4))
   have HX4 := qH (show Ext w w4 /\ Below b w1 w4 from ⟨hx4, HX3.out.2.trans hbel4⟩)
   have HB4 := qH hB4
   have HW3 := qH (Tryz.Builder_WriteString b b (jA pre ++ Lib.strCells ⟨it.toArray⟩ ++ [.int .u8 32]) s w4 (.inr HB4.out) (by rw [strC, List.length_append, List.length_append, HE.out.2.2.2.2, HE.out.2.2.2.2]; have h1 := HE.out.2.2.1; have h2 := HE.out.2.2.2.1; simp only [List.length_singleton]; omega) (by rw [<- H1.out.2.2]; exact hx4.size))
   clear hB4 hbel4 hx4
   go_wp2_with fail
   refine HW3.out.mono ?_
   rintro e w5 ⟨rfl, hB5, hbel5⟩
   have hx5 : Ext w w5 := Kp.of_below (HX4.out.1.below.trans (by rw [H1.out.2.2]; exact hbel5))
   have HX5 := qH (show Ext w w5 /\ Below b w1 w5 from ⟨hx5, HX4.out.2.trans hbel5⟩)
   have HB5 := qH hB5
   clear hB5 hbel5 hx5
   go_wp2
   go_roundw
   case rel =>
    refine ⟨i + 1, by omega, by first | rfl | (congr 1; done) | (congr 1; omega), qH (.inr ?_), qH HX5.out.2, qH HX5.out.1⟩
    have h := HB5.out
    rw [List.take_add_one, HS.out]
    show Lib.BuilderAt _ _ _ _ _ (jA (iB (row.take i ++ [s]))) _
    rw [aEw, HE.out.1, HE.out.2.1, pD, pD, pD, <- strC]
    exact h
   case measure => simp [intOf]; omega
  ·obtain rfl : i = n := by omega
   have hall : row.take i = row := List.take_of_length_le (by rw [<- HR.out.1]; exact Nat.le_refl _)
   rw [hall] at hB
   have HSt := qH (Tryz.Builder_String_any b b (iB row) wr hB.out (by rw [<- H1.out.2.2]; exact hex.out.size))
   clear hall hB
   go_wp2_with fail
   refine HSt.out.mono ?_
   rintro e w2 ⟨rfl, hbel2⟩
   have hx2 : Ext w w2 := Kp.of_below (hex.out.below.trans (by rw [H1.out.2.2]; exact hbel2))
   have HX2 := qH hx2
   clear hx2 hbel2
   go_wp2
   go_ret
   exact RetN.mk HX2.out rfl
end
section
open Go.RowKit Go.Shelf
def SameOn (S : Nat -> Prop) (w w' : World) : Prop := w.heap.size ≤ w'.heap.size /\ ∀ k, S k -> w'.heap[k]? = w.heap[k]?
theorem SameOn.refl (S : Nat -> Prop) (w : World) : SameOn S w w := ⟨Nat.le_refl _, fun _ _ => rfl⟩
theorem SameOn.trans {S : Nat -> Prop} {a b c : World} (h : SameOn S a b) (k : SameOn S b c) : SameOn S a c := ⟨Nat.le_trans h.1 k.1, fun i hi => (k.2 i hi).trans (h.2 i hi)⟩
theorem SameOn.put {S : Nat -> Prop} {w : World} (hS : ∀ k, S k -> k < w.heap.size) (W : World) (l : Nat) (o o' : Obj) (hl : w.heap.size ≤ l) (h : W.heap[l]? = some o) (_ : o.isCells = false) (_ : o.isWalk = false) : SameOn S W (W.putObj l o') := by
 have hg := grownBy_putObj' W l o'
 refine ⟨hg.size, fun k hk => hg.block k ?_ fun e => by have := hS k hk; cases e; omega⟩
 have := hS k hk
 have := (Array.getElem?_eq_some_iff.1 h).1
 omega
theorem SameOn.of_kp {F : Nat -> Prop} {S : Nat -> Prop} {w w' : World} (h : Kp F w w') (hS : ∀ k, S k -> k < w.heap.size) (hd : ∀ k, S k -> ¬ F k) : SameOn S w w' := ⟨h.size, fun k hk => h.block k (hS k hk) (hd k hk)⟩
theorem SameOn.cell {S : Nat -> Prop} {w w' : World} (h : SameOn S w w') {b o : Nat} (hb : S b) : w'.cell? ⟨b, o, none⟩ = w.cell? ⟨b, o, none⟩ := World.cell?_of_block (h.2 b hb)
def Marks (lo : Nat) (w : World) (ds : List Deferred) : Prop :=
 ∃ Ds : List Nat, ds = Ds.map (fun D => { target := .collected D, args := #[] }) /\ Ds.Nodup /\ ∀ D ∈ Ds, lo ≤ D /\ w.heap[D]? = some (.deferred (some []))
theorem Marks.nil (lo : Nat) (w : World) : Marks lo w [] := ⟨[], rfl, List.nodup_nil, by simp⟩
theorem Marks.kp {F : Nat -> Prop} {lo : Nat} {w w' : World} {ds : List Deferred} (h : Marks lo w ds) (hk : Kp F w w') (hF : ∀ k, F k -> k < lo) : Marks lo w' ds := by
 obtain ⟨Ds, e, hn, h⟩ := h
 refine ⟨Ds, e, hn, fun D hD => ⟨(h D hD).1, ?_⟩⟩
 obtain ⟨h1, h2⟩ := h D hD
 exact (hk.block D (lt_of_block h2) fun hf => by have := hF D hf; omega).trans h2
theorem Marks.others {lo : Nat} {w w' : World} {ds : List Deferred} (h : Marks lo w ds) (hk : KeepsOthers w w') : Marks lo w' ds := by
 obtain ⟨Ds, e, hn, h⟩ := h
 exact ⟨Ds, e, hn, fun D hD => ⟨(h D hD).1, hk.same D _ (h D hD).2 rfl⟩⟩
theorem Marks.push {lo : Nat} {w w' : World} {ds : List Deferred} {D : Nat} (h : Marks lo w ds) (hk : ∀ (k : Nat) (o : Obj), w.heap[k]? = some o -> o.isCells = false -> w'.heap[k]? = some o) (hD : w.heap.size ≤ D) (hlo : lo ≤ D) (hd : w'.heap[D]? = some (.deferred (some []))) :
 Marks lo w' ({ target := .collected D, args := #[] } :: ds) := by
 obtain ⟨Ds, e, hn, h⟩ := h
 refine ⟨D :: Ds, by rw [e]; rfl, List.nodup_cons.2 ⟨fun hm => ?_, hn⟩, fun D' hD' => ?_⟩
 ·have := lt_of_block (h D hm).2; omega
 ·rcases List.mem_cons.1 hD' with rfl | hD'
  ·exact ⟨hlo, hd⟩
  ·exact ⟨(h D' hD').1, hk D' _ (h D' hD').2 rfl⟩
theorem fX {P : Program} {F : Fence} {n : Nat} {fn : Func} {tmps : Array Value} {R : Ending -> World -> Prop} {lo : Nat} {w : World} {ds : List Deferred} (h : Marks lo w ds)
 (hR : ∀ w', w'.os = w.os -> w'.tape = w.tape -> w'.output = w.output -> w'.heap.size = w.heap.size -> (∀ k : Nat, k < lo -> w'.heap[k]? = w.heap[k]?) -> (∀ (k : Nat) (o : Obj), w.heap[k]? = some o -> o.isCells = true -> w'.heap[k]? = some o) ->
  LeavesIn F n P fn tmps R [] .returning w') : LeavesInM F n P fn tmps R ds .returning w := by
 obtain ⟨Ds, rfl, hn, h⟩ := h
 induction Ds generalizing w with
 | nil => exact hR w rfl rfl rfl rfl (fun _ _ => rfl) (fun _ _ h _ => h)
 | cons D Ds ih =>
  obtain ⟨h1, h2⟩ := List.nodup_cons.1 hn
  obtain ⟨hlo, hD⟩ := h D (by simp)
  have hg := grownBy_putObj' w D (.deferred none)
  have hlt := lt_of_block hD
  refine ⟨by simp, .inl ⟨D, _, rfl, run_takeDeferred hD, ?_⟩⟩
  have hsz : (w.putObj D (.deferred none)).heap.size = w.heap.size := by simp [World.putObj]
  refine ih (fun w' e1 e2 e3 e4 e5 e6 => hR w' (e1.trans hg.os) (e2.trans hg.tape) (e3.trans hg.output) (e4.trans hsz) (fun k hk => (e5 k hk).trans (hg.block k (by omega) (by rintro ⟨⟩; omega))) (fun k o hk ho => ?_)) h2 (fun D' hD' => ?_)
  ·refine e6 k o ((hg.block k (lt_of_block hk) ?_).trans hk) ho
   rintro ⟨⟩
   rw [hD] at hk; cases hk; cases ho
  ·obtain ⟨h3, h4⟩ := h D' (List.mem_cons_of_mem _ hD')
   refine ⟨h3, (hg.block D' (lt_of_block h4) ?_).trans h4⟩
   rintro ⟨⟩
   exact h1 hD'
theorem Row.grown {e : TypeId} {k : Nat} {v : Value} {n : Nat} {xs : List Value} {M : Nat -> Prop} {W W' : World} {row : Option Nat} (h : Row W e k v n xs M) (hg : W.grownBy W' row) (hr : ∀ r, row = some r -> ∃ o : Obj, W.heap[r]? = some o /\ o.isCells = false) : Row W' e k v n xs M := by
 refine h.kp' (F := fun i => row = some i) ((Kp.refl W).grown hg fun i e _ => e) fun g hv _ hrow => ?_
 obtain ⟨o, ho, hc⟩ := hr g hrow
 obtain ⟨_, ⟨rfl, _⟩ | ⟨g', cap, rest', rfl, _, hB, _⟩⟩ := h
 ·cases hv
 ·cases hv
  unfold Blk at hB
  rw [hB] at ho; cases ho; cases hc
theorem Blk.grown {g : Nat} {cs : List Value} {e : TypeId} {W W' : World} {row : Option Nat} (h : Blk W g cs e) (hg : W.grownBy W' row) (hr : ∀ r, row = some r -> ∃ o : Obj, W.heap[r]? = some o /\ o.isCells = false) : Blk W' g cs e := by
 refine h.kp (F := fun i => row = some i) ((Kp.refl W).grown hg fun i e _ => e) fun hrow => ?_
 obtain ⟨o, ho, hc⟩ := hr g hrow
 unfold Blk at h
 rw [h] at ho; cases ho; cases hc
end
section
open Go.RowKit
theorem zQ {k n : Nat} (h : k + 1 < n) (hn : n ≤ 4611686018427387904) :
 IntKind.i64.wrap ((k : Int) + 1 - 1) = (k : Int) /\ IntKind.i64.wrap ((k : Int)) = (k : Int) /\ IntKind.i64.wrap ((k : Int) + 1) = (k : Int) + 1 /\ (0 : Int) ≤ (k : Int) + 1 /\ (k : Int) + 1 < (n : Int) /\ ((k : Int) + 1).toNat = k + 1 /\ k < n :=
 ⟨by rw [IntWalk.i64_in _ (by omega)]; omega, IntWalk.i64_in _ (by omega), IntWalk.i64_in _ (by omega), by omega, by omega, by omega, by omega⟩
/-! ### The order of a sort that keeps alike ones in their order: places held against each other -/
structure CmpLaw (c : Nat -> Nat -> Int) : Prop where
 swap : ∀ i j, c i j < 0 ↔ 0 < c j i
 trans : ∀ i j k, c i j ≤ 0 -> c j k ≤ 0 -> c i k ≤ 0
section
variable {c : Nat -> Nat -> Int}
variable (L : CmpLaw c)
include L
end
section
variable {c : Nat -> Nat -> Int}
end
theorem Blk.at {w : World} {g : Nat} {L : List Nat} {f : Nat -> Value} {rest : List Value} {e : TypeId} (h : Blk w g (L.map f ++ rest) e) (t : Nat) (ht : t < L.length) : w.cell? ⟨g, t, none⟩ = some (f (L.getD t 0)) := by
 rw [h.cell', List.getElem?_append_left (by simpa using ht)]
 simp [ht, List.getD]
theorem nZ {l : List Nat} {t : Nat} (h : t < l.length) : l.getD t 0 ∈ l := by
 simp [List.getD, h]
/-! ### Runs: neighbouring parts of the places, each in its order -/
def bQ (q : Nat -> Nat -> Bool) (C : List Nat) (k : Nat) : List Nat :=
 ((List.range k).filter fun j => j == 0 || !q (C.getD j 0) (C.getD (j - 1) 0)).map (C.getD · 0)
section
variable {q : Nat -> Nat -> Bool} {C : List Nat}
theorem zM : bQ q C 0 = [] := rfl
theorem aCd : bQ q C 1 = [C.getD 0 0] := rfl
theorem sJ {k : Nat} (hk : 0 < k) (h : q (C.getD k 0) (C.getD (k - 1) 0) = true) : bQ q C (k + 1) = bQ q C k := by
 unfold bQ
 have h0 : (k == 0) = false := by simp; omega
 simp only [List.range_succ, List.filter_append, List.filter_cons, List.filter_nil, h, h0, Bool.not_true, Bool.or_false]
 simp
theorem vA {k : Nat} (h : q (C.getD k 0) (C.getD (k - 1) 0) = false) : bQ q C (k + 1) = bQ q C k ++ [C.getD k 0] := by
 unfold bQ
 simp only [List.range_succ, List.filter_append, List.filter_cons, List.filter_nil, h, Bool.not_false, Bool.or_true]
 simp
theorem jU {k : Nat} (hk : k ≤ C.length) (h : ∀ j, 0 < j -> j < k -> q (C.getD j 0) (C.getD (j - 1) 0) = false) : bQ q C k = C.take k := by
 induction k with
 | zero => simp [zM]
 | succ k ih =>
  by_cases h0 : k = 0
  ·subst h0
   cases C with
   | nil => simp at hk
   | cons x C => simp [aCd]
  ·rw [vA (h k (by omega) (by omega)), ih (by omega) (fun j h1 h2 => h j h1 (by omega)), List.take_succ_eq_append_getElem (by omega), List.getD_eq_getElem?_getD, qG (by omega)]; rfl
end
def aH4 (n : Nat) (q : Nat -> Nat -> Bool) (C : List Nat) (F : Nat -> Prop) (w0 : World) (kv : Value) (w : World) : Prop :=
 ∃ k : Nat, 1 ≤ k /\ k ≤ n /\ kv = .int .i64 k /\ (∀ j, 0 < j -> j < k -> q (C.getD j 0) (C.getD (j - 1) 0) = false) /\ Kp F w0 w
def aH3 (n k0 : Nat) (q : Nat -> Nat -> Bool) (C : List Nat) (w0 : World) (g : Nat) (val : Nat -> Value) (rest : List Value) (e : TypeId) (kv jv : Value) (w : World) : Prop :=
 ∃ k j : Nat, 1 ≤ j /\ k0 + j ≤ n /\ kv = .int .i64 k /\ jv = .int .i64 j /\ k0 ≤ k /\ k < k0 + j /\ (bQ q C (k0 + j)).length = k /\ Kp (fun i => i = g) w0 w /\
  Blk w g ((bQ q C (k0 + j)).map val ++ (C.map val ++ rest).drop k) e
def aH0 (P : Program) (f : FuncId) (first captured : Array Value) (g n : Nat) (w0 : World) (val : Nat -> Value) (q : Nat -> Nat -> Bool) : Prop :=
 (∀ args w, (callFunc f args).run P w = .ok (Next.enter f args) w) /\ ∀ w, Kp (fun k => k = g) w0 w -> ∀ i j, i < n -> j < n -> Calls P f (first ++ (#[val i, val j] ++ captured)) w fun e w' => e = .returned (.bool (q i j)) /\ Ext w w'
theorem oA {K C : List Nat} {val : Nat -> Value} {rest : List Value} {k t : Nat} (hk : K.length = k) (ht : k ≤ t) (htC : t < C.length) :
 (K.map val ++ (C.map val ++ rest).drop k)[t]? = some (val (C.getD t 0)) := by
 rw [List.getElem?_append_right (by simp; omega), List.getElem?_drop, List.length_map, hk, show k + (t - k) = t by omega, List.getElem?_append_left (by simpa using htC), List.getElem?_map, List.getD_eq_getElem?_getD, qG htC]; rfl
theorem aAl {K C : List Nat} {val : Nat -> Value} {rest : List Value} {k x : Nat} (hk : K.length = k) (hc : k < C.length) :
 (K.map val ++ (C.map val ++ rest).drop k).set k (val x) = (K ++ [x]).map val ++ (C.map val ++ rest).drop (k + 1) := by
 rw [List.set_append_right _ _ (by simp; omega), List.length_map, hk, Nat.sub_self, List.drop_eq_getElem_cons (i := k) (by simp; omega), List.set_cons_zero]
 simp
end
section
structure OrdLaw {α : Type} (c : α -> α -> Int) : Prop where
 swap : ∀ x y, c x y < 0 ↔ 0 < c y x
 trans : ∀ x y z, c x y ≤ 0 -> c y z ≤ 0 -> c x z ≤ 0
section
variable {α : Type} {c : α -> α -> Int}
theorem OrdLaw.idx (L : OrdLaw c) {β : Type} (z : β -> α) : OrdLaw (fun i j => c (z i) (z j)) := ⟨fun i j => L.swap _ _, fun i j k => L.trans _ _ _⟩
theorem OrdLaw.zero (L : OrdLaw c) {x y : α} (h : c x y = 0) : c y x = 0 := by have := L.swap x y; have := L.swap y x; omega
theorem OrdLaw.refl (L : OrdLaw c) (x : α) : c x x = 0 := by have := L.swap x x; omega
theorem OrdLaw.asymm (L : OrdLaw c) {x y : α} (h : c x y < 0) (h' : c y x < 0) : False := by have := L.swap x y; omega
theorem OrdLaw.le_of (L : OrdLaw c) {x y : α} (h : ¬ c x y < 0) : c y x ≤ 0 := by have := L.swap x y; have := L.swap y x; omega
theorem OrdLaw.lt_trans (L : OrdLaw c) {x y z : α} (h : c x y < 0) (h' : c y z ≤ 0) : c x z < 0 := by
 have t := L.trans x y z (by omega) h'
 by_cases e : c x z < 0
 ·exact e
 ·have e0 := L.zero (show c x z = 0 by omega)
  have := L.trans y z x h' (by omega)
  have := L.swap x y; omega
variable (c)
def bA (L : List α) (x : α) : Bool := L.any fun y => c y x == 0
def below (L : List α) (x : α) : Nat := (L.filter fun y => decide (c y x < 0)).length
def cM (L : List α) (x : α) : List α := if bA c L x then L else L.take (below c L x) ++ x :: L.drop (below c L x)
def aB3 (xs : List α) : List α := xs.foldl (cM c) []
def Strict (L : List α) : Prop := L.Pairwise fun x y => c x y < 0
variable {c}
theorem below_le (L : List α) (x : α) : below c L x ≤ L.length := List.length_filter_le _ _
theorem lF {L : List α} {x : α} : bA c L x = true ↔ ∃ y ∈ L, c y x = 0 := by simp [bA]
theorem Strict.split (O : OrdLaw c) {L : List α} (h : Strict c L) (x : α) : (∀ y ∈ L.take (below c L x), c y x < 0) /\ ∀ y ∈ L.drop (below c L x), ¬ c y x < 0 := by
 induction L with
 | nil => simp [below]
 | cons a L ih =>
  obtain ⟨h1, h2⟩ := List.pairwise_cons.1 h
  obtain ⟨i1, i2⟩ := ih h2
  by_cases ha : c a x < 0
  ·have e : below c (a :: L) x = below c L x + 1 := by simp [below, ha]
   rw [e]
   simp only [List.take_succ_cons, List.drop_succ_cons]
   refine ⟨fun y hy => ?_, i2⟩
   rcases List.mem_cons.1 hy with rfl | hy
   ·exact ha
   ·exact i1 y hy
  ·have hL : ∀ y ∈ a :: L, ¬ c y x < 0 := by
    intro y hy
    rcases List.mem_cons.1 hy with rfl | hy
    ·exact ha
    ·intro hyx
     exact ha (O.lt_trans (h1 y hy) (by omega))
   have e : below c (a :: L) x = 0 := by
    unfold below
    rw [List.filter_eq_nil_iff.2 (fun y hy => by have := hL y hy; simp; omega)]; rfl
   rw [e]
   exact ⟨by simp, hL⟩
theorem Strict.place (O : OrdLaw c) {L : List α} (h : Strict c L) {x : α} {i : Nat} (hi : i ≤ L.length) (h1 : ∀ y, 0 < i -> L[i - 1]? = some y -> c y x < 0) (h2 : ∀ y, L[i]? = some y -> 0 ≤ c y x) :
 i = below c L x := by
 obtain ⟨s1, s2⟩ := h.split O x
 have hb := below_le (c := c) L x
 generalize hbb : below c L x = b at *
 rcases Nat.lt_trichotomy i b with hlt | heq | hgt
 ·have g : L[i]? = some (L[i]'(by omega)) := qG _
  have := h2 _ g
  have := s1 (L[i]'(by omega)) (List.mem_take_iff_getElem.2 ⟨i, by omega, rfl⟩)
  omega
 ·exact heq
 ·have g : L[i - 1]? = some (L[i - 1]'(by omega)) := qG _
  have := h1 _ (by omega) g
  have := s2 (L[i - 1]'(by omega)) (List.mem_drop_iff_getElem.2 ⟨i - 1 - b, by omega, by congr 1; omega⟩)
  omega
theorem Strict.there (O : OrdLaw c) {L : List α} (h : Strict c L) (x : α) : bA c L x = true ↔ ∃ y, L[below c L x]? = some y /\ c y x = 0 := by
 obtain ⟨s1, s2⟩ := h.split O x
 constructor
 ·intro hin
  obtain ⟨y, hy, hz⟩ := lF.1 hin
  obtain ⟨t, ht, rfl⟩ := List.mem_iff_getElem.1 hy
  have hb := below_le (c := c) L x
  generalize hbb : below c L x = b at *
  rcases Nat.lt_trichotomy t b with hlt | heq | hgt
  ·have := s1 (L[t]) (List.mem_take_iff_getElem.2 ⟨t, by omega, rfl⟩); omega
  ·exact ⟨L[t], by rw [<- heq]; exact qG _, hz⟩
  ·have hlt := List.pairwise_iff_getElem.1 h b t (by omega) ht hgt
   have := s2 (L[b]'(by omega)) (List.mem_drop_iff_getElem.2 ⟨0, by omega, by congr 1⟩)
   have := O.lt_trans hlt (show c L[t] x ≤ 0 by omega)
   contradiction
 ·rintro ⟨y, hy, hz⟩
  exact lF.2 ⟨y, List.mem_of_getElem? hy, hz⟩
theorem lD {L : List α} {x y : α} : y ∈ cM c L x ↔ y ∈ L \/ (y = x /\ bA c L x = false) := by
 unfold cM
 cases h : bA c L x
 ·simp only [Bool.false_eq_true, if_false]
  rw [List.mem_append, List.mem_cons]
  have e : y ∈ L ↔ y ∈ L.take (below c L x) \/ y ∈ L.drop (below c L x) := by rw [<- List.mem_append, List.take_append_drop]
  rw [e]
  constructor
  ·rintro (h | rfl | h)
   ·exact .inl (.inl h)
   ·exact .inr ⟨rfl, trivial⟩
   ·exact .inl (.inr h)
  ·rintro ((h | h) | ⟨rfl, _⟩)
   ·exact .inl h
   ·exact .inr (.inr h)
   ·exact .inr (.inl rfl)
 ·simp
theorem Strict.add (O : OrdLaw c) {L : List α} (h : Strict c L) (x : α) : Strict c (cM c L x) := by
 unfold cM
 cases hin : bA c L x
 ·simp only [Bool.false_eq_true, if_false]
  obtain ⟨s1, s2⟩ := h.split O x
  have hL : Strict c (L.take (below c L x) ++ L.drop (below c L x)) := by rw [List.take_append_drop]; exact h
  obtain ⟨p1, p2, p3⟩ := List.pairwise_append.1 hL
  refine List.pairwise_append.2 ⟨p1, List.pairwise_cons.2 ⟨fun y hy => ?_, p2⟩, fun y hy w hw => ?_⟩
  ·have h0 : ¬ c y x = 0 := fun e => by
    have := lF.2 ⟨y, List.mem_of_mem_drop hy, e⟩
    rw [hin] at this; cases this
   have := s2 y hy
   have := O.swap x y
   omega
  ·rcases List.mem_cons.1 hw with rfl | hw
   ·exact s1 y hy
   ·exact p3 y hy w hw
 ·simpa using h
theorem fB : Strict c ([] : List α) := List.Pairwise.nil
theorem Strict.new (O : OrdLaw c) (xs : List α) : Strict c (aB3 c xs) := by
 suffices h : ∀ (ys L : List α), Strict c L -> Strict c (ys.foldl (cM c) L) from h xs [] fB
 intro ys
 induction ys with
 | nil => exact fun L h => h
 | cons y ys ih => exact fun L h => ih _ (h.add O y)
theorem Strict.unique (O : OrdLaw c) : ∀ {a b : List α}, Strict c a -> Strict c b -> (∀ x, x ∈ a ↔ x ∈ b) -> a = b
 | [], [], _, _, _ => rfl
 | [], y :: b, _, _, h => by have := (h y).2 (by simp); simp at this
 | x :: a, [], _, _, h => by have := (h x).1 (by simp); simp at this
 | x :: a, y :: b, ha, hb, h => by
  obtain ⟨a1, a2⟩ := List.pairwise_cons.1 ha
  obtain ⟨b1, b2⟩ := List.pairwise_cons.1 hb
  have e : x = y := by
   rcases List.mem_cons.1 ((h x).1 (by simp)) with e | hx
   ·exact e
   ·rcases List.mem_cons.1 ((h y).2 (by simp)) with e | hy
    ·exact e.symm
    ·exact (O.asymm (b1 x hx) (a1 y hy)).elim
  subst e
  congr 1
  refine Strict.unique O a2 b2 fun z => ⟨fun hz => ?_, fun hz => ?_⟩
  ·rcases List.mem_cons.1 ((h z).1 (List.mem_cons_of_mem _ hz)) with rfl | hz'
   ·have := a1 z hz; have := O.refl z; omega
   ·exact hz'
  ·rcases List.mem_cons.1 ((h z).2 (List.mem_cons_of_mem _ hz)) with rfl | hz'
   ·have := b1 z hz; have := O.refl z; omega
   ·exact hz'
theorem yX {xs : List α} {x : α} (h : x ∈ aB3 c xs) : x ∈ xs := by
 suffices g : ∀ (ys L : List α), x ∈ ys.foldl (cM c) L -> x ∈ L \/ x ∈ ys from by simpa using g xs [] h
 intro ys
 induction ys with
 | nil => exact fun L h => .inl h
 | cons y ys ih =>
  intro L h
  rcases ih _ h with h | h
  ·rcases lD.1 h with h | ⟨rfl, _⟩
   ·exact .inl h
   ·exact .inr (by simp)
  ·exact .inr (List.mem_cons_of_mem _ h)
theorem oH (L : List α) (x : α) : (cM c L x).length = L.length + (if bA c L x then 0 else 1) := by
 have := below_le (c := c) L x
 unfold cM
 split <;> simp
 omega
theorem aHu {β : Type} (z : β -> α) (L : List β) (i : β) : cM c (L.map z) (z i) = (cM (fun i j => c (z i) (z j)) L i).map z := by
 have e1 : bA c (L.map z) (z i) = bA (fun i j => c (z i) (z j)) L i := by simp [bA, List.any_map, Function.comp_def]
 have e2 : below c (L.map z) (z i) = below (fun i j => c (z i) (z j)) L i := by simp [below, List.filter_map, Function.comp_def]
 unfold cM
 rw [e1, e2]
 split <;> simp
end
end
end Go.Proofs.YtikgpedgmnbcaaaGreatDoor
