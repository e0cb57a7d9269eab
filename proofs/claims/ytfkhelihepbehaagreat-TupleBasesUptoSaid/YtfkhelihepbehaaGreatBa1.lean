/- Texts joined for a claim (Base, Same, Marks, Arr, Keep, SetLaw, Arr2, Sl, Sl2, Cmp, SetLaw2, Lend, LawsPlain, Map, Takes, Read, Bulk, Shape, Arg, Draw, Flat, Shelf, MapRange, NoPanic, Ints, SwapRow). -/
import Derived.WalkKit
import Derived.WalkLawsBesides
import Derived.WalkSpells
import Derived.Lib.Hide
import Derived.RangeFuncNested
import Derived.RangeFuncBound
import Derived.RangeFuncCalls
import Derived.RangeFuncLeaves
import Derived.Shelf.Abstract
import Derived.Shelf.RegionOpen
import Derived.OwnWalkIn
import Derived.TacticsInMore
import Derived.LoopNIn
import Derived.LoopIn
import Derived.Lib.SliceRun
import Derived.Lib.Overlaps
import Derived.Lib.AppendZerosOnto
import Derived.Laws.Externs
import Derived.Laws.CopyOwn
import Derived.StillTailTactics
import Derived.Deep.QuietTactic
import Derived.BigQuiet
import Derived.Test.YtfkhelihepbehaaGreatProg
import Derived.WideKeyRuns
import Derived.MapKept
import Derived.Deep.RegionHeld3
import Derived.ProofKit
import Derived.OpenShut
import Derived.ShutString
import Derived.ChangeOld
import Derived.Carry
import Derived.SliceStrings
import Derived.SizedLaws
import Derived.JoinedCond
import Derived.Deep.Slices
import Derived.Test.YtfkhelihepbehaaGreatRows
import Derived.ChangeArms
import Derived.Shelf.SlGeneric
import Derived.Ground.SlsfProg
import Derived.Ground.GgzProg
import Derived.Shelf.SlSortCmp.NoneTotal
import Derived.Shelf.SlIter.Sorted
import Derived.Maps.RangeWalk
import Derived.BigRegion
/- The words of these proofs: worlds that keep old blocks, rows of cells, appends. No program in sight. -/
namespace Go.Proofs.YtfkhelihepbehaaGreat
open Go.RowKit
set_option linter.unusedVariables false

/-- It returned v and left the world alone. -/
def Ret (v : Value) (w : World) (e : Ending) (w' : World) : Prop := e = .returned v ∧ w = w'
theorem Ret.mk {v v' : Value} {w : World} (h : v = v') : Ret v w (.returned v') w := ⟨by rw [h], rfl⟩
/-- It returned v and only drew. -/
def RetD (v : Value) (w : World) (e : Ending) (w' : World) : Prop := e = .returned v ∧ ∃ n, w' = w.drewN n

theorem RetD.mk {v v' : Value} {w : World} (h : v = v') (n : Nat) : RetD v w (.returned v') (w.drewN n) := ⟨by rw [h], n, rfl⟩

theorem drew_ex2 (w : World) (n m : Nat) : ∃ k, (w.drewN n).drewN m = w.drewN k := ⟨_, World.drewN_drewN w n m⟩
theorem drew_ex3 (w : World) (n m : Nat) : ∃ k, ((w.drewN n).drewN m).drew = w.drewN k := ⟨_, by rw [World.drewN_drewN, World.drew_drewN]⟩
theorem RetD.mk' {v v' : Value} {w w' : World} (h : v = v') (hw : ∃ n, w' = w.drewN n) : RetD v w (.returned v') w' := ⟨by rw [h], hw⟩

/-- Blocks of w outside F are as they were. -/
structure Kp (F : Nat → Prop) (w w' : World) : Prop where
  os : w'.os = w.os
  tape : w'.tape = w.tape
  output : w'.output = w.output
  size : w.heap.size ≤ w'.heap.size
  block : ∀ k, k < w.heap.size → ¬ F k → w'.heap[k]? = w.heap[k]?

/-- All blocks of w are as they were. -/
abbrev Ext (w w' : World) : Prop := Kp (fun _ => False) w w'
/-- Blocks that came since w. -/
abbrev New (w : World) : Nat → Prop := fun g => w.heap.size ≤ g

theorem Kp.refl {F : Nat → Prop} (w : World) : Kp F w w := ⟨rfl, rfl, rfl, Nat.le_refl _, fun _ _ _ => rfl⟩
theorem Kp.trans' {F G : Nat → Prop} {a b c : World} (h : Kp F a b) (k : Kp G b c) (hg : ∀ i, i < a.heap.size → G i → F i) : Kp F a c :=
  ⟨k.os.trans h.os, k.tape.trans h.tape, k.output.trans h.output, Nat.le_trans h.size k.size, fun i hi hf =>
    (k.block i (Nat.lt_of_lt_of_le hi h.size) (fun g => hf (hg i hi g))).trans (h.block i hi hf)⟩
theorem Kp.trans {F : Nat → Prop} {a b c : World} (h : Kp F a b) (k : Kp F b c) : Kp F a c := h.trans' k fun _ _ g => g
theorem Kp.mono {F G : Nat → Prop} {a b : World} (h : Kp F a b) (hg : ∀ i, i < a.heap.size → F i → G i) : Kp G a b :=
  ⟨h.os, h.tape, h.output, h.size, fun i hi hf => h.block i hi fun x => hf (hg i hi x)⟩
theorem Kp.ext {F : Nat → Prop} {a b c : World} (h : Kp F a b) (k : Ext b c) : Kp F a c := h.trans' k fun _ _ g => g.elim
theorem Ext.kp {F : Nat → Prop} {a b : World} (h : Ext a b) : Kp F a b := h.mono fun _ _ x => x.elim
theorem Kp.alloc {F : Nat → Prop} {a b : World} (h : Kp F a b) (o : Obj) : Kp F a (b.alloc o) :=
  h.ext ⟨rfl, rfl, rfl, by simp, fun k hk _ => Below.heap_alloc _ _ _ hk⟩
theorem Kp.drew {F : Nat → Prop} {a b : World} (h : Kp F a b) : Kp F a b.drew := ⟨h.os, h.tape, h.output, h.size, h.block⟩
theorem Kp.drewN {F : Nat → Prop} {a b : World} (h : Kp F a b) (n : Nat) : Kp F a (b.drewN n) := ⟨h.os, h.tape, h.output, h.size, h.block⟩
theorem Kp.setCell {F : Nat → Prop} {a b : World} (h : Kp F a b) {p : Addr} (hp : p.block < a.heap.size → F p.block) (u : Value) : Kp F a (b.setCell p u) := by
  refine h.trans' (G := fun k => k = p.block) ⟨rfl, rfl, rfl, by simp [World.setCell], fun k hk hf => Below.heap_setCell _ _ _ _ hf⟩ ?_
  rintro i hi rfl
  exact hp hi
theorem Kp.below {w w' : World} (h : Ext w w') : Below w.heap.size w w' := ⟨h.os, h.tape, h.output, h.size, fun k hk => h.block k hk id⟩
theorem Kp.of_below {w w' : World} (h : Below w.heap.size w w') : Ext w w' := ⟨h.os, h.tape, h.output, h.size, fun k hk _ => h.block k hk⟩
theorem Kp.grown {F : Nat → Prop} {a b c : World} {row : Option Nat} (h : Kp F a b) (hg : b.grownBy c row) (hr : ∀ k, row = some k → k < a.heap.size → F k) : Kp F a c :=
  h.trans' (G := fun k => row = some k) ⟨hg.os, hg.tape, hg.output, hg.size, fun k hk hf => hg.block k hk fun e => hf e.symm⟩ fun i hi e => hr i e hi
theorem Kp.cell {F : Nat → Prop} {w w' : World} (h : Kp F w w') {b o : Nat} {v : Value} (hc : w.cell? ⟨b, o, none⟩ = some v) (hf : ¬ F b) : w'.cell? ⟨b, o, none⟩ = some v := by
  have hb : b < w.heap.size := World.block_lt_of_cell? _ _ hc
  rw [World.cell?_of_block (w := w) (h.block b hb hf)]; exact hc

/-- A block of cells, none frozen. -/
def Blk (w : World) (g : Nat) (cs : List Value) (e : TypeId) : Prop := w.heap[g]? = some (.cells cs.toArray e (0, 0))

section
variable {w w' : World} {g : Nat} {cs : List Value} {e : TypeId}
theorem Blk.lt (h : Blk w g cs e) : g < w.heap.size := lt_of_block h
theorem Blk.cell (h : Blk w g cs e) (i : Nat) (hi : i < cs.length) : w.cell? ⟨g, i, none⟩ = some cs[i] := by
  unfold Blk at h; simp [World.cell?, h, hi]
theorem Blk.cell' (h : Blk w g cs e) (i : Nat) : w.cell? ⟨g, i, none⟩ = cs[i]? := by
  unfold Blk at h; simp [World.cell?, h]
theorem Blk.free (h : Blk w g cs e) (i : Nat) : w.frozen? ⟨g, i, none⟩ = false := by
  unfold Blk at h; simp [World.frozen?, h]
theorem Blk.kp {F : Nat → Prop} (h : Blk w g cs e) (k : Kp F w w') (hf : ¬ F g) : Blk w' g cs e := (k.block g h.lt hf).trans h
theorem Blk.ext (h : Blk w g cs e) (k : Ext w w') : Blk w' g cs e := h.kp k id
theorem Blk.alloc (h : Blk w g cs e) (o : Obj) : Blk (w.alloc o) g cs e := h.ext ((Kp.refl w).alloc o)
theorem Blk.drew (h : Blk w g cs e) : Blk w.drew g cs e := h
theorem Blk.drewN (h : Blk w g cs e) (n : Nat) : Blk (w.drewN n) g cs e := h
theorem Blk.new (w : World) (cs : List Value) (e : TypeId) : Blk (w.alloc (.cells cs.toArray e)) w.heap.size cs e := by
  show (w.heap.push _)[w.heap.size]? = _; simp
theorem Blk.set (h : Blk w g cs e) (i : Nat) (v : Value) : Blk (w.setCell ⟨g, i, none⟩ v) g (cs.set i v) e := by
  unfold Blk at *
  simp only [World.setCell, Array.getElem?_modify, h]
  simp
theorem Blk.congrL {cs' : List Value} (h : Blk w g cs e) (hc : cs = cs') : Blk w g cs' e := hc ▸ h
theorem Blk.other (h : Blk w g cs e) {p : Addr} (hp : g ≠ p.block) (v : Value) : Blk (w.setCell p v) g cs e := by
  unfold Blk at *; rw [Below.heap_setCell _ _ _ _ hp]; exact h
end

/-- The cells from an address on. (An empty list asks nothing.) -/
def CellsAt (w : World) (ao : Option Addr) (vs : List Value) : Prop :=
  ∀ i u, vs[i]? = some u → ∃ b off, ao = some ⟨b, off, none⟩ ∧ w.cell? ⟨b, off + i, none⟩ = some u

/-- No address of F. -/
def Off (F : Nat → Prop) (ao : Option Addr) : Prop := ∀ a, ao = some a → ¬ F a.block

section
variable {w w' : World} {ao : Option Addr} {vs : List Value}
theorem CellsAt.nil (w : World) (ao : Option Addr) : CellsAt w ao [] := fun i u h => by simp at h
theorem CellsAt.kp {F : Nat → Prop} (h : CellsAt w ao vs) (k : Kp F w w') (hf : Off F ao) : CellsAt w' ao vs := fun i u hu => by
  obtain ⟨b, off, h1, h2⟩ := h i u hu
  exact ⟨b, off, h1, k.cell h2 (hf _ h1)⟩
theorem CellsAt.ext (h : CellsAt w ao vs) (k : Ext w w') : CellsAt w' ao vs := h.kp k fun _ _ => id
theorem CellsAt.alloc (h : CellsAt w ao vs) (o : Obj) : CellsAt (w.alloc o) ao vs := h.ext ((Kp.refl w).alloc o)
theorem CellsAt.drewN (h : CellsAt w ao vs) (n : Nat) : CellsAt (w.drewN n) ao vs := h.ext ((Kp.refl w).drewN n)
theorem CellsAt.getv (h : CellsAt w ao vs) {k : Nat} (hk : k < vs.length) : ∃ b off, ao = some ⟨b, off, none⟩ ∧ w.cell? ⟨b, off + k, none⟩ = some vs[k] :=
  h k _ (List.getElem?_eq_getElem hk)
theorem CellsAt.off (h : CellsAt w ao vs) (hv : vs ≠ []) : ∃ b off, ao = some ⟨b, off, none⟩ ∧ b < w.heap.size := by
  have hk : 0 < vs.length := by cases vs <;> simp_all
  obtain ⟨b, off, h1, h2⟩ := h.getv hk
  exact ⟨b, off, h1, World.block_lt_of_cell? _ _ h2⟩
theorem CellsAt.blk {g off : Nat} {cs : List Value} {e : TypeId} (h : Blk w g cs e) (n : Nat) : CellsAt w (some ⟨g, off, none⟩) ((cs.drop off).take n) := fun i u hu => by
  refine ⟨g, off, rfl, ?_⟩
  rw [h.cell']
  rw [List.getElem?_take] at hu
  split at hu
  · rw [List.getElem?_drop] at hu; exact hu
  · cases hu
theorem CellsAt.pre {g : Nat} {xs rest : List Value} {e : TypeId} (h : Blk w g (xs ++ rest) e) : CellsAt w (some ⟨g, 0, none⟩) xs := by
  have := CellsAt.blk (off := 0) h xs.length
  simpa using this
theorem CellsAt.one (w : World) (x : Value) (e : TypeId) : CellsAt (w.alloc (.cells #[x] e)) (some ⟨w.heap.size, 0, none⟩) [x] := by
  have := Blk.new w [x] e
  exact CellsAt.pre (rest := []) this
theorem CellsAt.two (w : World) (x y : Value) (e : TypeId) : CellsAt (w.alloc (.cells #[x, y] e)) (some ⟨w.heap.size, 0, none⟩) [x, y] := by
  have := Blk.new w [x, y] e
  exact CellsAt.pre (rest := []) this
end

def strs (ss : List ByteArray) : List Value := ss.map Value.string
theorem strs_get? (ss : List ByteArray) (k : Nat) (hk : k < ss.length) : (strs ss)[k]? = some (.string ss[k]) := by simp [strs, hk]
theorem strs_len (ss : List ByteArray) : (strs ss).length = ss.length := by simp [strs]
theorem CellsAt.str {w : World} {ao : Option Addr} {ss : List ByteArray} (h : CellsAt w ao (strs ss)) {k : Nat} (hk : k < ss.length) : ∃ b off, ao = some ⟨b, off, none⟩ ∧ w.cell? ⟨b, off + k, none⟩ = some (.string ss[k]) :=
  h k _ (strs_get? ss k hk)
/-- A slice that a call owns: nil, or from the head of a block of M on; n elements of k cells, xs; what is behind them is room. -/
def Row (w : World) (e : TypeId) (k : Nat) (v : Value) (n : Nat) (xs : List Value) (M : Nat → Prop) : Prop :=
  xs.length = n * k ∧ (v = .slice none 0 0 ∧ n = 0 ∨
    ∃ g cap rest, v = .slice (some ⟨g, 0, none⟩) n cap ∧ M g ∧ Blk w g (xs ++ rest) e ∧ (xs ++ rest).length = cap * k ∧ n ≤ cap ∧ cap ≤ maxLen)

section
variable {w w' : World} {e : TypeId} {k : Nat} {v : Value} {n : Nat} {xs : List Value} {M : Nat → Prop}
theorem Row.nil (w : World) (e : TypeId) (k : Nat) (M : Nat → Prop) : Row w e k (.slice none 0 0) 0 [] M := ⟨by simp, .inl ⟨rfl, rfl⟩⟩
theorem Row.mono {M' : Nat → Prop} (h : Row w e k v n xs M) (hm : ∀ g, M g → M' g) : Row w e k v n xs M' := by
  obtain ⟨h1, h2 | ⟨g, cap, rest, a, b, c⟩⟩ := h
  · exact ⟨h1, .inl h2⟩
  · exact ⟨h1, .inr ⟨g, cap, rest, a, hm g b, c⟩⟩
theorem Row.kp' {F : Nat → Prop} (h : Row w e k v n xs M) (hk : Kp F w w') (hf : ∀ g, v.ownBlock = some g → M g → ¬ F g) : Row w' e k v n xs M := by
  obtain ⟨h1, h2 | ⟨g, cap, rest, a, b, c, d⟩⟩ := h
  · exact ⟨h1, .inl h2⟩
  · exact ⟨h1, .inr ⟨g, cap, rest, a, b, c.kp hk (hf g (by rw [a]; rfl) b), d⟩⟩
theorem Row.kp {F : Nat → Prop} (h : Row w e k v n xs M) (hk : Kp F w w') (hf : ∀ g, M g → ¬ F g) : Row w' e k v n xs M := h.kp' hk fun g _ => hf g
theorem Row.ext (h : Row w e k v n xs M) (hk : Ext w w') : Row w' e k v n xs M := h.kp hk fun _ _ => id
theorem Row.alloc (h : Row w e k v n xs M) (o : Obj) : Row (w.alloc o) e k v n xs M := h.ext ((Kp.refl w).alloc o)
theorem Row.drew (h : Row w e k v n xs M) : Row w.drew e k v n xs M := h.ext ((Kp.refl w).drew)
theorem Row.shape (h : Row w e k v n xs M) : ∃ ao cap, v = .slice ao n cap ∧ CellsAt w ao xs ∧ n ≤ cap := by
  obtain ⟨h1, ⟨rfl, rfl⟩ | ⟨g, cap, rest, rfl, b, c, d, e, f⟩⟩ := h
  · have : xs = [] := List.eq_nil_of_length_eq_zero (by simpa using h1)
    subst this
    exact ⟨none, 0, rfl, CellsAt.nil _ _, Nat.le_refl _⟩
  · exact ⟨_, cap, rfl, CellsAt.pre c, e⟩
theorem Row.empty (w : World) (e : TypeId) (k : Nat) (M : Nat → Prop) (hM : M w.heap.size) : Row (w.alloc (.cells #[] e)) e k (.slice (some ⟨w.heap.size, 0, none⟩) 0 0) 0 [] M :=
  ⟨by simp, .inr ⟨_, 0, [], rfl, hM, Blk.new w [] e, by simp, Nat.le_refl _, by decide⟩⟩
theorem Row.block (h : Row w e k v n xs M) : ∀ g, v.ownBlock = some g → M g := by
  obtain ⟨h1, ⟨rfl, rfl⟩ | ⟨g, cap, rest, rfl, b, c, d⟩⟩ := h
  · intro g hg; cases hg
  · intro g' hg; cases hg; exact b
end

/-- A slice type t of elements e: k cells and 'bytes' bytes each, zero value z. -/
def ElemT (P : Program) (t e : TypeId) (k bytes : Nat) (z : Value) : Prop :=
  P.underlying t = some (.slice e) ∧ (P.info? e).map (fun i => (i.zero, i.size, i.bytes)) = some (some z, k, bytes) ∧ z.cells.size = k ∧ 0 < k

section
variable {P : Program} {w : World} {t e : TypeId} {k bytes : Nat} {z : Value}

theorem run_append_none' (E : ElemT P t e k bytes z) (ty : TypeId) {ao : Option Addr} {n cap : Nat} (hc : n ≤ cap) (ao' : Option Addr) (c : Nat) :
    (Builtin.append_ #[t, t] ty #[.slice ao n cap, .slice ao' 0 c]).run P w = .ok (.slice ao n cap) w := by
  obtain ⟨ht, hi, hz, hk⟩ := E
  obtain ⟨i, hi, h1, h2, h3⟩ := info_parts hi
  cases ao' <;> cases ao <;> simp [Builtin.append_, run_underlying ht, sizeOf, typeInfo, hi, Builtin.lenOf, Builtin.firstCells, loadCells, loadCellsFrom, hc, storeCells]

theorem run_app (E : ElemT P t e k bytes z) (ty : TypeId) {v : Value} {n : Nat} {xs : List Value} {M : Nat → Prop} (hr : Row w e k v n xs M)
    {ao : Option Addr} {m c : Nat} {news : List Value} (hl : news.length = m * k) (hs : CellsAt w ao news) (h1 : ∀ u ∈ news, u.oneCell' = true) (hb : (n + m) * bytes ≤ 140737488355328) (h63 : n + m ≤ maxLen) :
    ∃ v' w', (Builtin.append_ #[t, t] ty #[v, .slice ao m c]).run P w = .ok v' w' ∧ Row w' e k v' (n + m) (xs ++ news) (fun g => v.ownBlock = some g ∨ w.heap.size ≤ g) ∧ Kp (fun g => v.ownBlock = some g) w w' ∧ (v' = .slice none 0 0 ↔ v = .slice none 0 0 ∧ m = 0) := by
  by_cases hm : m = 0
  · subst hm
    have hn : news = [] := List.eq_nil_of_length_eq_zero (by simpa using hl)
    subst hn
    obtain ⟨ao1, cap1, rfl, _, hcap⟩ := hr.shape
    refine ⟨_, w, run_append_none' E ty hcap _ _, ?_, Kp.refl _, by simp⟩
    simp only [Nat.add_zero, List.append_nil]
    obtain ⟨h1, h2 | ⟨g, cap, rest, a, b, c⟩⟩ := hr
    · exact ⟨h1, .inl h2⟩
    · exact ⟨h1, .inr ⟨g, cap, rest, a, .inl (by rw [a]; rfl), c⟩⟩
  · have hne : news ≠ [] := by
      rintro rfl
      have h0 := Nat.mul_pos (Nat.pos_of_ne_zero hm) E.2.2.2
      simp only [List.length_nil] at hl; omega
    obtain ⟨b, off, rfl, hlt⟩ := hs.off hne
    have hsrc : ∀ j u, news[j]? = some u → w.cell? ((⟨b, off, none⟩ : Addr).add j) = some u := fun j u hu => by
      obtain ⟨b', off', he, hc⟩ := hs j u hu
      cases he
      rw [Addr.add_lit]; exact hc
    obtain ⟨ht, hi, hz, hk⟩ := E
    obtain ⟨i, hi, hz1, hz2, hz3⟩ := info_parts hi
    have hsmall : n + m ≤ 9223372036854775807 := h63
    have grown : ∀ old, (w.drew.alloc (.cells (xs.toArray ++ news.toArray ++ Builtin.zeroCells z.cells (grownCap w (n + m) old e - (n + m))) e)).heap[w.heap.size]? =
        some (.cells ((xs ++ news) ++ (Builtin.zeroCells z.cells (grownCap w (n + m) old e - (n + m))).toList).toArray e (0, 0)) := fun old => by
      show (w.heap.push _)[w.heap.size]? = _
      simp
    have lens : ∀ old, ((xs ++ news) ++ (Builtin.zeroCells z.cells (grownCap w (n + m) old e - (n + m))).toList).length = grownCap w (n + m) old e * k := fun old => by
      have hge := grownCap_ge w (n + m) old e
      simp only [List.length_append, Array.length_toList, size_zeroCells, hz, hr.1, hl, ← Nat.add_mul]
      congr 1; omega
    obtain ⟨hx, ⟨rfl, rfl⟩ | ⟨g, cap, rest, rfl, hM, hB, hlen, hnc, hcm⟩⟩ := hr
    · have hx0 : xs = [] := List.eq_nil_of_length_eq_zero (by simpa using hx)
      subst hx0
      have hr := run_append_nil (P := P) w t ty e i z ht hi hz1 ⟨b, off, none⟩ m c news (by rw [hz2]; exact hl) hsrc (by omega) (by omega) (by rw [hz3]; simp only [Nat.zero_add] at hb; omega)
      refine ⟨_, _, hr, ?_, ⟨rfl, rfl, rfl, by simp, fun k hk _ => Below.heap_alloc w.drew _ k hk⟩, by simp [hm]⟩
      have h0 := grown 0
      have h2 := lens 0
      simp only [Nat.zero_add, List.nil_append, Array.empty_append] at h0 h2 ⊢
      exact ⟨hl, .inr ⟨_, _, _, rfl, .inr (Nat.le_refl _), h0, h2, grownCap_ge w m 0 e, grownCap_le_maxLen w m 0 e (by omega)⟩⟩
    · by_cases hroom : n + m ≤ cap
      · have hr := run_append_room (P := P) w t ty e i ht hi g n cap _ hB ⟨b, off, none⟩ m c news (by rw [hz2]; exact hl) hsrc h1 hroom (by
            simp only [hz2, List.size_toArray, hlen, hl, ← Nat.add_mul]; exact Nat.mul_le_mul_right _ hroom)
        refine ⟨_, _, hr, ⟨by rw [List.length_append, hx, hl, Nat.add_mul], .inr ⟨g, cap, rest.drop news.length, rfl, .inl rfl, ?_, ?_, hroom, hcm⟩⟩, ⟨rfl, rfl, rfl, by simp, fun k _ hk => setRow_other w g k _ (fun e => hk (by simp [Value.ownBlock, e]))⟩, by simp⟩
        · show _ = _
          rw [setRow_heap w g _ _ e _ hB]
          congr 2
          simp only [hz2]
          rw [← hx]
          simp
        · have : news.length ≤ rest.length := by
            have := hlen
            simp only [List.length_append, hx] at this
            have h3 : (n + m) * k ≤ cap * k := Nat.mul_le_mul_right _ hroom
            rw [Nat.add_mul] at h3
            omega
          simp only [List.length_append, List.length_drop] at hlen ⊢
          omega
      · have holds : ∀ j u, xs[j]? = some u → w.cell? ((⟨g, 0, none⟩ : Addr).add j) = some u := fun j u hu => by
          rw [Addr.add_lit, Nat.zero_add, hB.cell', List.getElem?_append_left (List.getElem?_eq_some_iff.1 hu).1]; exact hu
        have hr := run_append_grow (P := P) w t ty e i z ht hi hz1 ⟨g, 0, none⟩ n cap xs (by rw [hz2]; exact hx) holds ⟨b, off, none⟩ m c news (by rw [hz2]; exact hl) hsrc (by omega) (by omega) (by rw [hz3]; exact growslice_fits (by omega) hb)
        exact ⟨_, _, hr, ⟨by rw [List.length_append, hx, hl, Nat.add_mul], .inr ⟨_, _, _, rfl, .inr (Nat.le_refl _), grown cap, lens cap, grownCap_ge w (n + m) cap e, grownCap_le_maxLen w (n + m) cap e (by omega)⟩⟩, ⟨rfl, rfl, rfl, by simp, fun k hk _ => Below.heap_alloc w.drew _ k hk⟩, by simp⟩

/-- The walk's law of an append onto a slice of the call's own. -/
theorem wp_app (E : ElemT P t e k bytes z) {ops : Array Oper} {rest : List Oper} {o : Oper} {a : Act} {Q : Exit → Act → World → Prop} (hgd : o.guard = none) (s x : Operand)
    (ho : o.op = .call { callee := .builtin .append, args := #[s, x], argTypes := #[t, t] })
    {F : Nat → Prop} {w0 : World} (hkp : Kp F w0 w) {M : Nat → Prop} (hM : ∀ g, M g → g < w0.heap.size → F g) (hN : ∀ g, w.heap.size ≤ g → M g)
    {v : Value} {n : Nat} {xs : List Value} (hs : a.eval s = v) (hr : Row w e k v n xs M)
    {ao : Option Addr} {m c : Nat} {news : List Value} (hx : a.eval x = .slice ao m c) (hl : news.length = m * k) (hsrc : CellsAt w ao news) (h1 : ∀ u ∈ news, u.oneCell' = true)
    (hb : (n + m) * bytes ≤ 140737488355328) (h63 : n + m ≤ maxLen)
    (h : ∀ v' w', Row w' e k v' (n + m) (xs ++ news) M → Kp F w0 w' → Kp (fun g => v.ownBlock = some g) w w' → (v' = .slice none 0 0 ↔ v = .slice none 0 0 ∧ m = 0) → wpList P ops Q rest (a.put o.dst v') w') : wpList P ops Q (o :: rest) a w := by
  refine wpList_plain hgd fun K hK => ?_
  obtain ⟨v', w', hrun, h2, h3, h4⟩ := run_app (P := P) E o.type hr hl hsrc h1 hb h63 (c := c)
  unfold Oper.wp execOp
  simp only [ho, resolve, invoke, builtin, Sem.run_bind, Sem.run_pure, Result.andThen_ok, List.map_toArray, List.map_cons, List.map_nil, hs, hx, hrun]
  refine hK _ _ (h v' w' (h2.mono fun g hg => ?_) (hkp.trans' h3 fun i hi hg => hM i (hr.block i hg) hi) h3 h4)
  rcases hg with hg | hg
  · exact hr.block g hg
  · exact hN g hg

/-- The same for a slice that came since w0. -/
theorem wp_appN (E : ElemT P t e k bytes z) {ops : Array Oper} {rest : List Oper} {o : Oper} {a : Act} {Q : Exit → Act → World → Prop} (hgd : o.guard = none) (s x : Operand)
    (ho : o.op = .call { callee := .builtin .append, args := #[s, x], argTypes := #[t, t] })
    {F : Nat → Prop} {w0 : World} (hkp : Kp F w0 w)
    {v : Value} {n : Nat} {xs : List Value} (hs : a.eval s = v) (hr : Row w e k v n xs (New w0))
    {ao : Option Addr} {m c : Nat} {news : List Value} (hx : a.eval x = .slice ao m c) (hsrc : CellsAt w ao news) (hl : news.length = m * k) (h1 : ∀ u ∈ news, u.oneCell' = true)
    (hb : (n + m) * bytes ≤ 140737488355328) (h63 : n + m ≤ maxLen)
    (h : ∀ v' w', Row w' e k v' (n + m) (xs ++ news) (New w0) → Kp F w0 w' → Kp (fun g => v.ownBlock = some g) w w' → (v' = .slice none 0 0 ↔ v = .slice none 0 0 ∧ m = 0) → wpList P ops Q rest (a.put o.dst v') w') : wpList P ops Q (o :: rest) a w :=
  wp_app E hgd s x ho hkp (fun g h1 h2 => absurd h2 (Nat.not_lt.2 h1)) (fun g h1 => Nat.le_trans hkp.size h1) hs hr hx hl hsrc h1 hb h63 h
end

/-- A place at which the walk is made to stop. -/
def Halted (p : Prop) : Prop := p
theorem Halted.out {p : Prop} (h : Halted p) : p := h
theorem Halted.mk {p : Prop} (h : p) : Halted p := h

/-- It returned a value, all old blocks are as they were, and P holds of the new world and the value. -/
def RetN (w : World) (P : World → Value → Prop) (e : Ending) (w' : World) : Prop := ∃ v, e = .returned v ∧ Ext w w' ∧ P w' v
theorem RetN.mk {w w' : World} {P : World → Value → Prop} {v : Value} (h : Ext w w') (hp : P w' v) : RetN w P (.returned v) w' := ⟨v, rfl, h, hp⟩
/-- The same where blocks of F may have been written. -/
def RetF (F : Nat → Prop) (w : World) (P : World → Value → Prop) (e : Ending) (w' : World) : Prop := ∃ v, e = .returned v ∧ Kp F w w' ∧ P w' v
theorem RetF.mk {F : Nat → Prop} {w w' : World} {P : World → Value → Prop} {v : Value} (h : Kp F w w') (hp : P w' v) : RetF F w P (.returned v) w' := ⟨v, rfl, h, hp⟩
end Go.Proofs.YtfkhelihepbehaaGreat

/- Worlds in which some blocks are as they were. No program in sight. -/
namespace Go.Proofs.YtfkhelihepbehaaGreat
open Go.RowKit
set_option linter.unusedVariables false

/-- Blocks of S lay in w0 and are the same in w. -/
def Same (S : Nat → Prop) (w0 w : World) : Prop := ∀ k, S k → k < w0.heap.size ∧ w.heap[k]? = w0.heap[k]?

section
variable {S S' : Nat → Prop} {w0 w w' : World}
theorem Same.refl (h : ∀ k, S k → k < w.heap.size) : Same S w w := fun k hk => ⟨h k hk, rfl⟩
theorem Same.trans (h : Same S w0 w) (h' : Same S w w') : Same S w0 w' := fun k hk => ⟨(h k hk).1, (h' k hk).2.trans (h k hk).2⟩
theorem Kp.same {F : Nat → Prop} (h : Kp F w w') (hS : ∀ k, S k → k < w.heap.size) (hd : ∀ k, S k → ¬ F k) : Same S w w' := fun k hk => ⟨hS k hk, h.block k (hS k hk) (hd k hk)⟩
end
theorem Row.lt {w : World} {e : TypeId} {k : Nat} {v : Value} {n : Nat} {xs : List Value} {M : Nat → Prop} (h : Row w e k v n xs M) : ∀ g, v.ownBlock = some g → g < w.heap.size := by
  obtain ⟨_, ⟨rfl, _⟩ | ⟨g, cap, rest, rfl, _, hb, _⟩⟩ := h
  · intro g hg; cases hg
  · intro g' hg
    have e : g = g' := Option.some.inj hg
    rw [← e]; exact hb.lt
theorem alloc_size (w : World) (o : Obj) : (w.alloc o).heap.size = w.heap.size + 1 := by simp
/-- What a set owns: its struct's block, its row's block. -/
def Owns (b : Nat) (iv : Value) (k : Nat) : Prop := k = b ∨ iv.ownBlock = some k
end Go.Proofs.YtfkhelihepbehaaGreat

/- A function that holds ranges over functions leaves with marks among its deferred calls; what an iterator over a slice keeps. No program in sight. -/
namespace Go.Proofs.YtfkhelihepbehaaGreat
open Go.RowKit Go.Shelf
set_option linter.unusedVariables false

/-- The blocks of S lie as they lay. -/
def SameOn (S : Nat → Prop) (w w' : World) : Prop := w.heap.size ≤ w'.heap.size ∧ ∀ k, S k → w'.heap[k]? = w.heap[k]?
theorem SameOn.refl (S : Nat → Prop) (w : World) : SameOn S w w := ⟨Nat.le_refl _, fun _ _ => rfl⟩
theorem SameOn.trans {S : Nat → Prop} {a b c : World} (h : SameOn S a b) (k : SameOn S b c) : SameOn S a c := ⟨Nat.le_trans h.1 k.1, fun i hi => (k.2 i hi).trans (h.2 i hi)⟩
theorem SameOn.put {S : Nat → Prop} {w : World} (hS : ∀ k, S k → k < w.heap.size) (W : World) (l : Nat) (o o' : Obj) (hl : w.heap.size ≤ l) (h : W.heap[l]? = some o) (_ : o.isCells = false) (_ : o.isWalk = false) : SameOn S W (W.putObj l o') := by
  have hg := grownBy_putObj' W l o'
  refine ⟨hg.size, fun k hk => hg.block k ?_ fun e => by have := hS k hk; cases e; omega⟩
  have := hS k hk
  have := (Array.getElem?_eq_some_iff.1 h).1
  omega
theorem SameOn.of_kp {F : Nat → Prop} {S : Nat → Prop} {w w' : World} (h : Kp F w w') (hS : ∀ k, S k → k < w.heap.size) (hd : ∀ k, S k → ¬ F k) : SameOn S w w' := ⟨h.size, fun k hk => h.block k (hS k hk) (hd k hk)⟩
theorem SameOn.cell {S : Nat → Prop} {w w' : World} (h : SameOn S w w') {b o : Nat} (hb : S b) : w'.cell? ⟨b, o, none⟩ = w.cell? ⟨b, o, none⟩ := World.cell?_of_block (h.2 b hb)

/-- Marks of loops that are over: their blocks are shut, came since lo, and none is there twice. -/
def Marks (lo : Nat) (w : World) (ds : List Deferred) : Prop :=
  ∃ Ds : List Nat, ds = Ds.map (fun D => { target := .collected D, args := #[] }) ∧ Ds.Nodup ∧ ∀ D ∈ Ds, lo ≤ D ∧ w.heap[D]? = some (.deferred (some []))
theorem Marks.nil (lo : Nat) (w : World) : Marks lo w [] := ⟨[], rfl, List.nodup_nil, by simp⟩
theorem Marks.kp {F : Nat → Prop} {lo : Nat} {w w' : World} {ds : List Deferred} (h : Marks lo w ds) (hk : Kp F w w') (hF : ∀ k, F k → k < lo) : Marks lo w' ds := by
  obtain ⟨Ds, e, hn, h⟩ := h
  refine ⟨Ds, e, hn, fun D hD => ⟨(h D hD).1, ?_⟩⟩
  obtain ⟨h1, h2⟩ := h D hD
  exact (hk.block D (lt_of_block h2) fun hf => by have := hF D hf; omega).trans h2
/-- Whatever is no cells lies as it lay. -/
theorem Marks.others {lo : Nat} {w w' : World} {ds : List Deferred} (h : Marks lo w ds) (hk : KeepsOthers w w') : Marks lo w' ds := by
  obtain ⟨Ds, e, hn, h⟩ := h
  exact ⟨Ds, e, hn, fun D hD => ⟨(h D hD).1, hk.same D _ (h D hD).2 rfl⟩⟩
theorem Marks.push {lo : Nat} {w w' : World} {ds : List Deferred} {D : Nat} (h : Marks lo w ds) (hk : ∀ (k : Nat) (o : Obj), w.heap[k]? = some o → o.isCells = false → w'.heap[k]? = some o) (hD : w.heap.size ≤ D) (hlo : lo ≤ D) (hd : w'.heap[D]? = some (.deferred (some []))) :
    Marks lo w' ({ target := .collected D, args := #[] } :: ds) := by
  obtain ⟨Ds, e, hn, h⟩ := h
  refine ⟨D :: Ds, by rw [e]; rfl, List.nodup_cons.2 ⟨fun hm => ?_, hn⟩, fun D' hD' => ?_⟩
  · have := lt_of_block (h D hm).2; omega
  · rcases List.mem_cons.1 hD' with rfl | hD'
    · exact ⟨hlo, hd⟩
    · exact ⟨(h D' hD').1, hk D' _ (h D' hD').2 rfl⟩

/-- The world behind the marks: blocks that came since lo and are no cells have turned alone. -/
theorem leaves_marks {P : Program} {F : Fence} {n : Nat} {fn : Func} {tmps : Array Value} {R : Ending → World → Prop} {lo : Nat} {w : World} {ds : List Deferred} (h : Marks lo w ds)
    (hR : ∀ w', w'.os = w.os → w'.tape = w.tape → w'.output = w.output → w'.heap.size = w.heap.size → (∀ k : Nat, k < lo → w'.heap[k]? = w.heap[k]?) → (∀ (k : Nat) (o : Obj), w.heap[k]? = some o → o.isCells = true → w'.heap[k]? = some o) →
      LeavesIn F n P fn tmps R [] .returning w') : LeavesInM F n P fn tmps R ds .returning w := by
  obtain ⟨Ds, rfl, hn, h⟩ := h
  induction Ds generalizing w with
  | nil => exact hR w rfl rfl rfl rfl (fun _ _ => rfl) (fun _ _ h _ => h)
  | cons D Ds ih =>
    obtain ⟨h1, h2⟩ := List.nodup_cons.1 hn
    obtain ⟨hlo, hD⟩ := h D (by simp)
    have hg := grownBy_putObj' w D (.deferred none)
    have hlt := lt_of_block hD
    refine ⟨by simp, .inl ⟨D, _, rfl, run_takeDeferred hD, ?_⟩⟩
    have hsz : (w.putObj D (.deferred none)).heap.size = w.heap.size := by simp [World.putObj]
    refine ih (fun w' e1 e2 e3 e4 e5 e6 => hR w' (e1.trans hg.os) (e2.trans hg.tape) (e3.trans hg.output) (e4.trans hsz) (fun k hk => (e5 k hk).trans (hg.block k (by omega) (by rintro ⟨⟩; omega))) (fun k o hk ho => ?_)) h2 (fun D' hD' => ?_)
    · refine e6 k o ((hg.block k (lt_of_block hk) ?_).trans hk) ho
      rintro ⟨⟩
      rw [hD] at hk; cases hk; cases ho
    · obtain ⟨h3, h4⟩ := h D' (List.mem_cons_of_mem _ hD')
      refine ⟨h3, (hg.block D' (lt_of_block h4) ?_).trans h4⟩
      rintro ⟨⟩
      exact h1 hD'

theorem Row.grown {e : TypeId} {k : Nat} {v : Value} {n : Nat} {xs : List Value} {M : Nat → Prop} {W W' : World} {row : Option Nat} (h : Row W e k v n xs M) (hg : W.grownBy W' row) (hr : ∀ r, row = some r → ∃ o : Obj, W.heap[r]? = some o ∧ o.isCells = false) : Row W' e k v n xs M := by
  refine h.kp' (F := fun i => row = some i) ((Kp.refl W).grown hg fun i e _ => e) fun g hv _ hrow => ?_
  obtain ⟨o, ho, hc⟩ := hr g hrow
  obtain ⟨_, ⟨rfl, _⟩ | ⟨g', cap, rest', rfl, _, hB, _⟩⟩ := h
  · cases hv
  · cases hv
    unfold Blk at hB
    rw [hB] at ho; cases ho; cases hc
theorem Blk.grown {g : Nat} {cs : List Value} {e : TypeId} {W W' : World} {row : Option Nat} (h : Blk W g cs e) (hg : W.grownBy W' row) (hr : ∀ r, row = some r → ∃ o : Obj, W.heap[r]? = some o ∧ o.isCells = false) : Blk W' g cs e := by
  refine h.kp (F := fun i => row = some i) ((Kp.refl W).grown hg fun i e _ => e) fun hrow => ?_
  obtain ⟨o, ho, hc⟩ := hr g hrow
  unfold Blk at h
  rw [h] at ho; cases ho; cases hc
end Go.Proofs.YtfkhelihepbehaaGreat

/- Rows of cells as lists: plain laws; the stable order of places. No program in sight. -/
namespace Go.Proofs.YtfkhelihepbehaaGreat
open Go.RowKit
set_option linter.unusedVariables false

theorem get_mid {α : Type} (u : List α) (x : α) (v : List α) (k : Nat) (hk : k = u.length) : (u ++ x :: v)[k]? = some x := by subst hk; simp
theorem set_mid {α : Type} (u : List α) (x y : α) (v : List α) (k : Nat) (hk : k = u.length) : (u ++ x :: v).set k y = u ++ y :: v := by subst hk; simp
/-- Two cells exchanged, in either order of the stores. -/
theorem swapCells {w : World} {g : Nat} {f : Nat → Value} {rest : List Value} {e : TypeId} {u v t : List Nat} {x y : Nat} (h : Blk w g ((u ++ x :: (v ++ y :: t)).map f ++ rest) e) {i j : Nat} (hi : i = u.length) (hj : j = u.length + 1 + v.length) :
    Blk ((w.setCell ⟨g, i, none⟩ (f y)).setCell ⟨g, j, none⟩ (f x)) g ((u ++ y :: (v ++ x :: t)).map f ++ rest) e ∧
    Blk ((w.setCell ⟨g, j, none⟩ (f x)).setCell ⟨g, i, none⟩ (f y)) g ((u ++ y :: (v ++ x :: t)).map f ++ rest) e ∧
    w.cell? ⟨g, i, none⟩ = some (f x) ∧ w.cell? ⟨g, j, none⟩ = some (f y) := by
  have e1 : ∀ a b, (u ++ a :: (v ++ b :: t)).map f ++ rest = u.map f ++ f a :: (v.map f ++ f b :: (t.map f ++ rest)) := by intro a b; simp
  have e2 : ∀ a b, (u ++ a :: (v ++ b :: t)).map f ++ rest = (u.map f ++ f a :: v.map f) ++ f b :: (t.map f ++ rest) := by intro a b; simp
  have l1 : i = (u.map f).length := by simpa using hi
  have l2 : ∀ a, j = (u.map f ++ f a :: v.map f).length := by intro a; simp; omega
  refine ⟨?_, ?_, ?_, ?_⟩
  · have h1 := h.set i (f y)
    rw [e1, set_mid _ _ _ _ _ l1, ← e1] at h1
    have h2 := h1.set j (f x)
    rw [e2, set_mid _ _ _ _ _ (l2 y), ← e2] at h2
    exact h2
  · have h1 := h.set j (f x)
    rw [e2, set_mid _ _ _ _ _ (l2 x), ← e2] at h1
    have h2 := h1.set i (f y)
    rw [e1, set_mid _ _ _ _ _ l1, ← e1] at h2
    exact h2
  · rw [h.cell', e1, get_mid _ _ _ _ l1]
  · rw [h.cell', e2, get_mid _ _ _ _ (l2 x)]

/-- What a drawn region must know of a sum that is an index. -/
theorem idx_facts {a b n : Nat} (h : a + b < n) (hn : n ≤ 4611686018427387904) :
    IntKind.i64.wrap ((a : Int) + (b : Int)) = (a : Int) + (b : Int) ∧ (0 : Int) ≤ (a : Int) + (b : Int) ∧ (a : Int) + (b : Int) < (n : Int) ∧ ((a : Int) + (b : Int)).toNat = a + b :=
  ⟨IntWalk.i64_in _ (by omega), by omega, by omega, by omega⟩

/-- What a drawn region must know of 'k + 1' and 'k + 1 - 1' as indexes. -/
theorem idx_pred {k n : Nat} (h : k + 1 < n) (hn : n ≤ 4611686018427387904) :
    IntKind.i64.wrap ((k : Int) + 1 - 1) = (k : Int) ∧ IntKind.i64.wrap ((k : Int)) = (k : Int) ∧ IntKind.i64.wrap ((k : Int) + 1) = (k : Int) + 1 ∧ (0 : Int) ≤ (k : Int) + 1 ∧ (k : Int) + 1 < (n : Int) ∧ ((k : Int) + 1).toNat = k + 1 ∧ k < n :=
  ⟨by rw [IntWalk.i64_in _ (by omega)]; omega, IntWalk.i64_in _ (by omega), IntWalk.i64_in _ (by omega), by omega, by omega, by omega, by omega⟩

/-- What a drawn region must know of the middle of two places. -/
theorem idx_half {i j n : Nat} (h : (i + j) / 2 < n) (hn : n ≤ 4611686018427387904) :
    IntKind.i64.wrap (((i : Int) + j) / 2) = ((i : Int) + j) / 2 ∧ (0 : Int) ≤ ((i : Int) + j) / 2 ∧ ((i : Int) + j) / 2 < (n : Int) ∧ (((i : Int) + j) / 2).toNat = (i + j) / 2 :=
  ⟨IntWalk.i64_in _ (by omega), by omega, by omega, by omega⟩

/-! ### The order of a sort that keeps alike ones in their order: places held against each other -/

/-- A comparison of places that goes as an order does. -/
structure CmpLaw (c : Nat → Nat → Int) : Prop where
  swap : ∀ i j, c i j < 0 ↔ 0 < c j i
  trans : ∀ i j k, c i j ≤ 0 → c j k ≤ 0 → c i k ≤ 0

/-- Place i stands ahead of place j. -/
def Ahead (c : Nat → Nat → Int) (i j : Nat) : Prop := c i j < 0 ∨ (c i j = 0 ∧ i < j)

section
variable {c : Nat → Nat → Int}
theorem Ahead.le {i j : Nat} (h : Ahead c i j) : c i j ≤ 0 := by rcases h with h | h <;> omega
variable (L : CmpLaw c)
include L
theorem CmpLaw.le_of {i j : Nat} (h : ¬ c i j < 0) : c j i ≤ 0 := by
  have := L.swap i j; have := L.swap j i; omega
theorem CmpLaw.zero {i j : Nat} (h : c i j = 0) : c j i = 0 := by
  have := L.swap i j; have := L.swap j i; omega
theorem Ahead.trans {i j k : Nat} (h1 : Ahead c i j) (h2 : Ahead c j k) : Ahead c i k := by
  have l := L.trans i j k (Ahead.le h1) (Ahead.le h2)
  by_cases e : c i k < 0
  · exact .inl e
  · have e0 : c i k = 0 := by omega
    have k0 := L.zero e0
    have t1 := L.trans j k i (Ahead.le h2) (by omega)
    have t2 := L.trans k i j (by omega) (Ahead.le h1)
    have s1 := L.swap i j
    have s2 := L.swap j k
    rcases h1 with h1 | ⟨h1, l1⟩
    · omega
    · rcases h2 with h2 | ⟨h2, l2⟩
      · omega
      · exact .inr ⟨e0, by omega⟩
theorem Ahead.of_not {i j : Nat} (h : ¬ c j i < 0) (hl : i < j) : Ahead c i j := by
  have h' := L.le_of h
  by_cases e : c i j < 0
  · exact .inl e
  · exact .inr ⟨by omega, hl⟩
end

/-- In the order. -/
def Sorted (c : Nat → Nat → Int) (l : List Nat) : Prop := l.Pairwise (Ahead c)

section
variable {c : Nat → Nat → Int}
theorem Sorted.append {a b : List Nat} : Sorted c (a ++ b) ↔ Sorted c a ∧ Sorted c b ∧ ∀ x ∈ a, ∀ y ∈ b, Ahead c x y := List.pairwise_append
theorem Sorted.nil : Sorted c [] := List.Pairwise.nil
theorem Sorted.one (x : Nat) : Sorted c [x] := List.pairwise_singleton _ _

/-- One more put in its place. -/
theorem Sorted.insert (L : CmpLaw c) {a b : List Nat} {x : Nat} (h : Sorted c (a ++ b)) (hb : ∀ y ∈ b, c x y < 0) (ha : ∀ y, a.getLast? = some y → Ahead c y x) : Sorted c (a ++ x :: b) := by
  obtain ⟨h1, h2, h3⟩ := Sorted.append.1 h
  refine Sorted.append.2 ⟨h1, List.pairwise_cons.2 ⟨fun y hy => .inl (hb y hy), h2⟩, ?_⟩
  have hx : ∀ y ∈ a, Ahead c y x := by
    intro y hy
    rcases List.eq_nil_or_concat a with rfl | ⟨a', l, rfl⟩
    · simp at hy
    · have hl := ha l (by simp)
      simp only [List.concat_eq_append, List.mem_append, List.mem_singleton] at hy
      rcases hy with hy | rfl
      · rw [List.concat_eq_append] at h1
        have := (Sorted.append.1 h1).2.2 y hy l (by simp)
        exact Ahead.trans L this hl
      · exact hl
  intro y hy w hw
  rcases List.mem_cons.1 hw with rfl | hw
  · exact hx y hy
  · exact h3 y hy w hw

end

/-- One round of the insertion sort. -/
theorem ins_step {c : Nat → Nat → Int} (L : CmpLaw c) {seg S R' S1 S2 : List Nat} {x : Nat}
    (hp : (S ++ x :: R').Perm seg) (hs : Sorted c S) (hr : (x :: R').Pairwise (· < ·)) (hsr : ∀ s ∈ S, ∀ r ∈ x :: R', s < r)
    (h : S = S1 ++ S2) (h2 : ∀ y ∈ S2, c x y < 0) (h1 : ∀ y, S1.getLast? = some y → ¬ c x y < 0) :
    (S1 ++ x :: S2 ++ R').Perm seg ∧ Sorted c (S1 ++ x :: S2) ∧ R'.Pairwise (· < ·) ∧ ∀ s ∈ S1 ++ x :: S2, ∀ r ∈ R', s < r := by
  subst h
  have hr' := List.pairwise_cons.1 hr
  refine ⟨?_, Sorted.insert L hs h2 fun y hy => ?_, hr'.2, ?_⟩
  · refine List.Perm.trans ?_ hp
    have : (S1 ++ x :: S2 ++ R').Perm (S1 ++ (S2 ++ x :: R')) := by
      rw [List.append_assoc]
      refine List.Perm.append_left S1 ?_
      exact (List.perm_middle (a := x) (l₁ := S2) (l₂ := R')).symm
    simpa using this
  · have hm : y ∈ S1 := List.mem_of_getLast? hy
    exact Ahead.of_not L (h1 y hy) (hsr y (by simp [hm]) x (by simp))
  · intro s hs' r hr''
    simp only [List.mem_append, List.mem_cons] at hs'
    rcases hs' with h | rfl | h
    · exact hsr s (by simp [h]) r (by simp [hr''])
    · exact hr'.1 r hr''
    · exact hsr s (by simp [h]) r (by simp [hr''])

theorem CmpLaw.lt_of_le_lt {c : Nat → Nat → Int} (L : CmpLaw c) {u y x : Nat} (h1 : c u y ≤ 0) (h2 : c y x < 0) : c u x < 0 := by
  have t := L.trans u y x h1 (by omega)
  by_cases e : c u x < 0
  · exact e
  · have t2 := L.trans x u y (L.le_of e) h1
    have := L.swap y x
    omega
theorem CmpLaw.lt_of_lt_le {c : Nat → Nat → Int} (L : CmpLaw c) {u y x : Nat} (h1 : c u y < 0) (h2 : c y x ≤ 0) : c u x < 0 := by
  have t := L.trans u y x (by omega) h2
  by_cases e : c u x < 0
  · exact e
  · have t2 := L.trans y x u h2 (L.le_of e)
    have := L.swap u y
    omega

theorem Blk.at {w : World} {g : Nat} {L : List Nat} {f : Nat → Value} {rest : List Value} {e : TypeId} (h : Blk w g (L.map f ++ rest) e) (t : Nat) (ht : t < L.length) : w.cell? ⟨g, t, none⟩ = some (f (L.getD t 0)) := by
  rw [h.cell', List.getElem?_append_left (by simpa using ht)]
  simp [ht, List.getD]

theorem getD_mid {u v : List Nat} {x t : Nat} (h : t = u.length) : (u ++ x :: v).getD t 0 = x := by subst h; simp [List.getD]
theorem getD_mem {l : List Nat} {t : Nat} (h : t < l.length) : l.getD t 0 ∈ l := by
  simp [List.getD, h]
theorem getD_in {u B v : List Nat} {t : Nat} (h1 : u.length ≤ t) (h2 : t < u.length + B.length) : (u ++ B ++ v).getD t 0 = B.getD (t - u.length) 0 := by
  simp only [List.getD]
  rw [List.append_assoc, List.getElem?_append_right h1, List.getElem?_append_left (by omega)]

/-- What a binary search has found in a sorted list: where it parts (the lower part stands strictly ahead of x). -/
theorem part_below {c : Nat → Nat → Int} (L : CmpLaw c) {B : List Nat} (hs : Sorted c B) {x i : Nat} (hi : i ≤ B.length) (h1 : i = 0 ∨ c (B.getD (i - 1) 0) x < 0) (h2 : i = B.length ∨ ¬ c (B.getD i 0) x < 0) :
    ∃ B1 B2, B = B1 ++ B2 ∧ B1.length = i ∧ (∀ y ∈ B1, c y x < 0) ∧ ∀ y ∈ B2, ¬ c y x < 0 := by
  refine ⟨B.take i, B.drop i, (List.take_append_drop i B).symm, by simp; omega, ?_, ?_⟩
  · have hs' : Sorted c (B.take i) := List.Pairwise.sublist (List.take_sublist i B) hs
    intro y hy
    rcases List.eq_nil_or_concat (B.take i) with h | ⟨l, z, h⟩
    · rw [h] at hy; simp at hy
    · rw [List.concat_eq_append] at h
      rw [h] at hy hs'
      have hl : l.length + 1 = i := by have := congrArg List.length h; simp at this; omega
      have hz : B.getD (i - 1) 0 = z := by
        have : B = l ++ z :: B.drop i := by have e := (List.take_append_drop i B).symm; rw [h, List.append_assoc] at e; exact e
        rw [this]; exact getD_mid (by omega)
      rcases h1 with h1 | h1
      · omega
      · rw [hz] at h1
        simp only [List.mem_append, List.mem_singleton] at hy
        rcases hy with hy | rfl
        · exact L.lt_of_le_lt (Ahead.le ((Sorted.append.1 hs').2.2 y hy z (by simp))) h1
        · exact h1
  · have hs' : Sorted c (B.drop i) := List.Pairwise.sublist (List.drop_sublist i B) hs
    intro y hy hc
    rcases h : B.drop i with _ | ⟨z, l⟩
    · rw [h] at hy; simp at hy
    · rw [h] at hy hs'
      have hz : B.getD i 0 = z := by
        have hl : i < B.length := by
          have := congrArg List.length h; simp at this; omega
        have : B = B.take i ++ z :: l := by have e := (List.take_append_drop i B).symm; rw [h] at e; exact e
        rw [this]; exact getD_mid (by simp; omega)
      rcases h2 with h2 | h2
      · subst h2; simp at h
      · rw [hz] at h2
        rcases List.mem_cons.1 hy with rfl | hy
        · exact h2 hc
        · exact h2 (L.lt_of_le_lt (Ahead.le (List.rel_of_pairwise_cons hs' hy)) hc)

/-- The same where x is held against the list's. -/
theorem part_above {c : Nat → Nat → Int} (L : CmpLaw c) {A : List Nat} (hs : Sorted c A) {x i : Nat} (hi : i ≤ A.length) (h1 : i = 0 ∨ ¬ c x (A.getD (i - 1) 0) < 0) (h2 : i = A.length ∨ c x (A.getD i 0) < 0) :
    ∃ A1 A2, A = A1 ++ A2 ∧ A1.length = i ∧ (∀ y ∈ A1, ¬ c x y < 0) ∧ ∀ y ∈ A2, c x y < 0 := by
  refine ⟨A.take i, A.drop i, (List.take_append_drop i A).symm, by simp; omega, ?_, ?_⟩
  · have hs' : Sorted c (A.take i) := List.Pairwise.sublist (List.take_sublist i A) hs
    intro y hy hc
    rcases List.eq_nil_or_concat (A.take i) with h | ⟨l, z, h⟩
    · rw [h] at hy; simp at hy
    · rw [List.concat_eq_append] at h
      rw [h] at hy hs'
      have hl : l.length + 1 = i := by have := congrArg List.length h; simp at this; omega
      have hz : A.getD (i - 1) 0 = z := by
        have : A = l ++ z :: A.drop i := by have e := (List.take_append_drop i A).symm; rw [h, List.append_assoc] at e; exact e
        rw [this]; exact getD_mid (by omega)
      rcases h1 with h1 | h1
      · omega
      · rw [hz] at h1
        simp only [List.mem_append, List.mem_singleton] at hy
        rcases hy with hy | rfl
        · exact h1 (L.lt_of_lt_le hc (Ahead.le ((Sorted.append.1 hs').2.2 y hy z (by simp))))
        · exact h1 hc
  · have hs' : Sorted c (A.drop i) := List.Pairwise.sublist (List.drop_sublist i A) hs
    intro y hy
    rcases h : A.drop i with _ | ⟨z, l⟩
    · rw [h] at hy; simp at hy
    · rw [h] at hy hs'
      have hz : A.getD i 0 = z := by
        have hl : i < A.length := by
          have := congrArg List.length h; simp at this; omega
        have : A = A.take i ++ z :: l := by have e := (List.take_append_drop i A).symm; rw [h] at e; exact e
        rw [this]; exact getD_mid (by simp; omega)
      rcases h2 with h2 | h2
      · subst h2; simp at h
      · rw [hz] at h2
        rcases List.mem_cons.1 hy with rfl | hy
        · exact h2
        · exact L.lt_of_lt_le h2 (Ahead.le (List.rel_of_pairwise_cons hs' hy))

/-- One element sunk into the list behind it. -/
theorem merge_one {c : Nat → Nat → Int} (L : CmpLaw c) {x : Nat} {B1 B2 : List Nat} (hs : Sorted c (B1 ++ B2)) (hlr : ∀ v ∈ B1 ++ B2, x < v) (h1 : ∀ y ∈ B1, c y x < 0) (h2 : ∀ y ∈ B2, ¬ c y x < 0) :
    (B1 ++ x :: B2).Perm (x :: (B1 ++ B2)) ∧ Sorted c (B1 ++ x :: B2) := by
  obtain ⟨s1, s2, s3⟩ := Sorted.append.1 hs
  refine ⟨List.perm_middle, Sorted.append.2 ⟨s1, List.pairwise_cons.2 ⟨fun y hy => Ahead.of_not L (h2 y hy) (hlr y (by simp [hy])), s2⟩, fun u hu v hv => ?_⟩⟩
  rcases List.mem_cons.1 hv with rfl | hv
  · exact .inl (h1 u hu)
  · exact s3 u hu v hv
/-- One element risen into the list ahead of it. -/
theorem merge_last {c : Nat → Nat → Int} (L : CmpLaw c) {x : Nat} {A1 A2 : List Nat} (hs : Sorted c (A1 ++ A2)) (hlr : ∀ v ∈ A1 ++ A2, v < x) (h1 : ∀ y ∈ A1, ¬ c x y < 0) (h2 : ∀ y ∈ A2, c x y < 0) :
    (A1 ++ x :: A2).Perm ((A1 ++ A2) ++ [x]) ∧ Sorted c (A1 ++ x :: A2) := by
  obtain ⟨s1, s2, s3⟩ := Sorted.append.1 hs
  refine ⟨(List.perm_middle).trans (List.perm_append_comm (l₁ := [x]) (l₂ := A1 ++ A2)), Sorted.append.2 ⟨s1, List.pairwise_cons.2 ⟨fun y hy => .inl (h2 y hy), s2⟩, fun u hu v hv => ?_⟩⟩
  rcases List.mem_cons.1 hv with rfl | hv
  · exact Ahead.of_not L (h1 u hu) (hlr u (by simp [hu]))
  · exact s3 u hu v hv

theorem Sorted.to_last {c : Nat → Nat → Int} {l : List Nat} {z u : Nat} (h : Sorted c (l ++ [z])) (hu : u ∈ l ++ [z]) : u = z ∨ Ahead c u z := by
  rcases List.mem_append.1 hu with hu | hu
  · exact .inr ((Sorted.append.1 h).2.2 u hu z (by simp))
  · left; simpa using hu
theorem Sorted.from_head {c : Nat → Nat → Int} {l : List Nat} {z v : Nat} (h : Sorted c (z :: l)) (hv : v ∈ z :: l) : z = v ∨ Ahead c z v := by
  rcases List.mem_cons.1 hv with rfl | hv
  · exact .inl rfl
  · exact .inr (List.rel_of_pairwise_cons h hv)
theorem ahead_chain {c : Nat → Nat → Int} (L : CmpLaw c) {u u0 v0 v : Nat} (h1 : u = u0 ∨ Ahead c u u0) (h : Ahead c u0 v0) (h2 : v0 = v ∨ Ahead c v0 v) : Ahead c u v := by
  have h3 : Ahead c u v0 := by rcases h1 with rfl | h1; exact h; exact Ahead.trans L h1 h
  rcases h2 with rfl | h2; exact h3; exact Ahead.trans L h3 h2

/-- Where the merge of two sorted halves cuts them. -/
theorem merge_cut {c : Nat → Nat → Int} (L : CmpLaw c) {p A B q : List Nat} {a m b mid lo hi s : Nat} (ea : a = p.length) (em : m = a + A.length) (eb : b = m + B.length) (hmid : mid = (a + b) / 2)
    (hsA : Sorted c A) (hsB : Sorted c B) (hlr : ∀ u ∈ A, ∀ v ∈ B, u < v) (hA : 0 < A.length) (hB : 0 < B.length)
    (hc : (mid < m ∧ lo = mid + m - b ∧ hi = mid) ∨ (m ≤ mid ∧ lo = a ∧ hi = m)) (h1 : lo ≤ s) (h2 : s ≤ hi)
    (h3 : s = lo ∨ ¬ c ((p ++ A ++ B ++ q).getD (mid + m - 1 - (s - 1)) 0) ((p ++ A ++ B ++ q).getD (s - 1) 0) < 0) (h4 : s = hi ∨ c ((p ++ A ++ B ++ q).getD (mid + m - 1 - s) 0) ((p ++ A ++ B ++ q).getD s 0) < 0) :
    ∃ A1 A2 B1 B2, A = A1 ++ A2 ∧ B = B1 ++ B2 ∧ a + A1.length = s ∧ m + B1.length = mid + m - s ∧ ∀ u ∈ A1 ++ B1, ∀ v ∈ A2 ++ B2, Ahead c u v := by
  have hsa : a ≤ s := by omega
  have hsm : s ≤ m := by omega
  have hem : m ≤ mid + m - s := by omega
  have heb : mid + m - s ≤ b := by omega
  obtain ⟨A1, A2, rfl, lA⟩ : ∃ A1 A2, A = A1 ++ A2 ∧ A1.length = s - a := ⟨_, _, (List.take_append_drop (s - a) A).symm, by simp; omega⟩
  obtain ⟨B1, B2, rfl, lB⟩ : ∃ B1 B2, B = B1 ++ B2 ∧ B1.length = mid - s := ⟨_, _, (List.take_append_drop (mid - s) B).symm, by simp; omega⟩
  simp only [List.length_append] at em eb
  refine ⟨A1, A2, B1, B2, rfl, rfl, by omega, by omega, fun u hu v hv => ?_⟩
  obtain ⟨sA1, sA2, sA3⟩ := Sorted.append.1 hsA
  obtain ⟨sB1, sB2, sB3⟩ := Sorted.append.1 hsB
  rcases List.mem_append.1 hu with hu | hu <;> rcases List.mem_append.1 hv with hv | hv
  · exact sA3 u hu v hv
  · rcases List.eq_nil_or_concat A1 with rfl | ⟨A1', u0, rfl⟩
    · simp at hu
    · rw [List.concat_eq_append] at *
      cases B2 with
      | nil => simp at hv
      | cons v0 B2' =>
        simp only [List.length_append, List.length_cons, List.length_nil] at *
        rcases h3 with h3 | h3
        · omega
        · rw [show p ++ (A1' ++ [u0] ++ A2) ++ (B1 ++ v0 :: B2') ++ q = (p ++ A1' ++ u0 :: A2 ++ B1) ++ v0 :: (B2' ++ q) by simp, getD_mid (by simp; omega)] at h3
          rw [show (p ++ A1' ++ u0 :: A2 ++ B1) ++ v0 :: (B2' ++ q) = (p ++ A1') ++ u0 :: (A2 ++ B1 ++ v0 :: (B2' ++ q)) by simp, getD_mid (by simp; omega)] at h3
          exact ahead_chain L (Sorted.to_last sA1 hu) (Ahead.of_not L h3 (hlr u0 (by simp) v0 (by simp))) (Sorted.from_head sB2 hv)
  · rcases List.eq_nil_or_concat B1 with rfl | ⟨B1', u0, rfl⟩
    · simp at hu
    · rw [List.concat_eq_append] at *
      cases A2 with
      | nil => simp at hv
      | cons v0 A2' =>
        simp only [List.length_append, List.length_cons, List.length_nil] at *
        rcases h4 with h4 | h4
        · omega
        · rw [show p ++ (A1 ++ v0 :: A2') ++ (B1' ++ [u0] ++ B2) ++ q = (p ++ A1 ++ v0 :: A2' ++ B1') ++ u0 :: (B2 ++ q) by simp, getD_mid (by simp; omega)] at h4
          rw [show (p ++ A1 ++ v0 :: A2' ++ B1') ++ u0 :: (B2 ++ q) = (p ++ A1) ++ v0 :: (A2' ++ B1' ++ u0 :: (B2 ++ q)) by simp, getD_mid (by simp; omega)] at h4
          exact ahead_chain L (Sorted.to_last sB1 hu) (.inl h4) (Sorted.from_head sA2 hv)
  · exact sB3 u hu v hv

/-- Both parts of a cut merge in their order: so is the whole. -/
theorem merge_both {c : Nat → Nat → Int} {A1 A2 B1 B2 C1 C2 : List Nat} (h : ∀ u ∈ A1 ++ B1, ∀ v ∈ A2 ++ B2, Ahead c u v) (p1 : C1.Perm (A1 ++ B1)) (s1 : Sorted c C1) (p2 : C2.Perm (A2 ++ B2)) (s2 : Sorted c C2) :
    (C1 ++ C2).Perm ((A1 ++ A2) ++ (B1 ++ B2)) ∧ Sorted c (C1 ++ C2) := by
  refine ⟨(p1.append p2).trans ?_, Sorted.append.2 ⟨s1, s2, fun u hu v hv => h u (p1.subset hu) v (p2.subset hv)⟩⟩
  rw [List.append_assoc, List.append_assoc]
  refine List.Perm.append_left A1 ?_
  rw [← List.append_assoc, ← List.append_assoc]
  exact List.Perm.append_right B2 List.perm_append_comm

/-! ### Runs: neighbouring parts of the places, each in its order -/
def Good (c : Nat → Nat → Int) : Nat → List (List Nat) → Prop
  | _, [] => True
  | s, A :: r => A.Perm (List.range' s A.length) ∧ Sorted c A ∧ Good c (s + A.length) r
def Full (bs : Nat) : List (List Nat) → Prop
  | [] => True
  | [A] => 0 < A.length ∧ A.length ≤ bs
  | A :: B :: r => A.length = bs ∧ Full bs (B :: r)
theorem Good.append {c : Nat → Nat → Int} : ∀ {s : Nat} {X Y : List (List Nat)}, Good c s (X ++ Y) ↔ Good c s X ∧ Good c (s + X.flatten.length) Y
  | s, [], Y => by simp [Good]
  | s, A :: X, Y => by
    simp only [List.cons_append, Good, Good.append (s := s + A.length) (X := X), List.flatten_cons, List.length_append, Nat.add_assoc, and_assoc]
theorem Full.all {bs : Nat} : ∀ {X : List (List Nat)} {C : List Nat}, (∀ A ∈ X, A.length = bs) → 0 < C.length → C.length ≤ bs → Full bs (X ++ [C])
  | [], C, _, h1, h2 => ⟨h1, h2⟩
  | [A], C, h, h1, h2 => ⟨h A (by simp), h1, h2⟩
  | A :: B :: X, C, h, h1, h2 => ⟨h A (by simp), Full.all (X := B :: X) (fun A' hA' => h A' (List.mem_cons_of_mem _ hA')) h1 h2⟩
theorem Full.all' {bs : Nat} (hbs : 0 < bs) {X : List (List Nat)} (h : ∀ A ∈ X, A.length = bs) : Full bs X := by
  rcases List.eq_nil_or_concat X with rfl | ⟨l, C, rfl⟩
  · trivial
  · rw [List.concat_eq_append] at *
    have hC := h C (by simp)
    exact Full.all (fun A hA => h A (by simp [hA])) (by omega) (by omega)
theorem Full.one {bs n : Nat} (hbs : 0 < bs) {Cs : List (List Nat)} (h : Full bs Cs) (hn : Cs.flatten.length = n) (hb : n ≤ bs) : Cs = [] ∨ ∃ A, Cs = [A] := by
  match Cs, h with
  | [], _ => exact .inl rfl
  | [A], _ => exact .inr ⟨A, rfl⟩
  | A :: B :: r, h =>
    exfalso
    obtain ⟨h1, h2⟩ := h
    have : 0 < B.length := by cases r with | nil => exact h2.1 | cons _ _ => have := h2.1; omega
    simp at hn; omega
theorem Full.two {bs : Nat} (hbs : 0 < bs) {Cs : List (List Nat)} (h : Full bs Cs) (hn : 2 * bs ≤ Cs.flatten.length) : ∃ A B r, Cs = A :: B :: r ∧ A.length = bs ∧ B.length = bs ∧ Full bs r := by
  match Cs, h with
  | [], _ => simp at hn; omega
  | [A], h => have := h.2; simp at hn; omega
  | [A, B], h => have h1 := h.1; have h2 := h.2.2; refine ⟨A, B, [], rfl, h1, ?_, trivial⟩; simp at hn; omega
  | A :: B :: D :: r, h => exact ⟨A, B, D :: r, rfl, h.1, h.2.1, h.2.2⟩
theorem Full.rest {bs : Nat} (hbs : 0 < bs) {Cs : List (List Nat)} (h : Full bs Cs) (hn : Cs.flatten.length < 2 * bs) : (Cs = [] ∨ ∃ A, Cs = [A] ∧ 0 < A.length ∧ A.length ≤ bs) ∨ ∃ A B, Cs = [A, B] ∧ A.length = bs ∧ 0 < B.length ∧ B.length < bs := by
  match Cs, h with
  | [], _ => exact .inl (.inl rfl)
  | [A], h => exact .inl (.inr ⟨A, rfl, h.1, h.2⟩)
  | [A, B], h => have h1 := h.1; have h2 := h.2.1; exact .inr ⟨A, B, rfl, h1, h2, by simp at hn; omega⟩
  | A :: B :: D :: r, h =>
    exfalso
    have h1 := h.1; have h2 := h.2.1
    simp at hn; omega
theorem range'_mem_lt {a k u : Nat} {A : List Nat} (h : A.Perm (List.range' a k)) (hu : u ∈ A) : a ≤ u ∧ u < a + k := by
  have := h.subset hu
  rw [List.mem_range'_1] at this; exact this
theorem merge_range {a j k : Nat} {A B C : List Nat} (hA : A.Perm (List.range' a j)) (hB : B.Perm (List.range' (a + j) k)) (hC : C.Perm (A ++ B)) : C.Perm (List.range' a (j + k)) := by
  refine hC.trans ((hA.append hB).trans ?_)
  rw [List.range'_append_1]

/-- Between two rounds of the first loop of the stable sort. -/
def Stable1 (c : Nat → Nat → Int) (n : Nat) (w0 : World) (g : Nat) (val : Nat → Value) (rest : List Value) (e : TypeId) (av bv : Value) (w : World) : Prop :=
  ∃ dn : List (List Nat), (∀ A ∈ dn, A.length = 20) ∧ Good c 0 dn ∧ dn.flatten.length ≤ n ∧ av = .int .i64 (dn.flatten.length : Nat) ∧ bv = .int .i64 ((dn.flatten.length + 20 : Nat) : Int) ∧ Kp (fun k => k = g) w0 w ∧
    Blk w g ((dn.flatten ++ List.range' dn.flatten.length (n - dn.flatten.length)).map val ++ rest) e
/-- Between two rounds of its outer loop of merges. -/
def Stable2 (c : Nat → Nat → Int) (n : Nat) (w0 : World) (g : Nat) (val : Nat → Value) (rest : List Value) (e : TypeId) (sv : Value) (w : World) : Prop :=
  ∃ (bs : Nat) (Cs : List (List Nat)), 0 < bs ∧ sv = .int .i64 bs ∧ Full bs Cs ∧ Good c 0 Cs ∧ Cs.flatten.length = n ∧ bs ≤ 2 * n + 20 ∧ Kp (fun k => k = g) w0 w ∧ Blk w g (Cs.flatten.map val ++ rest) e
/-- Between two rounds of its inner loop. -/
def Stable3 (c : Nat → Nat → Int) (n bs : Nat) (w0 : World) (g : Nat) (val : Nat → Value) (rest : List Value) (e : TypeId) (av bv : Value) (w : World) : Prop :=
  ∃ dn td : List (List Nat), (∀ A ∈ dn, A.length = 2 * bs) ∧ Full bs td ∧ Good c 0 (dn ++ td) ∧ (dn ++ td).flatten.length = n ∧ av = .int .i64 (dn.flatten.length : Nat) ∧ bv = .int .i64 ((dn.flatten.length + 2 * bs : Nat) : Int) ∧ Kp (fun k => k = g) w0 w ∧
    Blk w g ((dn ++ td).flatten.map val ++ rest) e

/-- Between two rounds of a binary search in [lo, hi): what stands below i is 'low' at its end, what stands from j on is 'high' at its beginning. -/
def Search (lo hi : Nat) (low high : Nat → Prop) (F : Nat → Prop) (w0 : World) (g : Nat) (cells : List Value) (e : TypeId) (iv jv : Value) (w : World) : Prop :=
  ∃ i j : Nat, lo ≤ i ∧ i ≤ j ∧ j ≤ hi ∧ iv = .int .i64 i ∧ jv = .int .i64 j ∧ (i = lo ∨ low (i - 1)) ∧ (j = hi ∨ high j) ∧ Kp F w0 w ∧ Blk w g cells e

/-- Between two rounds of an element's way through a row. -/
def Sinking (a i : Nat) (B1 : List Nat) (w0 : World) (g : Nat) (cells : List Nat → List Nat → List Value) (e : TypeId) (kv : Value) (w : World) : Prop :=
  ∃ (k : Nat) (U V : List Nat), a ≤ k ∧ k ≤ i ∧ kv = .int .i64 k ∧ B1 = U ++ V ∧ k = a + U.length ∧ Kp (fun k => k = g) w0 w ∧ Blk w g (cells U V) e

/-- A comparison that the sort may call: of any two of the row's first n values, in every world in which nothing but the row's block has turned. -/
def CmpOn (P : Program) (f : FuncId) (first captured : Array Value) (g n : Nat) (w0 : World) (val : Nat → Value) (c : Nat → Nat → Int) : Prop :=
  (∀ args w, (callFunc f args).run P w = .ok (Next.enter f args) w) ∧ ∀ w, Kp (fun k => k = g) w0 w → ∀ i j, i < n → j < n → Calls P f (first ++ (#[val i, val j] ++ captured)) w fun e w' => e = .returned (.int .i64 (c i j)) ∧ Ext w w'
end Go.Proofs.YtfkhelihepbehaaGreat

/- What slices.Compact keeps: no program in sight. -/
namespace Go.Proofs.YtfkhelihepbehaaGreat
open Go.RowKit
set_option linter.unusedVariables false

/-- Of the first k of C: those that are not alike their neighbour ahead. -/
def keepTo (q : Nat → Nat → Bool) (C : List Nat) (k : Nat) : List Nat :=
  ((List.range k).filter fun j => j == 0 || !q (C.getD j 0) (C.getD (j - 1) 0)).map (C.getD · 0)

section
variable {q : Nat → Nat → Bool} {C : List Nat}
theorem keepTo_zero : keepTo q C 0 = [] := rfl
theorem keepTo_one : keepTo q C 1 = [C.getD 0 0] := rfl
theorem keepTo_yes {k : Nat} (hk : 0 < k) (h : q (C.getD k 0) (C.getD (k - 1) 0) = true) : keepTo q C (k + 1) = keepTo q C k := by
  unfold keepTo
  have h0 : (k == 0) = false := by simp; omega
  simp only [List.range_succ, List.filter_append, List.filter_cons, List.filter_nil, h, h0, Bool.not_true, Bool.or_false]
  simp
theorem keepTo_no {k : Nat} (h : q (C.getD k 0) (C.getD (k - 1) 0) = false) : keepTo q C (k + 1) = keepTo q C k ++ [C.getD k 0] := by
  unfold keepTo
  simp only [List.range_succ, List.filter_append, List.filter_cons, List.filter_nil, h, Bool.not_false, Bool.or_true]
  simp
theorem keepTo_all {k : Nat} (hk : k ≤ C.length) (h : ∀ j, 0 < j → j < k → q (C.getD j 0) (C.getD (j - 1) 0) = false) : keepTo q C k = C.take k := by
  induction k with
  | zero => simp [keepTo_zero]
  | succ k ih =>
    by_cases h0 : k = 0
    · subst h0
      cases C with
      | nil => simp at hk
      | cons x C => simp [keepTo_one]
    · rw [keepTo_no (h k (by omega) (by omega)), ih (by omega) (fun j h1 h2 => h j h1 (by omega)), List.take_succ_eq_append_getElem (by omega), List.getD_eq_getElem?_getD, List.getElem?_eq_getElem (by omega)]; rfl
end

/-- Between two rounds of the first loop. -/
def Compact1 (n : Nat) (q : Nat → Nat → Bool) (C : List Nat) (F : Nat → Prop) (w0 : World) (kv : Value) (w : World) : Prop :=
  ∃ k : Nat, 1 ≤ k ∧ k ≤ n ∧ kv = .int .i64 k ∧ (∀ j, 0 < j → j < k → q (C.getD j 0) (C.getD (j - 1) 0) = false) ∧ Kp F w0 w
/-- Between two rounds of the second one. -/
def Compact2 (n k0 : Nat) (q : Nat → Nat → Bool) (C : List Nat) (w0 : World) (g : Nat) (val : Nat → Value) (rest : List Value) (e : TypeId) (kv jv : Value) (w : World) : Prop :=
  ∃ k j : Nat, 1 ≤ j ∧ k0 + j ≤ n ∧ kv = .int .i64 k ∧ jv = .int .i64 j ∧ k0 ≤ k ∧ k < k0 + j ∧ (keepTo q C (k0 + j)).length = k ∧ Kp (fun i => i = g) w0 w ∧
    Blk w g ((keepTo q C (k0 + j)).map val ++ (C.map val ++ rest).drop k) e

/-- A likeness that Compact may ask. -/
def LikeOn (P : Program) (f : FuncId) (first captured : Array Value) (g n : Nat) (w0 : World) (val : Nat → Value) (q : Nat → Nat → Bool) : Prop :=
  (∀ args w, (callFunc f args).run P w = .ok (Next.enter f args) w) ∧ ∀ w, Kp (fun k => k = g) w0 w → ∀ i j, i < n → j < n → Calls P f (first ++ (#[val i, val j] ++ captured)) w fun e w' => e = .returned (.bool (q i j)) ∧ Ext w w'

theorem compact_cell {K C : List Nat} {val : Nat → Value} {rest : List Value} {k t : Nat} (hk : K.length = k) (ht : k ≤ t) (htC : t < C.length) :
    (K.map val ++ (C.map val ++ rest).drop k)[t]? = some (val (C.getD t 0)) := by
  rw [List.getElem?_append_right (by simp; omega), List.getElem?_drop, List.length_map, hk, show k + (t - k) = t by omega, List.getElem?_append_left (by simpa using htC), List.getElem?_map, List.getD_eq_getElem?_getD, List.getElem?_eq_getElem htC]; rfl
theorem compact_set {K C : List Nat} {val : Nat → Value} {rest : List Value} {k x : Nat} (hk : K.length = k) (hc : k < C.length) :
    (K.map val ++ (C.map val ++ rest).drop k).set k (val x) = (K ++ [x]).map val ++ (C.map val ++ rest).drop (k + 1) := by
  rw [List.set_append_right _ _ (by simp; omega), List.length_map, hk, Nat.sub_self, List.drop_eq_getElem_cons (i := k) (by simp; omega), List.set_cons_zero]
  simp
end Go.Proofs.YtfkhelihepbehaaGreat

/- Sets in an order: plain laws, no program in sight. -/
namespace Go.Proofs.YtfkhelihepbehaaGreat
set_option linter.unusedVariables false

/-- A comparison that goes as an order does. -/
structure OrdLaw {α : Type} (c : α → α → Int) : Prop where
  swap : ∀ x y, c x y < 0 ↔ 0 < c y x
  trans : ∀ x y z, c x y ≤ 0 → c y z ≤ 0 → c x z ≤ 0

section
variable {α : Type} {c : α → α → Int}
theorem OrdLaw.idx (L : OrdLaw c) {β : Type} (z : β → α) : OrdLaw (fun i j => c (z i) (z j)) := ⟨fun i j => L.swap _ _, fun i j k => L.trans _ _ _⟩
theorem OrdLaw.nat {c : Nat → Nat → Int} (L : OrdLaw c) : CmpLaw c := ⟨L.swap, L.trans⟩
theorem OrdLaw.zero (L : OrdLaw c) {x y : α} (h : c x y = 0) : c y x = 0 := by have := L.swap x y; have := L.swap y x; omega
theorem OrdLaw.refl (L : OrdLaw c) (x : α) : c x x = 0 := by have := L.swap x x; omega
theorem OrdLaw.asymm (L : OrdLaw c) {x y : α} (h : c x y < 0) (h' : c y x < 0) : False := by have := L.swap x y; omega
theorem OrdLaw.le_of (L : OrdLaw c) {x y : α} (h : ¬ c x y < 0) : c y x ≤ 0 := by have := L.swap x y; have := L.swap y x; omega
theorem OrdLaw.lt_trans (L : OrdLaw c) {x y z : α} (h : c x y < 0) (h' : c y z ≤ 0) : c x z < 0 := by
  have t := L.trans x y z (by omega) h'
  by_cases e : c x z < 0
  · exact e
  · have e0 := L.zero (show c x z = 0 by omega)
    have := L.trans y z x h' (by omega)
    have := L.swap x y; omega
variable (c)
def isIn (L : List α) (x : α) : Bool := L.any fun y => c y x == 0
def below (L : List α) (x : α) : Nat := (L.filter fun y => decide (c y x < 0)).length
def addS (L : List α) (x : α) : List α := if isIn c L x then L else L.take (below c L x) ++ x :: L.drop (below c L x)
def dropS (L : List α) (x : α) : List α := if isIn c L x then L.take (below c L x) ++ L.drop (below c L x + 1) else L
def newS (xs : List α) : List α := xs.foldl (addS c) []
def Strict (L : List α) : Prop := L.Pairwise fun x y => c x y < 0
variable {c}

theorem below_le (L : List α) (x : α) : below c L x ≤ L.length := List.length_filter_le _ _

theorem isIn_iff {L : List α} {x : α} : isIn c L x = true ↔ ∃ y ∈ L, c y x = 0 := by simp [isIn]

/-- In a strict list those below x are its beginning. -/
theorem Strict.split (O : OrdLaw c) {L : List α} (h : Strict c L) (x : α) : (∀ y ∈ L.take (below c L x), c y x < 0) ∧ ∀ y ∈ L.drop (below c L x), ¬ c y x < 0 := by
  induction L with
  | nil => simp [below]
  | cons a L ih =>
    obtain ⟨h1, h2⟩ := List.pairwise_cons.1 h
    obtain ⟨i1, i2⟩ := ih h2
    by_cases ha : c a x < 0
    · have e : below c (a :: L) x = below c L x + 1 := by simp [below, ha]
      rw [e]
      simp only [List.take_succ_cons, List.drop_succ_cons]
      refine ⟨fun y hy => ?_, i2⟩
      rcases List.mem_cons.1 hy with rfl | hy
      · exact ha
      · exact i1 y hy
    · have hL : ∀ y ∈ a :: L, ¬ c y x < 0 := by
        intro y hy
        rcases List.mem_cons.1 hy with rfl | hy
        · exact ha
        · intro hyx
          exact ha (O.lt_trans (h1 y hy) (by omega))
      have e : below c (a :: L) x = 0 := by
        unfold below
        rw [List.filter_eq_nil_iff.2 (fun y hy => by have := hL y hy; simp; omega)]; rfl
      rw [e]
      exact ⟨by simp, hL⟩

/-- The place that a search finds. -/
theorem Strict.place (O : OrdLaw c) {L : List α} (h : Strict c L) {x : α} {i : Nat} (hi : i ≤ L.length) (h1 : ∀ y, 0 < i → L[i - 1]? = some y → c y x < 0) (h2 : ∀ y, L[i]? = some y → 0 ≤ c y x) :
    i = below c L x := by
  obtain ⟨s1, s2⟩ := h.split O x
  have hb := below_le (c := c) L x
  generalize hbb : below c L x = b at *
  rcases Nat.lt_trichotomy i b with hlt | heq | hgt
  · have g : L[i]? = some (L[i]'(by omega)) := List.getElem?_eq_getElem _
    have := h2 _ g
    have := s1 (L[i]'(by omega)) (List.mem_take_iff_getElem.2 ⟨i, by omega, rfl⟩)
    omega
  · exact heq
  · have g : L[i - 1]? = some (L[i - 1]'(by omega)) := List.getElem?_eq_getElem _
    have := h1 _ (by omega) g
    have := s2 (L[i - 1]'(by omega)) (List.mem_drop_iff_getElem.2 ⟨i - 1 - b, by omega, by congr 1; omega⟩)
    omega
theorem Strict.there (O : OrdLaw c) {L : List α} (h : Strict c L) (x : α) : isIn c L x = true ↔ ∃ y, L[below c L x]? = some y ∧ c y x = 0 := by
  obtain ⟨s1, s2⟩ := h.split O x
  constructor
  · intro hin
    obtain ⟨y, hy, hz⟩ := isIn_iff.1 hin
    obtain ⟨t, ht, rfl⟩ := List.mem_iff_getElem.1 hy
    have hb := below_le (c := c) L x
    generalize hbb : below c L x = b at *
    rcases Nat.lt_trichotomy t b with hlt | heq | hgt
    · have := s1 (L[t]) (List.mem_take_iff_getElem.2 ⟨t, by omega, rfl⟩); omega
    · exact ⟨L[t], by rw [← heq]; exact List.getElem?_eq_getElem _, hz⟩
    · have hlt := List.pairwise_iff_getElem.1 h b t (by omega) ht hgt
      have := s2 (L[b]'(by omega)) (List.mem_drop_iff_getElem.2 ⟨0, by omega, by congr 1⟩)
      have := O.lt_trans hlt (show c L[t] x ≤ 0 by omega)
      contradiction
  · rintro ⟨y, hy, hz⟩
    exact isIn_iff.2 ⟨y, List.mem_of_getElem? hy, hz⟩

theorem mem_addS {L : List α} {x y : α} : y ∈ addS c L x ↔ y ∈ L ∨ (y = x ∧ isIn c L x = false) := by
  unfold addS
  cases h : isIn c L x
  · simp only [Bool.false_eq_true, if_false]
    rw [List.mem_append, List.mem_cons]
    have e : y ∈ L ↔ y ∈ L.take (below c L x) ∨ y ∈ L.drop (below c L x) := by rw [← List.mem_append, List.take_append_drop]
    rw [e]
    constructor
    · rintro (h | rfl | h)
      · exact .inl (.inl h)
      · exact .inr ⟨rfl, trivial⟩
      · exact .inl (.inr h)
    · rintro ((h | h) | ⟨rfl, _⟩)
      · exact .inl h
      · exact .inr (.inr h)
      · exact .inr (.inl rfl)
  · simp
theorem Strict.add (O : OrdLaw c) {L : List α} (h : Strict c L) (x : α) : Strict c (addS c L x) := by
  unfold addS
  cases hin : isIn c L x
  · simp only [Bool.false_eq_true, if_false]
    obtain ⟨s1, s2⟩ := h.split O x
    have hL : Strict c (L.take (below c L x) ++ L.drop (below c L x)) := by rw [List.take_append_drop]; exact h
    obtain ⟨p1, p2, p3⟩ := List.pairwise_append.1 hL
    refine List.pairwise_append.2 ⟨p1, List.pairwise_cons.2 ⟨fun y hy => ?_, p2⟩, fun y hy w hw => ?_⟩
    · have h0 : ¬ c y x = 0 := fun e => by
        have := isIn_iff.2 ⟨y, List.mem_of_mem_drop hy, e⟩
        rw [hin] at this; cases this
      have := s2 y hy
      have := O.swap x y
      omega
    · rcases List.mem_cons.1 hw with rfl | hw
      · exact s1 y hy
      · exact p3 y hy w hw
  · simpa using h
theorem Strict.sub {L L' : List α} (h : Strict c L) (hs : L'.Sublist L) : Strict c L' := List.Pairwise.sublist hs h
theorem Strict.drop (O : OrdLaw c) {L : List α} (h : Strict c L) (x : α) : Strict c (dropS c L x) := by
  unfold dropS
  split
  · refine h.sub ?_
    conv => rhs; rw [← List.take_append_drop (below c L x) L]
    exact List.Sublist.append (List.Sublist.refl _) (by rw [← List.drop_drop]; exact List.drop_sublist _ _)
  · exact h
theorem strict_nil : Strict c ([] : List α) := List.Pairwise.nil
theorem newS_snoc (xs : List α) (x : α) : newS c (xs ++ [x]) = addS c (newS c xs) x := by simp [newS]
theorem Strict.new (O : OrdLaw c) (xs : List α) : Strict c (newS c xs) := by
  suffices h : ∀ (ys L : List α), Strict c L → Strict c (ys.foldl (addS c) L) from h xs [] strict_nil
  intro ys
  induction ys with
  | nil => exact fun L h => h
  | cons y ys ih => exact fun L h => ih _ (h.add O y)
theorem Strict.unique (O : OrdLaw c) : ∀ {a b : List α}, Strict c a → Strict c b → (∀ x, x ∈ a ↔ x ∈ b) → a = b
  | [], [], _, _, _ => rfl
  | [], y :: b, _, _, h => by have := (h y).2 (by simp); simp at this
  | x :: a, [], _, _, h => by have := (h x).1 (by simp); simp at this
  | x :: a, y :: b, ha, hb, h => by
    obtain ⟨a1, a2⟩ := List.pairwise_cons.1 ha
    obtain ⟨b1, b2⟩ := List.pairwise_cons.1 hb
    have e : x = y := by
      rcases List.mem_cons.1 ((h x).1 (by simp)) with e | hx
      · exact e
      · rcases List.mem_cons.1 ((h y).2 (by simp)) with e | hy
        · exact e.symm
        · exact (O.asymm (b1 x hx) (a1 y hy)).elim
    subst e
    congr 1
    refine Strict.unique O a2 b2 fun z => ⟨fun hz => ?_, fun hz => ?_⟩
    · rcases List.mem_cons.1 ((h z).1 (List.mem_cons_of_mem _ hz)) with rfl | hz'
      · have := a1 z hz; have := O.refl z; omega
      · exact hz'
    · rcases List.mem_cons.1 ((h z).2 (List.mem_cons_of_mem _ hz)) with rfl | hz'
      · have := b1 z hz; have := O.refl z; omega
      · exact hz'

theorem newS_mem {xs : List α} {x : α} (h : x ∈ newS c xs) : x ∈ xs := by
  suffices g : ∀ (ys L : List α), x ∈ ys.foldl (addS c) L → x ∈ L ∨ x ∈ ys from by simpa using g xs [] h
  intro ys
  induction ys with
  | nil => exact fun L h => .inl h
  | cons y ys ih =>
    intro L h
    rcases ih _ h with h | h
    · rcases mem_addS.1 h with h | ⟨rfl, _⟩
      · exact .inl h
      · exact .inr (by simp)
    · exact .inr (List.mem_cons_of_mem _ h)
theorem addS_len (L : List α) (x : α) : (addS c L x).length = L.length + (if isIn c L x then 0 else 1) := by
  have := below_le (c := c) L x
  unfold addS
  split <;> simp
  omega
theorem newS_len (xs : List α) : (newS c xs).length ≤ xs.length := by
  suffices g : ∀ (ys L : List α), (ys.foldl (addS c) L).length ≤ L.length + ys.length from by simpa [newS] using g xs []
  intro ys
  induction ys with
  | nil => exact fun L => Nat.le_refl _
  | cons y ys ih =>
    intro L
    have h1 := ih (addS c L y)
    have h2 := addS_len (c := c) L y
    simp only [List.foldl_cons, List.length_cons]
    split at h2 <;> omega

theorem addS_map {β : Type} (z : β → α) (L : List β) (i : β) : addS c (L.map z) (z i) = (addS (fun i j => c (z i) (z j)) L i).map z := by
  have e1 : isIn c (L.map z) (z i) = isIn (fun i j => c (z i) (z j)) L i := by simp [isIn, List.any_map, Function.comp_def]
  have e2 : below c (L.map z) (z i) = below (fun i j => c (z i) (z j)) L i := by simp [below, List.filter_map, Function.comp_def]
  unfold addS
  rw [e1, e2]
  split <;> simp
theorem newS_map {β : Type} (z : β → α) (xs : List β) : newS c (xs.map z) = (newS (fun i j => c (z i) (z j)) xs).map z := by
  suffices h : ∀ (ys L : List β), (ys.map z).foldl (addS c) (L.map z) = (ys.foldl (addS (fun i j => c (z i) (z j))) L).map z from h xs []
  intro ys
  induction ys with
  | nil => exact fun L => rfl
  | cons y ys ih => intro L; simp only [List.map_cons, List.foldl_cons]; rw [addS_map, ih]
end

/-- A place that no alike one stands ahead of. -/
def Leader (c : Nat → Nat → Int) (n i : Nat) : Prop := i < n ∧ ∀ j, j < i → ¬ c j i = 0

theorem leader_of {c : Nat → Nat → Int} (O : OrdLaw c) (n : Nat) : ∀ i, i < n → ∃ j, Leader c n j ∧ c j i = 0 := by
  intro i
  induction i using Nat.strongRecOn with
  | ind i ih =>
    intro hi
    by_cases h : ∃ j, j < i ∧ c j i = 0
    · obtain ⟨j, hj, hz⟩ := h
      obtain ⟨k, hk, hz'⟩ := ih j hj (by omega)
      refine ⟨k, hk, ?_⟩
      have t1 := O.trans k j i (by omega) (by omega)
      have := O.zero hz; have := O.zero hz'
      have t2 := O.trans i j k (by omega) (by omega)
      have := O.swap k i; have := O.swap i k; omega
    · exact ⟨i, ⟨hi, fun j hj e => h ⟨j, hj, e⟩⟩, O.refl i⟩

theorem mem_newI {c : Nat → Nat → Int} (O : OrdLaw c) (n i : Nat) : i ∈ newS c (List.range n) ↔ Leader c n i := by
  induction n generalizing i with
  | zero => simp [newS, Leader]
  | succ n ih =>
    rw [List.range_succ, newS_snoc, mem_addS, ih]
    have hin : isIn c (newS c (List.range n)) n = true ↔ ∃ j, j < n ∧ c j n = 0 := by
      rw [isIn_iff]
      constructor
      · rintro ⟨j, hj, hz⟩
        exact ⟨j, ((ih j).1 hj).1, hz⟩
      · rintro ⟨j, hj, hz⟩
        obtain ⟨k, hk, hz'⟩ := leader_of O n j hj
        refine ⟨k, (ih k).2 hk, ?_⟩
        have t1 := O.trans k j n (by omega) (by omega)
        have := O.zero hz; have := O.zero hz'
        have t2 := O.trans n j k (by omega) (by omega)
        have := O.swap k n; have := O.swap n k; omega
    unfold Leader
    constructor
    · rintro (⟨h1, h2⟩ | ⟨rfl, h⟩)
      · exact ⟨by omega, h2⟩
      · exact ⟨by omega, fun j hj e => by rw [hin.2 ⟨j, hj, e⟩] at h; cases h⟩
    · rintro ⟨h1, h2⟩
      by_cases e : i = n
      · subst e
        refine .inr ⟨rfl, ?_⟩
        cases hb : isIn c (newS c (List.range i)) i with
        | false => rfl
        | true =>
          obtain ⟨j, hj, hz⟩ := hin.1 hb
          exact (h2 j hj hz).elim
      · exact .inl ⟨by omega, h2⟩

/-- What is kept of a sorted row: the leaders, in their order. -/
theorem keep_new {c : Nat → Nat → Int} (O : OrdLaw c) {C : List Nat} {n : Nat} (hp : C.Perm (List.range n)) (hs : Sorted c C) :
    keepTo (fun i j => decide (c i j = 0)) C n = newS c (List.range n) := by
  have hl : C.length = n := by simpa using hp.length_eq
  have hA : ∀ s t (h1 : s < t) (h2 : t < C.length), Ahead c C[s] C[t] := fun s t h1 h2 => List.pairwise_iff_getElem.1 hs s t (by omega) h2 h1
  have gd : ∀ t (ht : t < C.length), C.getD t 0 = C[t] := fun t ht => by simp [List.getD, ht]
  have fin : ∀ t (ht : t < C.length), (0 < t → ¬ c C[t] (C[t - 1]'(by omega)) = 0) → ∀ s (hst : s < t), c (C[s]'(by omega)) C[t] < 0 := by
    intro t ht hno s hst
    have a := hA s t hst ht
    by_cases e : c (C[s]'(by omega)) C[t] < 0
    · exact e
    · have e0 : c (C[s]'(by omega)) C[t] = 0 := by have := Ahead.le a; omega
      have e0' := O.zero e0
      exfalso
      refine hno (by omega) ?_
      have a2 := hA (t - 1) t (by omega) ht
      have l2 := Ahead.le a2
      have l1 : c (C[s]'(by omega)) (C[t - 1]'(by omega)) ≤ 0 := by
        by_cases h : s = t - 1
        · subst h; have := O.refl C[t - 1]; omega
        · exact Ahead.le (hA s (t - 1) (by omega) (by omega))
      have l3 := O.trans C[t] (C[s]'(by omega)) (C[t - 1]'(by omega)) (by omega) l1
      have := O.swap C[t] (C[t - 1]'(by omega)); omega
  refine Strict.unique O ?_ (Strict.new O _) fun i => ?_
  · unfold keepTo
    refine List.pairwise_map.2 ?_
    refine List.Pairwise.imp_of_mem ?_ (List.Pairwise.filter _ List.pairwise_lt_range)
    intro s t hs' ht' hlt
    obtain ⟨m1, k1⟩ := List.mem_filter.1 ht'
    have htl : t < C.length := by have := List.mem_range.1 m1; omega
    rw [gd s (by omega), gd t htl]
    refine fin t htl (fun h0 e => ?_) s hlt
    rw [gd t htl, gd (t - 1) (by omega)] at k1
    simp only [e, decide_true, Bool.not_true, Bool.or_false, beq_iff_eq] at k1
    omega
  · rw [mem_newI O]
    unfold keepTo
    rw [List.mem_map]
    constructor
    · rintro ⟨t, ht, rfl⟩
      obtain ⟨m1, k1⟩ := List.mem_filter.1 ht
      have htl : t < C.length := by have := List.mem_range.1 m1; omega
      rw [gd t htl]
      have hf := fin t htl (fun h0 e => by
        rw [gd t htl, gd (t - 1) (by omega)] at k1
        simp only [e, decide_true, Bool.not_true, Bool.or_false, beq_iff_eq] at k1
        omega)
      have hin : ∀ u ∈ C, u < n := fun u hu => List.mem_range.1 (hp.subset hu)
      refine ⟨hin _ (List.getElem_mem _), fun j hj e => ?_⟩
      have hjn : j < n := by have := hin _ (List.getElem_mem htl); omega
      obtain ⟨s, hsl, rfl⟩ := List.mem_iff_getElem.1 (hp.symm.subset (List.mem_range.2 hjn))
      rcases Nat.lt_trichotomy s t with h | h | h
      · have := hf s h; omega
      · subst h; omega
      · have a := hA t s h hsl
        have := O.zero e
        rcases a with a | ⟨_, a⟩
        · omega
        · omega
    · rintro ⟨h1, h2⟩
      obtain ⟨t, htl, rfl⟩ := List.mem_iff_getElem.1 (hp.symm.subset (List.mem_range.2 h1))
      refine ⟨t, List.mem_filter.2 ⟨List.mem_range.2 (by omega), ?_⟩, gd t htl⟩
      by_cases h0 : t = 0
      · simp [h0]
      · rw [gd t htl, gd (t - 1) (by omega)]
        have a := hA (t - 1) t (by omega) htl
        have : ¬ c C[t] (C[t - 1]'(by omega)) = 0 := by
          intro e
          have e' := O.zero e
          rcases a with a | ⟨_, a⟩
          · omega
          · exact h2 _ a e'
        simp [this]
end Go.Proofs.YtfkhelihepbehaaGreat

/- Runs: more plain laws. -/
namespace Go.Proofs.YtfkhelihepbehaaGreat
theorem Good.mem {c : Nat → Nat → Int} : ∀ {s : Nat} {X : List (List Nat)} {i : Nat}, Good c s X → i ∈ X.flatten → s ≤ i ∧ i < s + X.flatten.length
  | s, [], i, _, hi => by simp at hi
  | s, A :: X, i, h, hi => by
    obtain ⟨h1, h2, h3⟩ := h
    rw [List.flatten_cons, List.mem_append] at hi
    rw [List.flatten_cons, List.length_append]
    rcases hi with hi | hi
    · have := range'_mem_lt h1 hi; omega
    · have := Good.mem h3 hi; omega
end Go.Proofs.YtfkhelihepbehaaGreat

/- Laws of the walk on slices of one-cell elements: copy into a block, clear, append of zero values. No program in sight. -/
namespace Go.Proofs.YtfkhelihepbehaaGreat
open Go.RowKit
set_option linter.unusedVariables false

theorem tup_ib {i : Int} {b b' : Bool} (h : b' = b) : Value.tuple #[.int .i64 i, .bool b] = .tuple #[.int .i64 i, .bool b'] := by rw [h]

section
variable {P : Program} {w : World} {t e : TypeId} {bytes : Nat} {z : Value}

theorem blk_setRow {g : Nat} {cur cs : List Value} (h : Blk w g cur e) : Blk (w.setRow g cs.toArray) g cs e := setRow_heap w g _ _ e _ h
theorem kp_setRow (g : Nat) (cs : Array Value) : Kp (fun k => k = g) w (w.setRow g cs) :=
  ⟨rfl, rfl, rfl, by simp [World.setRow], fun k _ hf => setRow_other w g k cs hf⟩

/-- An append whose run is known. -/
theorem wp_appRun {ops : Array Oper} {rest : List Oper} {o : Oper} {a : Act} {Q : Exit → Act → World → Prop} (hgd : o.guard = none) (s x : Operand) {t1 t2 : TypeId}
    (ho : o.op = .call { callee := .builtin .append, args := #[s, x], argTypes := #[t1, t2] }) {v u : Value} (hs : a.eval s = v) (hx : a.eval x = u) {v' : Value} {w' : World}
    (hr : ∀ ty, (Builtin.append_ #[t1, t2] ty #[v, u]).run P w = .ok v' w') (h : wpList P ops Q rest (a.put o.dst v') w') : wpList P ops Q (o :: rest) a w := by
  refine wpList_plain hgd fun K hK => ?_
  unfold Oper.wp execOp
  simp only [ho, resolve, invoke, builtin, Sem.run_bind, Sem.run_pure, Result.andThen_ok, List.map_toArray, List.map_cons, List.map_nil, hs, hx, hr]
  exact hK _ _ h

/-- copy(d, s) into a known block. -/
theorem wp_copyB (E : ElemT P t e 1 bytes z) {ops : Array Oper} {rest : List Oper} {o : Oper} {a : Act} {Q : Exit → Act → World → Prop} (hgd : o.guard = none) (d s : Operand)
    (ho : o.op = .call { callee := .builtin .copy, args := #[d, s], argTypes := #[t, t] })
    {g off dLen dCap : Nat} {cur : List Value} {e' : TypeId} (hB : Blk w g cur e') {dp : Option Addr} (hd : a.eval d = .slice dp dLen dCap) {sp : Option Addr} {sLen sCap : Nat} (hs : a.eval s = .slice sp sLen sCap)
    {cs : List Value} (hl : cs.length = Nat.min sLen dLen) (hdp : 0 < cs.length → dp = some ⟨g, off, none⟩) (hsrc : CellsAt w sp cs) (hfit : off + cs.length ≤ cur.length) (h1 : ∀ u ∈ cs, u.oneCell' = true)
    (h : ∀ w', Kp (fun k => k = g) w w' → Blk w' g (splice cur off cs) e' → wpList P ops Q rest (a.put o.dst (goInt cs.length)) w') : wpList P ops Q (o :: rest) a w := by
  obtain ⟨ht, hi, hz, hk⟩ := E
  obtain ⟨i, hi, hz1, hz2, hz3⟩ := info_parts hi
  have hsz : (P.info? e).map (·.size) = some 1 := by rw [hi]; simp [hz2]
  by_cases h0 : cs.length = 0
  · obtain rfl : cs = [] := List.eq_nil_of_length_eq_zero h0
    refine wpList_copy_nothing hgd d s t t ho e ht hsz dp sp dLen dCap sLen sCap hd hs (by simpa using hl.symm) ?_
    exact h w (Kp.refl w) (hB.congrL (by simp [splice]))
  · have hdp := hdp (by omega)
    subst hdp
    obtain ⟨b, off', rfl, hlt⟩ := hsrc.off (by rintro rfl; simp at h0)
    refine wpList_copy_own hgd d s t t ho e ht hsz g off dLen dCap ⟨b, off', none⟩ sLen sCap hd hs cur.toArray e' hB cs hl (fun j v hj => ?_) (by simpa using hfit) h1 ?_
    · obtain ⟨b', o', he, hc⟩ := hsrc j v hj
      cases he
      rw [Addr.add_lit]; exact hc
    · have hb := blk_setRow (cs := cur.take off ++ (cs ++ cur.drop (off + cs.length))) hB
      exact h _ (kp_setRow g _) (by simpa [splice] using hb)

theorem run_clearB (E : ElemT P t e 1 bytes z) (hz1 : z.oneCell' = true) (hzv : ∀ w, (zeroValue e).run P w = .ok z w) {g off n c : Nat} {cur : List Value} {e' : TypeId} (hB : Blk w g cur e') {sp : Option Addr} (hsp : 0 < n → sp = some ⟨g, off, none⟩) (hfit : off + n ≤ cur.length) :
    ∃ w', (∀ ty, (Builtin.clear_ #[t] ty #[.slice sp n c]).run P w = .ok (.tuple #[]) w') ∧ Kp (fun k => k = g) w w' ∧ Blk w' g (splice cur off (List.replicate n z)) e' := by
  obtain ⟨ht, hi, hzz, hk⟩ := E
  by_cases h0 : n = 0
  · subst h0
    refine ⟨w, fun ty => ?_, Kp.refl w, hB.congrL (by simp [splice])⟩
    cases sp <;> simp [Builtin.clear_, run_underlying ht]
  · have hsp := hsp (by omega)
    subst hsp
    have hzc : z.cells = #[z] := by cases z <;> simp_all [Value.cells, Value.oneCell']
    have hzz' : (Builtin.zeroCells z.cells n).toList = List.replicate n z := by
      rw [hzc]
      simp [Builtin.zeroCells]
      apply List.ext_getElem
      · simp
      · intro i h1 h2
        simp [Nat.mod_one]
    have hst := run_storeCells_at P g off e' (List.replicate n z) 0 cur.toArray w hB (by simpa using hfit) (by intro v hv'; rw [List.eq_of_mem_replicate hv']; exact hz1)
    simp only [Nat.add_zero] at hst
    obtain ⟨m, rfl⟩ : ∃ m, n = m + 1 := ⟨n - 1, by omega⟩
    have hb := blk_setRow (cs := cur.take off ++ (List.replicate (m + 1) z ++ cur.drop (off + (m + 1)))) hB
    refine ⟨_, fun ty => by simp [Builtin.clear_, run_underlying ht, hzv, hzz', hst]; rfl, kp_setRow g _, ?_⟩
    simpa [splice] using hb

/-- append(s, make([]T, k)...) where it must grow. -/
theorem run_app_zeros (E : ElemT P t e 1 bytes z) (hzo : z.oneCell' = true) {tn : TypeId} {kn : IntKind} (htn : P.underlying tn = some (.int kn)) {ao : Option Addr} {n cap : Nat} {olds : List Value} (hs : CellsAt w ao olds) (hl : olds.length = n)
    {k : Nat} (h0 : 0 < k) (hg : cap < n + k) (hb : (n + k) * bytes ≤ 140737488355328) (h63 : n + k ≤ maxLen) :
    ∃ w' G, (∀ ty, (Builtin.append_ #[t, tn] ty #[.slice ao n cap, .int .i64 k]).run P w = .ok (.slice (some ⟨w.heap.size, 0, none⟩) (n + k) G) w') ∧ n + k ≤ G ∧ G ≤ maxLen ∧ Ext w w' ∧ w'.heap.size = w.heap.size + 1 ∧ Blk w' w.heap.size (olds ++ List.replicate (G - n) z) e := by
  obtain ⟨ht, hi, hzz, hk⟩ := E
  obtain ⟨i, hi, hz1, hz2, hz3⟩ := info_parts hi
  have hold : (Builtin.firstCells i.size n (.slice ao n cap)).run P w.drew = .ok olds.toArray w.drew := by
    by_cases h00 : olds = []
    · subst h00
      simp at hl; subst hl
      cases ao <;> simp [Builtin.firstCells, loadCells, loadCellsFrom]
    · obtain ⟨b, off, rfl, _⟩ := hs.off h00
      exact run_firstCells_some w.drew i.size n _ n cap olds (by rw [hz2, hl, Nat.mul_one]) (fun j v hj => by
        obtain ⟨b', o', he, hc⟩ := hs j v hj
        cases he
        rw [Addr.add_lit]; exact hc)
  have hrun := fun ty => Lib.run_append_grow_zeros (P := P) w t tn ty e i z .i64 kn ht htn hi hz1 ao n cap olds hold k h0 (by omega) hg (by unfold maxLen at h63; omega) (by rw [hz3]; have : k * bytes ≤ (n + k) * bytes := Nat.mul_le_mul_right _ (by omega); omega) (by rw [hz3]; exact growslice_fits hg hb)
  have hge := grownCap_ge w (n + k) cap e
  refine ⟨_, _, hrun, hge, grownCap_le_maxLen w (n + k) cap e h63, ⟨rfl, rfl, rfl, by simp, fun k hk _ => Below.heap_alloc w.drew _ k hk⟩, by simp, ?_⟩
  have hzc : z.cells = #[z] := by
    cases z <;> simp_all [Value.cells, Value.oneCell']
  have hzr : ∀ m, (Builtin.zeroCells z.cells m).toList = List.replicate m z := fun m => by
    rw [hzc]
    simp [Builtin.zeroCells]
    apply List.ext_getElem
    · simp
    · intro i h1 h2
      simp [Nat.mod_one]
  show (w.heap.push _)[w.heap.size]? = _
  rw [Array.getElem?_push_size]
  congr 2
  apply Array.ext'
  simp only [Array.toList_append, hzr, List.toList_toArray]
  rw [List.append_assoc, List.replicate_append_replicate]
  congr 2; omega
end
end Go.Proofs.YtfkhelihepbehaaGreat

/- More laws of the walk on slices: runs of copy and clear as equations. No program in sight. -/
namespace Go.Proofs.YtfkhelihepbehaaGreat
open Go.RowKit
set_option linter.unusedVariables false

section
variable {P : Program} {w : World} {t e : TypeId} {bytes : Nat} {z : Value}

theorem Row.own {k : Nat} {v : Value} {n : Nat} {xs : List Value} {M : Nat → Prop} (h : Row w e k v n xs M) : Row w e k v n xs (fun g => v.ownBlock = some g) := by
  obtain ⟨h1, h2 | ⟨g, cap, rest, a, b, c⟩⟩ := h
  · exact ⟨h1, .inl h2⟩
  · exact ⟨h1, .inr ⟨g, cap, rest, a, by rw [a]; rfl, c⟩⟩

theorem run_copyB (E : ElemT P t e 1 bytes z) {g off dLen dCap : Nat} {cur : List Value} {e' : TypeId} (hB : Blk w g cur e') {dp sp : Option Addr} {sLen sCap : Nat}
    {cs : List Value} (hl : cs.length = Nat.min sLen dLen) (hdp : 0 < cs.length → dp = some ⟨g, off, none⟩) (hsrc : CellsAt w sp cs) (hfit : off + cs.length ≤ cur.length) (h1 : ∀ u ∈ cs, u.oneCell' = true) :
    ∃ w', (∀ ty, (Builtin.copy_ #[t, t] ty #[.slice dp dLen dCap, .slice sp sLen sCap]).run P w = .ok (goInt cs.length) w') ∧ Kp (fun k => k = g) w w' ∧ Blk w' g (splice cur off cs) e' := by
  obtain ⟨ht, hi, hz, hk⟩ := E
  obtain ⟨i, hi, hz1, hz2, hz3⟩ := info_parts hi
  have hsz : (P.info? e).map (·.size) = some 1 := by rw [hi]; simp [hz2]
  by_cases h0 : cs.length = 0
  · obtain rfl : cs = [] := List.eq_nil_of_length_eq_zero h0
    exact ⟨w, fun ty => run_copy_none (P := P) w t t ty e dp sp dLen dCap sLen sCap ht hsz (by simpa using hl.symm), Kp.refl w, hB.congrL (by simp [splice])⟩
  · have hdp := hdp (by omega)
    subst hdp
    obtain ⟨b, off', rfl, hlt⟩ := hsrc.off (by rintro rfl; simp at h0)
    have hb := blk_setRow (cs := cur.take off ++ (cs ++ cur.drop (off + cs.length))) hB
    refine ⟨_, fun ty => run_copy_row (P := P) w t t ty e g off dLen dCap ⟨b, off', none⟩ sLen sCap cur.toArray e' cs ht hsz hB hl (fun j v hj => ?_) (by simpa using hfit) h1, kp_setRow g _, by simpa [splice] using hb⟩
    obtain ⟨b', o', he, hc⟩ := hsrc j v hj
    cases he
    rw [Addr.add_lit]; exact hc

/-- An append that fits, onto the head of a known block; what is appended may lie in it. -/
theorem run_app_room (E : ElemT P t e 1 bytes z) {g k cap : Nat} {cur : List Value} (hB : Blk w g cur e) {ao : Option Addr} {m c : Nat} {news : List Value} (hl : news.length = m) (hs : CellsAt w ao news) (h1 : ∀ u ∈ news, u.oneCell' = true)
    (hroom : k + m ≤ cap) (hfit : k + m ≤ cur.length) :
    ∃ w', (∀ ty, (Builtin.append_ #[t, t] ty #[.slice (some ⟨g, 0, none⟩) k cap, .slice ao m c]).run P w = .ok (.slice (some ⟨g, 0, none⟩) (k + m) cap) w') ∧ Kp (fun k => k = g) w w' ∧ Blk w' g (splice cur k news) e := by
  by_cases hm : m = 0
  · subst hm
    have hn : news = [] := List.eq_nil_of_length_eq_zero hl
    subst hn
    exact ⟨w, fun ty => run_append_none' E ty (by omega) _ _, Kp.refl w, hB.congrL (by simp [splice])⟩
  · obtain ⟨b, off, rfl, _⟩ := hs.off (by rintro rfl; simp at hl; omega)
    obtain ⟨ht, hi, hz, hk⟩ := E
    obtain ⟨i, hi, hz1, hz2, hz3⟩ := info_parts hi
    have hb := blk_setRow (cs := cur.take k ++ (news ++ cur.drop (k + news.length))) hB
    refine ⟨_, fun ty => run_append_room (P := P) w t ty e i ht hi g k cap cur.toArray hB ⟨b, off, none⟩ m c news (by rw [hz2, Nat.mul_one]; exact hl) (fun j u hj => ?_) h1 hroom (by rw [hz2]; simp; omega), kp_setRow g _, ?_⟩
    · obtain ⟨b', o', he, hc⟩ := hs j u hj
      cases he
      rw [Addr.add_lit]; exact hc
    · rw [hz2]; simpa [splice] using hb

theorem Blk.shape {g : Nat} {cs : List Value} (h : Blk w g cs e) : w.shape? g = some (e, cs.length) := by
  unfold Blk at h
  simp [World.shape?, h]
end

theorem splice_at {α : Type} (a b c cs : List α) (k : Nat) (hk : k = a.length) (h : b.length = cs.length) : splice (a ++ b ++ c) k cs = a ++ cs ++ c := by
  subst hk
  unfold splice
  rw [List.append_assoc, List.take_left, ← h, ← List.length_append, ← List.append_assoc a b c, List.drop_left, List.append_assoc]
theorem splice_ins {α : Type} (xs rest : List α) (x y : α) (i : Nat) (hi : i < xs.length) :
    splice (splice (xs ++ y :: rest) (i + 1) (xs.drop i)) i [x] = (xs.take i ++ x :: xs.drop i) ++ rest := by
  have h2 : (xs.take i).length = i := by simp; omega
  have e0 : xs ++ y :: rest = (xs.take i ++ [xs[i]]) ++ (xs.drop (i + 1) ++ [y]) ++ rest := by
    have : xs = xs.take i ++ xs[i] :: xs.drop (i + 1) := by rw [← List.drop_eq_getElem_cons hi, List.take_append_drop]
    have h3 : xs ++ y :: rest = (xs.take i ++ xs[i] :: xs.drop (i + 1)) ++ y :: rest := by rw [← this]
    rw [h3]
    simp only [List.append_assoc, List.cons_append, List.nil_append]
  rw [e0, splice_at _ _ _ _ _ (by simp; omega) (by simp; omega), List.append_assoc, List.append_assoc, ← List.append_assoc, splice_at _ _ _ _ _ h2.symm (by simp)]
  simp
theorem splice_ins2 {α : Type} (xs : List α) (x z : α) (i G : Nat) (hi : i < xs.length) (hG : xs.length + 1 ≤ G) :
    splice (splice (xs.take i ++ List.replicate (G - i) z) i [x]) (i + 1) (xs.drop i) = (xs.take i ++ x :: xs.drop i) ++ List.replicate (G - (xs.length + 1)) z := by
  have h2 : (xs.take i).length = i := by simp; omega
  have e1 : List.replicate (G - i) z = [z] ++ (List.replicate (xs.length - i) z ++ List.replicate (G - (xs.length + 1)) z) := by
    rw [List.replicate_append_replicate, ← List.replicate_one, List.replicate_append_replicate]; congr 1; omega
  rw [e1, ← List.append_assoc, splice_at _ _ _ _ _ h2.symm (by simp), ← List.append_assoc, splice_at _ _ _ _ _ (by simp; omega) (by simp)]
  simp

end Go.Proofs.YtfkhelihepbehaaGreat

/- The order of texts and of rows: plain laws, and the walks of cmp.Compare[string], slices.Compare, tuple.Compare, sibylref03.Compare. -/
namespace Go.Proofs.YtfkhelihepbehaaGreat
open Go.RowKit
set_option linter.unusedVariables false

theorem bytesLess_nil (a : List UInt8) : Op.bytesLess a [] = false := by cases a <;> simp [Op.bytesLess]
theorem bytesLess_irrefl : ∀ a : List UInt8, Op.bytesLess a a = false
  | [] => by simp [Op.bytesLess]
  | a :: x => by simp [Op.bytesLess, bytesLess_irrefl x]
theorem bytesLess_total : ∀ {a b : List UInt8}, Op.bytesLess a b = false → Op.bytesLess b a = false → a = b
  | [], [], _, _ => rfl
  | [], _ :: _, h, _ => by simp [Op.bytesLess] at h
  | _ :: _, [], _, h => by simp [Op.bytesLess] at h
  | x :: xs, y :: ys, h1, h2 => by
    simp only [Op.bytesLess, Bool.or_eq_false_iff, decide_eq_false_iff_not, Bool.and_eq_false_iff] at h1 h2
    have e : x = y := by
      have := h1.1; have := h2.1
      simp only [UInt8.lt_iff_toNat_lt] at *
      exact UInt8.toNat_inj.1 (by omega)
    subst e
    simp at h1 h2
    rw [bytesLess_total h1 h2]
theorem bytesLess_trans : ∀ {a b c : List UInt8}, Op.bytesLess a b = true → Op.bytesLess b c = true → Op.bytesLess a c = true
  | _, [], _, h, _ => by rw [bytesLess_nil] at h; cases h
  | _, _ :: _, [], _, h => by rw [bytesLess_nil] at h; cases h
  | [], _ :: _, _ :: _, _, _ => by simp [Op.bytesLess]
  | x :: xs, y :: ys, z :: zs, h1, h2 => by
    simp only [Op.bytesLess, Bool.or_eq_true, decide_eq_true_eq, Bool.and_eq_true, beq_iff_eq, UInt8.lt_iff_toNat_lt] at *
    rcases h1 with h1 | ⟨rfl, h1⟩ <;> rcases h2 with h2 | ⟨rfl, h2⟩
    · left; omega
    · left; omega
    · left; omega
    · right; exact ⟨rfl, bytesLess_trans h1 h2⟩
theorem bytesLess_asymm {a b : List UInt8} (h : Op.bytesLess a b = true) : Op.bytesLess b a = false := by
  cases h2 : Op.bytesLess b a
  · rfl
  · have := bytesLess_trans h h2; rw [bytesLess_irrefl] at this; cases this

def cmpB (a b : List UInt8) : Int := if Op.bytesLess a b then -1 else if Op.bytesLess b a then 1 else 0
theorem cmpB_lt {a b : List UInt8} (h : Op.bytesLess a b = true) : cmpB a b = -1 := by simp [cmpB, h]
theorem cmpB_gt {a b : List UInt8} (h' : Op.bytesLess a b = false) (h : Op.bytesLess b a = true) : cmpB a b = 1 := by simp [cmpB, h, h']
theorem cmpB_eq {a b : List UInt8} (h' : Op.bytesLess a b = false) (h : Op.bytesLess b a = false) : cmpB a b = 0 := by simp [cmpB, h, h']
theorem cmpB_self (a : List UInt8) : cmpB a a = 0 := cmpB_eq (bytesLess_irrefl a) (bytesLess_irrefl a)
theorem cmpB_zero {a b : List UInt8} (h : cmpB a b = 0) : a = b := by
  cases h1 : Op.bytesLess a b
  · cases h2 : Op.bytesLess b a
    · exact bytesLess_total h1 h2
    · rw [cmpB_gt h1 h2] at h; cases h
  · rw [cmpB_lt h1] at h; cases h
theorem cmpB_swap (a b : List UInt8) : cmpB b a = - cmpB a b := by
  cases h1 : Op.bytesLess a b
  · cases h2 : Op.bytesLess b a
    · rw [cmpB_eq h1 h2, cmpB_eq h2 h1]; rfl
    · rw [cmpB_gt h1 h2, cmpB_lt h2]
  · rw [cmpB_lt h1, cmpB_gt (bytesLess_asymm h1) h1]; rfl
theorem cmpB_neg {a b : List UInt8} : cmpB a b < 0 ↔ Op.bytesLess a b = true := by
  cases h1 : Op.bytesLess a b
  · cases h2 : Op.bytesLess b a
    · rw [cmpB_eq h1 h2]; simp
    · rw [cmpB_gt h1 h2]; simp
  · rw [cmpB_lt h1]; simp
theorem cmpB_cases (a b : List UInt8) : cmpB a b = -1 ∨ cmpB a b = 0 ∨ cmpB a b = 1 := by
  unfold cmpB; split
  · simp
  · split <;> simp
theorem toList_inj {a b : ByteArray} (h : a.toList = b.toList) : a = b := by
  rw [ByteArray.toList_eq, ByteArray.toList_eq] at h
  exact ByteArray.ext (Array.toList_inj.1 h)

/-- The order of rows. -/
def cmpRow : List ByteArray → List ByteArray → Int
  | [], [] => 0
  | [], _ :: _ => -1
  | _ :: _, [] => 1
  | x :: xs, y :: ys => if cmpB x.toList y.toList ≠ 0 then cmpB x.toList y.toList else cmpRow xs ys
theorem cmpRow_swap : ∀ xs ys, cmpRow ys xs = - cmpRow xs ys
  | [], [] => rfl
  | [], _ :: _ => rfl
  | _ :: _, [] => rfl
  | x :: xs, y :: ys => by
    unfold cmpRow
    rw [cmpB_swap x.toList y.toList]
    by_cases h : cmpB x.toList y.toList = 0
    · rw [if_neg (by simp [h]), if_neg (by simp [h]), cmpRow_swap xs ys]
    · rw [if_pos (by omega), if_pos h]
theorem cmpRow_self : ∀ xs, cmpRow xs xs = 0
  | [] => rfl
  | x :: xs => by unfold cmpRow; rw [if_neg (by simp [cmpB_self]), cmpRow_self xs]
theorem cmpRow_zero : ∀ {xs ys}, cmpRow xs ys = 0 → xs = ys
  | [], [], _ => rfl
  | [], _ :: _, h => by simp [cmpRow] at h
  | _ :: _, [], h => by simp [cmpRow] at h
  | x :: xs, y :: ys, h => by
    unfold cmpRow at h
    by_cases h1 : cmpB x.toList y.toList = 0
    · rw [if_neg (by simp [h1])] at h
      rw [cmpRow_zero h, toList_inj (cmpB_zero h1)]
    · rw [if_pos h1] at h; exact absurd h h1
theorem cmpRow_trans : ∀ {xs ys zs}, cmpRow xs ys ≤ 0 → cmpRow ys zs ≤ 0 → cmpRow xs zs ≤ 0
  | [], _, [], _, _ => by simp [cmpRow]
  | [], _, _ :: _, _, _ => by simp [cmpRow]
  | _ :: _, [], _, h, _ => by simp [cmpRow] at h
  | _ :: _, _ :: _, [], _, h => by simp [cmpRow] at h
  | x :: xs, y :: ys, z :: zs, h1, h2 => by
    unfold cmpRow at h1 h2 ⊢
    have c1 := cmpB_cases x.toList y.toList
    have c2 := cmpB_cases y.toList z.toList
    by_cases e1 : cmpB x.toList y.toList = 0
    · rw [if_neg (by simp [e1])] at h1
      rw [cmpB_zero e1] at *
      by_cases e2 : cmpB y.toList z.toList = 0
      · rw [if_neg (by simp [e2])] at h2 ⊢
        exact cmpRow_trans h1 h2
      · rw [if_pos e2] at h2 ⊢; exact h2
    · rw [if_pos e1] at h1
      have l1 := cmpB_neg.1 (show cmpB x.toList y.toList < 0 by omega)
      by_cases e2 : cmpB y.toList z.toList = 0
      · rw [← cmpB_zero e2, if_pos e1]; exact h1
      · rw [if_pos e2] at h2
        have l2 := cmpB_neg.1 (show cmpB y.toList z.toList < 0 by omega)
        have l3 := cmpB_lt (bytesLess_trans l1 l2)
        rw [if_pos (by omega), l3]; decide
theorem cmpRow_drop (xs ys : List ByteArray) (k : Nat) (h1 : k < xs.length) (h2 : k < ys.length) : cmpRow (xs.drop k) (ys.drop k) = if cmpB xs[k].toList ys[k].toList ≠ 0 then cmpB xs[k].toList ys[k].toList else cmpRow (xs.drop (k+1)) (ys.drop (k+1)) := by
  rw [List.drop_eq_getElem_cons h1, List.drop_eq_getElem_cons h2]; rfl
theorem cmpRow_end (xs ys : List ByteArray) (k : Nat) (h1 : k < xs.length) (h2 : ys.length ≤ k) : cmpRow (xs.drop k) (ys.drop k) = 1 := by
  rw [List.drop_eq_getElem_cons h1, List.drop_of_length_le h2]; rfl
theorem cmpRow_end' (xs ys : List ByteArray) (k : Nat) (h1 : xs.length ≤ k) (h2 : k < ys.length) : cmpRow (xs.drop k) (ys.drop k) = -1 := by
  rw [List.drop_eq_getElem_cons h2, List.drop_of_length_le h1]; rfl
theorem cmpRow_end0 (xs ys : List ByteArray) (k : Nat) (h1 : xs.length ≤ k) (h2 : ys.length ≤ k) : cmpRow (xs.drop k) (ys.drop k) = 0 := by
  rw [List.drop_of_length_le h2, List.drop_of_length_le h1]; rfl

theorem isNaN_any (s : ByteArray) (w : World) : Calls Tryz.prog 144 #[.string s] w (Ret (.bool false) w) := by
  go_enter Tryz.func144, Tryz.ntmps144
  go_wp2
  go_ret
  exact Ret.mk (by simp)

theorem cmpString_any (s t : ByteArray) (w : World) : Calls Tryz.prog 109 #[.string s, .string t] w (Ret (.int .i64 (cmpB s.toList t.toList)) w) := by
  cases h1 : Op.bytesLess s.toList t.toList
  · cases h2 : Op.bytesLess t.toList s.toList
    · rw [cmpB_eq h1 h2]
      have h3 : (!(s.toList == t.toList)) = false := by simp [bytesLess_total h1 h2]
      go_enter Tryz.func109, Tryz.ntmps109
      go_wp2_with (go_at_call 144; (with_reducible refine (isNaN_any _ _).mono ?_); rintro e w' ⟨rfl, rfl⟩)
      go_ret
      exact Ret.mk rfl
    · rw [cmpB_gt h1 h2]
      have h3 : (!(s.toList == t.toList)) = true := by
        cases h : (s.toList == t.toList)
        · rfl
        · rw [eq_of_beq h] at h1 h2; rw [h1] at h2; cases h2
      go_enter Tryz.func109, Tryz.ntmps109
      go_wp2_with (go_at_call 144; (with_reducible refine (isNaN_any _ _).mono ?_); rintro e w' ⟨rfl, rfl⟩)
      go_ret
      exact Ret.mk rfl
  · rw [cmpB_lt h1]
    go_enter Tryz.func109, Tryz.ntmps109
    go_wp2_with (go_at_call 144; (with_reducible refine (isNaN_any _ _).mono ?_); rintro e w' ⟨rfl, rfl⟩)
    go_ret
    exact Ret.mk rfl

set_option maxHeartbeats 400000 in
theorem slicesCompare_any (xs ys : List ByteArray) (a b : Option Addr) (c d : Nat) (w : World) (ha : CellsAt w a (strs xs)) (hb : CellsAt w b (strs ys)) (hx : xs.length ≤ maxLen) (hy : ys.length ≤ maxLen) :
    Calls Tryz.prog 101 #[.slice a xs.length c, .slice b ys.length d] w (Ret (.int .i64 (cmpRow xs ys)) w) := by
  unfold maxLen at hx hy
  go_enter Tryz.func101, Tryz.ntmps101
  go_wp2
  go_loop [11] (fun i => ∃ k : Nat, k ≤ xs.length ∧ k ≤ ys.length ∧ i = .int .i64 k ∧ cmpRow xs ys = cmpRow (xs.drop k) (ys.drop k)) (fun i => xs.length - (intOf i).toNat)
  case atStart => exact ⟨0, Nat.zero_le _, Nat.zero_le _, rfl, rfl⟩
  case round =>
    obtain ⟨k, hk, hk2, rfl, hr⟩ := hrel
    have H := Lib.hid hr; clear hr
    by_cases h1 : k < xs.length
    · obtain ⟨b1, o1, rfl, c1⟩ := ha.str h1
      by_cases h2 : k < ys.length
      · obtain ⟨b2, o2, rfl, c2⟩ := hb.str h2
        have hd := cmpRow_drop xs ys k h1 h2
        generalize hc : cmpB xs[k].toList ys[k].toList = c3 at hd
        by_cases h3 : c3 = 0
        · rw [if_neg (by simp [h3])] at hd
          have HD := Lib.hid hd; clear hd
          subst h3
          have HC := Lib.hid hc; clear hc
          go_wp2_with (go_at_call 109; refine (cmpString_any _ _ _).mono ?_; rintro e w' ⟨rfl, rfl⟩; rw [HC.out])
          go_round
          case rel => exact ⟨k + 1, by omega, by omega, by go_num, by rw [H.out, HD.out]⟩
          case measure => simp [intOf]; omega
        · rw [if_pos h3] at hd
          have HD := Lib.hid hd; clear hd
          have HC := Lib.hid hc; clear hc
          have h4 : (c3 != 0) = true := by simp [h3]
          go_wp2_with (go_at_call 109; refine (cmpString_any _ _ _).mono ?_; rintro e w' ⟨rfl, rfl⟩; rw [HC.out])
          go_ret
          exact Ret.mk (by rw [H.out, HD.out]; rfl)
      · have hd := cmpRow_end xs ys k h1 (by omega)
        have HD := Lib.hid hd; clear hd
        go_wp2
        go_ret
        exact Ret.mk (by rw [H.out, HD.out]; rfl)
    · by_cases h2 : k < ys.length
      · have HD := Lib.hid (cmpRow_end' xs ys k (by omega) h2)
        go_wp2
        go_ret
        exact Ret.mk (by rw [H.out, HD.out]; rfl)
      · have HD := Lib.hid (cmpRow_end0 xs ys k (by omega) (by omega))
        go_wp2
        go_ret
        exact Ret.mk (by rw [H.out, HD.out]; rfl)

theorem tupleCompare_any (xs ys : List ByteArray) (a b : Option Addr) (c d : Nat) (w : World) (ha : CellsAt w a (strs xs)) (hb : CellsAt w b (strs ys)) (hx : xs.length ≤ maxLen) (hy : ys.length ≤ maxLen) :
    Calls Tryz.prog 41 #[.slice a xs.length c, .slice b ys.length d] w (Ret (.int .i64 (cmpRow xs ys)) w) := by
  go_enter Tryz.func41, Tryz.ntmps41
  go_wp2_with (go_at_call 101; (with_reducible refine (slicesCompare_any _ _ _ _ _ _ _ ha hb hx hy).mono ?_); rintro e w' ⟨rfl, rfl⟩)
  go_ret
  exact Ret.mk rfl

set_option maxHeartbeats 1000000 in
theorem refCompare_any (xs ys : List ByteArray) (a b : Option Addr) (c d : Nat) (w : World) (ha : CellsAt w a (strs xs)) (hb : CellsAt w b (strs ys)) (hx : xs.length ≤ maxLen) (hy : ys.length ≤ maxLen) :
    Calls Tryz.prog 150 #[.slice a xs.length c, .slice b ys.length d] w (RetD (.int .i64 (cmpRow xs ys)) w) := by
  unfold maxLen at hx hy
  go_enter Tryz.func150, Tryz.ntmps150
  go_wp2
  go_loopw [5] (fun i wr => ∃ k n : Nat, k ≤ xs.length ∧ k ≤ ys.length ∧ i = .int .i64 k ∧ wr = w.drewN n ∧ cmpRow xs ys = cmpRow (xs.drop k) (ys.drop k)) (fun i _ => xs.length - (intOf i).toNat)
  case atStart => exact ⟨0, 0, Nat.zero_le _, Nat.zero_le _, rfl, rfl, rfl⟩
  case round =>
    obtain ⟨k, n, hk, hk2, rfl, rfl, hr⟩ := hrel
    have H := Lib.hid hr; clear hr
    by_cases h1 : k < xs.length
    · obtain ⟨b1, o1, rfl, c1⟩ := ha.str h1
      by_cases h2 : k < ys.length
      · obtain ⟨b2, o2, rfl, c2⟩ := hb.str h2
        have hd := cmpRow_drop xs ys k h1 h2
        generalize xs[k] = x at *
        generalize ys[k] = y at *
        cases e1 : Op.bytesLess x.toList y.toList
        · cases e2 : Op.bytesLess y.toList x.toList
          · rw [if_neg (by simp [cmpB_eq e1 e2])] at hd
            have HD := Lib.hid hd; clear hd
            have e3 : (!(x.toList == y.toList)) = false := by simp [bytesLess_total e1 e2]
            go_wp2
            go_quiet (fail)
            go_wp2
            go_quiet (fail)
            go_wp2
            go_roundw
            case rel => exact ⟨k + 1, _, by omega, by omega, by go_num, rfl, by rw [H.out, HD.out]⟩
            case measure => simp [intOf]; omega
          · rw [if_pos (by simp [cmpB_gt e1 e2]), cmpB_gt e1 e2] at hd
            have HD := Lib.hid hd; clear hd
            have e3 : (!(x.toList == y.toList)) = true := by
              cases h : (x.toList == y.toList)
              · rfl
              · rw [eq_of_beq h] at e1 e2; rw [e1] at e2; cases e2
            go_wp2
            go_quiet (fail)
            go_wp2
            go_quiet (fail)
            go_wp2
            go_ret
            refine RetD.mk' ?_ ?_
            · rw [H.out, HD.out]; rfl
            · first | exact ⟨_, rfl⟩ | exact drew_ex2 _ _ _ | exact drew_ex3 _ _ _ | exact ⟨_, by rw [World.drewN_drewN, World.drewN_drewN]⟩
        · rw [if_pos (by simp [cmpB_lt e1]), cmpB_lt e1] at hd
          have HD := Lib.hid hd; clear hd
          go_wp2
          go_quiet (fail)
          go_wp2
          go_ret
          refine RetD.mk' ?_ ?_
          · rw [H.out, HD.out]; rfl
          · first | exact ⟨_, rfl⟩ | exact drew_ex2 _ _ _ | exact drew_ex3 _ _ _ | exact ⟨_, by rw [World.drewN_drewN, World.drewN_drewN]⟩
      · have HD := Lib.hid (cmpRow_end xs ys k h1 (by omega))
        go_wp2
        go_ret
        refine RetD.mk' ?_ ?_
        · rw [H.out, HD.out]; rfl
        · first | exact ⟨_, rfl⟩ | exact drew_ex2 _ _ _ | exact drew_ex3 _ _ _ | exact ⟨_, by rw [World.drewN_drewN, World.drewN_drewN]⟩
    · by_cases h2 : k < ys.length
      · have HD := Lib.hid (cmpRow_end' xs ys k (by omega) h2)
        go_wp2
        go_ret
        refine RetD.mk' ?_ ?_
        · rw [H.out, HD.out]; rfl
        · first | exact ⟨_, rfl⟩ | exact drew_ex2 _ _ _ | exact drew_ex3 _ _ _ | exact ⟨_, by rw [World.drewN_drewN, World.drewN_drewN]⟩
      · have HD := Lib.hid (cmpRow_end0 xs ys k (by omega) (by omega))
        go_wp2
        go_ret
        refine RetD.mk' ?_ ?_
        · rw [H.out, HD.out]; rfl
        · first | exact ⟨_, rfl⟩ | exact drew_ex2 _ _ _ | exact drew_ex3 _ _ _ | exact ⟨_, by rw [World.drewN_drewN, World.drewN_drewN]⟩
end Go.Proofs.YtfkhelihepbehaaGreat

/- Sets in an order: more plain laws: what is in a new set; what is met; sets of a universe. -/
namespace Go.Proofs.YtfkhelihepbehaaGreat
set_option linter.unusedVariables false

section
variable {α : Type} {c : α → α → Int}
theorem OrdLaw.zero_trans (L : OrdLaw c) {x y z : α} (h : c x y = 0) (h' : c y z = 0) : c x z = 0 := by
  have t1 := L.trans x y z (by omega) (by omega)
  have h1 := L.zero h; have h2 := L.zero h'
  have t2 := L.trans z y x (by omega) (by omega)
  have := L.swap x z; omega
theorem isIn_addS (O : OrdLaw c) (L : List α) (y x : α) : isIn c (addS c L y) x = (isIn c L x || c y x == 0) := by
  rw [Bool.eq_iff_iff, isIn_iff, Bool.or_eq_true, isIn_iff, beq_iff_eq]
  constructor
  · rintro ⟨z, hz, e⟩
    rcases mem_addS.1 hz with hz | ⟨rfl, _⟩
    · exact .inl ⟨z, hz, e⟩
    · exact .inr e
  · rintro (⟨z, hz, e⟩ | e)
    · exact ⟨z, mem_addS.2 (.inl hz), e⟩
    · cases hin : isIn c L y with
      | false => exact ⟨y, mem_addS.2 (.inr ⟨rfl, hin⟩), e⟩
      | true =>
        obtain ⟨z, hz, e'⟩ := isIn_iff.1 hin
        exact ⟨z, mem_addS.2 (.inl hz), O.zero_trans e' e⟩
theorem isIn_newS (O : OrdLaw c) (L : List α) (x : α) : isIn c (newS c L) x = isIn c L x := by
  suffices h : ∀ (ys L : List α), isIn c (ys.foldl (addS c) L) x = (isIn c L x || isIn c ys x) from by
    have := h L []
    simpa [newS, isIn] using this
  intro ys
  induction ys with
  | nil => intro L; simp [isIn]
  | cons y ys ih =>
    intro L
    rw [List.foldl_cons, ih, isIn_addS O]
    simp [isIn, Bool.or_assoc]
theorem Strict.nodup (O : OrdLaw c) {L : List α} (h : Strict c L) : L.Nodup := by
  refine List.Pairwise.imp ?_ h
  rintro a b hab rfl
  have := O.refl a; omega
theorem nodup_len [DecidableEq α] : ∀ {L U : List α}, L.Nodup → (∀ x ∈ L, x ∈ U) → L.length ≤ U.length
  | [], _, _, _ => by simp
  | x :: L, U, h, hu => by
    obtain ⟨h1, h2⟩ := List.nodup_cons.1 h
    have hx := hu x (by simp)
    have := nodup_len (L := L) (U := U.erase x) h2 (fun y hy => by
      have hne : y ≠ x := fun e => h1 (e ▸ hy)
      exact (List.mem_erase_of_ne hne).2 (hu y (List.mem_cons_of_mem _ hy)))
    rw [List.length_erase_of_mem hx] at this
    have : 0 < U.length := List.length_pos_of_mem hx
    simp only [List.length_cons]; omega
theorem mem_dropS {L : List α} {x y : α} (h : y ∈ dropS c L x) : y ∈ L := by
  unfold dropS at h
  split at h
  · rcases List.mem_append.1 h with h | h
    · exact List.mem_of_mem_take h
    · exact List.mem_of_mem_drop h
  · exact h
end
end Go.Proofs.YtfkhelihepbehaaGreat

/- The walks of the statements' helpers lent, same, kept. -/
namespace Go.Proofs.YtfkhelihepbehaaGreat
open Go.RowKit
set_option linter.unusedVariables false

theorem elem_str : ElemT Tryz.prog 29 9 1 16 (.string ⟨#[]⟩) := ⟨by kernel_rfl, by kernel_rfl, rfl, by decide⟩

def mark1 : ByteArray := ⟨#[60, 109, 97, 114, 107]⟩
def mark2 : ByteArray := ⟨#[109, 97, 114, 107, 62]⟩

/-- What 'lent' hands back: a block of its own with the row and two marks. -/
def Lent (w : World) (n : Nat) (ss : List ByteArray) (w' : World) (v : Value) : Prop :=
  ∃ g cap rest, v = .slice (some ⟨g, 0, none⟩) n cap ∧ w.heap.size ≤ g ∧ Blk w' g (strs (ss ++ [mark1, mark2]) ++ rest) 9 ∧ n + 2 + rest.length = cap ∧ cap ≤ maxLen

theorem strs_one (ss : List ByteArray) : ∀ u ∈ strs ss, u.oneCell' = true := by
  intro u hu; obtain ⟨s, _, rfl⟩ := List.mem_map.1 hu; rfl

theorem strs_snoc2 (ss : List ByteArray) (a b : ByteArray) : strs (ss ++ [a, b]) = strs ss ++ [.string a, .string b] := by simp [strs]

set_option maxHeartbeats 400000 in
theorem lent_any (ss : List ByteArray) (a : Option Addr) (c : Nat) (w : World) (ha : CellsAt w a (strs ss)) (hx : ss.length ≤ 8796093021952) :
    Calls Tryz.prog 57 #[.slice a ss.length c] w (RetN w (Lent w ss.length ss)) := by
  go_enter Tryz.func57, Tryz.ntmps57
  have hr0 := Row.empty w 9 1 (New w) (Nat.le_refl _)
  have ha1 := ha.alloc (.cells #[] 9)
  have hk0 := (Kp.refl (F := fun _ => False) w).alloc (.cells #[] 9)
  go_wp2_with (first | (at_builtin; refine Halted.out ?_))
  refine Halted.mk (wp_appN elem_str rfl _ _ rfl hk0 rfl hr0 rfl ha1 (by simp [strs]) (strs_one _) (by omega) (by unfold maxLen; omega) ?_)
  intro v1 w1 hr1 hk1 _ _
  clear hr0 ha1 hk0
  go_wp2_with (first | (at_builtin; refine Halted.out ?_))
  refine Halted.mk (wp_appN elem_str rfl _ _ rfl (hk1.alloc _) rfl (hr1.alloc _) rfl (CellsAt.two _ _ _ _) rfl (by simp [Value.oneCell']) (by omega) (by unfold maxLen; omega) ?_)
  intro v2 w2 hr2 hk2 _ _
  clear hr1 hk1
  obtain ⟨_, ⟨rfl, h⟩ | ⟨g, cap, rest, rfl, hg, hB, hl, hc, hm⟩⟩ := hr2
  · omega
  go_wp2
  go_ret
  refine RetN.mk hk2 ⟨g, cap, rest, rfl, hg, ?_, ?_, hm⟩
  · rw [strs_snoc2]; exact hB
  · simp [strs] at hl; omega

theorem same_yes (ss : List ByteArray) (a b : Option Addr) (c d : Nat) (w : World) (ha : CellsAt w a (strs ss)) (hb : CellsAt w b (strs ss)) (hx : ss.length ≤ maxLen) :
    Calls Tryz.prog 78 #[.slice a ss.length c, .slice b ss.length d] w (RetD (.bool true) w) := by
  unfold maxLen at hx
  go_enter Tryz.func78, Tryz.ntmps78
  go_wp2
  go_loopw [5] (fun i wr => ∃ k n : Nat, k ≤ ss.length ∧ i = .int .i64 k ∧ wr = w.drewN n) (fun i _ => ss.length - (intOf i).toNat)
  case atStart => exact ⟨0, 0, Nat.zero_le _, rfl, rfl⟩
  case round =>
    obtain ⟨k, n, hk, rfl, rfl⟩ := hrel
    by_cases h1 : k < ss.length
    · obtain ⟨b1, o1, rfl, c1⟩ := ha.str h1
      obtain ⟨b2, o2, rfl, c2⟩ := hb.str h1
      go_wp2
      go_quiet (fail)
      go_wp2
      go_roundw
      case rel => exact ⟨k + 1, _, by omega, by go_num, rfl⟩
      case measure => simp [intOf]; omega
    · go_wp2
      go_ret
      refine RetD.mk' rfl ?_
      first | exact ⟨_, rfl⟩ | exact drew_ex2 _ _ _ | exact drew_ex3 _ _ _ | exact ⟨_, by rw [World.drewN_drewN, World.drewN_drewN]⟩

set_option maxHeartbeats 1000000 in
theorem kept_any (ss : List ByteArray) (g cap : Nat) (a : Option Addr) (c : Nat) (rest : List Value) (w : World) (hB : Blk w g (strs (ss ++ [mark1, mark2]) ++ rest) 9) (hcap : ss.length + 2 ≤ cap) (ha : CellsAt w a (strs ss)) (hx : ss.length ≤ 8796093021952)
    (hsz : ∀ s ∈ ss, s.size ≤ 4611686018427387904) :
    Calls Tryz.prog 73 #[.slice (some ⟨g, 0, none⟩) ss.length cap, .slice a ss.length c] w (RetF (fun k => k = g) w fun _ v => v = .bool true) := by
  have hl : CellsAt w (some ⟨g, 0, none⟩) (strs ss) := by
    rw [strs_snoc2, List.append_assoc] at hB
    exact CellsAt.pre hB
  have hlen : (strs (ss ++ [mark1, mark2]) ++ rest).length = ss.length + 2 + rest.length := by simp [strs]; omega
  have c1 : w.cell? ⟨g, ss.length, none⟩ = some (.string mark1) := by
    rw [hB.cell']; simp [strs]
  have c2 : w.cell? ⟨g, ss.length + 1, none⟩ = some (.string mark2) := by
    rw [hB.cell']; simp [strs]
  have hne : ¬ cap = 0 := by omega
  have m1 : (mark1.toList == [60, 109, 97, 114, 107]) = true := by decide +kernel
  have m2 : (mark2.toList == [109, 97, 114, 107, 62]) = true := by decide +kernel
  go_enter Tryz.func73, Tryz.ntmps73
  go_wp2_with fail
  refine (same_yes ss _ _ _ _ _ hl ha (by unfold maxLen; omega)).mono ?_
  rintro e w' ⟨rfl, n, rfl⟩
  go_wp2
  have hBH := Lib.hid hB; clear hB
  have hlenH := Lib.hid hlen; clear hlen
  clear c1 c2 m1 m2 hl ha
  go_loopw [7] (fun i wr => ∃ k : Nat, k ≤ ss.length ∧ i = .int .i64 k ∧ Kp (fun k => k = g) w wr ∧ ∃ cs, Blk wr g cs 9 ∧ cs.length = ss.length + 2 + rest.length ∧ ∀ j, (hj : j < ss.length) → k ≤ j → cs[j]? = some (.string ss[j])) (fun i _ => ss.length - (intOf i).toNat)
  case atStart =>
    refine ⟨0, Nat.zero_le _, rfl, (Kp.refl _).drewN n, _, hBH.out.drewN n, hlenH.out, fun j hj _ => ?_⟩
    simp [strs, hj, List.getElem?_append]
  case round =>
    obtain ⟨k, hk, rfl, hkp, cs, hb, hcs, hcell⟩ := hrel
    have hcsH := Lib.hid hcs; clear hcs
    by_cases h1 : k < ss.length
    · have c3 : wr.cell? ⟨g, k, none⟩ = some (.string ss[k]) := by rw [hb.cell']; exact hcell k h1 (Nat.le_refl _)
      have c4 := hb.free k
      have hs := hsz ss[k] (List.getElem_mem h1)
      have hB2 := fun v => hb.set k v
      have hBH2 := Lib.hid hB2; clear hB2 hb
      have hcellH := Lib.hid hcell; clear hcell
      generalize ss[k] = s at *
      go_wp2
      go_roundw
      case rel =>
        refine ⟨k + 1, by omega, by go_num, hkp.setCell (fun _ => rfl) _, _, hBH2.out _, by simp [hcsH.out], fun j hj hkj => ?_⟩
        rw [List.getElem?_set_ne (by omega)]
        exact hcellH.out j hj (by omega)
      case measure => simp [intOf]; omega
    · go_wp2
      go_ret
      exact RetF.mk hkp rfl

end Go.Proofs.YtfkhelihepbehaaGreat

/- The algebra of sets in an order in which alike are the same: plain laws, no program in sight. -/
namespace Go.Proofs.YtfkhelihepbehaaGreat
set_option linter.unusedVariables false

section
variable {α : Type} {c : α → α → Int}
/-- Alike are the same. -/
def Tight (c : α → α → Int) : Prop := ∀ x y, c x y = 0 → x = y
theorem isIn_mem (O : OrdLaw c) (T : Tight c) {L : List α} {x : α} : isIn c L x = true ↔ x ∈ L := by
  rw [isIn_iff]
  constructor
  · rintro ⟨y, hy, e⟩; rw [← T y x e]; exact hy
  · intro h; exact ⟨x, h, O.refl x⟩
theorem mem_newS (O : OrdLaw c) (T : Tight c) {L : List α} {x : α} : x ∈ newS c L ↔ x ∈ L := by
  rw [← isIn_mem O T (c := c), isIn_newS O, isIn_mem O T]
variable (O : OrdLaw c) (T : Tight c) {s o : List α} (hs : Strict c s) (ho : Strict c o)
end
end Go.Proofs.YtfkhelihepbehaaGreat

/- Maps whose keys are texts: what is in one, as a list of pairs; looking up, writing. No program in sight. -/
namespace Go.Proofs.YtfkhelihepbehaaGreat
open Go.RowKit
set_option linter.unusedVariables false

/-- The value under a key. -/
def getM (m : List (ByteArray × Value)) (s : ByteArray) : Option Value := (m.find? fun p => decide (p.1 = s)).map (·.2)
/-- A value laid under a key. -/
def putM (m : List (ByteArray × Value)) (s : ByteArray) (v : Value) : List (ByteArray × Value) := if (getM m s).isSome then m.map fun p => if p.1 = s then (p.1, v) else p else m ++ [(s, v)]

/-- A map in memory. -/
def MapIs (w : World) (r : Nat) (m : List (ByteArray × Value)) : Prop :=
  ∃ es clock, w.heap[r]? = some (.map es clock) ∧ es.toList.map (fun e => (e.key, e.val)) = m.map (fun p => (Value.string p.1, p.2)) ∧ (m.map (·.1)).Nodup ∧ MapKept.Stamped es clock

section
variable {P : Program} {w w' : World} {r : Nat} {m : List (ByteArray × Value)}
theorem MapIs.kp {F : Nat → Prop} (h : MapIs w r m) (hk : Kp F w w') (hf : ¬ F r) : MapIs w' r m := by
  obtain ⟨es, c, h1, h2⟩ := h
  exact ⟨es, c, (hk.block r (lt_of_block h1) hf).trans h1, h2⟩
theorem MapIs.ext (h : MapIs w r m) (hk : Ext w w') : MapIs w' r m := h.kp hk id
theorem MapIs.lt (h : MapIs w r m) : r < w.heap.size := by
  obtain ⟨es, c, h1, h2⟩ := h
  exact lt_of_block h1
theorem MapIs.new (w : World) : MapIs (w.alloc (.map #[] 0)) w.heap.size [] := by
  refine ⟨#[], 0, ?_, rfl, List.nodup_nil, MapKept.stamped_empty 0⟩
  show (w.heap.push _)[w.heap.size]? = _; simp

theorem ba_beq (a b : ByteArray) : (a == b) = decide (a = b) := by
  rw [Bool.eq_iff_iff, MapKept.bytes_beq, decide_eq_true_iff]

theorem findNow_str (s : ByteArray) : ∀ (es : List MapEntry) (m : List (ByteArray × Value)) (i : Nat), es.map (fun e => (e.key, e.val)) = m.map (fun p => (Value.string p.1, p.2)) →
    Instr.findNow .string (.string s) es i = some ((m.findIdx? fun p => decide (p.1 = s)).bind fun k => (m[k]?).map fun p => (i + k, p.2))
  | [], [], i, _ => rfl
  | [], _ :: _, i, h => by simp at h
  | _ :: _, [], i, h => by simp at h
  | e :: es, p :: m, i, h => by
    simp only [List.map_cons, List.cons.injEq, Prod.mk.injEq] at h
    obtain ⟨⟨h1, h2⟩, h3⟩ := h
    have ih := findNow_str s es m (i + 1) h3
    by_cases hs : s = p.1
    · subst hs
      simp [Instr.findNow, Instr.sameNow, h1, h2, List.findIdx?_cons, ba_beq]
    · have hb' : decide (p.1 = s) = false := by simp [Ne.symm hs]
      have hb : (s == p.1) = false := by rw [ba_beq]; simp [hs]
      simp only [Instr.findNow, Instr.sameNow, h1, hb, ih, List.findIdx?_cons, hb']
      cases hf : m.findIdx? (fun p => decide (p.1 = s)) with
      | none => simp
      | some k => simp [Nat.add_assoc, Nat.add_comm 1 k]

theorem getM_idx (m : List (ByteArray × Value)) (s : ByteArray) : getM m s = (m.findIdx? fun p => decide (p.1 = s)).bind fun k => (m[k]?).map (·.2) := by
  unfold getM
  induction m with
  | nil => rfl
  | cons p m ih =>
    by_cases hs : p.1 = s
    · simp [hs, List.findIdx?_cons]
    · simp only [List.find?_cons, List.findIdx?_cons, hs, decide_false, Bool.false_eq_true, if_false]
      rw [ih]
      cases m.findIdx? (fun p => decide (p.1 = s)) <;> simp

theorem run_check_str {k : TypeId} (hk : P.underlying k = some .string) (s : ByteArray) (em : Bool) (n : Nat) : (Instr.checkKey em (n + 1) k (.string s)).run P w = .ok () w := by
  simp [Instr.checkKey, run_underlying hk]
theorem run_find_str {k : TypeId} (hk : P.underlying k = some .string) (s : ByteArray) {es : List MapEntry} {r : Option (Nat × Value)} (hf : Instr.findNow .string (.string s) es 0 = some r) : (Instr.findKey k (.string s) es).run P w = .ok r w := by
  simp [Instr.findKey, run_underlying hk, hf]
/-- What a look-up gives. -/
theorem run_lookup_str {t k e : TypeId} (ht : P.underlying t = some (.map k e)) (hk : P.underlying k = some .string) {z : Value} (hz : (zeroValue e).run P w = .ok z w) (h : MapIs w r m) (s : ByteArray) :
    (Instr.lookup t (.map (some r)) (.string s) false).run P w = .ok ((getM m s).getD z) w := by
  obtain ⟨es, c, h1, h2, h3⟩ := h
  have hf := run_find_str (w := w) hk s (findNow_str s es.toList m 0 h2)
  have hg := getM_idx m s
  have hc := run_check_str (w := w) hk s es.isEmpty 9999
  cases hi : m.findIdx? (fun p => decide (p.1 = s)) with
  | none =>
    rw [hi] at hf hg
    simp only [Option.bind_none] at hf hg
    simp [Instr.lookup, run_underlying ht, MapKept.run_getObj_map h1, hc, hf, hg, hz, Result.andThen]
  | some i =>
    rw [hi] at hf hg
    simp only [Option.bind_some] at hf hg
    obtain ⟨hl, _⟩ := List.findIdx?_eq_some_iff_getElem.1 hi
    rw [List.getElem?_eq_getElem hl] at hf hg
    simp only [Option.map_some] at hf hg
    simp [Instr.lookup, run_underlying ht, MapKept.run_getObj_map h1, hc, hf, hg, Result.andThen]

/-- What a look-up gives that asks whether it is there. -/
theorem run_lookup_str_ok {t k e : TypeId} (ht : P.underlying t = some (.map k e)) (hk : P.underlying k = some .string) {z : Value} (hz : (zeroValue e).run P w = .ok z w) (h : MapIs w r m) (s : ByteArray) :
    (Instr.lookup t (.map (some r)) (.string s) true).run P w = .ok (.tuple #[(getM m s).getD z, .bool (getM m s).isSome]) w := by
  obtain ⟨es, c, h1, h2, h3⟩ := h
  have hf := run_find_str (w := w) hk s (findNow_str s es.toList m 0 h2)
  have hg := getM_idx m s
  have hc := run_check_str (w := w) hk s es.isEmpty 9999
  cases hi : m.findIdx? (fun p => decide (p.1 = s)) with
  | none =>
    rw [hi] at hf hg
    simp only [Option.bind_none] at hf hg
    simp [Instr.lookup, run_underlying ht, MapKept.run_getObj_map h1, hc, hf, hg, hz, Result.andThen]
  | some i =>
    rw [hi] at hf hg
    simp only [Option.bind_some] at hf hg
    obtain ⟨hl, _⟩ := List.findIdx?_eq_some_iff_getElem.1 hi
    rw [List.getElem?_eq_getElem hl] at hf hg
    simp only [Option.map_some] at hf hg
    simp [Instr.lookup, run_underlying ht, MapKept.run_getObj_map h1, hc, hf, hg, Result.andThen]

theorem run_stays_str (s : ByteArray) : (Instr.keyThatStays (.string s) (.string s)).run P w = .ok (.string s) w := by
  have h : Instr.sameBits 10000 (.string s) (.string s) = true := by
    simp [Instr.sameBits, ba_beq]
  simp [Instr.keyThatStays, h]
/-- A block turned. -/
def laid (w : World) (r : Nat) (o : Obj) : World := { w with heap := w.heap.setIfInBounds r o }
theorem kp_laid (w : World) (r : Nat) (o : Obj) : Kp (fun k => k = r) w (laid w r o) :=
  ⟨rfl, rfl, rfl, by simp [laid], fun k _ hk => by simp only [laid]; rw [Array.getElem?_setIfInBounds_ne (fun e => hk e.symm)]⟩
theorem laid_same (w : World) (r : Nat) (o : Obj) (h : r < w.heap.size) : (laid w r o).heap[r]? = some o := by
  simp [laid, h]

/-- What a writing does. -/
theorem run_update_str {t k e : TypeId} (ht : P.underlying t = some (.map k e)) (hk : P.underlying k = some .string) (h : MapIs w r m) (s : ByteArray) (v : Value) :
    ∃ w', (Instr.mapUpdate t (.map (some r)) (.string s) v).run P w = .ok () w' ∧ MapIs w' r (putM m s v) ∧ Kp (fun k => k = r) w w' := by
  obtain ⟨es, c, h1, h2, h3, h4⟩ := h
  have hlt := lt_of_block h1
  have hf := run_find_str (w := w) hk s (findNow_str s es.toList m 0 h2)
  have hg := getM_idx m s
  have hc := run_check_str (w := w) hk s false 9999
  have hlen : es.size = m.length := by simpa using congrArg List.length h2
  cases hi : m.findIdx? (fun p => decide (p.1 = s)) with
  | none =>
    rw [hi] at hf hg
    simp only [Option.bind_none] at hf hg
    refine ⟨laid w r (.map (es.push { key := .string s, val := v, born := c }) (c + 1)), ?_, ⟨_, _, laid_same _ _ _ hlt, ?_, ?_, ?_⟩, kp_laid _ _ _⟩
    · simp [Instr.mapUpdate, run_underlying ht, MapKept.run_getObj_map h1, hc, hf, Result.andThen, MapKept.run_setObj_map _ h1, laid]
    · simp [putM, hg, h2]
    · have hno := List.findIdx?_eq_none_iff.1 hi
      simp only [putM, hg, Option.isSome_none, Bool.false_eq_true, if_false, List.map_append, List.map_cons, List.map_nil]
      refine List.nodup_append.2 ⟨h3, by simp, ?_⟩
      intro a ha b hb
      simp only [List.mem_singleton] at hb
      subst hb
      obtain ⟨p, hp, rfl⟩ := List.mem_map.1 ha
      have := hno p hp
      simpa using this
    · refine MapKept.stamped_push h4 fun x hx e => ?_
      have h5 : (x.key, x.val) ∈ es.toList.map (fun e => (e.key, e.val)) := List.mem_map.2 ⟨x, hx, rfl⟩
      rw [h2] at h5
      obtain ⟨p, hp, e2⟩ := List.mem_map.1 h5
      have h6 := List.findIdx?_eq_none_iff.1 hi p hp
      have h7 : Value.string p.1 = Value.string s := by rw [← e]; exact congrArg Prod.fst e2
      simp at h6 h7
      exact h6 h7
  | some i =>
    rw [hi] at hf hg
    simp only [Option.bind_some] at hf hg
    obtain ⟨hl, hpi, hbefore⟩ := List.findIdx?_eq_some_iff_getElem.1 hi
    rw [List.getElem?_eq_getElem hl] at hf hg
    simp only [Option.map_some, Nat.zero_add] at hf hg
    have hei : es[i]? = some (es[i]'(by omega)) := Array.getElem?_eq_getElem (by omega)
    have hpair := congrArg (fun l : List (Value × Value) => l[i]?) h2
    simp only [List.getElem?_map, Array.getElem?_toList, hei, List.getElem?_eq_getElem hl, Option.map_some, Option.some.injEq, Prod.mk.injEq] at hpair
    have hps : m[i].1 = s := by simpa using hpi
    have hkey : (es[i]'(by omega)).key = .string s := by rw [hpair.1, hps]
    refine ⟨laid w r (.map (es.modify i fun e => { e with key := .string s, val := v }) c), ?_, ⟨_, _, laid_same _ _ _ hlt, ?_, ?_, ?_⟩, kp_laid _ _ _⟩
    · simp [Instr.mapUpdate, run_underlying ht, MapKept.run_getObj_map h1, hc, hf, hei, hkey, run_stays_str, Result.andThen, MapKept.run_setObj_map _ h1, laid]
    · simp only [putM, hg, Option.isSome_some, if_true]
      apply List.ext_getElem?
      intro q
      have hq := congrArg (fun l : List (Value × Value) => l[q]?) h2
      simp only [List.getElem?_map, Array.getElem?_toList] at hq
      simp only [List.getElem?_map, Array.getElem?_toList, Array.getElem?_modify]
      cases hmq : m[q]? with
      | none =>
        rw [hmq] at hq
        cases heq : es[q]? with
        | none => by_cases e : i = q <;> simp
        | some x => rw [heq] at hq; simp at hq
      | some p =>
        rw [hmq] at hq
        cases heq : es[q]? with
        | none => rw [heq] at hq; simp at hq
        | some x =>
          rw [heq] at hq
          simp only [Option.map_some, Option.some.injEq, Prod.mk.injEq] at hq
          by_cases e : i = q
          · subst e
            have : p = m[i] := by rw [List.getElem?_eq_getElem hl] at hmq; exact (Option.some.inj hmq).symm
            subst this
            simp [hps]
          · have hne : p.1 ≠ s := by
              intro e2
              have h5 := List.pairwise_iff_getElem.1 h3
              obtain ⟨hql, hqe⟩ := List.getElem?_eq_some_iff.1 hmq
              rcases Nat.lt_or_gt_of_ne e with h6 | h6
              · have := h5 i q (by simpa using hl) (by simpa using hql) h6
                simp only [List.getElem_map, hqe, hps, e2] at this
                exact this rfl
              · have := h5 q i (by simpa using hql) (by simpa using hl) h6
                simp only [List.getElem_map, hqe, hps, e2] at this
                exact this rfl
            simp [e, hne, hq.1, hq.2]
    · simp only [putM, hg, Option.isSome_some, if_true, List.map_map]
      have : (fun x : ByteArray × Value => x.1) ∘ (fun p => if p.1 = s then (p.1, v) else p) = fun x => x.1 := by
        funext p; simp only [Function.comp]; split <;> rfl
      rw [this]; exact h3
    · refine MapKept.stamped_modify h4 i _ (fun _ _ => rfl) fun e _ he => ?_
      rw [hei] at he
      cases he
      exact hkey.symm
end
end Go.Proofs.YtfkhelihepbehaaGreat

/- A region that draws its order, walked in the text's order, guards and all: the laws beneath the lines that takes.py prints. No program in sight. -/
namespace Go.Proofs.YtfkhelihepbehaaGreat
set_option linter.unusedVariables false

section
variable {P : Program} {l : List Oper} {Q : Exit → Act → World → Prop} {md : Region.Mode} {S : World → Prop} {fuel : Nat} {listed : Array Bool} {a : Act} {w : World}
theorem op_at {i : Nat} {oi : Oper} (hi : l[i]? = some oi) : l.toArray[i]? = some oi := by rw [List.getElem?_toArray]; exact hi
theorem and3 {a b c : Bool} (h : (a && b && c) = true) : a = true ∧ b = true ∧ c = true := by
  cases a <;> cases b <;> cases c <;> simp_all
/-- It is wanted and yields v. -/
theorem take_in {i : Nat} {oi : Oper} {v : Value} (hi : l[i]? = some oi) (hy : ∀ w, S w → (execOp a.eval oi).run P w = .ok (.value v) w)
    (h : wpAnyH P md l.toArray Q S fuel (listed.setIfInBounds i true) (a.put oi.dst v) w)
    (side : (Region.noSelect l.toArray && Region.free md l.toArray listed i && (Region.ready md l.toArray listed).contains i) = true := by kernel_rfl)
    (hw : Region.wanted oi (yielded l.toArray a.tmps) = true := by rfl) (hQ : ∀ c a w, Q (.panic c) (a.put oi.dst v) w → Q (.panic c) a w := by exact fun _ _ _ h => h) (hS : S w := by assumption) :
    wpAnyH P md l.toArray Q S (fuel + 1) listed a w :=
  wpAnyH_take (op_at hi) (and3 side).1 (and3 side).2.1 (and3 side).2.2 hQ (.inl ⟨hw, hy⟩) hS h
/-- Its guard says no. -/
theorem take_out {i : Nat} {oi : Oper} (hi : l[i]? = some oi) (h : wpAnyH P md l.toArray Q S fuel (listed.setIfInBounds i true) (a.put oi.dst undef) w)
    (side : (Region.noSelect l.toArray && Region.free md l.toArray listed i && (Region.ready md l.toArray listed).contains i) = true := by kernel_rfl)
    (hw : Region.wanted oi (yielded l.toArray a.tmps) = false := by rfl) (hQ : ∀ c a w, Q (.panic c) (a.put oi.dst undef) w → Q (.panic c) a w := by exact fun _ _ _ h => h) (hS : S w := by assumption) :
    wpAnyH P md l.toArray Q S (fuel + 1) listed a w :=
  wpAnyH_take (op_at hi) (and3 side).1 (and3 side).2.1 (and3 side).2.2 hQ (.inr ⟨hw, rfl⟩) hS h
/-- It alone may come up. -/
theorem take_call {i : Nat} {o : Oper} (ho : l[i]? = some o)
    (h : ∀ K' : Act → World → Prop, Shut (∀ a w, S w → (S w → wpAnyH P md l.toArray Q S fuel (listed.setIfInBounds i true) a w) → K' a w) → if Region.wanted o (yielded l.toArray a.tmps) = true then Oper.wp P o a w K' Q else K' (a.put o.dst undef) w)
    (hr : Region.ready md l.toArray listed = [i] := by kernel_rfl) : wpAnyH P md l.toArray Q S (fuel + 1) listed a w :=
  wpAnyH_ready hr (by simp) (AllReadyH.cons (op_at ho) h AllReadyH.nil)
end
end Go.Proofs.YtfkhelihepbehaaGreat

/- From what a row hands over of an argument to the words of these proofs. No program in sight. -/
namespace Go.Proofs.YtfkhelihepbehaaGreat
open Go.ChangeShapes Go.WideShapes Go.ChangeAt Go.RowKit
open Go.ChangeMaps (open_string shut_string)
set_option linter.unusedVariables false

section
variable {H : Type} {enc : TypeId × Value → H} {P : Program} {W : World}

end
end Go.Proofs.YtfkhelihepbehaaGreat

/- What a bound on the reading gives; []int as it came in. -/
namespace Go.Proofs.YtfkhelihepbehaaGreat
open Go.ChangeShapes Go.WideShapes Go.ChangeAt Go.RowKit
set_option linter.unusedVariables false

theorem bulk_one {H : Type} (d : DataW H) : 1 ≤ Rows.uptoBulk d := by
  cases d with
  | lit l => cases l <;> simp [Rows.uptoBulk]
  | nil => simp [Rows.uptoBulk]
  | ptr d => simp [Rows.uptoBulk]
  | slice elems spare => simp [Rows.uptoBulk]
  | agg parts => simp [Rows.uptoBulk]
  | iface t d => simp [Rows.uptoBulk]
  | map entries => simp [Rows.uptoBulk]
  | held h => simp [Rows.uptoBulk]
end Go.Proofs.YtfkhelihepbehaaGreat

/- Shapes: how data of a type lie in memory, and what a reading of a bounded argument gives of them. -/
namespace Go.Proofs.YtfkhelihepbehaaGreat
open Go.ChangeShapes Go.WideShapes Go.ChangeAt Go.RowKit
set_option linter.unusedVariables false

/-- How data of a type lie in memory: the cells cs of world w are the datum x, all that they lead to lies in blocks of G. -/
structure Shp (P : Program) (α : Type) where
  ty : TypeId
  n : Nat
  At : World → (Nat → Prop) → List Value → α → Prop
  bulk : α → Nat
  cells : P.cellsOf ty = n
  len : ∀ {w G cs x}, At w G cs x → cs.length = n
  kp : ∀ {w w' G F cs x}, At w G cs x → Kp F w w' → (∀ k, G k → ¬ F k) → At w' G cs x
  mono : ∀ {w G G' cs x}, At w G cs x → (∀ k, G k → G' k) → At w G' cs x
  read : ∀ {H : Type} {enc : TypeId × Value → H} {w fuel cs d p}, DataW.trod enc P w 0 (fun _ => true) true fuel ty cs = some (d, p) → ∃ x, At w (fun k => k < w.heap.size) cs x ∧ bulk x ≤ Rows.uptoBulk d

section
variable {P : Program} {α β : Type}
def shInt (t : TypeId) (k : IntKind) (hu : P.underlying t = some (.int k)) (hc : P.cellsOf t = 1) : Shp P Int where
  ty := t
  n := 1
  At := fun _ _ cs x => cs = [.int k x] ∧ (Lit.int k x).wf = true
  bulk := fun _ => 1
  cells := hc
  len := fun h => by rw [h.1]; rfl
  kp := fun h _ _ => h
  mono := fun h _ => h
  read := fun h => by
    obtain ⟨n, rfl, e, hw⟩ := DataW.trod_int hu h
    cases e
    exact ⟨n, ⟨rfl, hw⟩, bulk_one _⟩
def shStr (t : TypeId) (hu : P.underlying t = some .string) (hc : P.cellsOf t = 1) : Shp P ByteArray where
  ty := t
  n := 1
  At := fun _ _ cs x => cs = [.string x] ∧ x.size ≤ maxLen
  bulk := fun x => x.size + 1
  cells := hc
  len := fun h => by rw [h.1]; rfl
  kp := fun h _ _ => h
  mono := fun h _ => h
  read := fun h => by
    obtain ⟨n, rfl, e, hw⟩ := DataW.trod_string hu h
    cases e
    refine ⟨n, ⟨rfl, hw⟩, ?_⟩
    rw [Rows.uptoBulk, Array.length_toList]; exact Nat.le_refl _

/-- A slice's elements. -/
def ElemsAt (s : Shp P α) (w : World) (G : Nat → Prop) (ao : Option Addr) (xs : List α) : Prop :=
  ∀ i x, xs[i]? = some x → ∃ b off es, ao = some ⟨b, off, none⟩ ∧ G b ∧ b < w.heap.size ∧ s.At w G es x ∧ ∀ c u, es[c]? = some u → w.cell? ⟨b, off + (i * s.n + c), none⟩ = some u
theorem ElemsAt.kp {s : Shp P α} {w w' : World} {G F : Nat → Prop} {ao : Option Addr} {xs : List α} (h : ElemsAt s w G ao xs) (hk : Kp F w w') (hF : ∀ k, G k → ¬ F k) : ElemsAt s w' G ao xs := fun i x hx => by
  obtain ⟨b, off, es, e, hg, hb, ha, hc⟩ := h i x hx
  exact ⟨b, off, es, e, hg, Nat.lt_of_lt_of_le hb hk.size, s.kp ha hk hF, fun c u hu => hk.cell (hc c u hu) (hF b hg)⟩
theorem ElemsAt.ext {s : Shp P α} {w w' : World} {G : Nat → Prop} {ao : Option Addr} {xs : List α} (h : ElemsAt s w G ao xs) (hk : Ext w w') : ElemsAt s w' G ao xs := h.kp hk fun _ _ => id
theorem ElemsAt.mono {s : Shp P α} {w : World} {G G' : Nat → Prop} {ao : Option Addr} {xs : List α} (h : ElemsAt s w G ao xs) (hG : ∀ k, G k → G' k) : ElemsAt s w G' ao xs := fun i x hx => by
  obtain ⟨b, off, es, e, hg, hb, ha, hc⟩ := h i x hx
  exact ⟨b, off, es, e, hG b hg, hb, s.mono ha hG, hc⟩
def bulkL (f : α → Nat) (xs : List α) : Nat := (xs.map f).sum
theorem bulkL_cons (f : α → Nat) (x : α) (xs : List α) : bulkL f (x :: xs) = f x + bulkL f xs := by simp [bulkL]
theorem bulkL_mem (f : α → Nat) {x : α} : ∀ {xs : List α}, x ∈ xs → f x ≤ bulkL f xs
  | y :: xs, h => by
    rw [bulkL_cons]
    rcases List.mem_cons.1 h with rfl | h
    · omega
    · have := bulkL_mem f h; omega
theorem bulkL_len (f : α → Nat) (hf : ∀ x, 1 ≤ f x) : ∀ xs : List α, xs.length ≤ bulkL f xs
  | [] => by simp
  | x :: xs => by have := bulkL_len f hf xs; have := hf x; rw [bulkL_cons]; simp only [List.length_cons]; omega
theorem bulkL_le {H : Type} (f : α → Nat) : ∀ (xs : List α) (D : List (DataW H)), xs.length = D.length → (∀ (i : Nat) x d, xs[i]? = some x → D[i]? = some d → f x ≤ Rows.uptoBulk d) → bulkL f xs ≤ Rows.uptoBulkAll D
  | [], [], _, _ => by simp [bulkL]
  | x :: xs, d :: D, hl, h => by
    have h0 := h 0 x d rfl rfl
    have := bulkL_le f xs D (by simpa using hl) (fun i y e hy he => h (i + 1) y e (by simpa using hy) (by simpa using he))
    rw [bulkL_cons]; simp only [Rows.uptoBulkAll]; omega

def shSlice (t : TypeId) (s : Shp P α) (hu : P.underlying t = some (.slice s.ty)) (hc : P.cellsOf t = 1) (hn : 0 < s.n) : Shp P (List α) where
  ty := t
  n := 1
  At := fun w G cs xs => ∃ ao cap, cs = [.slice ao xs.length cap] ∧ xs.length ≤ cap ∧ cap ≤ maxLen ∧ ElemsAt s w G ao xs
  bulk := fun xs => bulkL s.bulk xs + 1
  cells := hc
  len := fun h => by obtain ⟨_, _, e, _⟩ := h; rw [e]; rfl
  kp := fun ⟨ao, cap, e, h1, h2, h⟩ hk hF => ⟨ao, cap, e, h1, h2, h.kp hk hF⟩
  mono := fun ⟨ao, cap, e, h1, h2, h⟩ hG => ⟨ao, cap, e, h1, h2, h.mono hG⟩
  read := fun {H enc w fuel cs d p} h => by
    rcases Go.Deep.open_slice hu h with ⟨hcs, hx⟩ | ⟨a, len, cap, m, n, D, Pl, hcs, _, hl, hm, hmm, hx, hel⟩
    · cases hx
      exact ⟨[], ⟨none, 0, hcs, by simp, by simp [maxLen], fun i x hi => by simp at hi⟩, by simp [Rows.uptoBulk, bulkL]⟩
    · cases hx
      subst hcs
      simp only [if_true] at hmm
      have each : ∀ i, i < len → ∃ q : α × List Value, (s.At w (fun k => k < w.heap.size) q.2 q.1 ∧ s.bulk q.1 ≤ Rows.uptoBulk (D i)) ∧ ∃ b off, a = ⟨b, off, none⟩ ∧ b < w.heap.size ∧ ∀ c u, q.2[c]? = some u → w.cell? ⟨b, off + (i * s.n + c), none⟩ = some u := by
        intro i hi
        obtain ⟨cs, hcs, ht⟩ := hel i (by omega)
        obtain ⟨x, hx, hb⟩ := s.read ht
        rw [s.cells] at hcs
        obtain ⟨_, hlen, hcell⟩ := World.cells?_some hcs
        obtain ⟨b, off, spot⟩ := a
        have hspot : spot = none := by
          obtain ⟨cs0, hcs0, _⟩ := hel 0 (by omega)
          rw [s.cells] at hcs0
          obtain ⟨_, hlen0, hcell0⟩ := World.cells?_some hcs0
          have h0 := hcell0 0 hn
          rw [List.getElem?_eq_getElem (by omega)] at h0
          have := World.cell?_spot h0
          simpa [Addr.add] using this
        subst hspot
        have cell : ∀ c, c < s.n → w.cell? ⟨b, off + (i * s.n + c), none⟩ = cs[c]? := fun c hc => by
          have := hcell c hc
          rw [Go.Deep.add_add, Addr.add_lit] at this
          exact this
        refine ⟨(x, cs), ⟨hx, hb⟩, b, off, rfl, ?_, fun c u hu => ?_⟩
        · have h0 := cell 0 hn
          rw [List.getElem?_eq_getElem (by omega)] at h0
          exact World.block_lt_of_cell? _ _ h0
        · have hc := (List.getElem?_eq_some_iff.1 hu).1
          rw [cell c (by simp only at hc; omega)]; exact hu
      have hex : ∃ q : List (α × List Value), q.length = len ∧ ∀ (i : Nat) y, q[i]? = some y → (s.At w (fun k => k < w.heap.size) y.2 y.1 ∧ s.bulk y.1 ≤ Rows.uptoBulk (D i)) ∧ ∃ b off, a = ⟨b, off, none⟩ ∧ b < w.heap.size ∧ ∀ c u, y.2[c]? = some u → w.cell? ⟨b, off + (i * s.n + c), none⟩ = some u := by
        clear hel hmm hl hm h
        induction len with
        | zero => exact ⟨[], rfl, fun i y hy => by simp at hy⟩
        | succ len ih =>
          obtain ⟨q, h1, h2⟩ := ih (fun i hi => each i (by omega))
          obtain ⟨y, hy⟩ := each len (by omega)
          refine ⟨q ++ [y], by simp [h1], fun i z hz => ?_⟩
          by_cases hi : i < len
          · rw [List.getElem?_append_left (by omega)] at hz; exact h2 i z hz
          · have h3 := (List.getElem?_eq_some_iff.1 hz).1
            simp only [List.length_append, List.length_cons, List.length_nil] at h3
            have e : i = len := by omega
            subst e
            rw [List.getElem?_append_right (by omega)] at hz
            simp [h1] at hz
            subst hz; exact hy
      obtain ⟨q, hq, hall⟩ := hex
      refine ⟨q.map (·.1), ⟨some a, cap, by simp [hq], by simp [hq, hl], hm, fun i x hi => ?_⟩, ?_⟩
      · rw [List.getElem?_map] at hi
        cases hy : q[i]? with
        | none => rw [hy] at hi; cases hi
        | some y =>
          rw [hy] at hi
          cases hi
          obtain ⟨⟨h1, _⟩, b, off, rfl, hb, hc⟩ := hall i y hy
          exact ⟨b, off, y.2, rfl, hb, hb, h1, hc⟩
      · have := bulkL_le (H := H) s.bulk (q.map (·.1)) ((List.range len).map D) (by simp [hq]) (fun i x d hx hd => by
          rw [List.getElem?_map] at hx hd
          cases hy : q[i]? with
          | none => rw [hy] at hx; cases hx
          | some y =>
            have hi := (List.getElem?_eq_some_iff.1 hy).1
            rw [hy] at hx
            rw [List.getElem?_range (by omega)] at hd
            cases hx; cases hd
            exact (hall i y hy).1.2)
        simp only [Rows.uptoBulk]
        omega

/-- A struct's fields, from an offset on. -/
structure Flds (P : Program) (α : Type) where
  n : Nat
  At : World → (Nat → Prop) → List Value → α → Prop
  bulk : α → Nat
  ok : List Field → Nat → Prop
  len : ∀ {w G cs x}, At w G cs x → cs.length = n
  kp : ∀ {w w' G F cs x}, At w G cs x → Kp F w w' → (∀ k, G k → ¬ F k) → At w' G cs x
  mono : ∀ {w G G' cs x}, At w G cs x → (∀ k, G k → G' k) → At w G' cs x
  read : ∀ {H : Type} {enc : TypeId × Value → H} {w : World} {fuel : Nat} {fs : List Field} {off : Nat} {cs : List Value} {xs : List (DataW H × List MemPlace)}, ok fs off → off + n ≤ cs.length → (fs.mapM fun f => DataW.trod enc P w 0 (fun _ => true) true fuel f.type ((cs.drop f.offset).take (P.cellsOf f.type))) = some xs →
    ∃ x, At w (fun k => k < w.heap.size) ((cs.drop off).take n) x ∧ bulk x ≤ Rows.uptoBulkAll (xs.map (·.1))
def fdNil : Flds P Unit where
  n := 0
  At := fun _ _ cs _ => cs = []
  bulk := fun _ => 0
  ok := fun fs _ => fs = []
  len := fun h => by rw [h]; rfl
  kp := fun h _ _ => h
  mono := fun h _ => h
  read := fun h _ hm => by
    subst h
    exact ⟨(), by simp, by simp⟩
def fdCons (s : Shp P α) (r : Flds P β) : Flds P (α × β) where
  n := s.n + r.n
  At := fun w G cs x => ∃ a b, cs = a ++ b ∧ s.At w G a x.1 ∧ r.At w G b x.2
  bulk := fun x => s.bulk x.1 + r.bulk x.2
  ok := fun fs off => ∃ f fs', fs = f :: fs' ∧ f.type = s.ty ∧ f.offset = off ∧ r.ok fs' (off + s.n)
  len := fun h => by obtain ⟨a, b, e, h1, h2⟩ := h; rw [e, List.length_append, s.len h1, r.len h2]
  kp := fun ⟨a, b, e, h1, h2⟩ hk hF => ⟨a, b, e, s.kp h1 hk hF, r.kp h2 hk hF⟩
  mono := fun ⟨a, b, e, h1, h2⟩ hG => ⟨a, b, e, s.mono h1 hG, r.mono h2 hG⟩
  read := fun {H enc w fuel fs off cs xs} ho hl hm => by
    obtain ⟨f, fs', rfl, h1, h2, h3⟩ := ho
    rw [List.mapM_cons] at hm
    obtain ⟨y, hy, hm⟩ := Option.bind_eq_some_iff.1 hm
    obtain ⟨ys, hys, hm⟩ := Option.bind_eq_some_iff.1 hm
    cases hm
    rw [h1, h2, s.cells] at hy
    obtain ⟨x, hx, hb⟩ := s.read (d := y.1) (p := y.2) hy
    obtain ⟨z, hz, hc⟩ := r.read h3 (by omega) hys
    refine ⟨(x, z), ⟨_, _, ?_, hx, hz⟩, ?_⟩
    · rw [← List.drop_drop, List.take_add]
    · simp only [List.map_cons, Rows.uptoBulkAll]; omega
def shStruct (t : TypeId) (r : Flds P α) {fs : Array Field} (hu : P.underlying t = some (.struct fs)) (hok : r.ok fs.toList 0) (hc : P.cellsOf t = r.n) : Shp P α where
  ty := t
  n := r.n
  At := r.At
  bulk := fun x => r.bulk x + 1
  cells := hc
  len := r.len
  kp := r.kp
  mono := r.mono
  read := fun {H enc w fuel cs d p} h => by
    cases fuel with
    | zero => simp [DataW.trod] at h
    | succ fuel =>
      unfold DataW.trod at h
      rw [hu] at h
      simp only at h
      split at h
      · rename_i hl
        rw [hc] at hl
        obtain ⟨xs, hm, e⟩ := Option.map_eq_some_iff.1 h
        cases e
        obtain ⟨x, hx, hb⟩ := r.read hok (by omega) hm
        rw [List.drop_zero, ← hl, List.take_length] at hx
        exact ⟨x, hx, by simp only [Rows.uptoBulk]; omega⟩
      · cases h

/-- An argument as it came in. -/
theorem Shp.arg (s : Shp P α) {H : Type} {enc : TypeId × Value → H} {W : World} {v : Value} {d : DataW H} {p : List MemPlace} (h : DataW.Trod enc P W 0 (fun _ => true) true s.ty v d p) {N : Nat} (hN : Rows.uptoBulk d ≤ N) :
    ∃ x, s.At W (fun k => k < W.heap.size) v.cells.toList x ∧ s.bulk x ≤ N := by
  obtain ⟨fuel, hf⟩ := h
  obtain ⟨x, hx, hb⟩ := s.read hf
  exact ⟨x, hx, Nat.le_trans hb hN⟩
/-- Texts, as cells. -/
theorem elems_strs {t : TypeId} {hu : P.underlying t = some .string} {hc : P.cellsOf t = 1} {w : World} {G : Nat → Prop} {ao : Option Addr} {ss : List ByteArray} (h : ElemsAt (shStr t hu hc) w G ao ss) : CellsAt w ao (strs ss) := fun i u hu' => by
  simp only [strs, List.getElem?_map] at hu'
  cases hx : ss[i]? with
  | none => rw [hx] at hu'; cases hu'
  | some x =>
    rw [hx] at hu'
    cases hu'
    obtain ⟨b, off, es, e, _, _, ha, hcell⟩ := h i x hx
    refine ⟨b, off, e, ?_⟩
    have := hcell 0 (.string x) (by rw [ha.1]; rfl)
    simpa [shStr] using this
end
end Go.Proofs.YtfkhelihepbehaaGreat

/- Arguments as they came in, by their shapes. -/
namespace Go.Proofs.YtfkhelihepbehaaGreat
open Go.ChangeShapes Go.WideShapes Go.ChangeAt Go.RowKit
set_option linter.unusedVariables false
section
variable {P : Program} {α β : Type}
/-- A slice that came in. -/
theorem arg_slice {t : TypeId} {s : Shp P α} (hu : P.underlying t = some (.slice s.ty)) (hc : P.cellsOf t = 1) (hn : 0 < s.n) {H : Type} {enc : TypeId × Value → H} {W : World} {base : Nat} {v : Value} {d : DataW H} {p : List MemPlace}
    (hok : Value.okWide P W .any base t v) (h : DataW.Trod enc P W 0 (fun _ => true) true t v d p) {N : Nat} (hN : Rows.uptoBulk d ≤ N) :
    ∃ ao cap xs, v = .slice ao xs.length cap ∧ xs.length ≤ cap ∧ ElemsAt s W (fun k => k < W.heap.size) ao xs ∧ bulkL s.bulk xs + 1 ≤ N := by
  obtain ⟨ao, len, cap, rfl⟩ := okWide_slice hu hok
  obtain ⟨x, ⟨ao', cap', e, hl, _, hx⟩, hb⟩ := (shSlice t s hu hc hn).arg h hN
  simp [Value.cells] at e
  obtain ⟨rfl, rfl, rfl⟩ := e
  exact ⟨ao, cap, x, rfl, hl, hx, hb⟩
theorem bulk_in {H : Type} {l : List (DataW H)} {N : Nat} (h : Rows.uptoBulkAll l ≤ N) {d : DataW H} (hd : d ∈ l) : Rows.uptoBulk d ≤ N := by
  induction l with
  | nil => cases hd
  | cons x l ih =>
    simp only [Rows.uptoBulkAll] at h
    rcases List.mem_cons.1 hd with rfl | hd
    · omega
    · exact ih (by omega) hd
end
end Go.Proofs.YtfkhelihepbehaaGreat

/- A region that draws its order: a condition S that holds behind every operation but the late ones (which wait for all that is taken first). The laws beneath the lines that drawn.py prints. No program in sight. -/
namespace Go.Proofs.YtfkhelihepbehaaGreat
set_option linter.unusedVariables false

section
variable {P : Program} {ops : Array Oper} {Q : Exit → Act → World → Prop} {md : Region.Mode} {S : World → Prop} {lates : List Nat}

/-- No late operation has come up. -/
def noLate (lates : List Nat) (listed : Array Bool) : Bool := lates.all fun d => !listed.getD d true
/-- Whatever order is picked from here on; S holds till a late operation has come up. -/
def wpAnyD (P : Program) (md : Region.Mode) (ops : Array Oper) (Q : Exit → Act → World → Prop) (S : World → Prop) (lates : List Nat) : Nat → Array Bool → Act → World → Prop
  | 0, listed, a, w => Region.ready md ops listed = [] ∧ Q .normal a w
  | fuel + 1, listed, a, w => (Region.ready md ops listed = [] → Q .normal a w) ∧
    ∀ i ∈ Region.ready md ops listed, wpOp P ops Q i (fun a' w' => (noLate lates (listed.setIfInBounds i true) = true → S w') ∧ wpAnyD P md ops Q S lates fuel (listed.setIfInBounds i true) a' w') a w
theorem wpAny_of_D : ∀ (fuel : Nat) (listed : Array Bool) (a : Act) (w : World), wpAnyD P md ops Q S lates fuel listed a w → wpAny P md ops Q fuel listed a w
  | 0, _, _, _, h => h
  | fuel + 1, _, _, _, h => ⟨h.1, fun i hi => wpOp_mono (fun a' w' h' => wpAny_of_D fuel _ a' w' h'.2) (h.2 i hi)⟩

/-- All that wait for an operation, itself too. -/
def waitsOf (md : Region.Mode) (ops : Array Oper) (i : Nat) : List Nat :=
  (List.range ops.size).foldl (fun D j => if j == i || (match ops[j]? with | some o => o.after.any (fun e => Region.binds md e && D.contains e.on) | none => false) then j :: D else D) []
/-- None of these has come up, each but i waits for one of them, the late ones are among them. -/
def waitsB (md : Region.Mode) (ops : Array Oper) (listed : Array Bool) (lates : List Nat) (i : Nat) (D : List Nat) : Bool :=
  lates.all (fun d => D.contains d && d != i) && D.all fun d => !listed.getD d true && (d == i || match ops[d]? with | some o => o.after.any (fun e => Region.binds md e && D.contains e.on) | none => false)
theorem waits_spec {listed : Array Bool} {i : Nat} {D : List Nat} (h : waitsB md ops listed lates i D = true) :
    (∀ d ∈ lates, d ∈ D ∧ d ≠ i) ∧ (∀ d ∈ D, listed.getD d true = false) ∧ ∀ d ∈ D, d ≠ i → ∀ o, ops[d]? = some o → ∃ e ∈ o.after, Region.binds md e = true ∧ e.on ∈ D := by
  unfold waitsB at h
  rw [Bool.and_eq_true, List.all_eq_true, List.all_eq_true] at h
  refine ⟨fun d hd => ?_, fun d hd => ?_, fun d hd hne o ho => ?_⟩
  · have := h.1 d hd
    simp only [Bool.and_eq_true, List.contains_iff_mem, bne_iff_ne, ne_eq] at this
    exact this
  · have := h.2 d hd
    rw [Bool.and_eq_true] at this
    simpa using this.1
  · have h1 := h.2 d hd
    rw [Bool.and_eq_true, Bool.or_eq_true, ho] at h1
    rcases h1.2 with h2 | h2
    · exact absurd (by simpa using h2) hne
    · obtain ⟨e, he, hb⟩ := Array.any_eq_true'.1 h2
      rw [Bool.and_eq_true, List.contains_iff_mem] at hb
      exact ⟨e, he, hb.1, hb.2⟩

theorem noLate_of {listed : Array Bool} {D : List Nat} (hl : ∀ d ∈ lates, d ∈ D) (h : ∀ d ∈ D, listed.getD d true = false) : noLate lates listed = true := by
  unfold noLate
  rw [List.all_eq_true]
  intro d hd
  rw [h d (hl d hd)]; rfl
theorem noLate_set {listed : Array Bool} {i : Nat} (hi : i ∉ lates) : noLate lates (listed.setIfInBounds i true) = noLate lates listed := by
  unfold noLate
  rw [Bool.eq_iff_iff, List.all_eq_true, List.all_eq_true]
  have h : ∀ d ∈ lates, (listed.setIfInBounds i true).getD d true = listed.getD d true := fun d hd => getD_set_ne true (fun e => hi (e ▸ hd))
  exact ⟨fun k d hd => by rw [← h d hd]; exact k d hd, fun k d hd => by rw [h d hd]; exact k d hd⟩

theorem wpAnyD_first {i : Nat} {oi : Oper} {v : Value} {D : List Nat} (hi : ops[i]? = some oi) (hsel : ∀ (j : Nat) (o : Oper) cs b, ops[j]? = some o → o.op ≠ .select cs b)
    (hQ : ∀ c a w, Q (.panic c) (a.put oi.dst v) w → Q (.panic c) a w) (hl : ∀ d ∈ lates, d ∈ D ∧ d ≠ i) (hD : ∀ d ∈ D, d ≠ i → ∀ o, ops[d]? = some o → ∃ e ∈ o.after, Region.binds md e = true ∧ e.on ∈ D) :
    ∀ (fuel : Nat) (listed : Array Bool) (a : Act) (w : World),
      (∀ j oj, ops[j]? = some oj → j ≠ i → listed.getD j true = false → (∀ e ∈ oj.after, Region.binds md e = true → e.on ≠ i) → oi.apart ops oj = true) →
      (∀ d ∈ D, listed.getD d true = false) →
      i ∈ Region.ready md ops listed → YieldsIf P ops S oi v a → S w →
      wpAnyD P md ops Q S lates fuel (listed.setIfInBounds i true) (a.put oi.dst v) w → wpAnyD P md ops Q S lates (fuel + 1) listed a w := by
  have hil : i ∉ lates := fun h => (hl i h).2 rfl
  intro fuel
  induction fuel with
  | zero =>
    intro listed a w _ _ hr hy hS H
    refine ⟨fun h => (by rw [h] at hr; cases hr), fun j hj => ?_⟩
    by_cases hji : j = i
    · subst hji; exact hy.wpOp hi hS ⟨fun _ => hS, H⟩
    · have := ready_mono hj hji
      rw [H.1] at this
      cases this
  | succ fuel ih =>
    intro listed a w hfree hun0 hr hy hS H
    refine ⟨fun h => (by rw [h] at hr; cases hr), fun j hj => ?_⟩
    by_cases hji : j = i
    · subst hji; exact hy.wpOp hi hS ⟨fun _ => hS, H⟩
    · have h1 := H.2 j (ready_mono hj hji)
      obtain ⟨hjun, oj, hoj, hall⟩ := mem_ready.1 hj
      have hjD : j ∉ D := fun hjd => by
        obtain ⟨e, he, hb, heD⟩ := hD j hjd hji oj hoj
        have h2 := hall e he hb
        have h0 := hun0 e.on heD
        rcases Nat.lt_or_ge e.on listed.size with h' | h'
        · simp [h'] at h0 h2; rw [h0] at h2; cases h2
        · simp [Array.getElem?_eq_none h'] at h2
      have hnot : ∀ e ∈ oj.after, Region.binds md e = true → e.on ≠ i := fun e he hb heq => by
        have h1 := hall e he hb
        have h0 := (mem_ready.1 hr).1
        rw [heq] at h1
        rcases Nat.lt_or_ge i listed.size with h' | h'
        · simp [h'] at h0 h1; rw [h0] at h1; cases h1
        · simp [Array.getElem?_eq_none h'] at h1
      have h2 := wpOp_putIf hoj (hfree j oj hoj hji hjun hnot) (fun cs b => hsel i oi cs b hi) (fun cs b => hsel j oj cs b hoj) hQ hy h1
      have hfree' : ∀ k ok, ops[k]? = some ok → k ≠ i → (listed.setIfInBounds j true).getD k true = false →
          (∀ e ∈ ok.after, Region.binds md e = true → e.on ≠ i) → oi.apart ops ok = true := fun k ok hk hki hun hno => by
        refine hfree k ok hk hki ?_ hno
        by_cases hjk : j = k
        · subst hjk; exact hjun
        · rw [getD_set_ne true hjk] at hun; exact hun
      have hun' : ∀ d ∈ D, (listed.setIfInBounds j true).getD d true = false := fun d hd => by
        rw [getD_set_ne true (fun e : j = d => hjD (e.symm ▸ hd))]; exact hun0 d hd
      have hnl : noLate lates (listed.setIfInBounds j true) = true := noLate_of (fun d hd => (hl d hd).1) hun'
      have hnl2 : noLate lates ((listed.setIfInBounds i true).setIfInBounds j true) = true := by
        rw [Array.setIfInBounds_comm _ _ (Ne.symm hji), noLate_set hil]; exact hnl
      refine wpOp_mono (fun a' w' h3 => ⟨fun _ => h3.2.1 hnl2, ih (listed.setIfInBounds j true) a' w' hfree' hun' (ready_mono hr (Ne.symm hji)) h3.1 (h3.2.1 hnl2) ?_⟩) h2
      rw [Array.setIfInBounds_comm _ _ hji]
      exact h3.2.2
/-- One that yields in whatever world. -/
theorem wpAnyD_free {i : Nat} {oi : Oper} {v : Value} (hi : ops[i]? = some oi) (hsel : ∀ (j : Nat) (o : Oper) cs b, ops[j]? = some o → o.op ≠ .select cs b)
    (hQ : ∀ c a w, Q (.panic c) (a.put oi.dst v) w → Q (.panic c) a w) (hil : i ∉ lates) :
    ∀ (fuel : Nat) (listed : Array Bool) (a : Act) (w : World),
      (∀ j oj, ops[j]? = some oj → j ≠ i → listed.getD j true = false → (∀ e ∈ oj.after, Region.binds md e = true → e.on ≠ i) → oi.apart ops oj = true) →
      i ∈ Region.ready md ops listed → YieldsIf P ops (fun _ => True) oi v a → (noLate lates listed = true → S w) →
      wpAnyD P md ops Q S lates fuel (listed.setIfInBounds i true) (a.put oi.dst v) w → wpAnyD P md ops Q S lates (fuel + 1) listed a w := by
  intro fuel
  induction fuel with
  | zero =>
    intro listed a w _ hr hy hS H
    refine ⟨fun h => (by rw [h] at hr; cases hr), fun j hj => ?_⟩
    by_cases hji : j = i
    · subst hji; exact hy.wpOp hi trivial ⟨fun h => hS (by rw [noLate_set hil] at h; exact h), H⟩
    · have := ready_mono hj hji
      rw [H.1] at this
      cases this
  | succ fuel ih =>
    intro listed a w hfree hr hy hS H
    refine ⟨fun h => (by rw [h] at hr; cases hr), fun j hj => ?_⟩
    by_cases hji : j = i
    · subst hji; exact hy.wpOp hi trivial ⟨fun h => hS (by rw [noLate_set hil] at h; exact h), H⟩
    · have h1 := H.2 j (ready_mono hj hji)
      obtain ⟨hjun, oj, hoj, hall⟩ := mem_ready.1 hj
      have hnot : ∀ e ∈ oj.after, Region.binds md e = true → e.on ≠ i := fun e he hb heq => by
        have h1 := hall e he hb
        have h0 := (mem_ready.1 hr).1
        rw [heq] at h1
        rcases Nat.lt_or_ge i listed.size with h' | h'
        · simp [h'] at h0 h1; rw [h0] at h1; cases h1
        · simp [Array.getElem?_eq_none h'] at h1
      have h2 := wpOp_putIf hoj (hfree j oj hoj hji hjun hnot) (fun cs b => hsel i oi cs b hi) (fun cs b => hsel j oj cs b hoj) hQ hy h1
      have hfree' : ∀ k ok, ops[k]? = some ok → k ≠ i → (listed.setIfInBounds j true).getD k true = false →
          (∀ e ∈ ok.after, Region.binds md e = true → e.on ≠ i) → oi.apart ops ok = true := fun k ok hk hki hun hno => by
        refine hfree k ok hk hki ?_ hno
        by_cases hjk : j = k
        · subst hjk; exact hjun
        · rw [getD_set_ne true hjk] at hun; exact hun
      have hcm : noLate lates (listed.setIfInBounds j true) = true → noLate lates ((listed.setIfInBounds i true).setIfInBounds j true) = true := fun h => by
        rw [Array.setIfInBounds_comm _ _ (Ne.symm hji), noLate_set hil]; exact h
      refine wpOp_mono (fun a' w' h3 => ⟨fun h => h3.2.1 (hcm h), ih (listed.setIfInBounds j true) a' w' hfree' (ready_mono hr (Ne.symm hji)) h3.1 (fun h => h3.2.1 (hcm h)) ?_⟩) h2
      rw [Array.setIfInBounds_comm _ _ hji]
      exact h3.2.2
theorem wpAnyD_done {listed : Array Bool} {a : Act} {w : World} (hr : Region.ready md ops listed = []) (h : Q .normal a w) : ∀ fuel, wpAnyD P md ops Q S lates fuel listed a w
  | 0 => ⟨hr, h⟩
  | _ + 1 => ⟨fun _ => h, by rw [hr]; simp⟩
theorem draw_begin {id : Nat} {a : Act} {w : World} (S : World → Prop) (lates : List Nat) (hm : P.follows .mixedOrders = true) (hS : S w.drew)
    (h : S w.drew → wpAnyD P .any ops Q S lates ops.size (Array.replicate ops.size false) a w.drew) : (Code.region id ops true).wp P Q a w :=
  wp_region_any hm (wpAny_of_D _ _ _ _ (h hS))
end

section
variable {P : Program} {l : List Oper} {Q : Exit → Act → World → Prop} {md : Region.Mode} {S : World → Prop} {lates : List Nat} {fuel : Nat} {listed : Array Bool} {a : Act} {w : World}
theorem late_no {p : Prop} {b : Bool} (h : b = false) : b = true → p := fun e => by rw [h] at e; cases e
theorem and4 {a b c d : Bool} (h : (a && b && c && d) = true) : a = true ∧ b = true ∧ c = true ∧ d = true := by
  cases a <;> cases b <;> cases c <;> cases d <;> simp_all
theorem opAt {i : Nat} {oi : Oper} (hi : l[i]? = some oi) : l.toArray[i]? = some oi := by rw [List.getElem?_toArray]; exact hi
/-- It is wanted and yields v. -/
theorem draw_in {i : Nat} {oi : Oper} {v : Value} (hi : l[i]? = some oi) (hy : ∀ w, S w → (execOp a.eval oi).run P w = .ok (.value v) w)
    (h : wpAnyD P md l.toArray Q S lates fuel (listed.setIfInBounds i true) (a.put oi.dst v) w)
    (side : (Region.noSelect l.toArray && Region.free md l.toArray listed i && (Region.ready md l.toArray listed).contains i && waitsB md l.toArray listed lates i (waitsOf md l.toArray i)) = true := by kernel_rfl)
    (hw : Region.wanted oi (yielded l.toArray a.tmps) = true := by rfl) (hQ : ∀ c a w, Q (.panic c) (a.put oi.dst v) w → Q (.panic c) a w := by exact fun _ _ _ h => h) (hS : S w := by assumption) :
    wpAnyD P md l.toArray Q S lates (fuel + 1) listed a w :=
  let c := and4 side
  let z := waits_spec c.2.2.2
  wpAnyD_first (opAt hi) (Region.noSelect_spec c.1) hQ z.1 z.2.2 fuel listed a w (Region.free_spec (opAt hi) c.2.1) z.2.1 (by simpa using c.2.2.1) (.inl ⟨hw, hy⟩) hS h
/-- It is wanted and yields v in whatever world. -/
theorem draw_free {i : Nat} {oi : Oper} {v : Value} (hi : l[i]? = some oi) (hy : ∀ w, (execOp a.eval oi).run P w = .ok (.value v) w)
    (h : wpAnyD P md l.toArray Q S lates fuel (listed.setIfInBounds i true) (a.put oi.dst v) w)
    (side : (Region.noSelect l.toArray && Region.free md l.toArray listed i && (Region.ready md l.toArray listed).contains i && !lates.contains i) = true := by kernel_rfl)
    (hw : Region.wanted oi (yielded l.toArray a.tmps) = true := by rfl) (hQ : ∀ c a w, Q (.panic c) (a.put oi.dst v) w → Q (.panic c) a w := by exact fun _ _ _ h => h) (hS : noLate lates listed = true → S w := by first | exact fun _ => by assumption | exact late_no (by kernel_rfl)) :
    wpAnyD P md l.toArray Q S lates (fuel + 1) listed a w :=
  let c := and4 side
  wpAnyD_free (opAt hi) (Region.noSelect_spec c.1) hQ (by simpa using c.2.2.2) fuel listed a w (Region.free_spec (opAt hi) c.2.1) (by simpa using c.2.2.1) (.inl ⟨hw, fun w _ => hy w⟩) hS h
/-- Its guard says no. -/
theorem draw_out {i : Nat} {oi : Oper} (hi : l[i]? = some oi) (h : wpAnyD P md l.toArray Q S lates fuel (listed.setIfInBounds i true) (a.put oi.dst undef) w)
    (side : (Region.noSelect l.toArray && Region.free md l.toArray listed i && (Region.ready md l.toArray listed).contains i && !lates.contains i) = true := by kernel_rfl)
    (hw : Region.wanted oi (yielded l.toArray a.tmps) = false := by rfl) (hQ : ∀ c a w, Q (.panic c) (a.put oi.dst undef) w → Q (.panic c) a w := by exact fun _ _ _ h => h) (hS : noLate lates listed = true → S w := by first | exact fun _ => by assumption | exact late_no (by kernel_rfl)) :
    wpAnyD P md l.toArray Q S lates (fuel + 1) listed a w :=
  let c := and4 side
  wpAnyD_free (opAt hi) (Region.noSelect_spec c.1) hQ (by simpa using c.2.2.2) fuel listed a w (Region.free_spec (opAt hi) c.2.1) (by simpa using c.2.2.1) (.inr ⟨hw, rfl⟩) hS h

/-- What is asked where an operation comes up. -/
def Comes (P : Program) (md : Region.Mode) (l : List Oper) (Q : Exit → Act → World → Prop) (S : World → Prop) (lates : List Nat) (fuel : Nat) (listed : Array Bool) (a : Act) (w : World) (i : Nat) : Prop :=
  wpOp P l.toArray Q i (fun a' w' => (noLate lates (listed.setIfInBounds i true) = true → S w') ∧ wpAnyD P md l.toArray Q S lates fuel (listed.setIfInBounds i true) a' w') a w
theorem comes_turn {i : Nat} {o : Oper} (ho : l[i]? = some o)
    (h : ∀ K' : Act → World → Prop, Shut (∀ a w, S w → (S w → wpAnyD P md l.toArray Q S lates fuel (listed.setIfInBounds i true) a w) → K' a w) → if Region.wanted o (yielded l.toArray a.tmps) = true then Oper.wp P o a w K' Q else K' (a.put o.dst undef) w) : Comes P md l Q S lates fuel listed a w i :=
  wpOp_step (opAt ho) fun K' hK => h K' fun a w hS hW => hK a w ⟨fun _ => hS, hW hS⟩
theorem comes_late {i : Nat} {o : Oper} (ho : l[i]? = some o) (hi : noLate lates (listed.setIfInBounds i true) = false)
    (h : ∀ K' : Act → World → Prop, Shut (∀ a w, wpAnyD P md l.toArray Q S lates fuel (listed.setIfInBounds i true) a w → K' a w) → if Region.wanted o (yielded l.toArray a.tmps) = true then Oper.wp P o a w K' Q else K' (a.put o.dst undef) w) : Comes P md l Q S lates fuel listed a w i :=
  wpOp_step (opAt ho) fun K' hK => h K' fun a w hW => hK a w ⟨fun hn => absurd (hn.symm.trans hi) Bool.noConfusion, hW⟩
/-- It alone may come up; one of two. -/
theorem draw_one {i : Nat} (h : Comes P md l Q S lates fuel listed a w i) (hr : Region.ready md l.toArray listed = [i] := by kernel_rfl) : wpAnyD P md l.toArray Q S lates (fuel + 1) listed a w :=
  ⟨fun h0 => absurd (hr ▸ h0) (by simp), fun j hj => by rw [hr] at hj; simp at hj; subst hj; exact h⟩
theorem draw_two {i k : Nat} (h : Comes P md l Q S lates fuel listed a w i) (h' : Comes P md l Q S lates fuel listed a w k) (hr : Region.ready md l.toArray listed = [i, k] := by kernel_rfl) : wpAnyD P md l.toArray Q S lates (fuel + 1) listed a w :=
  ⟨fun h0 => absurd (hr ▸ h0) (by simp), fun j hj => by
    rw [hr] at hj; simp at hj
    rcases hj with rfl | rfl
    · exact h
    · exact h'⟩
/-- A step that appends, by what it runs to. -/
theorem draw_app {o : Oper} {K : Act → World → Prop} {E : Prop} (hgd : o.guard = none) (s x : Operand) {t1 t2 : TypeId}
    (ho : o.op = .call { callee := .builtin .append, args := #[s, x], argTypes := #[t1, t2] }) {v u v' : Value} {w' : World} (hs : a.eval s = v) (hx : a.eval x = u)
    (hr : (Builtin.append_ #[t1, t2] o.type #[v, u]).run P w = .ok v' w') (h : K (a.put o.dst v') w') :
    if Region.wanted o (yielded l.toArray a.tmps) = true then Oper.wp P o a w K Q else E := by
  have hw : Region.wanted o (yielded l.toArray a.tmps) = true := by simp [Region.wanted, hgd]
  rw [if_pos hw]
  unfold Oper.wp execOp
  simp only [ho, resolve, invoke, builtin, Sem.run_bind, Sem.run_pure, Result.andThen_ok, List.map_toArray, List.map_cons, List.map_nil, hs, hx, hr]
  exact h
end
end Go.Proofs.YtfkhelihepbehaaGreat

/- Lists of elements of several cells; rows of one's own and their blocks; appends in a region that draws its order. No program in sight. -/
namespace Go.Proofs.YtfkhelihepbehaaGreat
open Go.RowKit
set_option linter.unusedVariables false

/-- A list of elements of k cells each, cell by cell. -/
theorem flat_get {α : Type} (f : α → List Value) (k : Nat) (hk : ∀ x, (f x).length = k) : ∀ (L : List α) (i : Nat) (x : α) (c : Nat), L[i]? = some x → c < k → (L.flatMap f)[i * k + c]? = (f x)[c]?
  | [], i, x, c, h, _ => by simp at h
  | a :: L, 0, x, c, h, hc => by
    simp at h; subst h
    rw [List.flatMap_cons, Nat.zero_mul, Nat.zero_add, List.getElem?_append_left (by rw [hk]; exact hc)]
  | a :: L, i + 1, x, c, h, hc => by
    rw [List.flatMap_cons, List.getElem?_append_right (by rw [hk, Nat.succ_mul]; omega), hk]
    have := flat_get f k hk L i x c (by simpa using h) hc
    rw [← this]; congr 1; rw [Nat.succ_mul]; omega
theorem flat_len {α : Type} (f : α → List Value) (k : Nat) (hk : ∀ x, (f x).length = k) (L : List α) : (L.flatMap f).length = L.length * k := by
  induction L with
  | nil => simp
  | cons a L ih => rw [List.flatMap_cons, List.length_append, hk, ih, List.length_cons, Nat.succ_mul]; omega

theorem Row.blkOf {w : World} {e : TypeId} {k : Nat} {v : Value} {n : Nat} {xs : List Value} {M : Nat → Prop} (h : Row w e k v n xs M) {g : Nat} (hg : v.ownBlock = some g) : ∃ cs, Blk w g cs e := by
  obtain ⟨h1, ⟨rfl, rfl⟩ | ⟨g', cap, rest, rfl, b, c, d⟩⟩ := h
  · cases hg
  · cases hg; exact ⟨_, c⟩
theorem blk_ne {w : World} {g : Nat} {cs cs' : List Value} {e e' : TypeId} (h : Blk w g cs e) (h' : Blk w g cs' e') : e = e' := by
  unfold Blk at h h'; rw [h] at h'; injection h' with h'; injection h'
theorem CellsAt.new (w : World) (xs : List Value) (e : TypeId) : CellsAt (w.alloc (.cells xs.toArray e)) (some ⟨w.heap.size, 0, none⟩) xs := CellsAt.pre (rest := []) (by rw [List.append_nil]; exact Blk.new w xs e)
theorem takeSnoc {α : Type} {xs : List α} {k : Nat} {x : α} (h : xs[k]? = some x) : xs.take (k + 1) = xs.take k ++ [x] := by rw [List.take_add_one, h]; rfl
/-- An append in a region that draws its order. -/
theorem draw_appN {P : Program} {t e : TypeId} {k bytes : Nat} {z : Value} (E : ElemT P t e k bytes z) {l : List Oper} {a : Act} {w : World} {Q : Exit → Act → World → Prop} {o : Oper} {K : Act → World → Prop} {El : Prop} (hgd : o.guard = none) (s x : Operand)
    (ho : o.op = .call { callee := .builtin .append, args := #[s, x], argTypes := #[t, t] })
    {F : Nat → Prop} {w0 : World} (hkp : Kp F w0 w)
    {v : Value} {n : Nat} {xs : List Value} (hs : a.eval s = v) (hr : Row w e k v n xs (New w0))
    {ao : Option Addr} {m c : Nat} {news : List Value} (hx : a.eval x = .slice ao m c) (hsrc : CellsAt w ao news) (hl : news.length = m * k) (h1 : ∀ u ∈ news, u.oneCell' = true)
    (hb : (n + m) * bytes ≤ 140737488355328) (h63 : n + m ≤ maxLen)
    (h : ∀ v' w', Row w' e k v' (n + m) (xs ++ news) (New w0) → Kp F w0 w' → Kp (fun g => v.ownBlock = some g) w w' → K (a.put o.dst v') w') :
    if Region.wanted o (yielded l.toArray a.tmps) = true then Oper.wp P o a w K Q else El := by
  obtain ⟨v', w', hrun, h2, h3, h4⟩ := run_app (P := P) E o.type hr hl hsrc h1 hb h63 (c := c)
  refine draw_app hgd s x ho hs hx hrun (h v' w' (h2.mono fun g hg => ?_) (hkp.trans' h3 fun i hi hg => absurd hi (Nat.not_lt.2 (hr.block i hg))) h3)
  rcases hg with hg | hg
  · exact hr.block g hg
  · exact Nat.le_trans hkp.size hg
end Go.Proofs.YtfkhelihepbehaaGreat

/-
  DERIVED: THE SHELF's CONTRACTS AT THIS DUMP, IN PLAIN WORDS (tools/lay-plain.mjs out of 'TryzShelf.lean', which tools/lay-shelf.mjs wrote): THE SAME DECLARATIONS UNDER THE SAME NAMES: 'import', 'namespace', 'open', 'def', 'theorem' AND NOTHING ELSE: no command of the shelf's: FOR A HAND-IN. Each laying: the table of numbers ('.._ren') and one theorem, a field a fact of the dump's own or the kernel's comparison; each contract: ONE APPLICATION.
-/
namespace Go.Proofs
open Go.Shelf
def Tryz.laysSlF6_f142_ren : Go.Shelf.Ren := ⟨fun | 6 => 142 | 15 => 166 | 14 => 165 | 28 => 186 | 29 => 187 | 20 => 139 | 21 => 179 | 22 => 180 | 23 => 181 | 24 => 182 | 25 => 183 | 26 => 184 | 27 => 185 | 46 => 193 | 47 => 194 | 48 => 195 | 49 => 196 | 50 => 197 | 57 => 200 | n => n, fun | 22 => 29 | 24 => 9 | 25 => 37 | 3 => 3 | 39 => 165 | 0 => 0 | 53 => 196 | 55 => 198 | 4 => 4 | 46 => 190 | 45 => 189 | 50 => 87 | 5 => 5 | 9 => 9 | 66 => 203 | 70 => 207 | 76 => 211 | 77 => 212 | n => n, fun | n => n⟩
theorem Tryz.laysSlF6_f142 : Go.Proofs.SlLaysF.n6 Tryz.prog Tryz.laysSlF6_f142_ren := {
  mixed := by kernel_rfl
  f6 := ⟨Tryz.f142.name, by decide, Tryz.func142.trans (congrArg some (by kernel_rfl))⟩
  f14 := ⟨Tryz.f165.name, by decide, Tryz.func165.trans (congrArg some (by kernel_rfl))⟩
  f15 := Tryz.func166.trans (congrArg some (by kernel_rfl))
  f20 := ⟨Tryz.f139.name, by decide, Tryz.func139.trans (congrArg some (by kernel_rfl))⟩
  f21 := ⟨Tryz.f179.name, by decide, Tryz.func179.trans (congrArg some (by kernel_rfl))⟩
  f22 := ⟨Tryz.f180.name, by decide, Tryz.func180.trans (congrArg some (by kernel_rfl))⟩
  f23 := ⟨Tryz.f181.name, by decide, Tryz.func181.trans (congrArg some (by kernel_rfl))⟩
  f24 := ⟨Tryz.f182.name, by decide, Tryz.func182.trans (congrArg some (by kernel_rfl))⟩
  f25 := ⟨Tryz.f183.name, by decide, Tryz.func183.trans (congrArg some (by kernel_rfl))⟩
  f26 := ⟨Tryz.f184.name, by decide, Tryz.func184.trans (congrArg some (by kernel_rfl))⟩
  f27 := ⟨Tryz.f185.name, by decide, Tryz.func185.trans (congrArg some (by kernel_rfl))⟩
  f28 := Tryz.func186.trans (congrArg some (by kernel_rfl))
  f29 := Tryz.func187.trans (congrArg some (by kernel_rfl))
  f46 := ⟨Tryz.f193.name, by decide, Tryz.func193.trans (congrArg some (by kernel_rfl))⟩
  f47 := Tryz.func194.trans (congrArg some (by kernel_rfl))
  f48 := Tryz.func195.trans (congrArg some (by kernel_rfl))
  f49 := ⟨Tryz.f196.name, by decide, Tryz.func196.trans (congrArg some (by kernel_rfl))⟩
  f50 := ⟨Tryz.f197.name, by decide, Tryz.func197.trans (congrArg some (by kernel_rfl))⟩
  f57 := ⟨Tryz.f200.name, by decide, Tryz.func200.trans (congrArg some (by kernel_rfl))⟩
  t0 := Tryz.underlying0
  a0 := Tryz.isAgg0
  z0 := Tryz.sizeOf0
  v0 := Tryz.zeroValue0
  t3 := Tryz.underlying3
  a3 := Tryz.isAgg3
  z3 := Tryz.sizeOf3
  v3 := Tryz.zeroValue3
  t4 := Tryz.underlying4
  a4 := Tryz.isAgg4
  z4 := Tryz.sizeOf4
  v4 := Tryz.zeroValue4
  t5 := Tryz.underlying5
  a5 := Tryz.isAgg5
  z5 := Tryz.sizeOf5
  v5 := Tryz.zeroValue5
  t9 := Tryz.underlying9
  a9 := Tryz.isAgg9
  z9 := Tryz.sizeOf9
  v9 := Tryz.zeroValue9
  t22 := Tryz.underlying29
  a22 := Tryz.isAgg29
  z22 := Tryz.sizeOf29
  v22 := Tryz.zeroValue29
  a24 := Tryz.isAgg9
  z24 := Tryz.sizeOf9
  t25 := Tryz.underlying37
  a25 := Tryz.isAgg37
  z25 := Tryz.sizeOf37
  v25 := Tryz.zeroValue37
  t39 := Tryz.underlying165
  a39 := Tryz.isAgg165
  z39 := Tryz.sizeOf165
  v39 := Tryz.zeroValue165
  t45 := Tryz.underlying189
  a45 := Tryz.isAgg189
  z45 := Tryz.sizeOf189
  v45 := Tryz.zeroValue189
  t46 := Tryz.underlying190
  a46 := Tryz.isAgg190
  z46 := Tryz.sizeOf190
  v46 := Tryz.zeroValue190
  t50 := Tryz.underlying87
  a50 := Tryz.isAgg87
  z50 := Tryz.sizeOf87
  v50 := Tryz.zeroValue87
  t53 := Tryz.underlying196
  a53 := Tryz.isAgg196
  z53 := Tryz.sizeOf196
  v53 := Tryz.zeroValue196
  t55 := Tryz.underlying198
  a55 := Tryz.isAgg198
  z55 := Tryz.sizeOf198
  v55 := Tryz.zeroValue198
  t66 := Tryz.underlying203
  a66 := Tryz.isAgg203
  z66 := Tryz.sizeOf203
  v66 := Tryz.zeroValue203
  t70 := Tryz.underlying207
  a70 := Tryz.isAgg207
  z70 := Tryz.sizeOf207
  v70 := Tryz.zeroValue207
  t76 := Tryz.underlying211
  a76 := Tryz.isAgg211
  z76 := Tryz.sizeOf211
  v76 := Tryz.zeroValue211
  t77 := Tryz.underlying212
  a77 := Tryz.isAgg212
  z77 := Tryz.sizeOf212
  v77 := Tryz.zeroValue212 }
def Tryz.laysSlF06_f142_ren : Go.Shelf.Ren := ⟨fun | 6 => 142 | 15 => 166 | 14 => 165 | 28 => 186 | 29 => 187 | 20 => 139 | 21 => 179 | 22 => 180 | 23 => 181 | 24 => 182 | 25 => 183 | 26 => 184 | 27 => 185 | 46 => 193 | 47 => 194 | 48 => 195 | 49 => 196 | 50 => 197 | 57 => 200 | n => n, fun | 22 => 29 | 24 => 9 | 25 => 37 | 3 => 3 | 39 => 165 | 0 => 0 | 53 => 196 | 55 => 198 | 4 => 4 | 46 => 190 | 45 => 189 | 50 => 87 | 5 => 5 | 9 => 9 | 66 => 203 | 70 => 207 | 76 => 211 | 77 => 212 | n => n, fun | n => n⟩
theorem Tryz.laysSlF06_f142 : Go.Proofs.SlLaysF0.n6 Tryz.prog Tryz.laysSlF06_f142_ren := {
  mixed := by kernel_rfl
  f6 := ⟨Tryz.f142.name, by decide, Tryz.func142.trans (congrArg some (by kernel_rfl))⟩
  f14 := ⟨Tryz.f165.name, by decide, Tryz.func165.trans (congrArg some (by kernel_rfl))⟩
  f15 := Tryz.func166.trans (congrArg some (by kernel_rfl))
  f20 := ⟨Tryz.f139.name, by decide, Tryz.func139.trans (congrArg some (by kernel_rfl))⟩
  f21 := ⟨Tryz.f179.name, by decide, Tryz.func179.trans (congrArg some (by kernel_rfl))⟩
  f22 := ⟨Tryz.f180.name, by decide, Tryz.func180.trans (congrArg some (by kernel_rfl))⟩
  f23 := ⟨Tryz.f181.name, by decide, Tryz.func181.trans (congrArg some (by kernel_rfl))⟩
  f24 := ⟨Tryz.f182.name, by decide, Tryz.func182.trans (congrArg some (by kernel_rfl))⟩
  f25 := ⟨Tryz.f183.name, by decide, Tryz.func183.trans (congrArg some (by kernel_rfl))⟩
  f26 := ⟨Tryz.f184.name, by decide, Tryz.func184.trans (congrArg some (by kernel_rfl))⟩
  f27 := ⟨Tryz.f185.name, by decide, Tryz.func185.trans (congrArg some (by kernel_rfl))⟩
  f28 := Tryz.func186.trans (congrArg some (by kernel_rfl))
  f29 := Tryz.func187.trans (congrArg some (by kernel_rfl))
  f46 := ⟨Tryz.f193.name, by decide, Tryz.func193.trans (congrArg some (by kernel_rfl))⟩
  f47 := Tryz.func194.trans (congrArg some (by kernel_rfl))
  f48 := Tryz.func195.trans (congrArg some (by kernel_rfl))
  f49 := ⟨Tryz.f196.name, by decide, Tryz.func196.trans (congrArg some (by kernel_rfl))⟩
  f50 := ⟨Tryz.f197.name, by decide, Tryz.func197.trans (congrArg some (by kernel_rfl))⟩
  f57 := ⟨Tryz.f200.name, by decide, Tryz.func200.trans (congrArg some (by kernel_rfl))⟩
  t0 := Tryz.underlying0
  a0 := Tryz.isAgg0
  z0 := Tryz.sizeOf0
  v0 := Tryz.zeroValue0
  t3 := Tryz.underlying3
  a3 := Tryz.isAgg3
  z3 := Tryz.sizeOf3
  v3 := Tryz.zeroValue3
  t4 := Tryz.underlying4
  a4 := Tryz.isAgg4
  z4 := Tryz.sizeOf4
  v4 := Tryz.zeroValue4
  t5 := Tryz.underlying5
  a5 := Tryz.isAgg5
  z5 := Tryz.sizeOf5
  v5 := Tryz.zeroValue5
  t9 := Tryz.underlying9
  a9 := Tryz.isAgg9
  z9 := Tryz.sizeOf9
  v9 := Tryz.zeroValue9
  t22 := Tryz.underlying29
  a22 := Tryz.isAgg29
  z22 := Tryz.sizeOf29
  v22 := Tryz.zeroValue29
  t25 := Tryz.underlying37
  a25 := Tryz.isAgg37
  z25 := Tryz.sizeOf37
  v25 := Tryz.zeroValue37
  t39 := Tryz.underlying165
  a39 := Tryz.isAgg165
  z39 := Tryz.sizeOf165
  v39 := Tryz.zeroValue165
  t45 := Tryz.underlying189
  a45 := Tryz.isAgg189
  z45 := Tryz.sizeOf189
  v45 := Tryz.zeroValue189
  t46 := Tryz.underlying190
  a46 := Tryz.isAgg190
  z46 := Tryz.sizeOf190
  v46 := Tryz.zeroValue190
  t50 := Tryz.underlying87
  a50 := Tryz.isAgg87
  z50 := Tryz.sizeOf87
  v50 := Tryz.zeroValue87
  t53 := Tryz.underlying196
  a53 := Tryz.isAgg196
  z53 := Tryz.sizeOf196
  v53 := Tryz.zeroValue196
  t55 := Tryz.underlying198
  a55 := Tryz.isAgg198
  z55 := Tryz.sizeOf198
  v55 := Tryz.zeroValue198
  t66 := Tryz.underlying203
  a66 := Tryz.isAgg203
  z66 := Tryz.sizeOf203
  v66 := Tryz.zeroValue203
  t70 := Tryz.underlying207
  a70 := Tryz.isAgg207
  z70 := Tryz.sizeOf207
  v70 := Tryz.zeroValue207
  t76 := Tryz.underlying211
  a76 := Tryz.isAgg211
  z76 := Tryz.sizeOf211
  v76 := Tryz.zeroValue211
  t77 := Tryz.underlying212
  a77 := Tryz.isAgg212
  z77 := Tryz.sizeOf212
  v77 := Tryz.zeroValue212 }
def Tryz.laysSlZ7_f108_ren : Go.Shelf.Ren := ⟨fun | 7 => 108 | 10 => 143 | n => n, fun | 23 => 63 | 26 => 9 | 3 => 94 | 28 => 142 | 0 => 0 | 27 => 141 | 33 => 32 | 4 => 4 | n => n, fun | n => n⟩
theorem Tryz.laysSlZ7_f108 : Go.Proofs.SlLaysZ.n7 Tryz.prog Tryz.laysSlZ7_f108_ren := {
  mixed := by kernel_rfl
  f7 := ⟨Tryz.f108.name, by decide, Tryz.func108.trans (congrArg some (by kernel_rfl))⟩
  f10 := ⟨Tryz.f143.name, by decide, Tryz.func143.trans (congrArg some (by kernel_rfl))⟩
  t0 := Tryz.underlying0
  a0 := Tryz.isAgg0
  z0 := Tryz.sizeOf0
  v0 := Tryz.zeroValue0
  t4 := Tryz.underlying4
  a4 := Tryz.isAgg4
  z4 := Tryz.sizeOf4
  v4 := Tryz.zeroValue4
  t23 := Tryz.underlying63
  a23 := Tryz.isAgg63
  z23 := Tryz.sizeOf63
  v23 := Tryz.zeroValue63
  t26 := Tryz.underlying9
  a26 := Tryz.isAgg9
  z26 := Tryz.sizeOf9
  v26 := Tryz.zeroValue9
  t27 := Tryz.underlying141
  a27 := Tryz.isAgg141
  z27 := Tryz.sizeOf141
  v27 := Tryz.zeroValue141
  t28 := Tryz.underlying142
  a28 := Tryz.isAgg142
  z28 := Tryz.sizeOf142
  v28 := Tryz.zeroValue142
  t33 := Tryz.underlying32
  a33 := Tryz.isAgg32
  z33 := Tryz.sizeOf32
  v33 := Tryz.zeroValue32 }
def Tryz.laysSlZ8_f141_ren : Go.Shelf.Ren := ⟨fun | 8 => 141 | 11 => 164 | n => n, fun | 26 => 9 | 28 => 142 | 24 => 29 | 0 => 0 | 33 => 32 | 4 => 4 | n => n, fun | n => n⟩
theorem Tryz.laysSlZ8_f141 : Go.Proofs.SlLaysZ.n8 Tryz.prog Tryz.laysSlZ8_f141_ren := {
  mixed := by kernel_rfl
  f8 := ⟨Tryz.f141.name, by decide, Tryz.func141.trans (congrArg some (by kernel_rfl))⟩
  f11 := ⟨Tryz.f164.name, by decide, Tryz.func164.trans (congrArg some (by kernel_rfl))⟩
  t0 := Tryz.underlying0
  a0 := Tryz.isAgg0
  z0 := Tryz.sizeOf0
  v0 := Tryz.zeroValue0
  t24 := Tryz.underlying29
  a24 := Tryz.isAgg29
  z24 := Tryz.sizeOf29
  v24 := Tryz.zeroValue29
  t26 := Tryz.underlying9
  a26 := Tryz.isAgg9
  z26 := Tryz.sizeOf9
  v26 := Tryz.zeroValue9
  t28 := Tryz.underlying142
  a28 := Tryz.isAgg142
  z28 := Tryz.sizeOf142
  v28 := Tryz.zeroValue142
  i26 := by kernel_rfl }
end Go.Proofs

/- Ranges over maps whose keys are texts and whose elements may be anything. No program in sight but for its types. -/
namespace Go.Proofs.YtfkhelihepbehaaGreat
open Go.RowKit Go.Maps
open Go.WideElems (Fit rd rg rd_mk rg_of)
set_option linter.unusedVariables false

/-- An element is read as itself. -/
def readV : Value → Option (DataW Value × List MemPlace) := fun v => some (.held v, [])
abbrev strL (s : ByteArray) : Lit := .string s.data.toList
theorem strL_inj {a b : ByteArray} (h : strL a = strL b) : a = b := by
  have h1 : a.data.toList = b.data.toList := by injection h
  exact ByteArray.ext (Array.toList_inj.1 h1)
/-- A map as a datum. -/
structure MapD (m : List (ByteArray × Value)) (D : DataW Value) : Prop where
  at_ : ∀ p ∈ m, ∀ zd, D.atKey (strL p.1) zd = .held p.2
  has : ∀ p ∈ m, Maps.has D (strL p.1) = true
  key : ∀ x c, (∀ zd, D.atKey (strL x) zd = .held c) → (x, c) ∈ m
  size : Maps.size D = m.length
set_option maxRecDepth 10000 in
theorem mapOwns {w : World} {r : Nat} {m : List (ByteArray × Value)} (hm : MapIs w r m) (hk : ∀ p ∈ m, p.1.size ≤ maxLen) (hl : m.length ≤ maxLen) :
    ∃ D : DataW Value, w.ownsMap Tryz.prog 9 readV r m.length D ∧ MapD m D := by
  have hnd : (m.map (·.1)).Nodup := by obtain ⟨_, _, _, _, h, _⟩ := hm; exact h
  obtain ⟨es, c, h1, h2, h3, h4⟩ := hm
  have hlen : es.size = m.length := by simpa using congrArg List.length h2
  have hrd : ∀ x ∈ es.toList, ∃ p ∈ m, x.key = .string p.1 ∧ x.val = p.2 ∧ rd Tryz.prog 9 readV x = some (strL p.1, .held p.2) := fun x hx => by
    have h5 : (x.key, x.val) ∈ es.toList.map (fun e => (e.key, e.val)) := List.mem_map.2 ⟨x, hx, rfl⟩
    rw [h2] at h5
    obtain ⟨p, hp, e⟩ := List.mem_map.1 h5
    have e1 : x.key = .string p.1 := (congrArg Prod.fst e).symm
    have e2 : x.val = p.2 := (congrArg Prod.snd e).symm
    refine ⟨p, hp, e1, e2, ?_⟩
    have hkey : keyOf Tryz.prog 9 x.key = some (strL p.1) := by
      rw [e1]
      simp [keyOf, mapKey, Tryz.underlying9, hk p hp]
    have := rd_mk (P := Tryz.prog) (k := 9) (R := readV) (born := x.born) (val := x.val) hkey rfl
    rw [e2] at this
    rw [← this]
    show rd _ _ _ x = rd _ _ _ ⟨x.key, p.2, x.born⟩
    rw [← e2]
  have hfit : Fit Tryz.prog 9 readV es c := ⟨by omega, h4, fun x hx => by
    obtain ⟨p, _, _, _, h⟩ := hrd x hx
    exact ⟨_, h⟩⟩
  have hown : w.ownsMap Tryz.prog 9 readV r m.length (.map ((es.toList.map (rg Tryz.prog 9 readV)).foldr DataW.insert [])) := ⟨es, c, h1, hfit, by omega, rfl⟩
  obtain ⟨ents, hD, hpw, hkl⟩ := hown.entries (string_keyed Tryz.underlying9)
  have he : (es.toList.map (rg Tryz.prog 9 readV)).foldr DataW.insert [] = ents := by simpa using hD
  have hmem : ∀ l d, (l, d) ∈ ents ↔ ∃ p ∈ m, l = strL p.1 ∧ d = .held p.2 := fun l d => by
    rw [← he, mem_sorted, List.mem_map]
    constructor
    · rintro ⟨x, hx, e⟩
      obtain ⟨p, hp, _, _, h⟩ := hrd x hx
      rw [rg_of h] at e
      cases e
      exact ⟨p, hp, rfl, rfl⟩
    · rintro ⟨p, hp, rfl, rfl⟩
      have h6 : (Value.string p.1, p.2) ∈ es.toList.map (fun e => (e.key, e.val)) := by rw [h2]; exact List.mem_map.2 ⟨p, hp, rfl⟩
      obtain ⟨x, hx, e⟩ := List.mem_map.1 h6
      obtain ⟨p', hp', e1, e2, h⟩ := hrd x hx
      refine ⟨x, hx, ?_⟩
      rw [rg_of h]
      have e3 : x.key = .string p.1 := congrArg Prod.fst e
      have e4 : x.val = p.2 := congrArg Prod.snd e
      rw [e1] at e3
      rw [e2] at e4
      injection e3 with e3
      rw [e3, e4]
  refine ⟨.map ents, by rw [← he]; exact hown, ?_⟩
  have hat : ∀ p ∈ m, ∀ zd, (DataW.map ents).atKey (strL p.1) zd = .held p.2 := fun p hp zd => by
    have h7 := (hmem (strL p.1) (.held p.2)).2 ⟨p, hp, rfl, rfl⟩
    exact WideAt.atKey_mem zd (hkl _ h7) hpw h7
  refine ⟨hat, fun p hp => has_true_of_atKey (hat p hp), fun x c hx => ?_, ?_⟩
  rotate_left
  · show ents.length = _
    rw [← he, (WideShapes.sorted_perm _).length_eq, List.length_map, Array.length_toList]; exact hlen
  by_cases hin : ∃ p ∈ m, p.1 = x
  · obtain ⟨p, hp, rfl⟩ := hin
    have h8 := (hat p hp .nil).symm.trans (hx .nil)
    injection h8 with h8
    rw [← h8]; exact hp
  · have h9 := WideAt.atKey_none (entries := ents) (k := strL x) .nil fun q hq e => by
      obtain ⟨p, hp, e1, _⟩ := (hmem q.1 q.2).1 hq
      exact hin ⟨p, hp, strL_inj (by rw [← e1, e])⟩
    cases h9.symm.trans (hx .nil)
theorem keyV {key : Value} {kl : Lit} (h : keyOf Tryz.prog 9 key = some kl) : ∃ x, key = .string x ∧ kl = strL x := by
  cases key <;> simp [keyOf, Tryz.underlying9, mapKey] at h
  rename_i s
  exact ⟨s, rfl, h.2.symm⟩
end Go.Proofs.YtfkhelihepbehaaGreat

/- A post that leaves out panics. -/
namespace Go.Proofs.YtfkhelihepbehaaGreat
open Go.RowKit
/-- The same, but it does not panic. -/
def NoPanic (Q : Exit → Act → World → Prop) (e : Exit) (a : Act) (w : World) : Prop := match e with
  | .panic _ => False
  | e => Q e a w
theorem wp_nopanic {P : Program} {c : Code} {Q : Exit → Act → World → Prop} {a : Act} {w : World} (h : c.wp P (NoPanic Q) a w) : c.wp P Q a w := wp_mono h fun e a w h => by
  cases e <;> first | exact h.elim | exact h
theorem nopanic_normal {Q : Exit → Act → World → Prop} {a : Act} {w : World} (h : Q .normal a w) : NoPanic Q .normal a w := h
end Go.Proofs.YtfkhelihepbehaaGreat

/- The statements' helper ints. -/
namespace Go.Proofs.YtfkhelihepbehaaGreat
open Go.RowKit
set_option linter.unusedVariables false

end Go.Proofs.YtfkhelihepbehaaGreat

/- slices at []string: swapRangeCmpFunc and rotateCmpFunc: what they do to a row of cells. -/
namespace Go.Proofs.YtfkhelihepbehaaGreat
open Go.RowKit
set_option linter.unusedVariables false

def valRow (z : Nat → Option Addr × Nat × Nat) (i : Nat) : Value := (Value.slice (z (i)).1 (z (i)).2.1 (z (i)).2.2)

set_option maxHeartbeats 1000000 in
theorem swapRangeRow_any (z : Nat → Option Addr × Nat × Nat) (g n cap : Nat) (rest : List Value) (fv : Value) (w0 w : World) (hk0 : Kp (fun k => k = g) w0 w) (p X M Y q : List Nat) (hXY : X.length = Y.length)
    (hn : (p ++ X ++ M ++ Y ++ q).length = n) (hB : Blk w g ((p ++ X ++ M ++ Y ++ q).map (valRow z) ++ rest) 29) (hm : n ≤ 4611686018427387904) (a b m : Nat) (ea : a = p.length) (eb : b = (p.length + X.length + M.length : Nat)) (em : m = X.length) :
    Calls Tryz.prog 204 #[.slice (some ⟨g, 0, none⟩) n cap, .int .i64 a, .int .i64 b, .int .i64 m, fv] w
      (RetF (fun k => k = g) w0 fun w' v => v = .tuple #[] ∧ Blk w' g ((p ++ Y ++ M ++ X ++ q).map (valRow z) ++ rest) 29) := by
  simp only [List.length_append] at hn
  have b1 : a ≤ n := by omega
  have b2 : b + m ≤ n := by omega
  have b3 : a + m ≤ b := by omega
  have HX := Lib.hid hXY; clear hXY
  have HN := Lib.hid hn; clear hn
  have EA := Lib.hid ea; clear ea
  have EB := Lib.hid eb; clear eb
  have EM := Lib.hid em; clear em
  go_enter Tryz.func204, Tryz.ntmps204
  go_wp2
  go_loopw [10] (fun i wr => ∃ (k : Nat) (X1 X2 Y1 Y2 : List Nat), Hid (X = X1 ++ X2 ∧ Y = Y1 ++ Y2 ∧ X1.length = k ∧ Y1.length = k) ∧ k ≤ m ∧ i = .int .i64 k ∧ Kp (fun k => k = g) w0 wr ∧ Hid (Blk wr g ((p ++ Y1 ++ X2 ++ M ++ X1 ++ Y2 ++ q).map (valRow z) ++ rest) 29)) (fun i _ => m - (intOf i).toNat)
  case atStart => exact ⟨0, [], X, [], Y, ⟨rfl, rfl, rfl, rfl⟩, Nat.zero_le _, rfl, hk0, by show Blk _ _ _ _; simpa using hB⟩
  case round =>
    obtain ⟨k, X1, X2, Y1, Y2, HH, hkm, rfl, hkp, hb⟩ := hrel
    by_cases hlt : k < m
    · have key : ∃ x y X2' Y2', X2 = x :: X2' ∧ Y2 = y :: Y2' ∧ X2'.length + k + 1 = m := by
        obtain ⟨rfl, rfl, h3, h4⟩ := HH.out
        have h5 := EM.out; have h6 := HX.out
        simp only [List.length_append] at h5 h6
        cases X2 with
        | nil => simp at h5; omega
        | cons x X2 =>
          cases Y2 with
          | nil => simp at h6; simp at h5; omega
          | cons y Y2 => exact ⟨x, y, X2, Y2, rfl, rfl, by simp at h5; omega⟩
      obtain ⟨x, y, X2', Y2', rfl, rfl, hl2⟩ := key
      obtain ⟨s1, s2, c1, c2⟩ := swapCells (u := p ++ Y1) (v := X2' ++ M ++ X1) (t := Y2' ++ q) (x := x) (y := y) (i := a + k) (j := b + k) (by simpa using hb.out) (by
          have := EA.out; have := HH.out.2.2.2; simp; omega) (by
          have := EA.out; have := EB.out; have := EM.out; have := HH.out.2.2; simp; omega)
      have f1 := hb.out.free (a + k)
      have f2 := hb.out.free (b + k)
      have S1 := Lib.hid s1; have S2 := Lib.hid s2
      clear s1 s2
      unfold valRow at c1 c2
      have hne : ¬ (a + k = b + k) := by omega
      have hne' : ¬ (b + k = a + k) := by omega
      have HL2 := Lib.hid hl2; clear hl2
      obtain ⟨i1, i2, i3, i4⟩ := idx_facts (a := a) (b := k) (n := n) (by omega) hm
      obtain ⟨j1, j2, j3, j4⟩ := idx_facts (a := b) (b := k) (n := n) (by omega) hm
      go_wp2
      go_region
      clear i1 i2 i3 i4 j1 j2 j3 j4
      go_wp2
      go_roundw
      case rel =>
        refine ⟨k + 1, X1 ++ [x], X2', Y1 ++ [y], Y2', ⟨?_, ?_, ?_, ?_⟩, by omega, by go_num, ?_, ?_⟩
        · simpa using HH.out.1
        · simpa using HH.out.2.1
        · simpa using HH.out.2.2.1
        · simpa using HH.out.2.2.2
        · exact ((hkp.setCell (fun _ => rfl) _).setCell (fun _ => rfl) _).drew
        · exact S1.out.drew.congrL (by simp)
      case measure => simp [intOf]; omega
    · have key : X2 = [] ∧ Y2 = [] := by
        obtain ⟨rfl, rfl, h3, h4⟩ := HH.out
        have h5 := EM.out; have h6 := HX.out
        simp only [List.length_append] at h5 h6
        exact ⟨List.eq_nil_of_length_eq_zero (by omega), List.eq_nil_of_length_eq_zero (by omega)⟩
      obtain ⟨rfl, rfl⟩ := key
      go_wp2
      go_end0
      refine RetF.mk hkp ⟨rfl, ?_⟩
      obtain ⟨h1, h2, _, _⟩ := HH.out
      have h3 := hb.out
      rw [h1, h2]
      simpa using h3

theorem swapRangeRow_int (z : Nat → Option Addr × Nat × Nat) (g n cap : Nat) (rest : List Value) (fv : Value) (w0 w : World) (hk0 : Kp (fun k => k = g) w0 w) (p X M Y q : List Nat) (hXY : X.length = Y.length)
    (hn : (p ++ X ++ M ++ Y ++ q).length = n) (hB : Blk w g ((p ++ X ++ M ++ Y ++ q).map (valRow z) ++ rest) 29) (hm : n ≤ 4611686018427387904) (a b m : Int) (ea : a = (p.length : Nat)) (eb : b = (p.length + X.length + M.length : Nat)) (em : m = (X.length : Nat)) :
    Calls Tryz.prog 204 #[.slice (some ⟨g, 0, none⟩) n cap, .int .i64 a, .int .i64 b, .int .i64 m, fv] w
      (RetF (fun k => k = g) w0 fun w' v => v = .tuple #[] ∧ Blk w' g ((p ++ Y ++ M ++ X ++ q).map (valRow z) ++ rest) 29) := by
  subst ea eb em
  exact swapRangeRow_any z g n cap rest fv w0 w hk0 p X M Y q hXY hn hB hm _ _ _ rfl rfl rfl

set_option maxHeartbeats 1000000 in
theorem rotateRow_any (z : Nat → Option Addr × Nat × Nat) (g n cap : Nat) (rest : List Value) (fv : Value) (w0 w : World) (hk0 : Kp (fun k => k = g) w0 w) (p X Y q : List Nat) (hX : X ≠ []) (hY : Y ≠ [])
    (hn : (p ++ X ++ Y ++ q).length = n) (hB : Blk w g ((p ++ X ++ Y ++ q).map (valRow z) ++ rest) 29) (hm : n ≤ 4611686018427387904) (a m b : Nat) (ea : a = p.length) (em : m = p.length + X.length) (eb : b = p.length + X.length + Y.length) :
    Calls Tryz.prog 203 #[.slice (some ⟨g, 0, none⟩) n cap, .int .i64 a, .int .i64 m, .int .i64 b, fv] w
      (RetF (fun k => k = g) w0 fun w' v => v = .tuple #[] ∧ Blk w' g ((p ++ Y ++ X ++ q).map (valRow z) ++ rest) 29) := by
  have b1 : a < m := by have := List.length_pos_iff.2 hX; omega
  have b2 : m < b := by have := List.length_pos_iff.2 hY; omega
  have b3 : b ≤ n := by simp at hn; omega
  have HN := Lib.hid hn; clear hn
  have EA := Lib.hid ea; clear ea
  have EB := Lib.hid eb; clear eb
  have EM := Lib.hid em; clear em
  go_enter Tryz.func203, Tryz.ntmps203
  go_wp2
  go_loopw [10, 11] (fun i j wr => ∃ (x y : Nat) (p' X' Y' q' : List Nat), Hid (X'.length = x ∧ Y'.length = y ∧ p'.length + x = m ∧ p' ++ Y' ++ X' ++ q' = p ++ Y ++ X ++ q) ∧ 0 < x ∧ 0 < y ∧ x ≤ m ∧ m + y ≤ n ∧ i = .int .i64 x ∧ j = .int .i64 y ∧ Kp (fun k => k = g) w0 wr ∧ Hid (Blk wr g ((p' ++ X' ++ Y' ++ q').map (valRow z) ++ rest) 29)) (fun i j _ => (intOf i).toNat + (intOf j).toNat)
  case atStart =>
    have h1 := EA.out; have h2 := EB.out; have h3 := EM.out
    refine ⟨X.length, Y.length, p, X, Y, q, ⟨rfl, rfl, by omega, rfl⟩, by omega, by omega, by omega, by omega, ?_, ?_, hk0, hB⟩
    · congr 1; omega
    · congr 1; omega
  case round =>
    obtain ⟨x, y, p', X', Y', q', HH, hx, hy, hxm, hyn, rfl, rfl, hkp, hb⟩ := hrel
    have HNn : (p' ++ X' ++ Y' ++ q').length = n := by
      have h1 := congrArg List.length HH.out.2.2.2
      have h2 := HN.out
      simp at h1 h2 ⊢
      omega
    have HNN := Lib.hid HNn; clear HNn
    rcases Nat.lt_trichotomy y x with hlt | heq | hgt
    · have h1 : ((x : Int) != (y : Int)) = true := by rw [bne_iff_ne]; omega
      obtain ⟨hX1, hY1, hp1, ht⟩ := HH.out
      have HT := Lib.hid ht; clear ht
      have key : ∃ X1 X2, X' = X1 ++ X2 ∧ X1.length = y ∧ X2.length = x - y := ⟨_, _, (List.take_append_drop y X').symm, by simp; omega, by simp; omega⟩
      obtain ⟨X1, X2, rfl, lX1, lX2⟩ := key
      have HL := Lib.hid (And.intro hX1 (And.intro hY1 (And.intro hp1 (And.intro lX1 lX2))))
      clear hX1 hY1 hp1 lX1 lX2
      go_wp2_with fail
      refine (swapRangeRow_int z g n cap rest fv w0 wr hkp p' X1 X2 Y' q' (by have := HL.out; omega) (by simpa using HNN.out) (by simpa using hb.out) hm _ _ _ (by have := HL.out; omega) (by have := HL.out; omega) (by have := HL.out; omega)).mono ?_
      rintro e w1 ⟨v, rfl, hk1, rfl, hb1⟩
      have HB1 := Lib.hid hb1; clear hb1
      go_wp2
      go_roundw
      case rel =>
        refine ⟨x - y, y, p' ++ Y', X2, X1, q', ⟨by have := HL.out; omega, by have := HL.out; omega, by have := HL.out; simp; omega, by rw [← HT.out]; simp⟩, by omega, hy, by omega, hyn, ?_, rfl, hk1, HB1.out.congrL (by simp)⟩
        congr 1; omega
      case measure => simp [intOf]; omega
    · subst heq
      have h1 : ((y : Int) != (y : Int)) = false := by simp
      obtain ⟨hX1, hY1, hp1, ht⟩ := HH.out
      have HT := Lib.hid ht; clear ht
      have HL := Lib.hid (And.intro hX1 (And.intro hY1 hp1))
      clear hX1 hY1 hp1
      go_wp2_with fail
      refine (swapRangeRow_int z g n cap rest fv w0 wr hkp p' X' [] Y' q' (by have := HL.out; omega) (by simpa using HNN.out) (by simpa using hb.out) hm _ _ _ (by have := HL.out; omega) (by have := HL.out; simp; omega) (by have := HL.out; omega)).mono ?_
      rintro e w1 ⟨v, rfl, hk1, rfl, hb1⟩
      have HB1 := Lib.hid hb1; clear hb1
      go_wp2
      go_end0
      refine RetF.mk hk1 ⟨rfl, ?_⟩
      have := HT.out
      rw [← this]
      simpa using HB1.out
    · have h1 : ((x : Int) != (y : Int)) = true := by rw [bne_iff_ne]; omega
      obtain ⟨hX1, hY1, hp1, ht⟩ := HH.out
      have HT := Lib.hid ht; clear ht
      have key : ∃ Y1 Y2, Y' = Y1 ++ Y2 ∧ Y1.length = y - x ∧ Y2.length = x := ⟨_, _, (List.take_append_drop (y - x) Y').symm, by simp; omega, by simp; omega⟩
      obtain ⟨Y1, Y2, rfl, lY1, lY2⟩ := key
      have HL := Lib.hid (And.intro hX1 (And.intro hY1 (And.intro hp1 (And.intro lY1 lY2))))
      clear hX1 hY1 hp1 lY1 lY2
      go_wp2_with fail
      refine (swapRangeRow_int z g n cap rest fv w0 wr hkp p' X' Y1 Y2 q' (by have := HL.out; omega) (by simpa using HNN.out) (by simpa using hb.out) hm _ _ _ (by have := HL.out; omega) (by have := HL.out; omega) (by have := HL.out; omega)).mono ?_
      rintro e w1 ⟨v, rfl, hk1, rfl, hb1⟩
      have HB1 := Lib.hid hb1; clear hb1
      go_wp2
      go_roundw
      case rel =>
        refine ⟨x, y - x, p', Y2, Y1, X' ++ q', ⟨by have := HL.out; omega, by have := HL.out; omega, by have := HL.out; omega, by rw [← HT.out]; simp⟩, hx, by omega, by omega, by omega, rfl, ?_, hk1, HB1.out.congrL (by simp)⟩
        congr 1; omega
      case measure => simp [intOf]; omega
end Go.Proofs.YtfkhelihepbehaaGreat
