/- The words of these proofs: worlds that keep old blocks, rows of cells, appends. No program in sight. -/
import Derived.WalkKit
import Derived.WalkLawsBesides
import Derived.WalkSpells
import Derived.Lib.Hide
namespace Go.Proofs.YtcphalpcdcddpaaDoor
open Go.RowKit
set_option linter.unusedVariables false

/-- It returned v and left the world alone. -/
def Ret (v : Value) (w : World) (e : Ending) (w' : World) : Prop := e = .returned v ∧ w = w'
theorem Ret.mk {v v' : Value} {w : World} (h : v = v') : Ret v w (.returned v') w := ⟨by rw [h], rfl⟩
/-- It returned v and only drew. -/
def RetD (v : Value) (w : World) (e : Ending) (w' : World) : Prop := e = .returned v ∧ ∃ n, w' = w.drewN n

theorem RetD.mk {v v' : Value} {w : World} (h : v = v') (n : Nat) : RetD v w (.returned v') (w.drewN n) := ⟨by rw [h], n, rfl⟩

theorem drew_ex2 (w : World) (n m : Nat) : ∃ k, (w.drewN n).drewN m = w.drewN k := ⟨_, World.drewN_drewN w n m⟩
theorem drew_ex3 (w : World) (n m : Nat) : ∃ k, ((w.drewN n).drewN m).drew = w.drewN k := ⟨_, by rw [World.drewN_drewN, World.drew_drewN]⟩
theorem RetD.mk' {v v' : Value} {w w' : World} (h : v = v') (hw : ∃ n, w' = w.drewN n) : RetD v w (.returned v') w' := ⟨by rw [h], hw⟩

/-- Blocks of w outside F are as they were. -/
structure Kp (F : Nat → Prop) (w w' : World) : Prop where
  os : w'.os = w.os
  tape : w'.tape = w.tape
  output : w'.output = w.output
  size : w.heap.size ≤ w'.heap.size
  block : ∀ k, k < w.heap.size → ¬ F k → w'.heap[k]? = w.heap[k]?

/-- All blocks of w are as they were. -/
abbrev Ext (w w' : World) : Prop := Kp (fun _ => False) w w'
/-- Blocks that came since w. -/
abbrev New (w : World) : Nat → Prop := fun g => w.heap.size ≤ g

theorem Kp.refl {F : Nat → Prop} (w : World) : Kp F w w := ⟨rfl, rfl, rfl, Nat.le_refl _, fun _ _ _ => rfl⟩
theorem Kp.trans' {F G : Nat → Prop} {a b c : World} (h : Kp F a b) (k : Kp G b c) (hg : ∀ i, i < a.heap.size → G i → F i) : Kp F a c :=
  ⟨k.os.trans h.os, k.tape.trans h.tape, k.output.trans h.output, Nat.le_trans h.size k.size, fun i hi hf =>
    (k.block i (Nat.lt_of_lt_of_le hi h.size) (fun g => hf (hg i hi g))).trans (h.block i hi hf)⟩
theorem Kp.trans {F : Nat → Prop} {a b c : World} (h : Kp F a b) (k : Kp F b c) : Kp F a c := h.trans' k fun _ _ g => g
theorem Kp.mono {F G : Nat → Prop} {a b : World} (h : Kp F a b) (hg : ∀ i, i < a.heap.size → F i → G i) : Kp G a b :=
  ⟨h.os, h.tape, h.output, h.size, fun i hi hf => h.block i hi fun x => hf (hg i hi x)⟩
theorem Kp.ext {F : Nat → Prop} {a b c : World} (h : Kp F a b) (k : Ext b c) : Kp F a c := h.trans' k fun _ _ g => g.elim
theorem Ext.kp {F : Nat → Prop} {a b : World} (h : Ext a b) : Kp F a b := h.mono fun _ _ x => x.elim
theorem Kp.alloc {F : Nat → Prop} {a b : World} (h : Kp F a b) (o : Obj) : Kp F a (b.alloc o) :=
  h.ext ⟨rfl, rfl, rfl, by simp, fun k hk _ => Below.heap_alloc _ _ _ hk⟩
theorem Kp.drew {F : Nat → Prop} {a b : World} (h : Kp F a b) : Kp F a b.drew := ⟨h.os, h.tape, h.output, h.size, h.block⟩
theorem Kp.drewN {F : Nat → Prop} {a b : World} (h : Kp F a b) (n : Nat) : Kp F a (b.drewN n) := ⟨h.os, h.tape, h.output, h.size, h.block⟩
theorem Kp.setCell {F : Nat → Prop} {a b : World} (h : Kp F a b) {p : Addr} (hp : p.block < a.heap.size → F p.block) (u : Value) : Kp F a (b.setCell p u) := by
  refine h.trans' (G := fun k => k = p.block) ⟨rfl, rfl, rfl, by simp [World.setCell], fun k hk hf => Below.heap_setCell _ _ _ _ hf⟩ ?_
  rintro i hi rfl
  exact hp hi
theorem Kp.below {w w' : World} (h : Ext w w') : Below w.heap.size w w' := ⟨h.os, h.tape, h.output, h.size, fun k hk => h.block k hk id⟩
theorem Kp.of_below {w w' : World} (h : Below w.heap.size w w') : Ext w w' := ⟨h.os, h.tape, h.output, h.size, fun k hk _ => h.block k hk⟩
theorem Kp.grown {F : Nat → Prop} {a b c : World} {row : Option Nat} (h : Kp F a b) (hg : b.grownBy c row) (hr : ∀ k, row = some k → k < a.heap.size → F k) : Kp F a c :=
  h.trans' (G := fun k => row = some k) ⟨hg.os, hg.tape, hg.output, hg.size, fun k hk hf => hg.block k hk fun e => hf e.symm⟩ fun i hi e => hr i e hi
theorem Kp.cell {F : Nat → Prop} {w w' : World} (h : Kp F w w') {b o : Nat} {v : Value} (hc : w.cell? ⟨b, o, none⟩ = some v) (hf : ¬ F b) : w'.cell? ⟨b, o, none⟩ = some v := by
  have hb : b < w.heap.size := World.block_lt_of_cell? _ _ hc
  rw [World.cell?_of_block (w := w) (h.block b hb hf)]; exact hc

/-- A block of cells, none frozen. -/
def Blk (w : World) (g : Nat) (cs : List Value) (e : TypeId) : Prop := w.heap[g]? = some (.cells cs.toArray e (0, 0))

section
variable {w w' : World} {g : Nat} {cs : List Value} {e : TypeId}
theorem Blk.lt (h : Blk w g cs e) : g < w.heap.size := lt_of_block h
theorem Blk.cell (h : Blk w g cs e) (i : Nat) (hi : i < cs.length) : w.cell? ⟨g, i, none⟩ = some cs[i] := by
  unfold Blk at h; simp [World.cell?, h, hi]
theorem Blk.cell' (h : Blk w g cs e) (i : Nat) : w.cell? ⟨g, i, none⟩ = cs[i]? := by
  unfold Blk at h; simp [World.cell?, h]
theorem Blk.free (h : Blk w g cs e) (i : Nat) : w.frozen? ⟨g, i, none⟩ = false := by
  unfold Blk at h; simp [World.frozen?, h]
theorem Blk.kp {F : Nat → Prop} (h : Blk w g cs e) (k : Kp F w w') (hf : ¬ F g) : Blk w' g cs e := (k.block g h.lt hf).trans h
theorem Blk.ext (h : Blk w g cs e) (k : Ext w w') : Blk w' g cs e := h.kp k id
theorem Blk.alloc (h : Blk w g cs e) (o : Obj) : Blk (w.alloc o) g cs e := h.ext ((Kp.refl w).alloc o)
theorem Blk.drew (h : Blk w g cs e) : Blk w.drew g cs e := h
theorem Blk.drewN (h : Blk w g cs e) (n : Nat) : Blk (w.drewN n) g cs e := h
theorem Blk.new (w : World) (cs : List Value) (e : TypeId) : Blk (w.alloc (.cells cs.toArray e)) w.heap.size cs e := by
  show (w.heap.push _)[w.heap.size]? = _; simp
theorem Blk.set (h : Blk w g cs e) (i : Nat) (v : Value) : Blk (w.setCell ⟨g, i, none⟩ v) g (cs.set i v) e := by
  unfold Blk at *
  simp only [World.setCell, Array.getElem?_modify, h]
  simp
theorem Blk.congrL {cs' : List Value} (h : Blk w g cs e) (hc : cs = cs') : Blk w g cs' e := hc ▸ h
theorem Blk.other (h : Blk w g cs e) {p : Addr} (hp : g ≠ p.block) (v : Value) : Blk (w.setCell p v) g cs e := by
  unfold Blk at *; rw [Below.heap_setCell _ _ _ _ hp]; exact h
end

/-- The cells from an address on. (An empty list asks nothing.) -/
def CellsAt (w : World) (ao : Option Addr) (vs : List Value) : Prop :=
  ∀ i u, vs[i]? = some u → ∃ b off, ao = some ⟨b, off, none⟩ ∧ w.cell? ⟨b, off + i, none⟩ = some u

/-- No address of F. -/
def Off (F : Nat → Prop) (ao : Option Addr) : Prop := ∀ a, ao = some a → ¬ F a.block

section
variable {w w' : World} {ao : Option Addr} {vs : List Value}
theorem CellsAt.nil (w : World) (ao : Option Addr) : CellsAt w ao [] := fun i u h => by simp at h
theorem CellsAt.kp {F : Nat → Prop} (h : CellsAt w ao vs) (k : Kp F w w') (hf : Off F ao) : CellsAt w' ao vs := fun i u hu => by
  obtain ⟨b, off, h1, h2⟩ := h i u hu
  exact ⟨b, off, h1, k.cell h2 (hf _ h1)⟩
theorem CellsAt.ext (h : CellsAt w ao vs) (k : Ext w w') : CellsAt w' ao vs := h.kp k fun _ _ => id
theorem CellsAt.alloc (h : CellsAt w ao vs) (o : Obj) : CellsAt (w.alloc o) ao vs := h.ext ((Kp.refl w).alloc o)
theorem CellsAt.drewN (h : CellsAt w ao vs) (n : Nat) : CellsAt (w.drewN n) ao vs := h.ext ((Kp.refl w).drewN n)
theorem CellsAt.getv (h : CellsAt w ao vs) {k : Nat} (hk : k < vs.length) : ∃ b off, ao = some ⟨b, off, none⟩ ∧ w.cell? ⟨b, off + k, none⟩ = some vs[k] :=
  h k _ (List.getElem?_eq_getElem hk)
theorem CellsAt.off (h : CellsAt w ao vs) (hv : vs ≠ []) : ∃ b off, ao = some ⟨b, off, none⟩ ∧ b < w.heap.size := by
  have hk : 0 < vs.length := by cases vs <;> simp_all
  obtain ⟨b, off, h1, h2⟩ := h.getv hk
  exact ⟨b, off, h1, World.block_lt_of_cell? _ _ h2⟩
theorem CellsAt.blk {g off : Nat} {cs : List Value} {e : TypeId} (h : Blk w g cs e) (n : Nat) : CellsAt w (some ⟨g, off, none⟩) ((cs.drop off).take n) := fun i u hu => by
  refine ⟨g, off, rfl, ?_⟩
  rw [h.cell']
  rw [List.getElem?_take] at hu
  split at hu
  · rw [List.getElem?_drop] at hu; exact hu
  · cases hu
theorem CellsAt.pre {g : Nat} {xs rest : List Value} {e : TypeId} (h : Blk w g (xs ++ rest) e) : CellsAt w (some ⟨g, 0, none⟩) xs := by
  have := CellsAt.blk (off := 0) h xs.length
  simpa using this
theorem CellsAt.one (w : World) (x : Value) (e : TypeId) : CellsAt (w.alloc (.cells #[x] e)) (some ⟨w.heap.size, 0, none⟩) [x] := by
  have := Blk.new w [x] e
  exact CellsAt.pre (rest := []) this
theorem CellsAt.two (w : World) (x y : Value) (e : TypeId) : CellsAt (w.alloc (.cells #[x, y] e)) (some ⟨w.heap.size, 0, none⟩) [x, y] := by
  have := Blk.new w [x, y] e
  exact CellsAt.pre (rest := []) this
end

def strs (ss : List ByteArray) : List Value := ss.map Value.string
def ints (zs : List Int) : List Value := zs.map (Value.int .i64)
theorem strs_get? (ss : List ByteArray) (k : Nat) (hk : k < ss.length) : (strs ss)[k]? = some (.string ss[k]) := by simp [strs, hk]
theorem strs_len (ss : List ByteArray) : (strs ss).length = ss.length := by simp [strs]
theorem ints_len (ss : List Int) : (ints ss).length = ss.length := by simp [ints]
theorem CellsAt.str {w : World} {ao : Option Addr} {ss : List ByteArray} (h : CellsAt w ao (strs ss)) {k : Nat} (hk : k < ss.length) : ∃ b off, ao = some ⟨b, off, none⟩ ∧ w.cell? ⟨b, off + k, none⟩ = some (.string ss[k]) :=
  h k _ (strs_get? ss k hk)
theorem CellsAt.int {w : World} {ao : Option Addr} {ss : List Int} (h : CellsAt w ao (ints ss)) {k : Nat} (hk : k < ss.length) : ∃ b off, ao = some ⟨b, off, none⟩ ∧ w.cell? ⟨b, off + k, none⟩ = some (.int .i64 ss[k]) :=
  h k _ (by simp [ints, hk])

/-- A slice that a call owns: nil, or from the head of a block of M on; n elements of k cells, xs; what is behind them is room. -/
def Row (w : World) (e : TypeId) (k : Nat) (v : Value) (n : Nat) (xs : List Value) (M : Nat → Prop) : Prop :=
  xs.length = n * k ∧ (v = .slice none 0 0 ∧ n = 0 ∨
    ∃ g cap rest, v = .slice (some ⟨g, 0, none⟩) n cap ∧ M g ∧ Blk w g (xs ++ rest) e ∧ (xs ++ rest).length = cap * k ∧ n ≤ cap ∧ cap ≤ maxLen)

section
variable {w w' : World} {e : TypeId} {k : Nat} {v : Value} {n : Nat} {xs : List Value} {M : Nat → Prop}
theorem Row.nil (w : World) (e : TypeId) (k : Nat) (M : Nat → Prop) : Row w e k (.slice none 0 0) 0 [] M := ⟨by simp, .inl ⟨rfl, rfl⟩⟩
theorem Row.mono {M' : Nat → Prop} (h : Row w e k v n xs M) (hm : ∀ g, M g → M' g) : Row w e k v n xs M' := by
  obtain ⟨h1, h2 | ⟨g, cap, rest, a, b, c⟩⟩ := h
  · exact ⟨h1, .inl h2⟩
  · exact ⟨h1, .inr ⟨g, cap, rest, a, hm g b, c⟩⟩
theorem Row.kp' {F : Nat → Prop} (h : Row w e k v n xs M) (hk : Kp F w w') (hf : ∀ g, v.ownBlock = some g → M g → ¬ F g) : Row w' e k v n xs M := by
  obtain ⟨h1, h2 | ⟨g, cap, rest, a, b, c, d⟩⟩ := h
  · exact ⟨h1, .inl h2⟩
  · exact ⟨h1, .inr ⟨g, cap, rest, a, b, c.kp hk (hf g (by rw [a]; rfl) b), d⟩⟩
theorem Row.kp {F : Nat → Prop} (h : Row w e k v n xs M) (hk : Kp F w w') (hf : ∀ g, M g → ¬ F g) : Row w' e k v n xs M := h.kp' hk fun g _ => hf g
theorem Row.ext (h : Row w e k v n xs M) (hk : Ext w w') : Row w' e k v n xs M := h.kp hk fun _ _ => id
theorem Row.alloc (h : Row w e k v n xs M) (o : Obj) : Row (w.alloc o) e k v n xs M := h.ext ((Kp.refl w).alloc o)
theorem Row.drew (h : Row w e k v n xs M) : Row w.drew e k v n xs M := h.ext ((Kp.refl w).drew)
theorem Row.drewN (h : Row w e k v n xs M) (m : Nat) : Row (w.drewN m) e k v n xs M := h.ext ((Kp.refl w).drewN m)
theorem Row.shape (h : Row w e k v n xs M) : ∃ ao cap, v = .slice ao n cap ∧ CellsAt w ao xs ∧ n ≤ cap := by
  obtain ⟨h1, ⟨rfl, rfl⟩ | ⟨g, cap, rest, rfl, b, c, d, e, f⟩⟩ := h
  · have : xs = [] := List.eq_nil_of_length_eq_zero (by simpa using h1)
    subst this
    exact ⟨none, 0, rfl, CellsAt.nil _ _, Nat.le_refl _⟩
  · exact ⟨_, cap, rfl, CellsAt.pre c, e⟩
theorem Row.one (w : World) (e : TypeId) (x : Value) (M : Nat → Prop) (hM : M w.heap.size) : Row (w.alloc (.cells #[x] e)) e 1 (.slice (some ⟨w.heap.size, 0, none⟩) 1 1) 1 [x] M :=
  ⟨rfl, .inr ⟨_, 1, [], rfl, hM, Blk.new w [x] e, rfl, Nat.le_refl _, by decide⟩⟩
theorem Row.empty (w : World) (e : TypeId) (k : Nat) (M : Nat → Prop) (hM : M w.heap.size) : Row (w.alloc (.cells #[] e)) e k (.slice (some ⟨w.heap.size, 0, none⟩) 0 0) 0 [] M :=
  ⟨by simp, .inr ⟨_, 0, [], rfl, hM, Blk.new w [] e, by simp, Nat.le_refl _, by decide⟩⟩
theorem Row.block (h : Row w e k v n xs M) : ∀ g, v.ownBlock = some g → M g := by
  obtain ⟨h1, ⟨rfl, rfl⟩ | ⟨g, cap, rest, rfl, b, c, d⟩⟩ := h
  · intro g hg; cases hg
  · intro g' hg; cases hg; exact b
end

/-- A slice type t of elements e: k cells and 'bytes' bytes each, zero value z. -/
def ElemT (P : Program) (t e : TypeId) (k bytes : Nat) (z : Value) : Prop :=
  P.underlying t = some (.slice e) ∧ (P.info? e).map (fun i => (i.zero, i.size, i.bytes)) = some (some z, k, bytes) ∧ z.cells.size = k ∧ 0 < k

section
variable {P : Program} {w : World} {t e : TypeId} {k bytes : Nat} {z : Value}

theorem run_append_none' (E : ElemT P t e k bytes z) (ty : TypeId) {ao : Option Addr} {n cap : Nat} (hc : n ≤ cap) (ao' : Option Addr) (c : Nat) :
    (Builtin.append_ #[t, t] ty #[.slice ao n cap, .slice ao' 0 c]).run P w = .ok (.slice ao n cap) w := by
  obtain ⟨ht, hi, hz, hk⟩ := E
  obtain ⟨i, hi, h1, h2, h3⟩ := info_parts hi
  cases ao' <;> cases ao <;> simp [Builtin.append_, run_underlying ht, sizeOf, typeInfo, hi, Builtin.lenOf, Builtin.firstCells, loadCells, loadCellsFrom, hc, storeCells]

theorem run_app (E : ElemT P t e k bytes z) (ty : TypeId) {v : Value} {n : Nat} {xs : List Value} {M : Nat → Prop} (hr : Row w e k v n xs M)
    {ao : Option Addr} {m c : Nat} {news : List Value} (hl : news.length = m * k) (hs : CellsAt w ao news) (h1 : ∀ u ∈ news, u.oneCell' = true) (hb : (n + m) * bytes ≤ 140737488355328) (h63 : n + m ≤ maxLen) :
    ∃ v' w', (Builtin.append_ #[t, t] ty #[v, .slice ao m c]).run P w = .ok v' w' ∧ Row w' e k v' (n + m) (xs ++ news) (fun g => v.ownBlock = some g ∨ w.heap.size ≤ g) ∧ Kp (fun g => v.ownBlock = some g) w w' ∧ (v' = .slice none 0 0 ↔ v = .slice none 0 0 ∧ m = 0) := by
  by_cases hm : m = 0
  · subst hm
    have hn : news = [] := List.eq_nil_of_length_eq_zero (by simpa using hl)
    subst hn
    obtain ⟨ao1, cap1, rfl, _, hcap⟩ := hr.shape
    refine ⟨_, w, run_append_none' E ty hcap _ _, ?_, Kp.refl _, by simp⟩
    simp only [Nat.add_zero, List.append_nil]
    obtain ⟨h1, h2 | ⟨g, cap, rest, a, b, c⟩⟩ := hr
    · exact ⟨h1, .inl h2⟩
    · exact ⟨h1, .inr ⟨g, cap, rest, a, .inl (by rw [a]; rfl), c⟩⟩
  · have hne : news ≠ [] := by
      rintro rfl
      have h0 := Nat.mul_pos (Nat.pos_of_ne_zero hm) E.2.2.2
      simp only [List.length_nil] at hl; omega
    obtain ⟨b, off, rfl, hlt⟩ := hs.off hne
    have hsrc : ∀ j u, news[j]? = some u → w.cell? ((⟨b, off, none⟩ : Addr).add j) = some u := fun j u hu => by
      obtain ⟨b', off', he, hc⟩ := hs j u hu
      cases he
      rw [Addr.add_lit]; exact hc
    obtain ⟨ht, hi, hz, hk⟩ := E
    obtain ⟨i, hi, hz1, hz2, hz3⟩ := info_parts hi
    have hsmall : n + m ≤ 9223372036854775807 := h63
    have grown : ∀ old, (w.drew.alloc (.cells (xs.toArray ++ news.toArray ++ Builtin.zeroCells z.cells (grownCap w (n + m) old e - (n + m))) e)).heap[w.heap.size]? =
        some (.cells ((xs ++ news) ++ (Builtin.zeroCells z.cells (grownCap w (n + m) old e - (n + m))).toList).toArray e (0, 0)) := fun old => by
      show (w.heap.push _)[w.heap.size]? = _
      simp
    have lens : ∀ old, ((xs ++ news) ++ (Builtin.zeroCells z.cells (grownCap w (n + m) old e - (n + m))).toList).length = grownCap w (n + m) old e * k := fun old => by
      have hge := grownCap_ge w (n + m) old e
      simp only [List.length_append, Array.length_toList, size_zeroCells, hz, hr.1, hl, ← Nat.add_mul]
      congr 1; omega
    obtain ⟨hx, ⟨rfl, rfl⟩ | ⟨g, cap, rest, rfl, hM, hB, hlen, hnc, hcm⟩⟩ := hr
    · have hx0 : xs = [] := List.eq_nil_of_length_eq_zero (by simpa using hx)
      subst hx0
      have hr := run_append_nil (P := P) w t ty e i z ht hi hz1 ⟨b, off, none⟩ m c news (by rw [hz2]; exact hl) hsrc (by omega) (by omega) (by rw [hz3]; simp only [Nat.zero_add] at hb; omega)
      refine ⟨_, _, hr, ?_, ⟨rfl, rfl, rfl, by simp, fun k hk _ => Below.heap_alloc w.drew _ k hk⟩, by simp [hm]⟩
      have h0 := grown 0
      have h2 := lens 0
      simp only [Nat.zero_add, List.nil_append, Array.empty_append] at h0 h2 ⊢
      exact ⟨hl, .inr ⟨_, _, _, rfl, .inr (Nat.le_refl _), h0, h2, grownCap_ge w m 0 e, grownCap_le_maxLen w m 0 e (by omega)⟩⟩
    · by_cases hroom : n + m ≤ cap
      · have hr := run_append_room (P := P) w t ty e i ht hi g n cap _ hB ⟨b, off, none⟩ m c news (by rw [hz2]; exact hl) hsrc h1 hroom (by
            simp only [hz2, List.size_toArray, hlen, hl, ← Nat.add_mul]; exact Nat.mul_le_mul_right _ hroom)
        refine ⟨_, _, hr, ⟨by rw [List.length_append, hx, hl, Nat.add_mul], .inr ⟨g, cap, rest.drop news.length, rfl, .inl rfl, ?_, ?_, hroom, hcm⟩⟩, ⟨rfl, rfl, rfl, by simp, fun k _ hk => setRow_other w g k _ (fun e => hk (by simp [Value.ownBlock, e]))⟩, by simp⟩
        · show _ = _
          rw [setRow_heap w g _ _ e _ hB]
          congr 2
          simp only [hz2]
          rw [← hx]
          simp
        · have : news.length ≤ rest.length := by
            have := hlen
            simp only [List.length_append, hx] at this
            have h3 : (n + m) * k ≤ cap * k := Nat.mul_le_mul_right _ hroom
            rw [Nat.add_mul] at h3
            omega
          simp only [List.length_append, List.length_drop] at hlen ⊢
          omega
      · have holds : ∀ j u, xs[j]? = some u → w.cell? ((⟨g, 0, none⟩ : Addr).add j) = some u := fun j u hu => by
          rw [Addr.add_lit, Nat.zero_add, hB.cell', List.getElem?_append_left (List.getElem?_eq_some_iff.1 hu).1]; exact hu
        have hr := run_append_grow (P := P) w t ty e i z ht hi hz1 ⟨g, 0, none⟩ n cap xs (by rw [hz2]; exact hx) holds ⟨b, off, none⟩ m c news (by rw [hz2]; exact hl) hsrc (by omega) (by omega) (by rw [hz3]; exact growslice_fits (by omega) hb)
        exact ⟨_, _, hr, ⟨by rw [List.length_append, hx, hl, Nat.add_mul], .inr ⟨_, _, _, rfl, .inr (Nat.le_refl _), grown cap, lens cap, grownCap_ge w (n + m) cap e, grownCap_le_maxLen w (n + m) cap e (by omega)⟩⟩, ⟨rfl, rfl, rfl, by simp, fun k hk _ => Below.heap_alloc w.drew _ k hk⟩, by simp⟩

/-- The walk's law of an append onto a slice of the call's own. -/
theorem wp_app (E : ElemT P t e k bytes z) {ops : Array Oper} {rest : List Oper} {o : Oper} {a : Act} {Q : Exit → Act → World → Prop} (hgd : o.guard = none) (s x : Operand)
    (ho : o.op = .call { callee := .builtin .append, args := #[s, x], argTypes := #[t, t] })
    {F : Nat → Prop} {w0 : World} (hkp : Kp F w0 w) {M : Nat → Prop} (hM : ∀ g, M g → g < w0.heap.size → F g) (hN : ∀ g, w.heap.size ≤ g → M g)
    {v : Value} {n : Nat} {xs : List Value} (hs : a.eval s = v) (hr : Row w e k v n xs M)
    {ao : Option Addr} {m c : Nat} {news : List Value} (hx : a.eval x = .slice ao m c) (hl : news.length = m * k) (hsrc : CellsAt w ao news) (h1 : ∀ u ∈ news, u.oneCell' = true)
    (hb : (n + m) * bytes ≤ 140737488355328) (h63 : n + m ≤ maxLen)
    (h : ∀ v' w', Row w' e k v' (n + m) (xs ++ news) M → Kp F w0 w' → Kp (fun g => v.ownBlock = some g) w w' → (v' = .slice none 0 0 ↔ v = .slice none 0 0 ∧ m = 0) → wpList P ops Q rest (a.put o.dst v') w') : wpList P ops Q (o :: rest) a w := by
  refine wpList_plain hgd fun K hK => ?_
  obtain ⟨v', w', hrun, h2, h3, h4⟩ := run_app (P := P) E o.type hr hl hsrc h1 hb h63 (c := c)
  unfold Oper.wp execOp
  simp only [ho, resolve, invoke, builtin, Sem.run_bind, Sem.run_pure, Result.andThen_ok, List.map_toArray, List.map_cons, List.map_nil, hs, hx, hrun]
  refine hK _ _ (h v' w' (h2.mono fun g hg => ?_) (hkp.trans' h3 fun i hi hg => hM i (hr.block i hg) hi) h3 h4)
  rcases hg with hg | hg
  · exact hr.block g hg
  · exact hN g hg

/-- The same for a slice that came since w0. -/
theorem wp_appN (E : ElemT P t e k bytes z) {ops : Array Oper} {rest : List Oper} {o : Oper} {a : Act} {Q : Exit → Act → World → Prop} (hgd : o.guard = none) (s x : Operand)
    (ho : o.op = .call { callee := .builtin .append, args := #[s, x], argTypes := #[t, t] })
    {F : Nat → Prop} {w0 : World} (hkp : Kp F w0 w)
    {v : Value} {n : Nat} {xs : List Value} (hs : a.eval s = v) (hr : Row w e k v n xs (New w0))
    {ao : Option Addr} {m c : Nat} {news : List Value} (hx : a.eval x = .slice ao m c) (hsrc : CellsAt w ao news) (hl : news.length = m * k) (h1 : ∀ u ∈ news, u.oneCell' = true)
    (hb : (n + m) * bytes ≤ 140737488355328) (h63 : n + m ≤ maxLen)
    (h : ∀ v' w', Row w' e k v' (n + m) (xs ++ news) (New w0) → Kp F w0 w' → Kp (fun g => v.ownBlock = some g) w w' → (v' = .slice none 0 0 ↔ v = .slice none 0 0 ∧ m = 0) → wpList P ops Q rest (a.put o.dst v') w') : wpList P ops Q (o :: rest) a w :=
  wp_app E hgd s x ho hkp (fun g h1 h2 => absurd h2 (Nat.not_lt.2 h1)) (fun g h1 => Nat.le_trans hkp.size h1) hs hr hx hl hsrc h1 hb h63 h
end

/-- A place at which the walk is made to stop. -/
def Halted (p : Prop) : Prop := p
theorem Halted.out {p : Prop} (h : Halted p) : p := h
theorem Halted.mk {p : Prop} (h : p) : Halted p := h

/-- It returned a value, all old blocks are as they were, and P holds of the new world and the value. -/
def RetN (w : World) (P : World → Value → Prop) (e : Ending) (w' : World) : Prop := ∃ v, e = .returned v ∧ Ext w w' ∧ P w' v
theorem RetN.mk {w w' : World} {P : World → Value → Prop} {v : Value} (h : Ext w w') (hp : P w' v) : RetN w P (.returned v) w' := ⟨v, rfl, h, hp⟩
/-- The same where blocks of F may have been written. -/
def RetF (F : Nat → Prop) (w : World) (P : World → Value → Prop) (e : Ending) (w' : World) : Prop := ∃ v, e = .returned v ∧ Kp F w w' ∧ P w' v
theorem RetF.mk {F : Nat → Prop} {w w' : World} {P : World → Value → Prop} {v : Value} (h : Kp F w w') (hp : P w' v) : RetF F w P (.returned v) w' := ⟨v, rfl, h, hp⟩
end Go.Proofs.YtcphalpcdcddpaaDoor
