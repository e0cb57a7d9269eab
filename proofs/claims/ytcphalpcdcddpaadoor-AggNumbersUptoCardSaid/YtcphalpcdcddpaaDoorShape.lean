/- Shapes: how data of a type lie in memory, and what a reading of a bounded argument gives of them. -/
import Derived.Test.YtcphalpcdcddpaaDoorBulk
import Derived.Deep.Slices
import Derived.ChangeArms
namespace Go.Proofs.YtcphalpcdcddpaaDoor
open Go.ChangeShapes Go.WideShapes Go.ChangeAt Go.RowKit
set_option linter.unusedVariables false

/-- How data of a type lie in memory: the cells cs of world w are the datum x, all that they lead to lies in blocks of G. -/
structure Shp (P : Program) (α : Type) where
  ty : TypeId
  n : Nat
  At : World → (Nat → Prop) → List Value → α → Prop
  bulk : α → Nat
  cells : P.cellsOf ty = n
  len : ∀ {w G cs x}, At w G cs x → cs.length = n
  kp : ∀ {w w' G F cs x}, At w G cs x → Kp F w w' → (∀ k, G k → ¬ F k) → At w' G cs x
  mono : ∀ {w G G' cs x}, At w G cs x → (∀ k, G k → G' k) → At w G' cs x
  read : ∀ {H : Type} {enc : TypeId × Value → H} {w fuel cs d p}, DataW.trod enc P w 0 (fun _ => true) true fuel ty cs = some (d, p) → ∃ x, At w (fun k => k < w.heap.size) cs x ∧ bulk x ≤ Rows.uptoBulk d

section
variable {P : Program} {α β : Type}
theorem Shp.ext (s : Shp P α) {w w' : World} {G : Nat → Prop} {cs : List Value} {x : α} (h : s.At w G cs x) (hk : Ext w w') : s.At w' G cs x := s.kp h hk fun _ _ => id

theorem read_lit {H : Type} (l : Lit) : 1 ≤ Rows.uptoBulk (DataW.lit (H := H) l) := bulk_one _
def shInt (t : TypeId) (k : IntKind) (hu : P.underlying t = some (.int k)) (hc : P.cellsOf t = 1) : Shp P Int where
  ty := t
  n := 1
  At := fun _ _ cs x => cs = [.int k x] ∧ (Lit.int k x).wf = true
  bulk := fun _ => 1
  cells := hc
  len := fun h => by rw [h.1]; rfl
  kp := fun h _ _ => h
  mono := fun h _ => h
  read := fun h => by
    obtain ⟨n, rfl, e, hw⟩ := DataW.trod_int hu h
    cases e
    exact ⟨n, ⟨rfl, hw⟩, bulk_one _⟩
def shBool (t : TypeId) (hu : P.underlying t = some .bool) (hc : P.cellsOf t = 1) : Shp P Bool where
  ty := t
  n := 1
  At := fun _ _ cs x => cs = [.bool x]
  bulk := fun _ => 1
  cells := hc
  len := fun h => by rw [h]; rfl
  kp := fun h _ _ => h
  mono := fun h _ => h
  read := fun h => by
    obtain ⟨n, rfl, e⟩ := DataW.trod_bool hu h
    cases e
    exact ⟨n, rfl, bulk_one _⟩
def shStr (t : TypeId) (hu : P.underlying t = some .string) (hc : P.cellsOf t = 1) : Shp P ByteArray where
  ty := t
  n := 1
  At := fun _ _ cs x => cs = [.string x] ∧ x.size ≤ maxLen
  bulk := fun x => x.size + 1
  cells := hc
  len := fun h => by rw [h.1]; rfl
  kp := fun h _ _ => h
  mono := fun h _ => h
  read := fun h => by
    obtain ⟨n, rfl, e, hw⟩ := DataW.trod_string hu h
    cases e
    refine ⟨n, ⟨rfl, hw⟩, ?_⟩
    rw [Rows.uptoBulk, Array.length_toList]; exact Nat.le_refl _

/-- A slice's elements. -/
def ElemsAt (s : Shp P α) (w : World) (G : Nat → Prop) (ao : Option Addr) (xs : List α) : Prop :=
  ∀ i x, xs[i]? = some x → ∃ b off es, ao = some ⟨b, off, none⟩ ∧ G b ∧ b < w.heap.size ∧ s.At w G es x ∧ ∀ c u, es[c]? = some u → w.cell? ⟨b, off + (i * s.n + c), none⟩ = some u
theorem ElemsAt.kp {s : Shp P α} {w w' : World} {G F : Nat → Prop} {ao : Option Addr} {xs : List α} (h : ElemsAt s w G ao xs) (hk : Kp F w w') (hF : ∀ k, G k → ¬ F k) : ElemsAt s w' G ao xs := fun i x hx => by
  obtain ⟨b, off, es, e, hg, hb, ha, hc⟩ := h i x hx
  exact ⟨b, off, es, e, hg, Nat.lt_of_lt_of_le hb hk.size, s.kp ha hk hF, fun c u hu => hk.cell (hc c u hu) (hF b hg)⟩
theorem ElemsAt.ext {s : Shp P α} {w w' : World} {G : Nat → Prop} {ao : Option Addr} {xs : List α} (h : ElemsAt s w G ao xs) (hk : Ext w w') : ElemsAt s w' G ao xs := h.kp hk fun _ _ => id
theorem ElemsAt.mono {s : Shp P α} {w : World} {G G' : Nat → Prop} {ao : Option Addr} {xs : List α} (h : ElemsAt s w G ao xs) (hG : ∀ k, G k → G' k) : ElemsAt s w G' ao xs := fun i x hx => by
  obtain ⟨b, off, es, e, hg, hb, ha, hc⟩ := h i x hx
  exact ⟨b, off, es, e, hG b hg, hb, s.mono ha hG, hc⟩
def bulkL (f : α → Nat) (xs : List α) : Nat := (xs.map f).sum
theorem bulkL_cons (f : α → Nat) (x : α) (xs : List α) : bulkL f (x :: xs) = f x + bulkL f xs := by simp [bulkL]
theorem bulkL_mem (f : α → Nat) {x : α} : ∀ {xs : List α}, x ∈ xs → f x ≤ bulkL f xs
  | y :: xs, h => by
    rw [bulkL_cons]
    rcases List.mem_cons.1 h with rfl | h
    · omega
    · have := bulkL_mem f h; omega
theorem bulkL_len (f : α → Nat) (hf : ∀ x, 1 ≤ f x) : ∀ xs : List α, xs.length ≤ bulkL f xs
  | [] => by simp
  | x :: xs => by have := bulkL_len f hf xs; have := hf x; rw [bulkL_cons]; simp only [List.length_cons]; omega
theorem bulkL_le {H : Type} (f : α → Nat) : ∀ (xs : List α) (D : List (DataW H)), xs.length = D.length → (∀ (i : Nat) x d, xs[i]? = some x → D[i]? = some d → f x ≤ Rows.uptoBulk d) → bulkL f xs ≤ Rows.uptoBulkAll D
  | [], [], _, _ => by simp [bulkL]
  | x :: xs, d :: D, hl, h => by
    have h0 := h 0 x d rfl rfl
    have := bulkL_le f xs D (by simpa using hl) (fun i y e hy he => h (i + 1) y e (by simpa using hy) (by simpa using he))
    rw [bulkL_cons]; simp only [Rows.uptoBulkAll]; omega

def shSlice (t : TypeId) (s : Shp P α) (hu : P.underlying t = some (.slice s.ty)) (hc : P.cellsOf t = 1) (hn : 0 < s.n) : Shp P (List α) where
  ty := t
  n := 1
  At := fun w G cs xs => ∃ ao cap, cs = [.slice ao xs.length cap] ∧ xs.length ≤ cap ∧ cap ≤ maxLen ∧ ElemsAt s w G ao xs
  bulk := fun xs => bulkL s.bulk xs + 1
  cells := hc
  len := fun h => by obtain ⟨_, _, e, _⟩ := h; rw [e]; rfl
  kp := fun ⟨ao, cap, e, h1, h2, h⟩ hk hF => ⟨ao, cap, e, h1, h2, h.kp hk hF⟩
  mono := fun ⟨ao, cap, e, h1, h2, h⟩ hG => ⟨ao, cap, e, h1, h2, h.mono hG⟩
  read := fun {H enc w fuel cs d p} h => by
    rcases Go.Deep.open_slice hu h with ⟨hcs, hx⟩ | ⟨a, len, cap, m, n, D, Pl, hcs, _, hl, hm, hmm, hx, hel⟩
    · cases hx
      exact ⟨[], ⟨none, 0, hcs, by simp, by simp [maxLen], fun i x hi => by simp at hi⟩, by simp [Rows.uptoBulk, bulkL]⟩
    · cases hx
      subst hcs
      simp only [if_true] at hmm
      have each : ∀ i, i < len → ∃ q : α × List Value, (s.At w (fun k => k < w.heap.size) q.2 q.1 ∧ s.bulk q.1 ≤ Rows.uptoBulk (D i)) ∧ ∃ b off, a = ⟨b, off, none⟩ ∧ b < w.heap.size ∧ ∀ c u, q.2[c]? = some u → w.cell? ⟨b, off + (i * s.n + c), none⟩ = some u := by
        intro i hi
        obtain ⟨cs, hcs, ht⟩ := hel i (by omega)
        obtain ⟨x, hx, hb⟩ := s.read ht
        rw [s.cells] at hcs
        obtain ⟨_, hlen, hcell⟩ := World.cells?_some hcs
        obtain ⟨b, off, spot⟩ := a
        have hspot : spot = none := by
          obtain ⟨cs0, hcs0, _⟩ := hel 0 (by omega)
          rw [s.cells] at hcs0
          obtain ⟨_, hlen0, hcell0⟩ := World.cells?_some hcs0
          have h0 := hcell0 0 hn
          rw [List.getElem?_eq_getElem (by omega)] at h0
          have := World.cell?_spot h0
          simpa [Addr.add] using this
        subst hspot
        have cell : ∀ c, c < s.n → w.cell? ⟨b, off + (i * s.n + c), none⟩ = cs[c]? := fun c hc => by
          have := hcell c hc
          rw [Go.Deep.add_add, Addr.add_lit] at this
          exact this
        refine ⟨(x, cs), ⟨hx, hb⟩, b, off, rfl, ?_, fun c u hu => ?_⟩
        · have h0 := cell 0 hn
          rw [List.getElem?_eq_getElem (by omega)] at h0
          exact World.block_lt_of_cell? _ _ h0
        · have hc := (List.getElem?_eq_some_iff.1 hu).1
          rw [cell c (by simp only at hc; omega)]; exact hu
      have hex : ∃ q : List (α × List Value), q.length = len ∧ ∀ (i : Nat) y, q[i]? = some y → (s.At w (fun k => k < w.heap.size) y.2 y.1 ∧ s.bulk y.1 ≤ Rows.uptoBulk (D i)) ∧ ∃ b off, a = ⟨b, off, none⟩ ∧ b < w.heap.size ∧ ∀ c u, y.2[c]? = some u → w.cell? ⟨b, off + (i * s.n + c), none⟩ = some u := by
        clear hel hmm hl hm h
        induction len with
        | zero => exact ⟨[], rfl, fun i y hy => by simp at hy⟩
        | succ len ih =>
          obtain ⟨q, h1, h2⟩ := ih (fun i hi => each i (by omega))
          obtain ⟨y, hy⟩ := each len (by omega)
          refine ⟨q ++ [y], by simp [h1], fun i z hz => ?_⟩
          by_cases hi : i < len
          · rw [List.getElem?_append_left (by omega)] at hz; exact h2 i z hz
          · have h3 := (List.getElem?_eq_some_iff.1 hz).1
            simp only [List.length_append, List.length_cons, List.length_nil] at h3
            have e : i = len := by omega
            subst e
            rw [List.getElem?_append_right (by omega)] at hz
            simp [h1] at hz
            subst hz; exact hy
      obtain ⟨q, hq, hall⟩ := hex
      refine ⟨q.map (·.1), ⟨some a, cap, by simp [hq], by simp [hq, hl], hm, fun i x hi => ?_⟩, ?_⟩
      · rw [List.getElem?_map] at hi
        cases hy : q[i]? with
        | none => rw [hy] at hi; cases hi
        | some y =>
          rw [hy] at hi
          cases hi
          obtain ⟨⟨h1, _⟩, b, off, rfl, hb, hc⟩ := hall i y hy
          exact ⟨b, off, y.2, rfl, hb, hb, h1, hc⟩
      · have := bulkL_le (H := H) s.bulk (q.map (·.1)) ((List.range len).map D) (by simp [hq]) (fun i x d hx hd => by
          rw [List.getElem?_map] at hx hd
          cases hy : q[i]? with
          | none => rw [hy] at hx; cases hx
          | some y =>
            have hi := (List.getElem?_eq_some_iff.1 hy).1
            rw [hy] at hx
            rw [List.getElem?_range (by omega)] at hd
            cases hx; cases hd
            exact (hall i y hy).1.2)
        simp only [Rows.uptoBulk]
        omega

/-- A struct's fields, from an offset on. -/
structure Flds (P : Program) (α : Type) where
  n : Nat
  At : World → (Nat → Prop) → List Value → α → Prop
  bulk : α → Nat
  ok : List Field → Nat → Prop
  len : ∀ {w G cs x}, At w G cs x → cs.length = n
  kp : ∀ {w w' G F cs x}, At w G cs x → Kp F w w' → (∀ k, G k → ¬ F k) → At w' G cs x
  mono : ∀ {w G G' cs x}, At w G cs x → (∀ k, G k → G' k) → At w G' cs x
  read : ∀ {H : Type} {enc : TypeId × Value → H} {w : World} {fuel : Nat} {fs : List Field} {off : Nat} {cs : List Value} {xs : List (DataW H × List MemPlace)}, ok fs off → off + n ≤ cs.length → (fs.mapM fun f => DataW.trod enc P w 0 (fun _ => true) true fuel f.type ((cs.drop f.offset).take (P.cellsOf f.type))) = some xs →
    ∃ x, At w (fun k => k < w.heap.size) ((cs.drop off).take n) x ∧ bulk x ≤ Rows.uptoBulkAll (xs.map (·.1))
def fdNil : Flds P Unit where
  n := 0
  At := fun _ _ cs _ => cs = []
  bulk := fun _ => 0
  ok := fun fs _ => fs = []
  len := fun h => by rw [h]; rfl
  kp := fun h _ _ => h
  mono := fun h _ => h
  read := fun h _ hm => by
    subst h
    exact ⟨(), by simp, by simp⟩
def fdCons (s : Shp P α) (r : Flds P β) : Flds P (α × β) where
  n := s.n + r.n
  At := fun w G cs x => ∃ a b, cs = a ++ b ∧ s.At w G a x.1 ∧ r.At w G b x.2
  bulk := fun x => s.bulk x.1 + r.bulk x.2
  ok := fun fs off => ∃ f fs', fs = f :: fs' ∧ f.type = s.ty ∧ f.offset = off ∧ r.ok fs' (off + s.n)
  len := fun h => by obtain ⟨a, b, e, h1, h2⟩ := h; rw [e, List.length_append, s.len h1, r.len h2]
  kp := fun ⟨a, b, e, h1, h2⟩ hk hF => ⟨a, b, e, s.kp h1 hk hF, r.kp h2 hk hF⟩
  mono := fun ⟨a, b, e, h1, h2⟩ hG => ⟨a, b, e, s.mono h1 hG, r.mono h2 hG⟩
  read := fun {H enc w fuel fs off cs xs} ho hl hm => by
    obtain ⟨f, fs', rfl, h1, h2, h3⟩ := ho
    rw [List.mapM_cons] at hm
    obtain ⟨y, hy, hm⟩ := Option.bind_eq_some_iff.1 hm
    obtain ⟨ys, hys, hm⟩ := Option.bind_eq_some_iff.1 hm
    cases hm
    rw [h1, h2, s.cells] at hy
    obtain ⟨x, hx, hb⟩ := s.read (d := y.1) (p := y.2) hy
    obtain ⟨z, hz, hc⟩ := r.read h3 (by omega) hys
    refine ⟨(x, z), ⟨_, _, ?_, hx, hz⟩, ?_⟩
    · rw [← List.drop_drop, List.take_add]
    · simp only [List.map_cons, Rows.uptoBulkAll]; omega
def shStruct (t : TypeId) (r : Flds P α) {fs : Array Field} (hu : P.underlying t = some (.struct fs)) (hok : r.ok fs.toList 0) (hc : P.cellsOf t = r.n) : Shp P α where
  ty := t
  n := r.n
  At := r.At
  bulk := fun x => r.bulk x + 1
  cells := hc
  len := r.len
  kp := r.kp
  mono := r.mono
  read := fun {H enc w fuel cs d p} h => by
    cases fuel with
    | zero => simp [DataW.trod] at h
    | succ fuel =>
      unfold DataW.trod at h
      rw [hu] at h
      simp only at h
      split at h
      · rename_i hl
        rw [hc] at hl
        obtain ⟨xs, hm, e⟩ := Option.map_eq_some_iff.1 h
        cases e
        obtain ⟨x, hx, hb⟩ := r.read hok (by omega) hm
        rw [List.drop_zero, ← hl, List.take_length] at hx
        exact ⟨x, hx, by simp only [Rows.uptoBulk]; omega⟩
      · cases h

/-- An argument as it came in. -/
theorem Shp.arg (s : Shp P α) {H : Type} {enc : TypeId × Value → H} {W : World} {v : Value} {d : DataW H} {p : List MemPlace} (h : DataW.Trod enc P W 0 (fun _ => true) true s.ty v d p) {N : Nat} (hN : Rows.uptoBulk d ≤ N) :
    ∃ x, s.At W (fun k => k < W.heap.size) v.cells.toList x ∧ s.bulk x ≤ N := by
  obtain ⟨fuel, hf⟩ := h
  obtain ⟨x, hx, hb⟩ := s.read hf
  exact ⟨x, hx, Nat.le_trans hb hN⟩
/-- Texts, as cells. -/
theorem elems_strs {t : TypeId} {hu : P.underlying t = some .string} {hc : P.cellsOf t = 1} {w : World} {G : Nat → Prop} {ao : Option Addr} {ss : List ByteArray} (h : ElemsAt (shStr t hu hc) w G ao ss) : CellsAt w ao (strs ss) := fun i u hu' => by
  simp only [strs, List.getElem?_map] at hu'
  cases hx : ss[i]? with
  | none => rw [hx] at hu'; cases hu'
  | some x =>
    rw [hx] at hu'
    cases hu'
    obtain ⟨b, off, es, e, _, _, ha, hcell⟩ := h i x hx
    refine ⟨b, off, e, ?_⟩
    have := hcell 0 (.string x) (by rw [ha.1]; rfl)
    simpa [shStr] using this
end
end Go.Proofs.YtcphalpcdcddpaaDoor
