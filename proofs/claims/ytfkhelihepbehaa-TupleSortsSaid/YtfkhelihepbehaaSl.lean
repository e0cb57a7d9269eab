/- Laws of the walk on slices of one-cell elements: copy into a block, clear, append of zero values. No program in sight. -/
import Derived.Test.YtfkhelihepbehaaBase
import Derived.Lib.SliceRun
import Derived.Lib.Overlaps
import Derived.Lib.AppendZerosOnto
import Derived.Laws.Externs
import Derived.Laws.CopyOwn
import Derived.StillTailTactics
import Derived.Deep.QuietTactic
import Derived.BigQuiet
namespace Go.Proofs.Ytfkhelihepbehaa
open Go.RowKit
set_option linter.unusedVariables false

theorem tup_ib {i : Int} {b b' : Bool} (h : b' = b) : Value.tuple #[.int .i64 i, .bool b] = .tuple #[.int .i64 i, .bool b'] := by rw [h]

section
variable {P : Program} {w : World} {t e : TypeId} {bytes : Nat} {z : Value}

theorem blk_setRow {g : Nat} {cur cs : List Value} (h : Blk w g cur e) : Blk (w.setRow g cs.toArray) g cs e := setRow_heap w g _ _ e _ h
theorem kp_setRow (g : Nat) (cs : Array Value) : Kp (fun k => k = g) w (w.setRow g cs) :=
  ⟨rfl, rfl, rfl, by simp [World.setRow], fun k _ hf => setRow_other w g k cs hf⟩

/-- An append whose run is known. -/
theorem wp_appRun {ops : Array Oper} {rest : List Oper} {o : Oper} {a : Act} {Q : Exit → Act → World → Prop} (hgd : o.guard = none) (s x : Operand) {t1 t2 : TypeId}
    (ho : o.op = .call { callee := .builtin .append, args := #[s, x], argTypes := #[t1, t2] }) {v u : Value} (hs : a.eval s = v) (hx : a.eval x = u) {v' : Value} {w' : World}
    (hr : ∀ ty, (Builtin.append_ #[t1, t2] ty #[v, u]).run P w = .ok v' w') (h : wpList P ops Q rest (a.put o.dst v') w') : wpList P ops Q (o :: rest) a w := by
  refine wpList_plain hgd fun K hK => ?_
  unfold Oper.wp execOp
  simp only [ho, resolve, invoke, builtin, Sem.run_bind, Sem.run_pure, Result.andThen_ok, List.map_toArray, List.map_cons, List.map_nil, hs, hx, hr]
  exact hK _ _ h

/-- copy(d, s) into a known block. -/
theorem wp_copyB (E : ElemT P t e 1 bytes z) {ops : Array Oper} {rest : List Oper} {o : Oper} {a : Act} {Q : Exit → Act → World → Prop} (hgd : o.guard = none) (d s : Operand)
    (ho : o.op = .call { callee := .builtin .copy, args := #[d, s], argTypes := #[t, t] })
    {g off dLen dCap : Nat} {cur : List Value} {e' : TypeId} (hB : Blk w g cur e') {dp : Option Addr} (hd : a.eval d = .slice dp dLen dCap) {sp : Option Addr} {sLen sCap : Nat} (hs : a.eval s = .slice sp sLen sCap)
    {cs : List Value} (hl : cs.length = Nat.min sLen dLen) (hdp : 0 < cs.length → dp = some ⟨g, off, none⟩) (hsrc : CellsAt w sp cs) (hfit : off + cs.length ≤ cur.length) (h1 : ∀ u ∈ cs, u.oneCell' = true)
    (h : ∀ w', Kp (fun k => k = g) w w' → Blk w' g (splice cur off cs) e' → wpList P ops Q rest (a.put o.dst (goInt cs.length)) w') : wpList P ops Q (o :: rest) a w := by
  obtain ⟨ht, hi, hz, hk⟩ := E
  obtain ⟨i, hi, hz1, hz2, hz3⟩ := info_parts hi
  have hsz : (P.info? e).map (·.size) = some 1 := by rw [hi]; simp [hz2]
  by_cases h0 : cs.length = 0
  · obtain rfl : cs = [] := List.eq_nil_of_length_eq_zero h0
    refine wpList_copy_nothing hgd d s t t ho e ht hsz dp sp dLen dCap sLen sCap hd hs (by simpa using hl.symm) ?_
    exact h w (Kp.refl w) (hB.congrL (by simp [splice]))
  · have hdp := hdp (by omega)
    subst hdp
    obtain ⟨b, off', rfl, hlt⟩ := hsrc.off (by rintro rfl; simp at h0)
    refine wpList_copy_own hgd d s t t ho e ht hsz g off dLen dCap ⟨b, off', none⟩ sLen sCap hd hs cur.toArray e' hB cs hl (fun j v hj => ?_) (by simpa using hfit) h1 ?_
    · obtain ⟨b', o', he, hc⟩ := hsrc j v hj
      cases he
      rw [Addr.add_lit]; exact hc
    · have hb := blk_setRow (cs := cur.take off ++ (cs ++ cur.drop (off + cs.length))) hB
      exact h _ (kp_setRow g _) (by simpa [splice] using hb)

theorem run_clearB (E : ElemT P t e 1 bytes z) (hz1 : z.oneCell' = true) (hzv : ∀ w, (zeroValue e).run P w = .ok z w) {g off n c : Nat} {cur : List Value} {e' : TypeId} (hB : Blk w g cur e') {sp : Option Addr} (hsp : 0 < n → sp = some ⟨g, off, none⟩) (hfit : off + n ≤ cur.length) :
    ∃ w', (∀ ty, (Builtin.clear_ #[t] ty #[.slice sp n c]).run P w = .ok (.tuple #[]) w') ∧ Kp (fun k => k = g) w w' ∧ Blk w' g (splice cur off (List.replicate n z)) e' := by
  obtain ⟨ht, hi, hzz, hk⟩ := E
  by_cases h0 : n = 0
  · subst h0
    refine ⟨w, fun ty => ?_, Kp.refl w, hB.congrL (by simp [splice])⟩
    cases sp <;> simp [Builtin.clear_, run_underlying ht]
  · have hsp := hsp (by omega)
    subst hsp
    have hzc : z.cells = #[z] := by cases z <;> simp_all [Value.cells, Value.oneCell']
    have hzz' : (Builtin.zeroCells z.cells n).toList = List.replicate n z := by
      rw [hzc]
      simp [Builtin.zeroCells]
      apply List.ext_getElem
      · simp
      · intro i h1 h2
        simp [Nat.mod_one]
    have hst := run_storeCells_at P g off e' (List.replicate n z) 0 cur.toArray w hB (by simpa using hfit) (by intro v hv'; rw [List.eq_of_mem_replicate hv']; exact hz1)
    simp only [Nat.add_zero] at hst
    obtain ⟨m, rfl⟩ : ∃ m, n = m + 1 := ⟨n - 1, by omega⟩
    have hb := blk_setRow (cs := cur.take off ++ (List.replicate (m + 1) z ++ cur.drop (off + (m + 1)))) hB
    refine ⟨_, fun ty => by simp [Builtin.clear_, run_underlying ht, hzv, hzz', hst]; rfl, kp_setRow g _, ?_⟩
    simpa [splice] using hb

/-- clear(s) of a part of a known block. -/
theorem wp_clearB (E : ElemT P t e 1 bytes z) (hz1 : z.oneCell' = true) (hzv : ∀ w, (zeroValue e).run P w = .ok z w) {ops : Array Oper} {rest : List Oper} {o : Oper} {a : Act} {Q : Exit → Act → World → Prop} (hgd : o.guard = none) (s : Operand)
    (ho : o.op = .call { callee := .builtin .clear, args := #[s], argTypes := #[t] })
    {g off n c : Nat} {cur : List Value} {e' : TypeId} (hB : Blk w g cur e') {sp : Option Addr} (hs : a.eval s = .slice sp n c) (hsp : 0 < n → sp = some ⟨g, off, none⟩) (hfit : off + n ≤ cur.length)
    (h : ∀ w', Kp (fun k => k = g) w w' → Blk w' g (splice cur off (List.replicate n z)) e' → wpList P ops Q rest (a.put o.dst (.tuple #[])) w') : wpList P ops Q (o :: rest) a w := by
  refine wpList_plain hgd fun K hK => ?_
  obtain ⟨w', hrun, h2, h3⟩ := run_clearB (P := P) E hz1 hzv hB hsp hfit (c := c)
  unfold Oper.wp execOp
  simp only [ho, resolve, invoke, builtin, Sem.run_bind, Sem.run_pure, Result.andThen_ok, List.map_toArray, List.map_cons, List.map_nil, hs, hrun]
  exact hK _ _ (h w' h2 h3)

/-- append(s, make([]T, k)...) where it must grow. -/
theorem run_app_zeros (E : ElemT P t e 1 bytes z) (hzo : z.oneCell' = true) {tn : TypeId} {kn : IntKind} (htn : P.underlying tn = some (.int kn)) {ao : Option Addr} {n cap : Nat} {olds : List Value} (hs : CellsAt w ao olds) (hl : olds.length = n)
    {k : Nat} (h0 : 0 < k) (hg : cap < n + k) (hb : (n + k) * bytes ≤ 140737488355328) (h63 : n + k ≤ maxLen) :
    ∃ w' G, (∀ ty, (Builtin.append_ #[t, tn] ty #[.slice ao n cap, .int .i64 k]).run P w = .ok (.slice (some ⟨w.heap.size, 0, none⟩) (n + k) G) w') ∧ n + k ≤ G ∧ G ≤ maxLen ∧ Ext w w' ∧ w'.heap.size = w.heap.size + 1 ∧ Blk w' w.heap.size (olds ++ List.replicate (G - n) z) e := by
  obtain ⟨ht, hi, hzz, hk⟩ := E
  obtain ⟨i, hi, hz1, hz2, hz3⟩ := info_parts hi
  have hold : (Builtin.firstCells i.size n (.slice ao n cap)).run P w.drew = .ok olds.toArray w.drew := by
    by_cases h00 : olds = []
    · subst h00
      simp at hl; subst hl
      cases ao <;> simp [Builtin.firstCells, loadCells, loadCellsFrom]
    · obtain ⟨b, off, rfl, _⟩ := hs.off h00
      exact run_firstCells_some w.drew i.size n _ n cap olds (by rw [hz2, hl, Nat.mul_one]) (fun j v hj => by
        obtain ⟨b', o', he, hc⟩ := hs j v hj
        cases he
        rw [Addr.add_lit]; exact hc)
  have hrun := fun ty => Lib.run_append_grow_zeros (P := P) w t tn ty e i z .i64 kn ht htn hi hz1 ao n cap olds hold k h0 (by omega) hg (by unfold maxLen at h63; omega) (by rw [hz3]; have : k * bytes ≤ (n + k) * bytes := Nat.mul_le_mul_right _ (by omega); omega) (by rw [hz3]; exact growslice_fits hg hb)
  have hge := grownCap_ge w (n + k) cap e
  refine ⟨_, _, hrun, hge, grownCap_le_maxLen w (n + k) cap e h63, ⟨rfl, rfl, rfl, by simp, fun k hk _ => Below.heap_alloc w.drew _ k hk⟩, by simp, ?_⟩
  have hzc : z.cells = #[z] := by
    cases z <;> simp_all [Value.cells, Value.oneCell']
  have hzr : ∀ m, (Builtin.zeroCells z.cells m).toList = List.replicate m z := fun m => by
    rw [hzc]
    simp [Builtin.zeroCells]
    apply List.ext_getElem
    · simp
    · intro i h1 h2
      simp [Nat.mod_one]
  show (w.heap.push _)[w.heap.size]? = _
  rw [Array.getElem?_push_size]
  congr 2
  apply Array.ext'
  simp only [Array.toList_append, hzr, List.toList_toArray]
  rw [List.append_assoc, List.replicate_append_replicate]
  congr 2; omega
end
end Go.Proofs.Ytfkhelihepbehaa
