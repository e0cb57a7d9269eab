/- Maps whose keys are texts: what is in one, as a list of pairs; looking up, writing. No program in sight. -/
import Derived.Test.YtfkhelihepbehaaBase
import Derived.WideKeyRuns
import Derived.MapKept
namespace Go.Proofs.Ytfkhelihepbehaa
open Go.RowKit
set_option linter.unusedVariables false

/-- The value under a key. -/
def getM (m : List (ByteArray × Value)) (s : ByteArray) : Option Value := (m.find? fun p => decide (p.1 = s)).map (·.2)
/-- A value laid under a key. -/
def putM (m : List (ByteArray × Value)) (s : ByteArray) (v : Value) : List (ByteArray × Value) := if (getM m s).isSome then m.map fun p => if p.1 = s then (p.1, v) else p else m ++ [(s, v)]

/-- A map in memory. -/
def MapIs (w : World) (r : Nat) (m : List (ByteArray × Value)) : Prop :=
  ∃ es clock, w.heap[r]? = some (.map es clock) ∧ es.toList.map (fun e => (e.key, e.val)) = m.map (fun p => (Value.string p.1, p.2)) ∧ (m.map (·.1)).Nodup

section
variable {P : Program} {w w' : World} {r : Nat} {m : List (ByteArray × Value)}
theorem MapIs.kp {F : Nat → Prop} (h : MapIs w r m) (hk : Kp F w w') (hf : ¬ F r) : MapIs w' r m := by
  obtain ⟨es, c, h1, h2⟩ := h
  exact ⟨es, c, (hk.block r (lt_of_block h1) hf).trans h1, h2⟩
theorem MapIs.ext (h : MapIs w r m) (hk : Ext w w') : MapIs w' r m := h.kp hk id
theorem MapIs.lt (h : MapIs w r m) : r < w.heap.size := by
  obtain ⟨es, c, h1, h2⟩ := h
  exact lt_of_block h1
theorem MapIs.new (w : World) : MapIs (w.alloc (.map #[] 0)) w.heap.size [] := by
  refine ⟨#[], 0, ?_, rfl, List.nodup_nil⟩
  show (w.heap.push _)[w.heap.size]? = _; simp

theorem ba_beq (a b : ByteArray) : (a == b) = decide (a = b) := by
  rw [Bool.eq_iff_iff, MapKept.bytes_beq, decide_eq_true_iff]

theorem findNow_str (s : ByteArray) : ∀ (es : List MapEntry) (m : List (ByteArray × Value)) (i : Nat), es.map (fun e => (e.key, e.val)) = m.map (fun p => (Value.string p.1, p.2)) →
    Instr.findNow .string (.string s) es i = some ((m.findIdx? fun p => decide (p.1 = s)).bind fun k => (m[k]?).map fun p => (i + k, p.2))
  | [], [], i, _ => rfl
  | [], _ :: _, i, h => by simp at h
  | _ :: _, [], i, h => by simp at h
  | e :: es, p :: m, i, h => by
    simp only [List.map_cons, List.cons.injEq, Prod.mk.injEq] at h
    obtain ⟨⟨h1, h2⟩, h3⟩ := h
    have ih := findNow_str s es m (i + 1) h3
    by_cases hs : s = p.1
    · subst hs
      simp [Instr.findNow, Instr.sameNow, h1, h2, List.findIdx?_cons, ba_beq]
    · have hb' : decide (p.1 = s) = false := by simp [Ne.symm hs]
      have hb : (s == p.1) = false := by rw [ba_beq]; simp [hs]
      simp only [Instr.findNow, Instr.sameNow, h1, hb, ih, List.findIdx?_cons, hb']
      cases hf : m.findIdx? (fun p => decide (p.1 = s)) with
      | none => simp
      | some k => simp [Nat.add_assoc, Nat.add_comm 1 k]

theorem getM_idx (m : List (ByteArray × Value)) (s : ByteArray) : getM m s = (m.findIdx? fun p => decide (p.1 = s)).bind fun k => (m[k]?).map (·.2) := by
  unfold getM
  induction m with
  | nil => rfl
  | cons p m ih =>
    by_cases hs : p.1 = s
    · simp [hs, List.findIdx?_cons]
    · simp only [List.find?_cons, List.findIdx?_cons, hs, decide_false, Bool.false_eq_true, if_false]
      rw [ih]
      cases m.findIdx? (fun p => decide (p.1 = s)) <;> simp

theorem run_check_str {k : TypeId} (hk : P.underlying k = some .string) (s : ByteArray) (em : Bool) (n : Nat) : (Instr.checkKey em (n + 1) k (.string s)).run P w = .ok () w := by
  simp [Instr.checkKey, run_underlying hk]
theorem run_find_str {k : TypeId} (hk : P.underlying k = some .string) (s : ByteArray) {es : List MapEntry} {r : Option (Nat × Value)} (hf : Instr.findNow .string (.string s) es 0 = some r) : (Instr.findKey k (.string s) es).run P w = .ok r w := by
  simp [Instr.findKey, run_underlying hk, hf]
/-- What a look-up gives. -/
theorem run_lookup_str {t k e : TypeId} (ht : P.underlying t = some (.map k e)) (hk : P.underlying k = some .string) {z : Value} (hz : (zeroValue e).run P w = .ok z w) (h : MapIs w r m) (s : ByteArray) :
    (Instr.lookup t (.map (some r)) (.string s) false).run P w = .ok ((getM m s).getD z) w := by
  obtain ⟨es, c, h1, h2, h3⟩ := h
  have hf := run_find_str (w := w) hk s (findNow_str s es.toList m 0 h2)
  have hg := getM_idx m s
  have hc := run_check_str (w := w) hk s es.isEmpty 9999
  cases hi : m.findIdx? (fun p => decide (p.1 = s)) with
  | none =>
    rw [hi] at hf hg
    simp only [Option.bind_none] at hf hg
    simp [Instr.lookup, run_underlying ht, MapKept.run_getObj_map h1, hc, hf, hg, hz, Result.andThen]
  | some i =>
    rw [hi] at hf hg
    simp only [Option.bind_some] at hf hg
    obtain ⟨hl, _⟩ := List.findIdx?_eq_some_iff_getElem.1 hi
    rw [List.getElem?_eq_getElem hl] at hf hg
    simp only [Option.map_some] at hf hg
    simp [Instr.lookup, run_underlying ht, MapKept.run_getObj_map h1, hc, hf, hg, Result.andThen]

theorem run_stays_str (s : ByteArray) : (Instr.keyThatStays (.string s) (.string s)).run P w = .ok (.string s) w := by
  have h : Instr.sameBits 10000 (.string s) (.string s) = true := by
    simp [Instr.sameBits, ba_beq]
  simp [Instr.keyThatStays, h]
/-- A block turned. -/
def laid (w : World) (r : Nat) (o : Obj) : World := { w with heap := w.heap.setIfInBounds r o }
theorem kp_laid (w : World) (r : Nat) (o : Obj) : Kp (fun k => k = r) w (laid w r o) :=
  ⟨rfl, rfl, rfl, by simp [laid], fun k _ hk => by simp only [laid]; rw [Array.getElem?_setIfInBounds_ne (fun e => hk e.symm)]⟩
theorem laid_same (w : World) (r : Nat) (o : Obj) (h : r < w.heap.size) : (laid w r o).heap[r]? = some o := by
  simp [laid, h]

/-- What a writing does. -/
theorem run_update_str {t k e : TypeId} (ht : P.underlying t = some (.map k e)) (hk : P.underlying k = some .string) (h : MapIs w r m) (s : ByteArray) (v : Value) :
    ∃ w', (Instr.mapUpdate t (.map (some r)) (.string s) v).run P w = .ok () w' ∧ MapIs w' r (putM m s v) ∧ Kp (fun k => k = r) w w' := by
  obtain ⟨es, c, h1, h2, h3⟩ := h
  have hlt := lt_of_block h1
  have hf := run_find_str (w := w) hk s (findNow_str s es.toList m 0 h2)
  have hg := getM_idx m s
  have hc := run_check_str (w := w) hk s false 9999
  have hlen : es.size = m.length := by simpa using congrArg List.length h2
  cases hi : m.findIdx? (fun p => decide (p.1 = s)) with
  | none =>
    rw [hi] at hf hg
    simp only [Option.bind_none] at hf hg
    refine ⟨laid w r (.map (es.push { key := .string s, val := v, born := c }) (c + 1)), ?_, ⟨_, _, laid_same _ _ _ hlt, ?_, ?_⟩, kp_laid _ _ _⟩
    · simp [Instr.mapUpdate, run_underlying ht, MapKept.run_getObj_map h1, hc, hf, Result.andThen, MapKept.run_setObj_map _ h1, laid]
    · simp [putM, hg, h2]
    · have hno := List.findIdx?_eq_none_iff.1 hi
      simp only [putM, hg, Option.isSome_none, Bool.false_eq_true, if_false, List.map_append, List.map_cons, List.map_nil]
      refine List.nodup_append.2 ⟨h3, by simp, ?_⟩
      intro a ha b hb
      simp only [List.mem_singleton] at hb
      subst hb
      obtain ⟨p, hp, rfl⟩ := List.mem_map.1 ha
      have := hno p hp
      simpa using this
  | some i =>
    rw [hi] at hf hg
    simp only [Option.bind_some] at hf hg
    obtain ⟨hl, hpi, hbefore⟩ := List.findIdx?_eq_some_iff_getElem.1 hi
    rw [List.getElem?_eq_getElem hl] at hf hg
    simp only [Option.map_some, Nat.zero_add] at hf hg
    have hei : es[i]? = some (es[i]'(by omega)) := Array.getElem?_eq_getElem (by omega)
    have hpair := congrArg (fun l : List (Value × Value) => l[i]?) h2
    simp only [List.getElem?_map, Array.getElem?_toList, hei, List.getElem?_eq_getElem hl, Option.map_some, Option.some.injEq, Prod.mk.injEq] at hpair
    have hps : m[i].1 = s := by simpa using hpi
    have hkey : (es[i]'(by omega)).key = .string s := by rw [hpair.1, hps]
    refine ⟨laid w r (.map (es.modify i fun e => { e with key := .string s, val := v }) c), ?_, ⟨_, _, laid_same _ _ _ hlt, ?_, ?_⟩, kp_laid _ _ _⟩
    · simp [Instr.mapUpdate, run_underlying ht, MapKept.run_getObj_map h1, hc, hf, hei, hkey, run_stays_str, Result.andThen, MapKept.run_setObj_map _ h1, laid]
    · simp only [putM, hg, Option.isSome_some, if_true]
      apply List.ext_getElem?
      intro q
      have hq := congrArg (fun l : List (Value × Value) => l[q]?) h2
      simp only [List.getElem?_map, Array.getElem?_toList] at hq
      simp only [List.getElem?_map, Array.getElem?_toList, Array.getElem?_modify]
      cases hmq : m[q]? with
      | none =>
        rw [hmq] at hq
        cases heq : es[q]? with
        | none => by_cases e : i = q <;> simp [heq]
        | some x => rw [heq] at hq; simp at hq
      | some p =>
        rw [hmq] at hq
        cases heq : es[q]? with
        | none => rw [heq] at hq; simp at hq
        | some x =>
          rw [heq] at hq
          simp only [Option.map_some, Option.some.injEq, Prod.mk.injEq] at hq
          by_cases e : i = q
          · subst e
            have : p = m[i] := by rw [List.getElem?_eq_getElem hl] at hmq; exact (Option.some.inj hmq).symm
            subst this
            simp [hps]
          · have hne : p.1 ≠ s := by
              intro e2
              have h5 := List.pairwise_iff_getElem.1 h3
              obtain ⟨hql, hqe⟩ := List.getElem?_eq_some_iff.1 hmq
              rcases Nat.lt_or_gt_of_ne e with h6 | h6
              · have := h5 i q (by simpa using hl) (by simpa using hql) h6
                simp only [List.getElem_map, hqe, hps, e2] at this
                exact this rfl
              · have := h5 q i (by simpa using hql) (by simpa using hl) h6
                simp only [List.getElem_map, hqe, hps, e2] at this
                exact this rfl
            simp [e, hne, hq.1, hq.2]
    · simp only [putM, hg, Option.isSome_some, if_true, List.map_map]
      have : (fun x : ByteArray × Value => x.1) ∘ (fun p => if p.1 = s then (p.1, v) else p) = fun x => x.1 := by
        funext p; simp only [Function.comp]; split <;> rfl
      rw [this]; exact h3
end
end Go.Proofs.Ytfkhelihepbehaa
