/- Texts joined for a claim (Same, Map, JoinL, JoinV, JoinC, Ref14, Ref14b, Ref14c, Stat, Right). -/
import Derived.Test.YtcphalpcdcddpaaBe1
import Derived.WideKeyRuns
import Derived.MapKept
/- Worlds in which some blocks are as they were. No program in sight. -/
namespace Go.Proofs.Ytcphalpcdcddpaa
open Go.RowKit
set_option linter.unusedVariables false

/-- Blocks of S lay in w0 and are the same in w. -/
def Same (S : Nat → Prop) (w0 w : World) : Prop := ∀ k, S k → k < w0.heap.size ∧ w.heap[k]? = w0.heap[k]?

section
variable {S S' : Nat → Prop} {w0 w w' : World}
theorem Same.refl (h : ∀ k, S k → k < w.heap.size) : Same S w w := fun k hk => ⟨h k hk, rfl⟩
theorem Same.in (h : Same S w0 w) : ∀ k, S k → k < w0.heap.size := fun k hk => (h k hk).1
theorem Same.trans (h : Same S w0 w) (h' : Same S w w') : Same S w0 w' := fun k hk => ⟨(h k hk).1, (h' k hk).2.trans (h k hk).2⟩
theorem Same.mono (h : Same S w0 w) (hs : ∀ k, S' k → S k) : Same S' w0 w := fun k hk => h k (hs k hk)
theorem Kp.same {F : Nat → Prop} (h : Kp F w w') (hS : ∀ k, S k → k < w.heap.size) (hd : ∀ k, S k → ¬ F k) : Same S w w' := fun k hk => ⟨hS k hk, h.block k (hS k hk) (hd k hk)⟩
theorem Same.back (h : Same S w0 w) (h' : Same S w0 w') (hl : ∀ k, S k → k < w.heap.size) : Same S w w' := fun k hk => ⟨hl k hk, (h' k hk).2.trans (h k hk).2.symm⟩
theorem Same.lt (h : Same S w0 w) : ∀ k, S k → k < w.heap.size := fun k hk => by
  obtain ⟨h1, h2⟩ := h k hk
  have : w0.heap[k]? = some (w0.heap[k]'h1) := Array.getElem?_eq_getElem h1
  rw [this] at h2
  exact (Array.getElem?_eq_some_iff.1 h2).1
end
theorem Row.lt {w : World} {e : TypeId} {k : Nat} {v : Value} {n : Nat} {xs : List Value} {M : Nat → Prop} (h : Row w e k v n xs M) : ∀ g, v.ownBlock = some g → g < w.heap.size := by
  obtain ⟨_, ⟨rfl, _⟩ | ⟨g, cap, rest, rfl, _, hb, _⟩⟩ := h
  · intro g hg; cases hg
  · intro g' hg
    have e : g = g' := Option.some.inj hg
    rw [← e]; exact hb.lt
theorem alloc_size (w : World) (o : Obj) : (w.alloc o).heap.size = w.heap.size + 1 := by simp
/-- What a set owns: its struct's block, its row's block. -/
def Owns (b : Nat) (iv : Value) (k : Nat) : Prop := k = b ∨ iv.ownBlock = some k
end Go.Proofs.Ytcphalpcdcddpaa

/- Maps whose keys are texts: what is in one, as a list of pairs; looking up, writing. No program in sight. -/
namespace Go.Proofs.Ytcphalpcdcddpaa
open Go.RowKit
set_option linter.unusedVariables false

/-- The value under a key. -/
def getM (m : List (ByteArray × Value)) (s : ByteArray) : Option Value := (m.find? fun p => decide (p.1 = s)).map (·.2)
/-- A value laid under a key. -/
def putM (m : List (ByteArray × Value)) (s : ByteArray) (v : Value) : List (ByteArray × Value) := if (getM m s).isSome then m.map fun p => if p.1 = s then (p.1, v) else p else m ++ [(s, v)]

/-- A map in memory. -/
def MapIs (w : World) (r : Nat) (m : List (ByteArray × Value)) : Prop :=
  ∃ es clock, w.heap[r]? = some (.map es clock) ∧ es.toList.map (fun e => (e.key, e.val)) = m.map (fun p => (Value.string p.1, p.2)) ∧ (m.map (·.1)).Nodup

section
variable {P : Program} {w w' : World} {r : Nat} {m : List (ByteArray × Value)}
theorem MapIs.kp {F : Nat → Prop} (h : MapIs w r m) (hk : Kp F w w') (hf : ¬ F r) : MapIs w' r m := by
  obtain ⟨es, c, h1, h2⟩ := h
  exact ⟨es, c, (hk.block r (lt_of_block h1) hf).trans h1, h2⟩
theorem MapIs.ext (h : MapIs w r m) (hk : Ext w w') : MapIs w' r m := h.kp hk id
theorem MapIs.lt (h : MapIs w r m) : r < w.heap.size := by
  obtain ⟨es, c, h1, h2⟩ := h
  exact lt_of_block h1
theorem MapIs.new (w : World) : MapIs (w.alloc (.map #[] 0)) w.heap.size [] := by
  refine ⟨#[], 0, ?_, rfl, List.nodup_nil⟩
  show (w.heap.push _)[w.heap.size]? = _; simp

theorem ba_beq (a b : ByteArray) : (a == b) = decide (a = b) := by
  rw [Bool.eq_iff_iff, MapKept.bytes_beq, decide_eq_true_iff]

theorem findNow_str (s : ByteArray) : ∀ (es : List MapEntry) (m : List (ByteArray × Value)) (i : Nat), es.map (fun e => (e.key, e.val)) = m.map (fun p => (Value.string p.1, p.2)) →
    Instr.findNow .string (.string s) es i = some ((m.findIdx? fun p => decide (p.1 = s)).bind fun k => (m[k]?).map fun p => (i + k, p.2))
  | [], [], i, _ => rfl
  | [], _ :: _, i, h => by simp at h
  | _ :: _, [], i, h => by simp at h
  | e :: es, p :: m, i, h => by
    simp only [List.map_cons, List.cons.injEq, Prod.mk.injEq] at h
    obtain ⟨⟨h1, h2⟩, h3⟩ := h
    have ih := findNow_str s es m (i + 1) h3
    by_cases hs : s = p.1
    · subst hs
      simp [Instr.findNow, Instr.sameNow, h1, h2, List.findIdx?_cons, ba_beq]
    · have hb' : decide (p.1 = s) = false := by simp [Ne.symm hs]
      have hb : (s == p.1) = false := by rw [ba_beq]; simp [hs]
      simp only [Instr.findNow, Instr.sameNow, h1, hb, ih, List.findIdx?_cons, hb']
      cases hf : m.findIdx? (fun p => decide (p.1 = s)) with
      | none => simp
      | some k => simp [Nat.add_assoc, Nat.add_comm 1 k]

theorem getM_idx (m : List (ByteArray × Value)) (s : ByteArray) : getM m s = (m.findIdx? fun p => decide (p.1 = s)).bind fun k => (m[k]?).map (·.2) := by
  unfold getM
  induction m with
  | nil => rfl
  | cons p m ih =>
    by_cases hs : p.1 = s
    · simp [hs, List.findIdx?_cons]
    · simp only [List.find?_cons, List.findIdx?_cons, hs, decide_false, Bool.false_eq_true, if_false]
      rw [ih]
      cases m.findIdx? (fun p => decide (p.1 = s)) <;> simp

theorem run_check_str {k : TypeId} (hk : P.underlying k = some .string) (s : ByteArray) (em : Bool) (n : Nat) : (Instr.checkKey em (n + 1) k (.string s)).run P w = .ok () w := by
  simp [Instr.checkKey, run_underlying hk]
theorem run_find_str {k : TypeId} (hk : P.underlying k = some .string) (s : ByteArray) {es : List MapEntry} {r : Option (Nat × Value)} (hf : Instr.findNow .string (.string s) es 0 = some r) : (Instr.findKey k (.string s) es).run P w = .ok r w := by
  simp [Instr.findKey, run_underlying hk, hf]
/-- What a look-up gives. -/
theorem run_lookup_str {t k e : TypeId} (ht : P.underlying t = some (.map k e)) (hk : P.underlying k = some .string) {z : Value} (hz : (zeroValue e).run P w = .ok z w) (h : MapIs w r m) (s : ByteArray) :
    (Instr.lookup t (.map (some r)) (.string s) false).run P w = .ok ((getM m s).getD z) w := by
  obtain ⟨es, c, h1, h2, h3⟩ := h
  have hf := run_find_str (w := w) hk s (findNow_str s es.toList m 0 h2)
  have hg := getM_idx m s
  have hc := run_check_str (w := w) hk s es.isEmpty 9999
  cases hi : m.findIdx? (fun p => decide (p.1 = s)) with
  | none =>
    rw [hi] at hf hg
    simp only [Option.bind_none] at hf hg
    simp [Instr.lookup, run_underlying ht, MapKept.run_getObj_map h1, hc, hf, hg, hz, Result.andThen]
  | some i =>
    rw [hi] at hf hg
    simp only [Option.bind_some] at hf hg
    obtain ⟨hl, _⟩ := List.findIdx?_eq_some_iff_getElem.1 hi
    rw [List.getElem?_eq_getElem hl] at hf hg
    simp only [Option.map_some] at hf hg
    simp [Instr.lookup, run_underlying ht, MapKept.run_getObj_map h1, hc, hf, hg, Result.andThen]

theorem run_stays_str (s : ByteArray) : (Instr.keyThatStays (.string s) (.string s)).run P w = .ok (.string s) w := by
  have h : Instr.sameBits 10000 (.string s) (.string s) = true := by
    simp [Instr.sameBits, ba_beq]
  simp [Instr.keyThatStays, h]
/-- A block turned. -/
def laid (w : World) (r : Nat) (o : Obj) : World := { w with heap := w.heap.setIfInBounds r o }
theorem kp_laid (w : World) (r : Nat) (o : Obj) : Kp (fun k => k = r) w (laid w r o) :=
  ⟨rfl, rfl, rfl, by simp [laid], fun k _ hk => by simp only [laid]; rw [Array.getElem?_setIfInBounds_ne (fun e => hk e.symm)]⟩
theorem laid_same (w : World) (r : Nat) (o : Obj) (h : r < w.heap.size) : (laid w r o).heap[r]? = some o := by
  simp [laid, h]

/-- What a writing does. -/
theorem run_update_str {t k e : TypeId} (ht : P.underlying t = some (.map k e)) (hk : P.underlying k = some .string) (h : MapIs w r m) (s : ByteArray) (v : Value) :
    ∃ w', (Instr.mapUpdate t (.map (some r)) (.string s) v).run P w = .ok () w' ∧ MapIs w' r (putM m s v) ∧ Kp (fun k => k = r) w w' := by
  obtain ⟨es, c, h1, h2, h3⟩ := h
  have hlt := lt_of_block h1
  have hf := run_find_str (w := w) hk s (findNow_str s es.toList m 0 h2)
  have hg := getM_idx m s
  have hc := run_check_str (w := w) hk s false 9999
  have hlen : es.size = m.length := by simpa using congrArg List.length h2
  cases hi : m.findIdx? (fun p => decide (p.1 = s)) with
  | none =>
    rw [hi] at hf hg
    simp only [Option.bind_none] at hf hg
    refine ⟨laid w r (.map (es.push { key := .string s, val := v, born := c }) (c + 1)), ?_, ⟨_, _, laid_same _ _ _ hlt, ?_, ?_⟩, kp_laid _ _ _⟩
    · simp [Instr.mapUpdate, run_underlying ht, MapKept.run_getObj_map h1, hc, hf, Result.andThen, MapKept.run_setObj_map _ h1, laid]
    · simp [putM, hg, h2]
    · have hno := List.findIdx?_eq_none_iff.1 hi
      simp only [putM, hg, Option.isSome_none, Bool.false_eq_true, if_false, List.map_append, List.map_cons, List.map_nil]
      refine List.nodup_append.2 ⟨h3, by simp, ?_⟩
      intro a ha b hb
      simp only [List.mem_singleton] at hb
      subst hb
      obtain ⟨p, hp, rfl⟩ := List.mem_map.1 ha
      have := hno p hp
      simpa using this
  | some i =>
    rw [hi] at hf hg
    simp only [Option.bind_some] at hf hg
    obtain ⟨hl, hpi, hbefore⟩ := List.findIdx?_eq_some_iff_getElem.1 hi
    rw [List.getElem?_eq_getElem hl] at hf hg
    simp only [Option.map_some, Nat.zero_add] at hf hg
    have hei : es[i]? = some (es[i]'(by omega)) := Array.getElem?_eq_getElem (by omega)
    have hpair := congrArg (fun l : List (Value × Value) => l[i]?) h2
    simp only [List.getElem?_map, Array.getElem?_toList, hei, List.getElem?_eq_getElem hl, Option.map_some, Option.some.injEq, Prod.mk.injEq] at hpair
    have hps : m[i].1 = s := by simpa using hpi
    have hkey : (es[i]'(by omega)).key = .string s := by rw [hpair.1, hps]
    refine ⟨laid w r (.map (es.modify i fun e => { e with key := .string s, val := v }) c), ?_, ⟨_, _, laid_same _ _ _ hlt, ?_, ?_⟩, kp_laid _ _ _⟩
    · simp [Instr.mapUpdate, run_underlying ht, MapKept.run_getObj_map h1, hc, hf, hei, hkey, run_stays_str, Result.andThen, MapKept.run_setObj_map _ h1, laid]
    · simp only [putM, hg, Option.isSome_some, if_true]
      apply List.ext_getElem?
      intro q
      have hq := congrArg (fun l : List (Value × Value) => l[q]?) h2
      simp only [List.getElem?_map, Array.getElem?_toList] at hq
      simp only [List.getElem?_map, Array.getElem?_toList, Array.getElem?_modify]
      cases hmq : m[q]? with
      | none =>
        rw [hmq] at hq
        cases heq : es[q]? with
        | none => by_cases e : i = q <;> simp
        | some x => rw [heq] at hq; simp at hq
      | some p =>
        rw [hmq] at hq
        cases heq : es[q]? with
        | none => rw [heq] at hq; simp at hq
        | some x =>
          rw [heq] at hq
          simp only [Option.map_some, Option.some.injEq, Prod.mk.injEq] at hq
          by_cases e : i = q
          · subst e
            have : p = m[i] := by rw [List.getElem?_eq_getElem hl] at hmq; exact (Option.some.inj hmq).symm
            subst this
            simp [hps]
          · have hne : p.1 ≠ s := by
              intro e2
              have h5 := List.pairwise_iff_getElem.1 h3
              obtain ⟨hql, hqe⟩ := List.getElem?_eq_some_iff.1 hmq
              rcases Nat.lt_or_gt_of_ne e with h6 | h6
              · have := h5 i q (by simpa using hl) (by simpa using hql) h6
                simp only [List.getElem_map, hqe, hps, e2] at this
                exact this rfl
              · have := h5 q i (by simpa using hql) (by simpa using hl) h6
                simp only [List.getElem_map, hqe, hps, e2] at this
                exact this rfl
            simp [e, hne, hq.1, hq.2]
    · simp only [putM, hg, Option.isSome_some, if_true, List.map_map]
      have : (fun x : ByteArray × Value => x.1) ∘ (fun p => if p.1 = s then (p.1, v) else p) = fun x => x.1 := by
        funext p; simp only [Function.comp]; split <;> rfl
      rw [this]; exact h3
end
end Go.Proofs.Ytcphalpcdcddpaa

/- join: literals, the variables of a rule's positive atoms. -/
namespace Go.Proofs.Ytcphalpcdcddpaa
open Go.RowKit
set_option linter.unusedVariables false

/-- Two terms laid side by side. -/
theorem terms_two (w : World) (k1 : Int) (s1 : ByteArray) (k2 : Int) (s2 : ByteArray) (h1 : (Lit.int .i64 k1).wf = true) (h2 : (Lit.int .i64 k2).wf = true) (g1 : s1.size ≤ maxLen) (g2 : s2.size ≤ maxLen) (e : TypeId) :
    TermsAt (w.alloc (.cells #[.int .i64 k1, .string s1, .int .i64 k2, .string s2] e)) (fun _ => True) (some ⟨w.heap.size, 0, none⟩) [(k1, s1, ()), (k2, s2, ())] := by
  have hB := Blk.new w [.int .i64 k1, .string s1, .int .i64 k2, .string s2] e
  have hlt := hB.lt
  intro i x hx
  match i, hx with
  | 0, hx =>
    cases hx
    refine ⟨_, 0, [.int .i64 k1, .string s1], rfl, trivial, hlt, ⟨[.int .i64 k1], [.string s1], rfl, ⟨rfl, h1⟩, [.string s1], [], rfl, ⟨rfl, g1⟩, rfl⟩, fun c u hu => ?_⟩
    match c, hu with
    | 0, hu => cases hu; exact hB.cell 0 (by simp)
    | 1, hu => cases hu; exact hB.cell 1 (by simp)
  | 1, hx =>
    cases hx
    refine ⟨_, 0, [.int .i64 k2, .string s2], rfl, trivial, hlt, ⟨[.int .i64 k2], [.string s2], rfl, ⟨rfl, h2⟩, [.string s2], [], rfl, ⟨rfl, g2⟩, rfl⟩, fun c u hu => ?_⟩
    match c, hu with
    | 0, hu => cases hu; exact hB.cell 2 (by simp)
    | 1, hu => cases hu; exact hB.cell 3 (by simp)

/-- What a literal's parts are beyond their values. -/
structure LitFit (l : LitZ) : Prop where
  left : (Lit.int .i64 (leftOf l).1).wf = true ∧ (leftOf l).2.1.size ≤ maxLen
  right : (Lit.int .i64 (rightOf l).1).wf = true ∧ (rightOf l).2.1.size ≤ maxLen

set_option maxRecDepth 100000 in
set_option maxHeartbeats 1000000 in
theorem literal_any (k : Int) (p : ByteArray) (ts : List TermZ) (a : Option Addr) (n cap : Nat) (op lk : Int) (lt : ByteArray) (rk : Int) (rt : ByteArray) (w : World) (G : Nat → Prop) (hn : n = ts.length) (h : TermsAt w G a ts) (hl : n ≤ 1048576)
    (g1 : (Lit.int .i64 lk).wf = true) (g2 : lt.size ≤ maxLen) (g3 : (Lit.int .i64 rk).wf = true) (g4 : rt.size ≤ maxLen) :
    Calls Try.prog 77 #[litV k p a n cap op lk lt rk rt] w (RetN w fun w' v => v = .bool (litOk (k, (p, ts, ()), op, (lk, lt, ()), (rk, rt, ()), ()))) := by
  have HN := Lib.hid hn; have HE := Lib.hid h
  have HG := Lib.hid (And.intro (And.intro g1 g2) (And.intro g3 g4)); clear g1 g2 g3 g4
  have HS := Lib.hid (fun (W : World) (hW : Ext w W) => shaped_any ts a n cap W G hn (h.ext hW) (by omega))
  clear hn h
  have pos : ∀ k, k = 1 ∨ k = 2 → litOk (k, (p, ts, ()), op, (lk, lt, ()), (rk, rt, ()), ()) = (decide (ts.length ≤ 64) && kinds ts 3) := fun k hk => by unfold litOk; rw [if_pos hk]
  have cmp : litOk (3, (p, ts, ()), op, (lk, lt, ()), (rk, rt, ()), ()) = (decide (1 ≤ op ∧ op ≤ 4) && kinds [(lk, lt, ()), (rk, rt, ())] 3) := by unfold litOk; rw [if_neg (by rintro (h | h) <;> cases h), if_pos rfl]
  have HP := Lib.hid (And.intro pos cmp); clear pos cmp
  by_cases hk1 : k = 1 ∨ k = 2
  · by_cases h64 : n ≤ 64
    · have h64' : (n : Int) ≤ 64 := by omega
      rcases hk1 with rfl | rfl
      all_goals
        go_enter Try.func77, Try.ntmps77
        go_wp2_with fail
        refine (HS.out _ ((Kp.refl w).alloc _)).mono ?_
        rintro e w1 ⟨v, rfl, hk, rfl⟩
        go_wp2
        go_ret
        refine RetN.mk (((Kp.refl w).alloc _).trans hk) ?_
        have g := HN.out
        rw [HP.out.1 _ (by first | exact .inl rfl | exact .inr rfl), ← g]; simp [h64]
    · have h64' : ¬ (n : Int) ≤ 64 := by omega
      rcases hk1 with rfl | rfl
      all_goals
        go_enter Try.func77, Try.ntmps77
        go_wp2
        go_ret
        refine RetN.mk ((Kp.refl w).alloc _) ?_
        have g := HN.out
        rw [HP.out.1 _ (by first | exact .inl rfl | exact .inr rfl), ← g]; simp [h64]
  · have n1 : k ≠ 1 := fun e => hk1 (.inl e)
    have n2 : k ≠ 2 := fun e => hk1 (.inr e)
    by_cases h3 : k = 3
    · subst h3
      clear hk1 n1 n2
      by_cases o1 : 1 ≤ op
      · by_cases o4 : op ≤ 4
        · have HT := Lib.hid (fun (W : World) (g : Nat) (hg : g = W.heap.size) => shaped_any [(lk, lt, ()), (rk, rt, ())] (some ⟨g, 0, none⟩) 2 2 _ _ rfl (hg ▸ terms_two W lk lt rk rt HG.out.1.1 HG.out.2.1 HG.out.1.2 HG.out.2.2 68) (by decide))
          go_enter Try.func77, Try.ntmps77
          go_wp2_with fail
          refine (HT.out _ _ (alloc_size _ _).symm).mono ?_
          rintro e w1 ⟨v, rfl, hk, rfl⟩
          go_wp2
          go_ret
          refine RetN.mk ((((Kp.refl w).alloc _).alloc _).trans hk) ?_
          rw [HP.out.2, decide_eq_true (And.intro o1 o4)]; rfl
        · go_enter Try.func77, Try.ntmps77
          go_wp2
          go_ret
          refine RetN.mk ((Kp.refl w).alloc _) ?_
          rw [HP.out.2, decide_eq_false (by omega)]; rfl
      · go_enter Try.func77, Try.ntmps77
        go_wp2
        go_ret
        refine RetN.mk ((Kp.refl w).alloc _) ?_
        rw [HP.out.2, decide_eq_false (by omega)]; rfl
    · go_enter Try.func77, Try.ntmps77
      go_wp2
      go_ret
      refine RetN.mk ((Kp.refl w).alloc _) ?_
      unfold litOk; rw [if_neg hk1, if_neg h3]; rfl

/-- slices.Index at texts. -/
def NoneS (w0 : World) (ss : List ByteArray) (s : ByteArray) (n : Nat) (iv : Value) (w : World) : Prop := ∃ i : Nat, i ≤ n ∧ iv = .int .i64 i ∧ Hid (∀ (j : Nat) u, j < i → ss[j]? = some u → decide (u = s) = false) ∧ Hid (Ext w0 w)
set_option maxRecDepth 100000 in
set_option maxHeartbeats 1000000 in
theorem indexS_any (ss : List ByteArray) (s : ByteArray) (ao : Option Addr) (n cap : Nat) (w : World) (hn : n = ss.length) (h : CellsAt w ao (strs ss)) (hl : n ≤ 4611686018427387904) :
    Calls Try.prog 94 #[.slice ao n cap, .string s] w (RetN w fun w' v => ∃ z : Int, v = .int .i64 z ∧ decide (0 ≤ z) = hasT ss s) := by
  have HN := Lib.hid hn; have HE := Lib.hid h; clear hn h
  go_enter Try.func94, Try.ntmps94
  go_wp2
  go_loopw [8] (fun iv wr => NoneS w ss s n iv wr) (fun iv _ => n - (intOf iv).toNat)
  case atStart => exact ⟨0, Nat.zero_le _, rfl, fun j u h => by omega, Kp.refl w⟩
  case round =>
    obtain ⟨i, hi, rfl, hno, hex⟩ := hrel
    by_cases hlt : i < n
    · have hlt' : i < ss.length := by rw [← HN.out]; exact hlt
      obtain ⟨b, off, eao, hc0⟩ := (HE.out.ext hex.out).str hlt'
      subst eao
      have ht : ss[i]? = some ss[i] := List.getElem?_eq_getElem hlt'
      generalize ss[i] = u at *
      by_cases hu : s = u
      · have HT := Lib.hid (And.intro ht hu)
        clear ht hlt'
        subst hu
        have hb := str_eq s
        go_wp2
        go_ret
        exact RetN.mk hex.out ⟨i, rfl, by unfold hasT; rw [any_true HT.out.1 (by simp)]; simp⟩
      · have HT := Lib.hid (And.intro ht hu)
        have hb := str_ne hu
        clear ht hlt' hu
        go_wp2
        go_roundw
        case rel =>
          refine ⟨i + 1, by omega, by first | rfl | (congr 1; done) | (congr 1; omega), fun j u hj hu => ?_, hex⟩
          by_cases e : j = i
          · subst e; rw [HT.out.1] at hu; cases hu; exact decide_eq_false (fun e => HT.out.2 e.symm)
          · exact hno.out j u (by omega) hu
        case measure => simp [intOf]; omega
    · go_wp2
      go_ret
      exact RetN.mk hex.out ⟨-1, rfl, by unfold hasT; rw [any_false HN.out fun j u hj => hno.out j u (by omega)]; decide⟩
set_option maxRecDepth 100000 in
theorem containsS_any (ss : List ByteArray) (s : ByteArray) (ao : Option Addr) (n cap : Nat) (w : World) (hn : n = ss.length) (h : CellsAt w ao (strs ss)) (hl : n ≤ 4611686018427387904) :
    Calls Try.prog 80 #[.slice ao n cap, .string s] w (RetN w fun w' v => v = .bool (hasT ss s)) := by
  have HI := Lib.hid (indexS_any ss s ao n cap w hn h hl)
  clear hn h hl
  go_enter Try.func80, Try.ntmps80
  go_wp2_with fail
  refine HI.out.mono ?_
  rintro e w1 ⟨v, rfl, hk, z, rfl, hz⟩
  go_wp2
  go_ret
  exact RetN.mk hk (congrArg Value.bool (by first | exact hz | simp [← hz]))
theorem clipS_any (ao : Option Addr) (n cap : Nat) (w : World) (h : n ≤ cap) :
    Calls Try.prog 93 #[.slice ao n cap] w (RetN w fun w' v => v = .slice ao n n) := by
  have h1 : (n : Int) ≤ (cap : Int) := by omega
  go_enter Try.func93, Try.ntmps93
  go_wp2
  go_ret
  exact RetN.mk (Kp.refl _) (by first | rfl | simp)
end Go.Proofs.Ytcphalpcdcddpaa

/- join: the variables of a rule's positive atoms. -/
namespace Go.Proofs.Ytcphalpcdcddpaa
open Go.RowKit
set_option linter.unusedVariables false

theorem elem_str : ElemT Try.prog 87 9 1 16 (.string ⟨#[]⟩) := ⟨by kernel_rfl, by kernel_rfl, rfl, by decide⟩
theorem addName_len (a : List ByteArray) (t : TermZ) : (addName a t).length ≤ a.length + 1 ∧ a.length ≤ (addName a t).length := by
  unfold addName; split <;> simp
theorem namesT_len : ∀ (ts : List TermZ) (a : List ByteArray), (namesT a ts).length ≤ a.length + ts.length
  | [], a => by simp [namesT]
  | t :: ts, a => by
    have := namesT_len ts (addName a t)
    have := (addName_len a t).1
    unfold namesT at *
    rw [List.foldl_cons]; simp only [List.length_cons]; omega
theorem namesL_len (a : List ByteArray) (l : LitZ) : (namesL a l).length ≤ a.length + (termsOf l).length := by
  unfold namesL; split
  · exact namesT_len _ _
  · omega
theorem namesF_len (M : Nat) : ∀ (ls : List LitZ) (a : List ByteArray), (∀ l ∈ ls, (termsOf l).length ≤ M) → (ls.foldl namesL a).length ≤ a.length + ls.length * M
  | [], a, _ => by simp
  | l :: ls, a, h => by
    have h1 := namesF_len M ls (namesL a l) fun x hx => h x (List.mem_cons_of_mem _ hx)
    have h2 := namesL_len a l
    have h3 := h l List.mem_cons_self
    rw [List.foldl_cons, List.length_cons, Nat.succ_mul]; omega
theorem namesB_len {M : Nat} {ls : List LitZ} (h : ∀ l ∈ ls, (termsOf l).length ≤ M) : (namesB ls).length ≤ ls.length * M := by
  have := namesF_len M ls [] h; unfold namesB; simpa using this
/-- So far in a literal. -/
def namesIn (a : List ByteArray) (l : LitZ) (c : Nat) : List ByteArray := if l.1 = 1 then namesT a ((termsOf l).take c) else a
theorem namesIn_zero (a : List ByteArray) (l : LitZ) : namesIn a l 0 = a := by unfold namesIn; split <;> rfl
theorem namesIn_all (a : List ByteArray) (l : LitZ) {c : Nat} (h : (termsOf l).length ≤ c) : namesIn a l c = namesL a l := by
  unfold namesIn namesL; rw [List.take_of_length_le h]
theorem namesIn_succ (a : List ByteArray) {l : LitZ} {c : Nat} {t : TermZ} (h : (termsOf l)[c]? = some t) : namesIn a l (c + 1) = if l.1 = 1 ∧ t.1 = 1 ∧ hasT (namesIn a l c) t.2.1 = false then namesIn a l c ++ [t.2.1] else namesIn a l c := by
  unfold namesIn
  by_cases h1 : l.1 = 1
  · simp only [h1, true_and]
    unfold namesT
    rw [fold_take _ _ h]
    rfl
  · simp only [h1, false_and, if_false]
theorem namesIn_len (a : List ByteArray) (l : LitZ) (c : Nat) : (namesIn a l c).length ≤ a.length + c := by
  unfold namesIn; split
  · have := namesT_len ((termsOf l).take c) a
    rw [List.length_take] at this; omega
  · omega

theorem Row.old {w : World} {e : TypeId} {k : Nat} {v : Value} {n : Nat} {xs : List Value} {M : Nat → Prop} (h : Row w e k v n xs M) : Row w e k v n xs (fun g => M g ∧ g < w.heap.size) := by
  obtain ⟨h1, h2 | ⟨g, cap, rest, a, b, c, d⟩⟩ := h
  · exact ⟨h1, .inl h2⟩
  · exact ⟨h1, .inr ⟨g, cap, rest, a, ⟨b, c.lt⟩, c, d⟩⟩
/-- A block of the call's own, and one that came after it. -/
theorem Row.beside {w w' : World} {e : TypeId} {k : Nat} {v : Value} {n : Nat} {xs : List Value} {M : Nat → Prop} (h : Row w e k v n xs M) (hx : Ext w w') : Row w' e k v n xs (fun g => M g ∧ g ≠ w.heap.size) :=
  (h.old.ext hx).mono fun g hg => ⟨hg.1, by omega⟩
theorem strs_snoc (ss : List ByteArray) (s : ByteArray) : strs ss ++ [.string s] = strs (ss ++ [s]) := by simp [strs]

/-- Rows of a rule that are not too long. -/
structure Fit (ls : List LitZ) : Prop where
  len : ls.length ≤ 1048576
  terms : ∀ l ∈ ls, (termsOf l).length ≤ 1048576
def VarsOut (w0 : World) (ls : List LitZ) (n : Nat) (iv ov : Value) (w : World) : Prop := ∃ i : Nat, i ≤ n ∧ iv = .int .i64 i ∧ Hid (Row w 9 1 ov (namesB (ls.take i)).length (strs (namesB (ls.take i))) (New w0)) ∧ Hid (Ext w0 w)
def VarsIn (w0 : World) (a : List ByteArray) (l : LitZ) (g : Nat) (cs : List Value) (m : Nat) (iv ov : Value) (w : World) : Prop := ∃ i : Nat, i ≤ m ∧ iv = .int .i64 i ∧ Hid (Row w 9 1 ov (namesIn a l i).length (strs (namesIn a l i)) (fun k => New w0 k ∧ k ≠ g)) ∧ Hid (Ext w0 w) ∧ Hid (Blk w g cs 70)

set_option maxRecDepth 100000 in
set_option maxHeartbeats 4000000 in
theorem vars_any (p : ByteArray) (ha : Option Addr) (hn hcap : Nat) (ls : List LitZ) (ba : Option Addr) (n bcap : Nat) (w : World) (G : Nat → Prop) (hbn : n = ls.length) (h : LitsAt w G ba ls) (hf : Fit ls) :
    Calls Try.prog 78 #[ruleV p ha hn hcap ba n bcap] w (RetN w fun w' v => ∃ ao cap, v = .slice ao (namesB ls).length cap ∧ (namesB ls).length ≤ cap ∧ CellsAt w' ao (strs (namesB ls))) := by
  have HN := Lib.hid hbn; have HE := Lib.hid h; have HF := Lib.hid hf; have hl : n ≤ 1048576 := by have := hf.len; omega
  clear hbn h hf
  go_enter Try.func78, Try.ntmps78
  go_wp2
  go_loopw [11, 3] (fun iv ov wr => VarsOut w ls n iv ov wr) (fun iv _ _ => n - (intOf iv).toNat)
  case atStart => exact ⟨0, Nat.zero_le _, rfl, Row.nil _ _ _ _, (Kp.refl w).alloc _⟩
  case round =>
    obtain ⟨i, hi, rfl, hrow, hex⟩ := hrel
    by_cases hlt : i < n
    · have hlt' : i < ls.length := by rw [← HN.out]; exact hlt
      obtain ⟨l, hli⟩ : ∃ l, ls[i]? = some l := ⟨_, List.getElem?_eq_getElem hlt'⟩
      obtain ⟨b, off, a, cap, eao, hG, hb, hL, c0, c1, c2, c3, c4, c5, c6, c7⟩ := lit_at HE.out hli
      subst eao
      replace c0 := hex.out.cell c0 id
      replace c1 := hex.out.cell c1 id
      replace c2 := hex.out.cell c2 id
      replace c3 := hex.out.cell c3 id
      replace c4 := hex.out.cell c4 id
      replace c5 := hex.out.cell c5 id
      replace c6 := hex.out.cell c6 id
      replace c7 := hex.out.cell c7 id
      obtain ⟨m, em⟩ : ∃ m, m = (termsOf l).length := ⟨_, rfl⟩
      rw [← em] at c2
      have hm : m ≤ 1048576 := by rw [em]; exact HF.out.terms l (List.mem_of_getElem? hli)
      have HL := Lib.hid (And.intro hli (And.intro hL em))
      clear hli hlt' hL em hG hb
      obtain ⟨k, ek⟩ : ∃ k, l.1 = k := ⟨_, rfl⟩
      rw [ek] at c0
      generalize predOf l = s1 at c1
      generalize opOf l = s3 at c3
      generalize (leftOf l).1 = s4 at c4
      generalize (leftOf l).2.1 = s5 at c5
      generalize (rightOf l).1 = s6 at c6
      generalize (rightOf l).2.1 = s7 at c7
      have HK := Lib.hid ek; clear ek
      go_wp2
      obtain ⟨wb, eb⟩ : ∃ wb, wr.alloc (.cells #[.int .i64 k, .string s1, .slice a m cap, .int .i64 s3, .int .i64 s4, .string s5, .int .i64 s6, .string s7] 70) = wb := ⟨_, rfl⟩
      rw [eb]
      have hB : Blk wb wr.heap.size [.int .i64 k, .string s1, .slice a m cap, .int .i64 s3, .int .i64 s4, .string s5, .int .i64 s6, .string s7] 70 := by rw [← eb]; exact Blk.new wr [_, _, _, _, _, _, _, _] _
      have hx : Ext wr wb := by rw [← eb]; exact (Kp.refl wr).alloc _
      have hrow2 : Row wb 9 1 u3 (namesIn (namesB (ls.take i)) l 0).length (strs (namesIn (namesB (ls.take i)) l 0)) (fun k => New w k ∧ k ≠ wr.heap.size) := by
        rw [namesIn_zero]
        exact hrow.out.beside hx
      have HX := Lib.hid (hex.out.trans hx)
      have HB := Lib.hid hB
      have HR := Lib.hid hrow2
      have hnew : New w wr.heap.size := hex.out.size
      have HW := Lib.hid (And.intro hnew (Nat.lt_of_lt_of_le (Nat.lt_succ_self _) (by rw [← eb, alloc_size]; exact Nat.le_refl _) : wr.heap.size < wb.heap.size))
      have d0 : wb.cell? ⟨wr.heap.size, 2, none⟩ = some (.slice a m cap) := by rw [hB.cell']; rfl
      obtain ⟨g, eg⟩ : ∃ g, g = wr.heap.size := ⟨_, rfl⟩
      rw [← eg] at HB HR HW d0
      have hlt2 : (i : Int) < (n : Int) := by omega
      clear hB hrow2 hx eb hnew c0 c1 c2 c3 c4 c5 c6 c7
      rw [← eg]
      clear eg
      go_wp2
      clear d0
      go_loopw [19, 3] (fun iv ov wr => VarsIn w (namesB (ls.take i)) l g [.int .i64 k, .string s1, .slice a m cap, .int .i64 s3, .int .i64 s4, .string s5, .int .i64 s6, .string s7] m iv ov wr) (fun iv _ _ => m - (intOf iv).toNat)
      case atStart => exact ⟨0, Nat.zero_le _, rfl, HR.out, HX.out, HB.out⟩
      case round =>
        obtain ⟨j, hj, rfl, hrow3, hex3, hblk3⟩ := hrel
        by_cases hlt3 : j < m
        · have hlt4 : j < (termsOf l).length := by rw [← HL.out.2.2]; exact hlt3
          obtain ⟨t, ht⟩ : ∃ t, (termsOf l)[j]? = some t := ⟨_, List.getElem?_eq_getElem hlt4⟩
          obtain ⟨b2, off2, eao2, f0, f1, _⟩ := term_at (HL.out.2.1.terms.ext hex3.out) ht
          subst eao2
          obtain ⟨kt, st, ⟨⟩⟩ := t
          simp only at f0 f1
          have hs := namesIn_succ (namesB (ls.take i)) ht
          have HT := Lib.hid hs
          clear ht hlt4 hs
          have e0 : (wr.alloc (.cells #[.int .i64 kt, .string st] 68)).cell? ⟨g, 0, none⟩ = some (.int .i64 k) := by rw [(hblk3.out.alloc _).cell']; rfl
          have hlen : (namesIn (namesB (ls.take i)) l j).length ≤ 1099513724928 := by
            have h1 := namesIn_len (namesB (ls.take i)) l j
            have h2 : (namesB (ls.take i)).length ≤ (ls.take i).length * 1048576 := namesB_len fun x hx => HF.out.terms x (List.mem_of_mem_take hx)
            rw [List.length_take] at h2
            omega
          generalize eN : namesIn (namesB (ls.take i)) l j = N at *
          by_cases h1 : k = 1
          · subst h1
            by_cases h2 : kt = 1
            · subst h2
              have hrow4 := hrow3.out
              obtain ⟨ao, cap4, eov, hcells, hle⟩ := hrow4.shape
              subst eov
              have HS := Lib.hid (fun (W : World) (hW : Ext wr W) => containsS_any N st ao N.length cap4 W rfl (hcells.ext hW) (by omega))
              have HR4 := Lib.hid hrow4
              clear hcells hrow4 hrow3
              go_wp2_with fail
              refine (HS.out _ ((Kp.refl _).alloc _)).mono ?_
              rintro e w1 ⟨v, rfl, hk1, rfl⟩
              have bb := Blk.new wr [.int .i64 1, .string st] 68
              have f2 : w1.cell? ⟨wr.heap.size, 1, none⟩ = some (.string st) := by rw [(bb.ext hk1).cell']; rfl
              have HE1 := Lib.hid (((Kp.refl _).alloc _).trans hk1)
              clear hk1 bb
              cases hh : hasT N st
              · have HT2 := Lib.hid (HT.out.trans (if_pos ⟨HK.out, by first | rfl | trivial, hh⟩))
                go_wp2_with (first | (at_builtin; refine Halted.out ?_))
                refine Halted.mk (wp_app elem_str rfl _ _ rfl ((hex3.out.trans HE1.out).alloc _) (fun q h1 h2 => absurd h2 (Nat.not_lt.2 h1.1)) (fun q h1 => ?_) rfl ((HR4.out.ext HE1.out).alloc _) rfl (by rfl) (CellsAt.one _ _ _) (by simp [Value.oneCell']) (by omega) (by unfold maxLen; omega) ?_)
                · have a1 := hex3.out.size
                  have a2 := HE1.out.size
                  have a3 := hblk3.out.lt
                  rw [alloc_size] at h1
                  exact ⟨by unfold New; omega, by omega⟩
                · intro v1 w2 hr1 hk1 hk2 _
                  have hk3 := hk2
                  have hb2 : Blk w2 g _ _ := ((hblk3.out.ext HE1.out).alloc _).kp hk2 (fun e => absurd rfl (HR4.out.block g e).2)
                  have HR5 := Lib.hid (And.intro hr1 (And.intro hk1 hb2))
                  clear hr1 hk1 hk2 hk3 hb2
                  go_wp2
                  go_roundw
                  case rel =>
                    refine ⟨j + 1, by omega, by first | rfl | (congr 1; done) | (congr 1; omega), ?_, HR5.out.2.1, HR5.out.2.2⟩
                    have h := HR5.out.1
                    rw [HT2.out, ← strs_snoc, List.length_append]
                    exact h
                  case measure => simp [intOf]; omega
              · have HT2 := Lib.hid (HT.out.trans (if_neg fun x => by rw [hh] at x; cases x.2.2))
                go_wp2
                go_roundw
                case rel =>
                  exact ⟨j + 1, by omega, by first | rfl | (congr 1; done) | (congr 1; omega), by rw [HT2.out]; exact HR4.out.ext HE1.out, hex3.out.trans HE1.out, hblk3.out.ext HE1.out⟩
                case measure => simp [intOf]; omega
            · have HT2 := Lib.hid (HT.out.trans (if_neg fun x => h2 x.2.1))
              have b2 : (kt == 1) = false := by simp [h2]
              go_wp2
              go_roundw
              case rel =>
                exact ⟨j + 1, by omega, by first | rfl | (congr 1; done) | (congr 1; omega), by rw [HT2.out]; exact hrow3.out.alloc _, hex3.out.alloc _, hblk3.out.alloc _⟩
              case measure => simp [intOf]; omega
          · have HT2 := Lib.hid (HT.out.trans (if_neg fun x => h1 (HK.out.symm.trans x.1)))
            have b2 : (k == 1) = false := by simp [h1]
            go_wp2
            go_roundw
            case rel =>
              exact ⟨j + 1, by omega, by first | rfl | (congr 1; done) | (congr 1; omega), by rw [HT2.out]; exact hrow3.out.alloc _, hex3.out.alloc _, hblk3.out.alloc _⟩
            case measure => simp [intOf]; omega
        · have HA := Lib.hid (namesIn_all (namesB (ls.take i)) l (c := j) (by have := HL.out.2.2; omega))
          go_wp2
          go_roundw
          case rel =>
            refine ⟨i + 1, by omega, by first | rfl | (congr 1; done) | (congr 1; omega), ?_, hex3⟩
            have h := hrow3.out
            have e : namesB (ls.take (i + 1)) = namesL (namesB (ls.take i)) l := fold_take _ _ HL.out.1
            rw [HA.out, ← e] at h
            exact h.mono fun _ x => x.1
          case measure => simp [intOf]; omega
    · have e : ls.take i = ls := List.take_of_length_le (by have := HN.out; omega)
      have hrow4 := hrow.out
      rw [e] at hrow4
      obtain ⟨ao, cap4, eov, hcells, hle⟩ := hrow4.shape
      subst eov
      have HS := Lib.hid (fun (W : World) => clipS_any ao (namesB ls).length cap4 W hle)
      have HC := Lib.hid hcells
      clear hcells hrow4 hrow hle e
      go_wp2_with fail
      refine (HS.out _).mono ?_
      rintro e w1 ⟨v, rfl, hk1, rfl⟩
      go_wp2
      go_ret
      exact RetN.mk (hex.out.trans hk1) ⟨ao, _, rfl, Nat.le_refl _, HC.out.ext hk1⟩
end Go.Proofs.Ytcphalpcdcddpaa

/- join: Check, Vars. -/
namespace Go.Proofs.Ytcphalpcdcddpaa
open Go.RowKit
set_option linter.unusedVariables false

set_option maxRecDepth 100000 in
theorem safe_any (N : List ByteArray) (ao : Option Addr) (m cap gb : Nat) (k : Int) (s : ByteArray) (blank : Bool) (w : World) (hm : m = N.length) (hc : w.cell? ⟨gb, 0, none⟩ = some (.slice ao m cap)) (h : CellsAt w ao (strs N)) (hl : m ≤ 4611686018427387904) :
    Calls Try.prog 79 #[termV k s, .bool blank, .pointer (some ⟨gb, 0, none⟩)] w (RetN w fun w' v => v = .bool (safeT N blank (k, s, ()))) := by
  by_cases h2 : k = 2
  · subst h2
    go_enter Try.func79, Try.ntmps79
    go_wp2
    go_ret
    exact RetN.mk ((Kp.refl w).alloc _) (by unfold safeT; simp)
  · have b2 : (k == 2) = false := by simp [h2]
    by_cases h34 : k = 3 ∨ k = 4
    · rcases h34 with rfl | rfl
      all_goals
        clear h2 b2
        go_enter Try.func79, Try.ntmps79
        go_wp2
        go_ret
        exact RetN.mk ((Kp.refl w).alloc _) (by unfold safeT; simp)
    · have b3 : (k == 3) = false := by simp; exact fun e => h34 (.inl e)
      have b4 : (k == 4) = false := by simp; exact fun e => h34 (.inr e)
      have HS := Lib.hid (fun (W : World) (hW : Ext w W) => containsS_any N s ao m cap W hm (h.ext hW) hl)
      have e0 : (w.alloc (.cells #[.int .i64 k, .string s] 68)).cell? ⟨gb, 0, none⟩ = some (.slice ao m cap) := ((Kp.refl (F := fun _ => False) w).alloc _).cell hc id
      have HH := Lib.hid (And.intro h2 h34); clear h2 h34 h hm hc
      go_enter Try.func79, Try.ntmps79
      go_wp2_with fail
      refine (HS.out _ ((Kp.refl _).alloc _)).mono ?_
      rintro e w1 ⟨v, rfl, hk1, rfl⟩
      go_wp2
      go_ret
      refine RetN.mk (((Kp.refl w).alloc _).trans hk1) ?_
      obtain ⟨h2, h34⟩ := HH.out
      show Value.bool (hasT N s) = _
      refine congrArg Value.bool ?_
      unfold safeT
      rw [if_neg h2]
      cases hh : hasT N s
      · symm; apply decide_eq_false; rintro (x | x | x)
        · exact h34 (.inl x)
        · exact h34 (.inr x)
        · cases x
      · symm; exact decide_eq_true (.inr (.inr rfl))

def AllTo (w0 : World) {α : Type} (xs : List α) (q : α → Bool) (n : Nat) (iv : Value) (w : World) : Prop := ∃ i : Nat, i ≤ n ∧ iv = .int .i64 i ∧ Hid ((xs.take i).all q = true) ∧ Hid (Ext w0 w)
theorem all_take {α : Type} {q : α → Bool} {xs : List α} {i : Nat} {x : α} (h : xs[i]? = some x) : (xs.take (i + 1)).all q = ((xs.take i).all q && q x) := by
  rw [List.take_add_one, h, List.all_append]; simp
theorem all_no {α : Type} {q : α → Bool} {xs : List α} {i : Nat} {x : α} (h : xs[i]? = some x) (hq : q x = false) : xs.all q = false := by
  rw [List.all_eq_false]; exact ⟨x, List.mem_of_getElem? h, by rw [hq]; decide⟩

set_option maxRecDepth 100000 in
set_option maxHeartbeats 8000000 in
theorem check_any (p : ByteArray) (hs : List TermZ) (ls : List LitZ) (ha : Option Addr) (hn hcap : Nat) (ba : Option Addr) (n bcap : Nat) (w : World) (G : Nat → Prop) (hhn : hn = hs.length) (hh : TermsAt w G ha hs) (hhl : hn ≤ 1048576) (hbn : n = ls.length) (h : LitsAt w G ba ls) (hf : Fit ls) :
    Calls Try.prog 54 #[ruleV p ha hn hcap ba n bcap] w (RetN w fun w' v => v = .int .i64 (checkR ((p, hs, ()), ls, ()))) := by
  have HN := Lib.hid hbn; have HE := Lib.hid h; have HF := Lib.hid hf; have hl : n ≤ 1048576 := by have := hf.len; omega
  have HHN := Lib.hid hhn; have HHE := Lib.hid hh
  have HHead := Lib.hid (fun (W : World) (hW : Ext w W) => head_any hs ha hn hcap W G hhn (hh.ext hW) hhl)
  obtain ⟨m, em⟩ : ∃ m, m = (namesB ls).length := ⟨_, rfl⟩
  have HVars0 := fun (W : World) (hW : Ext w W) => vars_any p ha hn hcap ls ba n bcap W G hbn (h.ext hW) hf
  rw [← em] at HVars0
  have HVars := Lib.hid HVars0
  have EM := Lib.hid em
  clear HVars0 em
  have HLit := Lib.hid (fun (W : World) (hW : Ext w W) (l : LitZ) (hl : l ∈ ls) (a : Option Addr) (cap : Nat) (hin : LitIn w G l a cap) => literal_any l.1 (predOf l) (termsOf l) a (termsOf l).length cap (opOf l) (leftOf l).1 (leftOf l).2.1 (rightOf l).1 (rightOf l).2.1 W G rfl (hin.terms.ext hW) (hf.terms l hl) hin.left.1 hin.left.2 hin.right.1 hin.right.2)
  clear hbn h hf hhn hh
  go_enter Try.func54, Try.ntmps54
  go_wp2_with fail
  refine (HHead.out _ ((Kp.refl _).alloc _)).mono ?_
  rintro e w1 ⟨v, rfl, hk1, rfl⟩
  have bb := Blk.new w [.string p, .slice ha hn hcap, .slice ba n bcap] 27
  have B1 := Lib.hid (bb.ext hk1)
  have b1 : w1.cell? ⟨w.heap.size, 2, none⟩ = some (.slice ba n bcap) := by rw [B1.out.cell']; rfl
  have X1 := Lib.hid (((Kp.refl _).alloc _).trans hk1)
  clear hk1 bb
  cases hhd : headOk hs
  · go_wp2
    go_ret
    exact RetN.mk X1.out (by unfold checkR parted; rw [if_neg (by rw [hhd]; simp)]; rfl)
  · go_wp2
    clear b1
    go_loopw [21] (fun iv wr => AllTo w1 ls litOk n iv wr) (fun iv _ => n - (intOf iv).toNat)
    case atStart => exact ⟨0, Nat.zero_le _, rfl, rfl, Kp.refl _⟩
    case round =>
      obtain ⟨i, hi, rfl, hall, hex⟩ := hrel
      have XR := Lib.hid (X1.out.trans hex.out)
      by_cases hlt : i < n
      · have hlt' : i < ls.length := by rw [← HN.out]; exact hlt
        obtain ⟨l, hli⟩ : ∃ l, ls[i]? = some l := ⟨_, List.getElem?_eq_getElem hlt'⟩
        obtain ⟨b, off, a, cap, eao, hG, hb, hL, c0, c1, c2, c3, c4, c5, c6, c7⟩ := lit_at HE.out hli
        subst eao
        replace c0 := XR.out.cell c0 id
        replace c1 := XR.out.cell c1 id
        replace c2 := XR.out.cell c2 id
        replace c3 := XR.out.cell c3 id
        replace c4 := XR.out.cell c4 id
        replace c5 := XR.out.cell c5 id
        replace c6 := XR.out.cell c6 id
        replace c7 := XR.out.cell c7 id
        have HL := Lib.hid hli
        have HC := Lib.hid (fun (W : World) (hW : Ext w W) => HLit.out W hW l (List.mem_of_getElem? hli) a cap hL)
        clear hli hlt' hL hG hb
        go_wp2_with fail
        refine (HC.out _ (XR.out.alloc _)).mono ?_
        rintro e w2 ⟨v, rfl, hk2, rfl⟩
        have X2 := Lib.hid ((hex.out.alloc _).trans hk2)
        clear hk2 c0 c1 c2 c3 c4 c5 c6 c7
        cases hq : litOk l
        · go_wp2
          go_ret
          refine RetN.mk (X1.out.trans X2.out) ?_
          unfold checkR parted
          rw [if_neg (by rw [all_no HL.out hq]; simp)]; rfl
        · go_wp2
          go_roundw
          case rel => exact ⟨i + 1, by omega, by first | rfl | (congr 1; done) | (congr 1; omega), by rw [all_take HL.out, hall.out, hq]; rfl, X2⟩
          case measure => simp [intOf]; omega
      · have e : ls.take i = ls := List.take_of_length_le (by have := HN.out; omega)
        have HA := Lib.hid hall.out
        rw [e] at HA
        have c0 : wr.cell? ⟨w.heap.size, 0, none⟩ = some (.string p) := by rw [(B1.out.ext hex.out).cell']; rfl
        have c1 : wr.cell? ⟨w.heap.size, 1, none⟩ = some (.slice ha hn hcap) := by rw [(B1.out.ext hex.out).cell']; rfl
        have c2 : wr.cell? ⟨w.heap.size, 2, none⟩ = some (.slice ba n bcap) := by rw [(B1.out.ext hex.out).cell']; rfl
        clear e hall
        go_wp2_with fail
        refine (HVars.out _ XR.out).mono ?_
        rintro e w2 ⟨v, rfl, hk2, ao, cap, rfl, hle, hcells⟩
        have hm : m ≤ 4611686018427387904 := by
          have h1 := namesB_len HF.out.terms
          have h2 := HF.out.len
          have h3 := Nat.mul_le_mul_right 1048576 h2
          have h4 := EM.out
          omega
        clear c0 c1 c2
        have B2 := Lib.hid (B1.out.ext (hex.out.trans hk2))
        have hx2 : Ext w (w2.alloc (.cells #[.slice ao m cap] 87)) := (XR.out.trans hk2).alloc _
        obtain ⟨wb, eb⟩ : ∃ wb, w2.alloc (.cells #[.slice ao m cap] 87) = wb := ⟨_, rfl⟩
        have bn := Blk.new w2 [.slice ao m cap] 87
        have HSafe := Lib.hid (fun (W : World) (hW : Ext wb W) (k : Int) (s : ByteArray) (blank : Bool) => safe_any (namesB ls) ao m cap w2.heap.size k s blank W EM.out (by
          have := bn.cell 0 (by simp)
          rw [← eb] at hW
          exact hW.cell this id) ((hcells.alloc _).ext (eb ▸ hW)) hm)
        have HX2 := Lib.hid hx2
        rw [eb] at HX2
        have C1 := Lib.hid (B2.out.alloc (.cells #[.slice ao m cap] 87))
        rw [eb] at C1
        have c1 : (w2.alloc (.cells #[.slice ao m cap] 87)).cell? ⟨w.heap.size, 1, none⟩ = some (.slice ha hn hcap) := by rw [eb, C1.out.cell']; rfl
        clear hk2 hle hcells hx2 bn
        have EB := Lib.hid eb; clear eb
        go_wp2
        rw [EB.out]
        clear c1
        go_loopw [36] (fun iv wr => AllTo wb hs (safeT (namesB ls) false) hn iv wr) (fun iv _ => hn - (intOf iv).toNat)
        case atStart => exact ⟨0, Nat.zero_le _, rfl, rfl, Kp.refl _⟩
        case round =>
          obtain ⟨j, hj, rfl, hall3, hex3⟩ := hrel
          have X3 := Lib.hid (HX2.out.trans hex3.out)
          by_cases hlt3 : j < hn
          · have hlt4 : j < hs.length := by rw [← HHN.out]; exact hlt3
            obtain ⟨t, ht⟩ : ∃ t, hs[j]? = some t := ⟨_, List.getElem?_eq_getElem hlt4⟩
            obtain ⟨b2, off2, eao2, f0, f1, _⟩ := term_at (HHE.out.ext X3.out) ht
            subst eao2
            obtain ⟨kt, st, ⟨⟩⟩ := t
            simp only at f0 f1
            have HT := Lib.hid ht
            clear ht hlt4
            go_wp2_with fail
            refine (HSafe.out _ (hex3.out.alloc _) kt st false).mono ?_
            rintro e w3 ⟨v, rfl, hk3, rfl⟩
            have X4 := Lib.hid ((hex3.out.alloc _).trans hk3)
            clear hk3 f0 f1
            cases hq : safeT (namesB ls) false (kt, st, ())
            · go_wp2
              go_ret
              refine RetN.mk (HX2.out.trans X4.out) ?_
              unfold checkR safeR parted
              rw [if_pos (by simp only [Bool.and_eq_true]; exact ⟨hhd, HA.out⟩), if_neg (by rw [all_no HT.out hq]; simp)]; rfl
            · go_wp2
              go_roundw
              case rel => exact ⟨j + 1, by omega, by first | rfl | (congr 1; done) | (congr 1; omega), by rw [all_take HT.out, hall3.out, hq]; rfl, X4⟩
              case measure => simp [intOf]; omega
          · have e : hs.take j = hs := List.take_of_length_le (by have := HHN.out; omega)
            have HB := Lib.hid hall3.out
            rw [e] at HB
            have c2 : wr.cell? ⟨w.heap.size, 2, none⟩ = some (.slice ba n bcap) := by rw [(C1.out.ext hex3.out).cell']; rfl
            clear e hall3
            have hltn : ¬ (j : Int) < (hn : Int) := by omega
            go_wp2
            clear c2
            go_loopw [48] (fun iv wr => AllTo wb ls (safeL (namesB ls)) n iv wr) (fun iv _ => n - (intOf iv).toNat)
            case atStart => exact ⟨0, Nat.zero_le _, rfl, rfl, hex3⟩
            case round =>
              obtain ⟨q, hq, rfl, hall4, hex4⟩ := hrel
              have X5 := Lib.hid (HX2.out.trans hex4.out)
              by_cases hlt5 : q < n
              · have hlt6 : q < ls.length := by rw [← HN.out]; exact hlt5
                obtain ⟨l, hli⟩ : ∃ l, ls[q]? = some l := ⟨_, List.getElem?_eq_getElem hlt6⟩
                obtain ⟨b, off, a, cap2, eao, hG, hb, hL, c0, c1, c2, c3, c4, c5, c6, c7⟩ := lit_at HE.out hli
                subst eao
                replace c0 := X5.out.cell c0 id
                replace c1 := X5.out.cell c1 id
                replace c2 := X5.out.cell c2 id
                replace c3 := X5.out.cell c3 id
                replace c4 := X5.out.cell c4 id
                replace c5 := X5.out.cell c5 id
                replace c6 := X5.out.cell c6 id
                replace c7 := X5.out.cell c7 id
                have HL := Lib.hid (And.intro hli hL)
                have hq2 : (q : Int) < (n : Int) := by omega
                obtain ⟨mm, emm⟩ : ∃ mm, mm = (termsOf l).length := ⟨_, rfl⟩
                rw [← emm] at c2
                have HM := Lib.hid emm
                have hmm : mm ≤ 1048576 := by rw [emm]; exact HF.out.terms l (List.mem_of_getElem? hli)
                clear hli hlt6 hL hG hb emm
                have HSafe2 := HSafe
                obtain ⟨k, ek⟩ : ∃ k, l.1 = k := ⟨_, rfl⟩
                obtain ⟨lk, elk⟩ : ∃ lk, (leftOf l).1 = lk := ⟨_, rfl⟩
                obtain ⟨lt, elt⟩ : ∃ lt, (leftOf l).2.1 = lt := ⟨_, rfl⟩
                obtain ⟨rk, erk⟩ : ∃ rk, (rightOf l).1 = rk := ⟨_, rfl⟩
                obtain ⟨rt, ert⟩ : ∃ rt, (rightOf l).2.1 = rt := ⟨_, rfl⟩
                rw [ek] at c0
                rw [elk] at c4
                rw [elt] at c5
                rw [erk] at c6
                rw [ert] at c7
                have eleft : leftOf l = (lk, lt, ()) := by rw [← elk, ← elt]
                have eright : rightOf l = (rk, rt, ()) := by rw [← erk, ← ert]
                generalize predOf l = s1 at c1
                generalize opOf l = s3 at c3
                have HK := Lib.hid (And.intro ek (And.intro eleft eright)); clear ek elk elt erk ert eleft eright
                obtain ⟨wx, ewx⟩ : ∃ wx, wr.alloc (.cells #[.int .i64 k, .string s1, .slice a mm cap2, .int .i64 s3, .int .i64 lk, .string lt, .int .i64 rk, .string rt] 70) = wx := ⟨_, rfl⟩
                have hB := Blk.new wr [.int .i64 k, .string s1, .slice a mm cap2, .int .i64 s3, .int .i64 lk, .string lt, .int .i64 rk, .string rt] 70
                have hWX : Ext wb wx := by rw [← ewx]; exact hex4.out.alloc _
                have hXX : Ext w wx := HX2.out.trans hWX
                obtain ⟨g, eg⟩ : ∃ g, g = wr.heap.size := ⟨_, rfl⟩
                have HGB := Lib.hid hB
                rw [← eg] at HGB
                have ewx2 : wr.alloc (.cells [Value.int .i64 k, .string s1, .slice a mm cap2, .int .i64 s3, .int .i64 lk, .string lt, .int .i64 rk, .string rt].toArray 70) = wx := ewx
                rw [ewx2] at HGB
                have HWX := Lib.hid hWX
                have HXX := Lib.hid hXX
                have EG := Lib.hid (And.intro eg ewx)
                clear hB hWX hXX eg ewx ewx2
                by_cases h3 : k = 3
                · have b3 : (k == 3) = true := by simp [h3]
                  have n2 : ¬ k = 2 := by omega
                  have HH3 := Lib.hid (And.intro h3 n2); clear h3 n2
                  go_wp2_with fail
                  rw [EG.out.2, ← EG.out.1]
                  refine (HSafe.out _ HWX.out lk lt false).mono ?_
                  rintro e w5 ⟨v, rfl, hk5, rfl⟩
                  have X6 := Lib.hid hk5
                  have d6 : w5.cell? ⟨g, 6, none⟩ = some (.int .i64 rk) := by rw [(HGB.out.ext hk5).cell']; rfl
                  have d7 : w5.cell? ⟨g, 7, none⟩ = some (.string rt) := by rw [(HGB.out.ext hk5).cell']; rfl
                  clear hk5 c0 c1 c2 c3 c4 c5 c6 c7
                  cases hsl : safeT (namesB ls) false (lk, lt, ())
                  · go_wp2
                    go_ret
                    refine RetN.mk (HXX.out.trans X6.out) ?_
                    have hno : safeL (namesB ls) l = false := by unfold safeL; rw [if_pos (HK.out.1.trans HH3.out.1), HK.out.2.1, hsl]; rfl
                    unfold checkR safeR parted
                    rw [if_pos (by simp only [Bool.and_eq_true]; exact ⟨hhd, HA.out⟩), if_neg (by rw [all_no HL.out.1 hno]; simp)]; rfl
                  · go_wp2_with fail
                    refine (HSafe.out _ (HWX.out.trans X6.out) rk rt false).mono ?_
                    rintro e w7 ⟨v, rfl, hk7, rfl⟩
                    have X7 := Lib.hid (X6.out.trans hk7)
                    clear hk7 d6 d7
                    cases hsr : safeT (namesB ls) false (rk, rt, ())
                    · go_wp2
                      go_ret
                      refine RetN.mk (HXX.out.trans X7.out) ?_
                      have hno : safeL (namesB ls) l = false := by unfold safeL; rw [if_pos (HK.out.1.trans HH3.out.1), HK.out.2.1, HK.out.2.2, hsr, Bool.and_false]
                      unfold checkR safeR parted
                      rw [if_pos (by simp only [Bool.and_eq_true]; exact ⟨hhd, HA.out⟩), if_neg (by rw [all_no HL.out.1 hno]; simp)]; rfl
                    · have HSL := Lib.hid (show safeL (namesB ls) l = (termsOf l).all (fun t => if k = 2 then safeT (namesB ls) true t else true) by
                        unfold safeL; rw [if_pos (HK.out.1.trans HH3.out.1), HK.out.2.1, HK.out.2.2, hsl, hsr]
                        exact (List.all_eq_true.2 (fun t _ => if_neg HH3.out.2)).symm)
                      have d0 : w7.cell? ⟨g, 2, none⟩ = some (.slice a mm cap2) := by rw [(HGB.out.ext X7.out).cell']; rfl
                      have HX7 := X7
                      clear X7
                      go_wp2
                      clear d0
                      go_loopw [73] (fun iv wr => AllTo wx (termsOf l) (fun t => if k = 2 then safeT (namesB ls) true t else true) mm iv wr) (fun iv _ => mm - (intOf iv).toNat)
                      case atStart => exact ⟨0, Nat.zero_le _, rfl, rfl, HX7.out⟩
                      case round =>
                        obtain ⟨z, hz, rfl, hall8, hex8⟩ := hrel
                        have X8 := Lib.hid (HXX.out.trans hex8.out)
                        by_cases hlt7 : z < mm
                        · have hlt8 : z < (termsOf l).length := by rw [← HM.out]; exact hlt7
                          obtain ⟨t, ht⟩ : ∃ t, (termsOf l)[z]? = some t := ⟨_, List.getElem?_eq_getElem hlt8⟩
                          obtain ⟨b9, off9, eao9, f0, f1, _⟩ := term_at (HL.out.2.terms.ext X8.out) ht
                          subst eao9
                          obtain ⟨kt, st, ⟨⟩⟩ := t
                          simp only at f0 f1
                          have HT := Lib.hid ht
                          have e0 : (wr.alloc (.cells #[.int .i64 kt, .string st] 68)).cell? ⟨g, 0, none⟩ = some (.int .i64 k) := by rw [((HGB.out.ext hex8.out).alloc _).cell']; rfl
                          clear ht hlt8
                          by_cases h2 : k = 2
                          · have b2 : (k == 2) = true := by simp [h2]
                            have HH2 := Lib.hid h2; clear h2
                            go_wp2_with fail
                            refine (HSafe.out _ ((HWX.out.trans hex8.out).alloc _) kt st true).mono ?_
                            rintro e w9 ⟨v, rfl, hk9, rfl⟩
                            have X9 := Lib.hid ((hex8.out.alloc _).trans hk9)
                            clear hk9 f0 f1 e0
                            cases hqq : safeT (namesB ls) true (kt, st, ())
                            · go_wp2
                              go_ret
                              refine RetN.mk (HXX.out.trans X9.out) ?_
                              have hno : safeL (namesB ls) l = false := by rw [HSL.out]; exact all_no HT.out (by show (if k = 2 then _ else _) = false; rw [if_pos HH2.out]; exact hqq)
                              unfold checkR safeR parted
                              rw [if_pos (by simp only [Bool.and_eq_true]; exact ⟨hhd, HA.out⟩), if_neg (by rw [all_no HL.out.1 hno]; simp)]; rfl
                            · go_wp2
                              go_roundw
                              case rel => exact ⟨z + 1, by omega, by first | rfl | (congr 1; done) | (congr 1; omega), by rw [all_take HT.out, hall8.out]; show (if k = 2 then _ else _) = true; rw [if_pos HH2.out]; exact hqq, X9⟩
                              case measure => simp [intOf]; omega
                          · have b2 : (k == 2) = false := by simp [h2]
                            have HH2 := Lib.hid h2; clear h2
                            go_wp2
                            go_roundw
                            case rel => exact ⟨z + 1, by omega, by first | rfl | (congr 1; done) | (congr 1; omega), by rw [all_take HT.out, hall8.out]; show (if k = 2 then _ else _) = true; rw [if_neg HH2.out], hex8.out.alloc _⟩
                            case measure => simp [intOf]; omega
                        · have e : (termsOf l).take z = termsOf l := List.take_of_length_le (by have := HM.out; omega)
                          have H9 := Lib.hid hall8.out
                          rw [e] at H9
                          clear e hall8
                          have hzm : ¬ (z : Int) < (mm : Int) := by omega
                          go_wp2
                          go_roundw
                          case rel => exact ⟨q + 1, by omega, by first | rfl | (congr 1; done) | (congr 1; omega), by rw [all_take HL.out.1, hall4.out, HSL.out, H9.out]; rfl, HWX.out.trans hex8.out⟩
                          case measure => simp [intOf]; omega
                · have b3 : (k == 3) = false := by simp [h3]
                  have HSL := Lib.hid (show safeL (namesB ls) l = (termsOf l).all (fun t => if k = 2 then safeT (namesB ls) true t else true) by
                    unfold safeL; rw [if_neg (fun x => h3 (HK.out.1.symm.trans x)), HK.out.1]
                    by_cases h2 : k = 2
                    · rw [if_pos h2]; congr 1; funext t; rw [if_pos h2]
                    · rw [if_neg h2]; symm; rw [List.all_eq_true]; intro t _; rw [if_neg h2])
                  have HH3 := Lib.hid h3; clear h3
                  have d0 : (wr.alloc (.cells #[.int .i64 k, .string s1, .slice a mm cap2, .int .i64 s3, .int .i64 lk, .string lt, .int .i64 rk, .string rt] 70)).cell? ⟨wr.heap.size, 2, none⟩ = some (.slice a mm cap2) := by rw [EG.out.2, ← EG.out.1, HGB.out.cell']; rfl
                  go_wp2
                  rw [EG.out.2, ← EG.out.1]
                  have HX7 := Lib.hid (Kp.refl (F := fun _ => False) wx)
                  clear c0 c1 c2 c3 c4 c5 c6 c7
                  clear d0
                  go_loopw [73] (fun iv wr => AllTo wx (termsOf l) (fun t => if k = 2 then safeT (namesB ls) true t else true) mm iv wr) (fun iv _ => mm - (intOf iv).toNat)
                  case atStart => exact ⟨0, Nat.zero_le _, rfl, rfl, HX7.out⟩
                  case round =>
                    obtain ⟨z, hz, rfl, hall8, hex8⟩ := hrel
                    have X8 := Lib.hid (HXX.out.trans hex8.out)
                    by_cases hlt7 : z < mm
                    · have hlt8 : z < (termsOf l).length := by rw [← HM.out]; exact hlt7
                      obtain ⟨t, ht⟩ : ∃ t, (termsOf l)[z]? = some t := ⟨_, List.getElem?_eq_getElem hlt8⟩
                      obtain ⟨b9, off9, eao9, f0, f1, _⟩ := term_at (HL.out.2.terms.ext X8.out) ht
                      subst eao9
                      obtain ⟨kt, st, ⟨⟩⟩ := t
                      simp only at f0 f1
                      have HT := Lib.hid ht
                      have e0 : (wr.alloc (.cells #[.int .i64 kt, .string st] 68)).cell? ⟨g, 0, none⟩ = some (.int .i64 k) := by rw [((HGB.out.ext hex8.out).alloc _).cell']; rfl
                      clear ht hlt8
                      by_cases h2 : k = 2
                      · have b2 : (k == 2) = true := by simp [h2]
                        have HH2 := Lib.hid h2; clear h2
                        go_wp2_with fail
                        refine (HSafe.out _ ((HWX.out.trans hex8.out).alloc _) kt st true).mono ?_
                        rintro e w9 ⟨v, rfl, hk9, rfl⟩
                        have X9 := Lib.hid ((hex8.out.alloc _).trans hk9)
                        clear hk9 f0 f1 e0
                        cases hqq : safeT (namesB ls) true (kt, st, ())
                        · go_wp2
                          go_ret
                          refine RetN.mk (HXX.out.trans X9.out) ?_
                          have hno : safeL (namesB ls) l = false := by rw [HSL.out]; exact all_no HT.out (by show (if k = 2 then _ else _) = false; rw [if_pos HH2.out]; exact hqq)
                          unfold checkR safeR parted
                          rw [if_pos (by simp only [Bool.and_eq_true]; exact ⟨hhd, HA.out⟩), if_neg (by rw [all_no HL.out.1 hno]; simp)]; rfl
                        · go_wp2
                          go_roundw
                          case rel => exact ⟨z + 1, by omega, by first | rfl | (congr 1; done) | (congr 1; omega), by rw [all_take HT.out, hall8.out]; show (if k = 2 then _ else _) = true; rw [if_pos HH2.out]; exact hqq, X9⟩
                          case measure => simp [intOf]; omega
                      · have b2 : (k == 2) = false := by simp [h2]
                        have HH2 := Lib.hid h2; clear h2
                        go_wp2
                        go_roundw
                        case rel => exact ⟨z + 1, by omega, by first | rfl | (congr 1; done) | (congr 1; omega), by rw [all_take HT.out, hall8.out]; show (if k = 2 then _ else _) = true; rw [if_neg HH2.out], hex8.out.alloc _⟩
                        case measure => simp [intOf]; omega
                    · have e : (termsOf l).take z = termsOf l := List.take_of_length_le (by have := HM.out; omega)
                      have H9 := Lib.hid hall8.out
                      rw [e] at H9
                      clear e hall8
                      have hzm : ¬ (z : Int) < (mm : Int) := by omega
                      go_wp2
                      go_roundw
                      case rel => exact ⟨q + 1, by omega, by first | rfl | (congr 1; done) | (congr 1; omega), by rw [all_take HL.out.1, hall4.out, HSL.out, H9.out]; rfl, HWX.out.trans hex8.out⟩
                      case measure => simp [intOf]; omega
              · have e : ls.take q = ls := List.take_of_length_le (by have := HN.out; omega)
                have HC := Lib.hid hall4.out
                rw [e] at HC
                clear e hall4
                have hqn : ¬ (q : Int) < (n : Int) := by omega
                go_wp2
                go_ret
                refine RetN.mk X5.out ?_
                unfold checkR safeR parted
                rw [if_pos (by simp only [Bool.and_eq_true]; exact ⟨hhd, HA.out⟩), if_pos (by simp only [Bool.and_eq_true]; exact ⟨HB.out, HC.out⟩)]; rfl
set_option maxRecDepth 100000 in
theorem joinVars_any (p : ByteArray) (hs : List TermZ) (ls : List LitZ) (ha : Option Addr) (hn hcap : Nat) (ba : Option Addr) (n bcap : Nat) (w : World) (G : Nat → Prop) (hhn : hn = hs.length) (hh : TermsAt w G ha hs) (hhl : hn ≤ 1048576) (hbn : n = ls.length) (h : LitsAt w G ba ls) (hf : Fit ls) (hc : checkR ((p, hs, ()), ls, ()) = 0) :
    Calls Try.prog 56 #[ruleV p ha hn hcap ba n bcap] w (RetN w fun w' v => ∃ ao cap, v = .slice ao (namesB ls).length cap ∧ (namesB ls).length ≤ cap ∧ CellsAt w' ao (strs (namesB ls))) := by
  have h1 := fun (W : World) (hW : Ext w W) => check_any p hs ls ha hn hcap ba n bcap W G hhn (hh.ext hW) hhl hbn (h.ext hW) hf
  rw [hc] at h1
  have HC := Lib.hid h1
  have HV := Lib.hid (fun (W : World) (hW : Ext w W) => vars_any p ha hn hcap ls ba n bcap W G hbn (h.ext hW) hf)
  clear h1 hhn hh hbn h hf hc
  go_enter Try.func56, Try.ntmps56
  go_wp2_with fail
  refine (HC.out _ ((Kp.refl _).alloc _)).mono ?_
  rintro e w1 ⟨v, rfl, hk1, rfl⟩
  have bb := (Blk.new w [.string p, .slice ha hn hcap, .slice ba n bcap] 27).ext hk1
  have c0 : w1.cell? ⟨w.heap.size, 0, none⟩ = some (.string p) := by rw [bb.cell']; rfl
  have c1 : w1.cell? ⟨w.heap.size, 1, none⟩ = some (.slice ha hn hcap) := by rw [bb.cell']; rfl
  have c2 : w1.cell? ⟨w.heap.size, 2, none⟩ = some (.slice ba n bcap) := by rw [bb.cell']; rfl
  have X1 := Lib.hid (((Kp.refl _).alloc _).trans hk1)
  clear hk1 bb
  go_wp2_with fail
  refine (HV.out _ X1.out).mono ?_
  rintro e w2 ⟨v, rfl, hk2, ao, cap, rfl, h1, h2⟩
  have X2 := Lib.hid (And.intro (X1.out.trans hk2) (And.intro h1 h2))
  clear hk2 h1 h2 c0 c1 c2
  go_wp2
  go_ret
  exact RetN.mk X2.out.1 ⟨ao, cap, rfl, X2.out.2⟩
end Go.Proofs.Ytcphalpcdcddpaa

/- The document's answer for join: has, kinds, names. -/
namespace Go.Proofs.Ytcphalpcdcddpaa
open Go.RowKit
set_option linter.unusedVariables false

set_option maxRecDepth 100000 in
set_option maxHeartbeats 1000000 in
theorem has_any (ss : List ByteArray) (s : ByteArray) (ao : Option Addr) (n cap : Nat) (w : World) (hn : n = ss.length) (h : CellsAt w ao (strs ss)) (hl : n ≤ 4611686018427387904) :
    Calls Try.prog 88 #[.slice ao n cap, .string s] w (RetN w fun w' v => v = .bool (hasT ss s)) := by
  have HN := Lib.hid hn; have HE := Lib.hid h; clear hn h
  go_enter Try.func88, Try.ntmps88
  go_wp2
  go_loopw [5] (fun iv wr => NoneS w ss s n iv wr) (fun iv _ => n - (intOf iv).toNat)
  case atStart => exact ⟨0, Nat.zero_le _, rfl, fun j u h => by omega, Kp.refl w⟩
  case round =>
    obtain ⟨i, hi, rfl, hno, hex⟩ := hrel
    by_cases hlt : i < n
    · have hlt' : i < ss.length := by rw [← HN.out]; exact hlt
      obtain ⟨b, off, eao, hc0⟩ := (HE.out.ext hex.out).str hlt'
      subst eao
      have ht : ss[i]? = some ss[i] := List.getElem?_eq_getElem hlt'
      generalize ss[i] = u at *
      by_cases hu : u = s
      · have HT := Lib.hid (And.intro ht hu)
        clear ht hlt'
        subst hu
        have hb := str_eq u
        go_wp2
        go_ret
        exact RetN.mk hex.out (congrArg Value.bool (by unfold hasT; rw [any_true HT.out.1 (by simp)]))
      · have HT := Lib.hid (And.intro ht hu)
        have hb := str_ne hu
        clear ht hlt' hu
        go_wp2
        go_roundw
        case rel =>
          refine ⟨i + 1, by omega, by first | rfl | (congr 1; done) | (congr 1; omega), fun j u hj hu => ?_, hex⟩
          by_cases e : j = i
          · subst e; rw [HT.out.1] at hu; cases hu; exact decide_eq_false HT.out.2
          · exact hno.out j u (by omega) hu
        case measure => simp [intOf]; omega
    · go_wp2
      go_ret
      exact RetN.mk hex.out (congrArg Value.bool (by unfold hasT; rw [any_false HN.out fun j u hj => hno.out j u (by omega)]))

set_option maxRecDepth 100000 in
set_option maxHeartbeats 1000000 in
theorem refKinds_any (ts : List TermZ) (up : Int) (ao : Option Addr) (n cap : Nat) (w : World) (G : Nat → Prop) (hn : n = ts.length) (h : TermsAt w G ao ts) (hl : n ≤ 4611686018427387904) :
    Calls Try.prog 96 #[.slice ao n cap, .int .i64 up] w (RetN w fun w' v => v = .bool (kinds ts up)) := by
  have HN := Lib.hid hn; have HE := Lib.hid h; clear hn h
  go_enter Try.func96, Try.ntmps96
  go_wp2
  go_loopw [5] (fun iv wr => AllTo w ts (fun t => decide (1 ≤ t.1 ∧ t.1 ≤ up)) n iv wr) (fun iv _ => n - (intOf iv).toNat)
  case atStart => exact ⟨0, Nat.zero_le _, rfl, rfl, Kp.refl w⟩
  case round =>
    obtain ⟨i, hi, rfl, hall, hex⟩ := hrel
    by_cases hlt : i < n
    · have hlt' : i < ts.length := by rw [← HN.out]; exact hlt
      obtain ⟨t, ht⟩ : ∃ t, ts[i]? = some t := ⟨_, List.getElem?_eq_getElem hlt'⟩
      obtain ⟨b, off, eao, hc0, hc1, _⟩ := term_at (HE.out.ext hex.out) ht
      subst eao
      obtain ⟨k, s, ⟨⟩⟩ := t
      simp only at hc0 hc1
      have HT := Lib.hid ht
      clear ht hlt'
      by_cases h1 : k < 1
      · go_wp2
        go_ret
        exact RetN.mk hex.out (congrArg Value.bool (by unfold kinds; rw [all_no HT.out (decide_eq_false (by simp only; omega))]))
      · by_cases h2 : up < k
        · go_wp2
          go_ret
          exact RetN.mk hex.out (congrArg Value.bool (by unfold kinds; rw [all_no HT.out (decide_eq_false (by simp only; omega))]))
        · go_wp2
          go_roundw
          case rel => exact ⟨i + 1, by omega, by first | rfl | (congr 1; done) | (congr 1; omega), by rw [all_take HT.out, hall.out, decide_eq_true (by simp only; omega)]; rfl, hex⟩
          case measure => simp [intOf]; omega
    · have e : ts.take i = ts := List.take_of_length_le (by have := HN.out; omega)
      have HA := Lib.hid hall.out
      rw [e] at HA
      go_wp2
      go_ret
      exact RetN.mk hex.out (congrArg Value.bool (by unfold kinds; rw [HA.out]))

/-- names: between two rounds. -/
def NamesIn (w0 : World) (a : List ByteArray) (l : LitZ) (m : Nat) (iv ov : Value) (w : World) : Prop := ∃ i : Nat, i ≤ m ∧ iv = .int .i64 i ∧ Hid (Row w 9 1 ov (namesIn a l i).length (strs (namesIn a l i)) (New w0)) ∧ Hid (Ext w0 w)
set_option maxRecDepth 100000 in
set_option maxHeartbeats 4000000 in
theorem names_any (p : ByteArray) (ha : Option Addr) (hn hcap : Nat) (ls : List LitZ) (ba : Option Addr) (n bcap : Nat) (w : World) (G : Nat → Prop) (hbn : n = ls.length) (h : LitsAt w G ba ls) (hf : Fit ls) :
    Calls Try.prog 86 #[ruleV p ha hn hcap ba n bcap] w (RetN w fun w' v => ∃ ao cap, v = .slice ao (namesB ls).length cap ∧ (namesB ls).length ≤ cap ∧ CellsAt w' ao (strs (namesB ls))) := by
  have HN := Lib.hid hbn; have HE := Lib.hid h; have HF := Lib.hid hf; have hl : n ≤ 1048576 := by have := hf.len; omega
  clear hbn h hf
  go_enter Try.func86, Try.ntmps86
  go_wp2
  obtain ⟨wb, eb⟩ : ∃ wb, w.alloc (.cells #[.string p, .slice ha hn hcap, .slice ba n bcap] 27) = wb := ⟨_, rfl⟩
  rw [eb]
  have HB := Lib.hid (Blk.new w [.string p, .slice ha hn hcap, .slice ba n bcap] 27)
  have HX := Lib.hid ((Kp.refl (F := fun _ => False) w).alloc (.cells #[.string p, .slice ha hn hcap, .slice ba n bcap] 27))
  have eb2 : w.alloc (.cells [Value.string p, .slice ha hn hcap, .slice ba n bcap].toArray 27) = wb := eb
  rw [eb2] at HB
  rw [eb] at HX
  clear eb eb2
  go_loopw [4, 3] (fun iv ov wr => VarsOut wb ls n iv ov wr) (fun iv _ _ => n - (intOf iv).toNat)
  case atStart => exact ⟨0, Nat.zero_le _, rfl, Row.nil _ _ _ _, Kp.refl _⟩
  case round =>
    obtain ⟨i, hi, rfl, hrow, hex⟩ := hrel
    have b2 : wr.cell? ⟨w.heap.size, 2, none⟩ = some (.slice ba n bcap) := by rw [(HB.out.ext hex.out).cell']; rfl
    have XR := Lib.hid (HX.out.trans hex.out)
    by_cases hlt : i < n
    · have hlt' : i < ls.length := by rw [← HN.out]; exact hlt
      obtain ⟨l, hli⟩ : ∃ l, ls[i]? = some l := ⟨_, List.getElem?_eq_getElem hlt'⟩
      obtain ⟨b, off, a, cap, eao, hG, hb, hL, c0, c1, c2, c3, c4, c5, c6, c7⟩ := lit_at HE.out hli
      subst eao
      clear c1 c3 c4 c5 c6 c7
      have C2 := Lib.hid c2
      replace c0 := XR.out.cell c0 id
      obtain ⟨m, em⟩ : ∃ m, m = (termsOf l).length := ⟨_, rfl⟩
      rw [← em] at c2 C2
      have hm : m ≤ 1048576 := by rw [em]; exact HF.out.terms l (List.mem_of_getElem? hli)
      have HL := Lib.hid (And.intro hli (And.intro hL em))
      obtain ⟨k, ek⟩ : ∃ k, l.1 = k := ⟨_, rfl⟩
      rw [ek] at c0
      have HK := Lib.hid ek
      clear hli hlt' hL em hG hb ek c2
      by_cases h1 : k = 1
      · subst h1
        go_wp2
        clear c0 b2
        go_loopw [5, 3] (fun iv ov wr => NamesIn wb (namesB (ls.take i)) l m iv ov wr) (fun iv _ _ => m - (intOf iv).toNat)
        case atStart => exact ⟨0, Nat.zero_le _, rfl, by rw [namesIn_zero]; exact hrow.out, hex⟩
        case round =>
          obtain ⟨j, hj, rfl, hrow3, hex3⟩ := hrel
          have X3 := Lib.hid (HX.out.trans hex3.out)
          have b2 : wr.cell? ⟨w.heap.size, 2, none⟩ = some (.slice (some ⟨b, off, none⟩) n bcap) := by rw [(HB.out.ext hex3.out).cell']; rfl
          have c2 := X3.out.cell C2.out id
          by_cases hlt3 : j < m
          · have hlt4 : j < (termsOf l).length := by rw [← HL.out.2.2]; exact hlt3
            obtain ⟨t, ht⟩ : ∃ t, (termsOf l)[j]? = some t := ⟨_, List.getElem?_eq_getElem hlt4⟩
            obtain ⟨b5, off5, eao5, f0, f1, _⟩ := term_at (HL.out.2.1.terms.ext X3.out) ht
            subst eao5
            obtain ⟨kt, st, ⟨⟩⟩ := t
            simp only at f0 f1
            have HT := Lib.hid (namesIn_succ (namesB (ls.take i)) ht)
            clear ht hlt4
            have hlen : (namesIn (namesB (ls.take i)) l j).length ≤ 1099513724928 := by
              have h1 := namesIn_len (namesB (ls.take i)) l j
              have h2 : (namesB (ls.take i)).length ≤ (ls.take i).length * 1048576 := namesB_len fun x hx => HF.out.terms x (List.mem_of_mem_take hx)
              rw [List.length_take] at h2
              omega
            generalize eN : namesIn (namesB (ls.take i)) l j = N at *
            by_cases h2 : kt = 1
            · subst h2
              have hrow4 := hrow3.out
              obtain ⟨ao, cap4, eov, hcells, hle⟩ := hrow4.shape
              subst eov
              have HS := Lib.hid (fun (W : World) (hW : Ext wr W) => has_any N st ao N.length cap4 W rfl (hcells.ext hW) (by omega))
              have HR4 := Lib.hid hrow4
              clear hcells hrow4 hrow3
              go_wp2_with fail
              refine (HS.out _ ((Kp.refl _).alloc _)).mono ?_
              rintro e w1 ⟨v, rfl, hk1, rfl⟩
              have bb := Blk.new wr [.int .i64 1, .string st] 68
              have f2 : w1.cell? ⟨wr.heap.size, 1, none⟩ = some (.string st) := by rw [(bb.ext hk1).cell']; rfl
              have HE1 := Lib.hid (((Kp.refl _).alloc _).trans hk1)
              clear hk1 bb f0 f1
              cases hh : hasT N st
              · have HT2 := Lib.hid (HT.out.trans (if_pos ⟨HK.out, by first | rfl | trivial, hh⟩))
                go_wp2_with (first | (at_builtin; refine Halted.out ?_))
                refine Halted.mk (wp_appN elem_str rfl _ _ rfl ((hex3.out.trans HE1.out).alloc _) rfl ((HR4.out.ext HE1.out).alloc _) rfl (CellsAt.one _ _ _) (by rfl) (by simp [Value.oneCell']) (by omega) (by unfold maxLen; omega) ?_)
                intro v1 w2 hr1 hk1 hk2 _
                have HR5 := Lib.hid (And.intro hr1 hk1)
                clear hr1 hk1 hk2
                go_wp2
                go_roundw
                case rel =>
                  refine ⟨j + 1, by omega, by first | rfl | (congr 1; done) | (congr 1; omega), ?_, HR5.out.2⟩
                  have h := HR5.out.1
                  rw [HT2.out, ← strs_snoc, List.length_append]
                  exact h
                case measure => simp [intOf]; omega
              · have HT2 := Lib.hid (HT.out.trans (if_neg fun x => by rw [hh] at x; cases x.2.2))
                go_wp2
                go_roundw
                case rel => exact ⟨j + 1, by omega, by first | rfl | (congr 1; done) | (congr 1; omega), by rw [HT2.out]; exact HR4.out.ext HE1.out, hex3.out.trans HE1.out⟩
                case measure => simp [intOf]; omega
            · have HT2 := Lib.hid (HT.out.trans (if_neg fun x => h2 x.2.1))
              have b3 : (kt == 1) = false := by simp [h2]
              go_wp2
              go_roundw
              case rel => exact ⟨j + 1, by omega, by first | rfl | (congr 1; done) | (congr 1; omega), by rw [HT2.out]; exact hrow3.out.alloc _, hex3.out.alloc _⟩
              case measure => simp [intOf]; omega
          · have HA := Lib.hid (namesIn_all (namesB (ls.take i)) l (c := j) (by have := HL.out.2.2; omega))
            go_wp2
            go_roundw
            case rel =>
              refine ⟨i + 1, by omega, by first | rfl | (congr 1; done) | (congr 1; omega), ?_, hex3⟩
              have h := hrow3.out
              have e : namesB (ls.take (i + 1)) = namesL (namesB (ls.take i)) l := fold_take _ _ HL.out.1
              rw [HA.out, ← e] at h
              exact h
            case measure => simp [intOf]; omega
      · have b3 : (k == 1) = false := by simp [h1]
        have b4 : (k != 1) = true := by simp [h1]
        have HH := Lib.hid h1; clear h1
        go_wp2
        go_roundw
        case rel =>
          refine ⟨i + 1, by omega, by first | rfl | (congr 1; done) | (congr 1; omega), ?_, hex⟩
          have e : namesB (ls.take (i + 1)) = namesL (namesB (ls.take i)) l := fold_take _ _ HL.out.1
          rw [e]; unfold namesL; rw [if_neg (fun x => HH.out (HK.out.symm.trans x))]
          exact hrow.out
        case measure => simp [intOf]; omega
    · have e : ls.take i = ls := List.take_of_length_le (by have := HN.out; omega)
      have hrow4 := hrow.out
      rw [e] at hrow4
      obtain ⟨ao, cap4, eov, hcells, hle⟩ := hrow4.shape
      subst eov
      have HC := Lib.hid (And.intro hle hcells)
      clear hcells hrow4 hrow hle e
      go_wp2
      go_ret
      exact RetN.mk XR.out ⟨ao, _, rfl, HC.out⟩
end Go.Proofs.Ytcphalpcdcddpaa

/- The document's answer for join: parted, bound, Check, Vars. -/
namespace Go.Proofs.Ytcphalpcdcddpaa
open Go.RowKit
set_option linter.unusedVariables false

set_option maxRecDepth 100000 in
theorem bound_any (N : List ByteArray) (ao : Option Addr) (m cap : Nat) (k : Int) (s : ByteArray) (w : World) (hm : m = N.length) (h : CellsAt w ao (strs N)) (hl : m ≤ 4611686018427387904) :
    Calls Try.prog 87 #[termV k s, .slice ao m cap] w (RetN w fun w' v => v = .bool (safeT N false (k, s, ()))) := by
  by_cases h2 : k = 2
  · subst h2
    go_enter Try.func87, Try.ntmps87
    go_wp2
    go_ret
    exact RetN.mk ((Kp.refl w).alloc _) (by unfold safeT; simp)
  · have b2 : (k == 2) = false := by simp [h2]
    by_cases h34 : k = 3 ∨ k = 4
    · rcases h34 with rfl | rfl
      all_goals
        clear h2 b2
        go_enter Try.func87, Try.ntmps87
        go_wp2
        go_ret
        exact RetN.mk ((Kp.refl w).alloc _) (by unfold safeT; simp)
    · have b3 : (k == 3) = false := by simp; exact fun e => h34 (.inl e)
      have b4 : (k == 4) = false := by simp; exact fun e => h34 (.inr e)
      have HS := Lib.hid (fun (W : World) (hW : Ext w W) => has_any N s ao m cap W hm (h.ext hW) hl)
      have HH := Lib.hid (And.intro h2 h34); clear h2 h34 h hm
      go_enter Try.func87, Try.ntmps87
      go_wp2_with fail
      refine (HS.out _ ((Kp.refl _).alloc _)).mono ?_
      rintro e w1 ⟨v, rfl, hk1, rfl⟩
      go_wp2
      go_ret
      refine RetN.mk (((Kp.refl w).alloc _).trans hk1) ?_
      obtain ⟨h2, h34⟩ := HH.out
      show Value.bool (hasT N s) = _
      refine congrArg Value.bool ?_
      unfold safeT
      rw [if_neg h2]
      cases hh : hasT N s
      · symm; apply decide_eq_false; rintro (x | x | x)
        · exact h34 (.inl x)
        · exact h34 (.inr x)
        · cases x
      · symm; exact decide_eq_true (.inr (.inr rfl))

def AggsTo (w0 : World) (ts : List TermZ) (n : Nat) (iv av : Value) (w : World) : Prop := ∃ i a : Nat, i ≤ n ∧ a ≤ i ∧ iv = .int .i64 i ∧ av = .int .i64 a ∧ Hid (a = aggs (ts.take i)) ∧ Hid (Ext w0 w)
set_option maxRecDepth 100000 in
set_option maxHeartbeats 4000000 in
theorem parted_any (p : ByteArray) (hs : List TermZ) (ls : List LitZ) (ha : Option Addr) (hn hcap : Nat) (ba : Option Addr) (n bcap : Nat) (w : World) (G : Nat → Prop) (hhn : hn = hs.length) (hh : TermsAt w G ha hs) (hhl : hn ≤ 1048576) (hbn : n = ls.length) (h : LitsAt w G ba ls) (hf : Fit ls) :
    Calls Try.prog 85 #[ruleV p ha hn hcap ba n bcap] w (RetN w fun w' v => v = .bool (parted ((p, hs, ()), ls, ()))) := by
  have HN := Lib.hid hbn; have HE := Lib.hid h; have HF := Lib.hid hf; have hl : n ≤ 1048576 := by have := hf.len; omega
  have HHN := Lib.hid hhn; have HHE := Lib.hid hh
  have HKinds := Lib.hid (fun (W : World) (hW : Ext w W) => refKinds_any hs 7 ha hn hcap W G hhn (hh.ext hW) (by omega))
  have HKL := Lib.hid (fun (W : World) (hW : Ext w W) (l : LitZ) (hl : l ∈ ls) (a : Option Addr) (cap : Nat) (hin : LitIn w G l a cap) => refKinds_any (termsOf l) 3 a (termsOf l).length cap W G rfl (hin.terms.ext hW) (by have := hf.terms l hl; omega))
  clear hbn h hf hhn hh
  go_enter Try.func85, Try.ntmps85
  go_wp2
  obtain ⟨wb, eb⟩ : ∃ wb, w.alloc (.cells #[.string p, .slice ha hn hcap, .slice ba n bcap] 27) = wb := ⟨_, rfl⟩
  rw [eb]
  have HB := Lib.hid (Blk.new w [.string p, .slice ha hn hcap, .slice ba n bcap] 27)
  have HX := Lib.hid ((Kp.refl (F := fun _ => False) w).alloc (.cells #[.string p, .slice ha hn hcap, .slice ba n bcap] 27))
  have eb2 : w.alloc (.cells [Value.string p, .slice ha hn hcap, .slice ba n bcap].toArray 27) = wb := eb
  rw [eb2] at HB
  rw [eb] at HX
  clear eb eb2
  go_loopw [4, 3] (fun iv av wr => AggsTo wb hs hn iv av wr) (fun iv _ _ => hn - (intOf iv).toNat)
  case atStart => exact ⟨0, 0, Nat.zero_le _, Nat.le_refl _, rfl, rfl, rfl, Kp.refl _⟩
  case round =>
    obtain ⟨i, a, hi, hai, rfl, rfl, hagg, hex⟩ := hrel
    have b1 : wr.cell? ⟨w.heap.size, 1, none⟩ = some (.slice ha hn hcap) := by rw [(HB.out.ext hex.out).cell']; rfl
    have XR := Lib.hid (HX.out.trans hex.out)
    by_cases hlt : i < hn
    · have hlt' : i < hs.length := by rw [← HHN.out]; exact hlt
      obtain ⟨t, ht⟩ : ∃ t, hs[i]? = some t := ⟨_, List.getElem?_eq_getElem hlt'⟩
      obtain ⟨b, off, eao, hc0, hc1, _⟩ := term_at (HHE.out.ext XR.out) ht
      subst eao
      obtain ⟨k, s, ⟨⟩⟩ := t
      simp only at hc0 hc1
      have HT := Lib.hid (aggs_take ht)
      clear ht hlt'
      by_cases h4 : 4 ≤ k
      · go_wp2
        go_roundw
        case rel => exact ⟨i + 1, a + 1, by omega, by omega, by first | rfl | (congr 1; done) | (congr 1; omega), by first | rfl | (congr 1; done) | (congr 1; omega), Lib.hid (by rw [HT.out, ← hagg.out]; simp [h4]), hex⟩
        case measure => simp [intOf]; omega
      · go_wp2
        go_roundw
        case rel => exact ⟨i + 1, a, by omega, by omega, by first | rfl | (congr 1; done) | (congr 1; omega), by first | rfl | trivial, Lib.hid (by rw [HT.out, ← hagg.out]; simp [h4]), hex⟩
        case measure => simp [intOf]; omega
    · have e : hs.take i = hs := List.take_of_length_le (by have := HHN.out; omega)
      have HA := Lib.hid hagg.out
      rw [e] at HA
      clear e hagg
      go_wp2_with fail
      refine (HKinds.out _ XR.out).mono ?_
      rintro e w1 ⟨v, rfl, hk1, rfl⟩
      have X1 := Lib.hid (hex.out.trans hk1)
      have d1 : w1.cell? ⟨w.heap.size, 1, none⟩ = some (.slice ha hn hcap) := by rw [(HB.out.ext X1.out).cell']; rfl
      clear hk1 b1
      have hno : ∀ {q : Prop}, headOk hs = false → q = (parted ((p, hs, ()), ls, ()) = false) → q := fun x y => by rw [y]; unfold parted; rw [x]; rfl
      have HNo := Lib.hid (fun (x : headOk hs = false) => (show parted ((p, hs, ()), ls, ()) = false by unfold parted; rw [x]; rfl))
      clear hno
      cases hkd : kinds hs 7
      · go_wp2
        go_ret
        refine RetN.mk (HX.out.trans X1.out) (congrArg Value.bool ?_)
        rw [HNo.out (by unfold headOk; rw [hkd]; rfl)]
      · by_cases ha1 : 1 < a
        · have ha1' : (1 : Int) < (a : Int) := by omega
          go_wp2
          go_ret
          refine RetN.mk (HX.out.trans X1.out) (congrArg Value.bool ?_)
          rw [HNo.out (by have := HA.out; unfold headOk; rw [decide_eq_false (show ¬ aggs hs < 2 by omega)]; simp)]
        · have ha1' : ¬ (1 : Int) < (a : Int) := by omega
          by_cases h64 : 64 < hn
          · have h64' : (64 : Int) < (hn : Int) := by omega
            go_wp2
            go_ret
            refine RetN.mk (HX.out.trans X1.out) (congrArg Value.bool ?_)
            rw [HNo.out (by have := HHN.out; unfold headOk; rw [decide_eq_false (show ¬ hs.length ≤ 64 by omega)]; simp)]
          · have h64' : ¬ (64 : Int) < (hn : Int) := by omega
            have HOk := Lib.hid (show headOk hs = true by have g1 := HA.out; have g2 := HHN.out; unfold headOk; rw [hkd, decide_eq_true (show aggs hs < 2 by omega), decide_eq_true (show hs.length ≤ 64 by omega)]; rfl)
            go_wp2
            clear d1
            go_loopw [5] (fun iv wr => AllTo wb ls litOk n iv wr) (fun iv _ => n - (intOf iv).toNat)
            case atStart => exact ⟨0, Nat.zero_le _, rfl, rfl, X1⟩
            case round =>
              obtain ⟨q, hq, rfl, hall, hex3⟩ := hrel
              have X3 := Lib.hid (HX.out.trans hex3.out)
              have b2 : wr.cell? ⟨w.heap.size, 2, none⟩ = some (.slice ba n bcap) := by rw [(HB.out.ext hex3.out).cell']; rfl
              by_cases hlt3 : q < n
              · have hlt4 : q < ls.length := by rw [← HN.out]; exact hlt3
                obtain ⟨l, hli⟩ : ∃ l, ls[q]? = some l := ⟨_, List.getElem?_eq_getElem hlt4⟩
                obtain ⟨b, off, a2, cap2, eao, hG, hb, hL, c0, c1, c2, c3, c4, c5, c6, c7⟩ := lit_at HE.out hli
                subst eao
                replace c0 := X3.out.cell c0 id
                replace c1 := X3.out.cell c1 id
                replace c2 := X3.out.cell c2 id
                replace c3 := X3.out.cell c3 id
                replace c4 := X3.out.cell c4 id
                replace c5 := X3.out.cell c5 id
                replace c6 := X3.out.cell c6 id
                replace c7 := X3.out.cell c7 id
                obtain ⟨mm, emm⟩ : ∃ mm, mm = (termsOf l).length := ⟨_, rfl⟩
                have HKL2 := HKL.out
                have hk0 := fun (W : World) (hW : Ext w W) => HKL.out W hW l (List.mem_of_getElem? hli) a2 cap2 hL
                rw [← emm] at c2 hk0
                have HKl := Lib.hid hk0
                have HF2 := Lib.hid (And.intro hL.left hL.right)
                have HL := Lib.hid (And.intro hli emm)
                clear hli hlt4 hL hG hb emm hk0 HKL2
                obtain ⟨k, ek⟩ : ∃ k, l.1 = k := ⟨_, rfl⟩
                obtain ⟨op, eop⟩ : ∃ op, opOf l = op := ⟨_, rfl⟩
                obtain ⟨lk, elk⟩ : ∃ lk, (leftOf l).1 = lk := ⟨_, rfl⟩
                obtain ⟨lt, elt⟩ : ∃ lt, (leftOf l).2.1 = lt := ⟨_, rfl⟩
                obtain ⟨rk, erk⟩ : ∃ rk, (rightOf l).1 = rk := ⟨_, rfl⟩
                obtain ⟨rt, ert⟩ : ∃ rt, (rightOf l).2.1 = rt := ⟨_, rfl⟩
                rw [ek] at c0
                rw [eop] at c3
                rw [elk] at c4
                rw [elt] at c5
                rw [erk] at c6
                rw [ert] at c7
                have eleft : leftOf l = (lk, lt, ()) := by rw [← elk, ← elt]
                have eright : rightOf l = (rk, rt, ()) := by rw [← erk, ← ert]
                generalize predOf l = s1 at c1
                rw [eleft, eright] at HF2
                have HK := Lib.hid (And.intro ek (And.intro eop (And.intro eleft eright))); clear ek eop elk elt erk ert eleft eright
                have HQN := Lib.hid (fun (x : litOk l = false) => (show parted ((p, hs, ()), ls, ()) = false by unfold parted; rw [all_no HL.out.1 x]; simp))
                have HQY := Lib.hid (fun (x : litOk l = true) => (show (ls.take (q + 1)).all litOk = true by rw [all_take HL.out.1, hall.out, x]; rfl))
                by_cases h12 : k = 1 ∨ k = 2
                · have HL12 := Lib.hid (show litOk l = (decide ((termsOf l).length ≤ 64) && kinds (termsOf l) 3) by unfold litOk; rw [HK.out.1, if_pos h12])
                  rcases h12 with rfl | rfl
                  · go_wp2_with fail
                    refine (HKl.out _ (X3.out.alloc _)).mono ?_
                    rintro e w5 ⟨v, rfl, hk5, rfl⟩
                    have X5 := Lib.hid ((hex3.out.alloc _).trans hk5)
                    have d2 := (Blk.new wr [.int .i64 1, .string s1, .slice a2 mm cap2, .int .i64 op, .int .i64 lk, .string lt, .int .i64 rk, .string rt] 70).ext hk5
                    have d3 : w5.cell? ⟨wr.heap.size, 2, none⟩ = some (.slice a2 mm cap2) := by rw [d2.cell']; rfl
                    clear hk5 d2 c0 c1 c2 c3 c4 c5 c6 c7 b2
                    cases hkd2 : kinds (termsOf l) 3
                    · go_wp2
                      go_ret
                      exact RetN.mk (HX.out.trans X5.out) (congrArg Value.bool (by rw [HQN.out (by rw [HL12.out, hkd2, Bool.and_false])]))
                    · by_cases g64 : 64 < mm
                      · have g64' : (64 : Int) < (mm : Int) := by omega
                        go_wp2
                        go_ret
                        exact RetN.mk (HX.out.trans X5.out) (congrArg Value.bool (by rw [HQN.out (by rw [HL12.out, decide_eq_false (by have := HL.out.2; omega)]; rfl)]))
                      · have g64' : ¬ (64 : Int) < (mm : Int) := by omega
                        go_wp2
                        go_roundw
                        case rel => exact ⟨q + 1, by omega, by first | rfl | (congr 1; done) | (congr 1; omega), HQY.out (by rw [HL12.out, hkd2, decide_eq_true (by have := HL.out.2; omega)]; rfl), X5⟩
                        case measure => simp [intOf]; omega
                  · go_wp2_with fail
                    refine (HKl.out _ (X3.out.alloc _)).mono ?_
                    rintro e w5 ⟨v, rfl, hk5, rfl⟩
                    have X5 := Lib.hid ((hex3.out.alloc _).trans hk5)
                    have d2 := (Blk.new wr [.int .i64 2, .string s1, .slice a2 mm cap2, .int .i64 op, .int .i64 lk, .string lt, .int .i64 rk, .string rt] 70).ext hk5
                    have d3 : w5.cell? ⟨wr.heap.size, 2, none⟩ = some (.slice a2 mm cap2) := by rw [d2.cell']; rfl
                    clear hk5 d2 c0 c1 c2 c3 c4 c5 c6 c7 b2
                    cases hkd2 : kinds (termsOf l) 3
                    · go_wp2
                      go_ret
                      exact RetN.mk (HX.out.trans X5.out) (congrArg Value.bool (by rw [HQN.out (by rw [HL12.out, hkd2, Bool.and_false])]))
                    · by_cases g64 : 64 < mm
                      · have g64' : (64 : Int) < (mm : Int) := by omega
                        go_wp2
                        go_ret
                        exact RetN.mk (HX.out.trans X5.out) (congrArg Value.bool (by rw [HQN.out (by rw [HL12.out, decide_eq_false (by have := HL.out.2; omega)]; rfl)]))
                      · have g64' : ¬ (64 : Int) < (mm : Int) := by omega
                        go_wp2
                        go_roundw
                        case rel => exact ⟨q + 1, by omega, by first | rfl | (congr 1; done) | (congr 1; omega), HQY.out (by rw [HL12.out, hkd2, decide_eq_true (by have := HL.out.2; omega)]; rfl), X5⟩
                        case measure => simp [intOf]; omega
                · have n1 : (k == 1) = false := by simp; exact fun e => h12 (.inl e)
                  have n2 : (k == 2) = false := by simp; exact fun e => h12 (.inr e)
                  by_cases h3 : k = 3
                  · have n3 : (k == 3) = true := by simp [h3]
                    have HL3 := Lib.hid (show litOk l = (decide (1 ≤ op ∧ op ≤ 4) && kinds [(lk, lt, ()), (rk, rt, ())] 3) by unfold litOk; rw [HK.out.1, if_neg h12, if_pos h3, HK.out.2.1, HK.out.2.2.1, HK.out.2.2.2])
                    have HH := Lib.hid (And.intro h12 h3); clear h12 h3
                    by_cases o1 : op < 1
                    · go_wp2
                      go_ret
                      exact RetN.mk (X3.out.alloc _) (congrArg Value.bool (by rw [HQN.out (by rw [HL3.out, decide_eq_false (by omega)]; rfl)]))
                    · by_cases o4 : 4 < op
                      · go_wp2
                        go_ret
                        exact RetN.mk (X3.out.alloc _) (congrArg Value.bool (by rw [HQN.out (by rw [HL3.out, decide_eq_false (by omega)]; rfl)]))
                      · have HT := Lib.hid (fun (W : World) (g : Nat) (hg : g = W.heap.size) => refKinds_any [(lk, lt, ()), (rk, rt, ())] 3 (some ⟨g, 0, none⟩) 2 2 _ _ rfl (hg ▸ terms_two W lk lt rk rt HF2.out.1.1 HF2.out.2.1 HF2.out.1.2 HF2.out.2.2 68) (by decide))
                        go_wp2_with fail
                        refine (HT.out _ _ (alloc_size _ _).symm).mono ?_
                        rintro e w5 ⟨v, rfl, hk5, rfl⟩
                        have X5 := Lib.hid (((hex3.out.alloc _).alloc _).trans hk5)
                        clear hk5 c0 c1 c2 c3 c4 c5 c6 c7 b2
                        cases hkd2 : kinds [(lk, lt, ()), (rk, rt, ())] 3
                        · go_wp2
                          go_ret
                          exact RetN.mk (HX.out.trans X5.out) (congrArg Value.bool (by rw [HQN.out (by rw [HL3.out, hkd2, Bool.and_false])]))
                        · go_wp2
                          go_roundw
                          case rel => exact ⟨q + 1, by omega, by first | rfl | (congr 1; done) | (congr 1; omega), HQY.out (by rw [HL3.out, hkd2, decide_eq_true (by omega)]; rfl), X5⟩
                          case measure => simp [intOf]; omega
                  · have n3 : (k == 3) = false := by simp [h3]
                    have HH := Lib.hid (And.intro h12 h3); clear h12 h3
                    go_wp2
                    go_ret
                    exact RetN.mk (X3.out.alloc _) (congrArg Value.bool (by rw [HQN.out (by unfold litOk; rw [HK.out.1, if_neg HH.out.1, if_neg HH.out.2])]))
              · have e : ls.take q = ls := List.take_of_length_le (by have := HN.out; omega)
                have HC := Lib.hid hall.out
                rw [e] at HC
                clear e hall
                have hqn : ¬ (q : Int) < (n : Int) := by omega
                go_wp2
                go_ret
                exact RetN.mk X3.out (congrArg Value.bool (by unfold parted; rw [HOk.out, HC.out]; rfl))
end Go.Proofs.Ytcphalpcdcddpaa

/- The document's answer for join: Check, Vars. -/
namespace Go.Proofs.Ytcphalpcdcddpaa
open Go.RowKit
set_option linter.unusedVariables false

set_option maxRecDepth 100000 in
set_option maxHeartbeats 8000000 in
theorem refCheck_any (p : ByteArray) (hs : List TermZ) (ls : List LitZ) (ha : Option Addr) (hn hcap : Nat) (ba : Option Addr) (n bcap : Nat) (w : World) (G : Nat → Prop) (hhn : hn = hs.length) (hh : TermsAt w G ha hs) (hhl : hn ≤ 1048576) (hbn : n = ls.length) (h : LitsAt w G ba ls) (hf : Fit ls) :
    Calls Try.prog 63 #[ruleV p ha hn hcap ba n bcap] w (RetN w fun w' v => v = .int .i64 (checkR ((p, hs, ()), ls, ()))) := by
  have HN := Lib.hid hbn; have HE := Lib.hid h; have HF := Lib.hid hf; have hl : n ≤ 1048576 := by have := hf.len; omega
  have HHN := Lib.hid hhn; have HHE := Lib.hid hh
  have HParted := Lib.hid (fun (W : World) (hW : Ext w W) => parted_any p hs ls ha hn hcap ba n bcap W G hhn (hh.ext hW) hhl hbn (h.ext hW) hf)
  obtain ⟨m, em⟩ : ∃ m, m = (namesB ls).length := ⟨_, rfl⟩
  have HVars0 := fun (W : World) (hW : Ext w W) => names_any p ha hn hcap ls ba n bcap W G hbn (h.ext hW) hf
  rw [← em] at HVars0
  have HVars := Lib.hid HVars0
  have EM := Lib.hid em
  clear HVars0 em hbn h hf hhn hh
  go_enter Try.func63, Try.ntmps63
  have bb := Blk.new w [.string p, .slice ha hn hcap, .slice ba n bcap] 27
  go_wp2_with fail
  refine (HParted.out _ ((Kp.refl _).alloc _)).mono ?_
  rintro e w1 ⟨v, rfl, hk1, rfl⟩
  have B1 := Lib.hid (bb.ext hk1)
  have c0 : w1.cell? ⟨w.heap.size, 0, none⟩ = some (.string p) := by rw [B1.out.cell']; rfl
  have c1 : w1.cell? ⟨w.heap.size, 1, none⟩ = some (.slice ha hn hcap) := by rw [B1.out.cell']; rfl
  have c2 : w1.cell? ⟨w.heap.size, 2, none⟩ = some (.slice ba n bcap) := by rw [B1.out.cell']; rfl
  have X1 := Lib.hid (((Kp.refl _).alloc _).trans hk1)
  clear hk1 bb
  cases hpt : parted ((p, hs, ()), ls, ())
  · go_wp2
    go_ret
    exact RetN.mk X1.out (by unfold checkR; rw [if_neg (by rw [hpt]; simp)]; rfl)
  · have HP := Lib.hid hpt
    clear hpt
    go_wp2_with fail
    refine (HVars.out _ X1.out).mono ?_
    rintro e w2 ⟨v, rfl, hk2, ao, cap, rfl, hle, hcells⟩
    have hm : m ≤ 4611686018427387904 := by
      have h1 := namesB_len HF.out.terms
      have h2 := HF.out.len
      have h3 := Nat.mul_le_mul_right 1048576 h2
      have h4 := EM.out
      omega
    have B2 := Lib.hid (B1.out.ext hk2)
    have HX2 := Lib.hid (X1.out.trans hk2)
    have HSafe := Lib.hid (fun (W : World) (hW : Ext w2 W) (k : Int) (s : ByteArray) => bound_any (namesB ls) ao m cap k s W EM.out (hcells.ext hW) hm)
    have HHas := Lib.hid (fun (W : World) (hW : Ext w2 W) (s : ByteArray) => has_any (namesB ls) s ao m cap W EM.out (hcells.ext hW) hm)
    clear hk2 hle hcells c0 c1 c2
    go_wp2
    go_loopw [4] (fun iv wr => AllTo w2 hs (safeT (namesB ls) false) hn iv wr) (fun iv _ => hn - (intOf iv).toNat)
    case atStart => exact ⟨0, Nat.zero_le _, rfl, rfl, Kp.refl _⟩
    case round =>
      obtain ⟨j, hj, rfl, hall3, hex3⟩ := hrel
      have X3 := Lib.hid (HX2.out.trans hex3.out)
      have b1 : wr.cell? ⟨w.heap.size, 1, none⟩ = some (.slice ha hn hcap) := by rw [(B2.out.ext hex3.out).cell']; rfl
      by_cases hlt3 : j < hn
      · have hlt4 : j < hs.length := by rw [← HHN.out]; exact hlt3
        obtain ⟨t, ht⟩ : ∃ t, hs[j]? = some t := ⟨_, List.getElem?_eq_getElem hlt4⟩
        obtain ⟨b2, off2, eao2, f0, f1, _⟩ := term_at (HHE.out.ext X3.out) ht
        subst eao2
        obtain ⟨kt, st, ⟨⟩⟩ := t
        simp only at f0 f1
        have HT := Lib.hid ht
        clear ht hlt4
        go_wp2_with fail
        refine (HSafe.out _ hex3.out kt st).mono ?_
        rintro e w3 ⟨v, rfl, hk3, rfl⟩
        have X4 := Lib.hid (hex3.out.trans hk3)
        clear hk3 f0 f1
        cases hq : safeT (namesB ls) false (kt, st, ())
        · go_wp2
          go_ret
          refine RetN.mk (HX2.out.trans X4.out) ?_
          unfold checkR safeR
          rw [if_pos HP.out, if_neg (by rw [all_no HT.out hq]; simp)]; rfl
        · go_wp2
          go_roundw
          case rel => exact ⟨j + 1, by omega, by first | rfl | (congr 1; done) | (congr 1; omega), by rw [all_take HT.out, hall3.out, hq]; rfl, X4⟩
          case measure => simp [intOf]; omega
      · have e : hs.take j = hs := List.take_of_length_le (by have := HHN.out; omega)
        have HB := Lib.hid hall3.out
        rw [e] at HB
        clear e hall3
        have hltn : ¬ (j : Int) < (hn : Int) := by omega
        go_wp2
        clear b1
        go_loopw [5] (fun iv wr => AllTo w2 ls (safeL (namesB ls)) n iv wr) (fun iv _ => n - (intOf iv).toNat)
        case atStart => exact ⟨0, Nat.zero_le _, rfl, rfl, hex3⟩
        case round =>
          obtain ⟨q, hq, rfl, hall4, hex4⟩ := hrel
          have X5 := Lib.hid (HX2.out.trans hex4.out)
          have b2 : wr.cell? ⟨w.heap.size, 2, none⟩ = some (.slice ba n bcap) := by rw [(B2.out.ext hex4.out).cell']; rfl
          by_cases hlt5 : q < n
          · have hlt6 : q < ls.length := by rw [← HN.out]; exact hlt5
            obtain ⟨l, hli⟩ : ∃ l, ls[q]? = some l := ⟨_, List.getElem?_eq_getElem hlt6⟩
            obtain ⟨b, off, a, cap2, eao, hG, hb, hL, c0, c1, c2, c3, c4, c5, c6, c7⟩ := lit_at HE.out hli
            subst eao
            replace c0 := X5.out.cell c0 id
            replace c1 := X5.out.cell c1 id
            replace c2 := X5.out.cell c2 id
            replace c3 := X5.out.cell c3 id
            replace c4 := X5.out.cell c4 id
            replace c5 := X5.out.cell c5 id
            replace c6 := X5.out.cell c6 id
            replace c7 := X5.out.cell c7 id
            have HL := Lib.hid (And.intro hli hL)
            have hq2 : (q : Int) < (n : Int) := by omega
            obtain ⟨mm, emm⟩ : ∃ mm, mm = (termsOf l).length := ⟨_, rfl⟩
            rw [← emm] at c2
            have HM := Lib.hid emm
            have hmm : mm ≤ 1048576 := by rw [emm]; exact HF.out.terms l (List.mem_of_getElem? hli)
            have HLok := Lib.hid (show l.1 = 2 → kinds (termsOf l) 3 = true by
              intro h2
              have h3 := HP.out
              unfold parted at h3
              rw [Bool.and_eq_true, List.all_eq_true] at h3
              have h4 := h3.2 l (List.mem_of_getElem? hli)
              unfold litOk at h4
              rw [if_pos (.inr h2), Bool.and_eq_true] at h4
              exact h4.2)
            clear hli hlt6 hL hG hb emm
            obtain ⟨k, ek⟩ : ∃ k, l.1 = k := ⟨_, rfl⟩
            obtain ⟨lk, elk⟩ : ∃ lk, (leftOf l).1 = lk := ⟨_, rfl⟩
            obtain ⟨lt, elt⟩ : ∃ lt, (leftOf l).2.1 = lt := ⟨_, rfl⟩
            obtain ⟨rk, erk⟩ : ∃ rk, (rightOf l).1 = rk := ⟨_, rfl⟩
            obtain ⟨rt, ert⟩ : ∃ rt, (rightOf l).2.1 = rt := ⟨_, rfl⟩
            rw [ek] at c0 HLok
            rw [elk] at c4
            rw [elt] at c5
            rw [erk] at c6
            rw [ert] at c7
            have eleft : leftOf l = (lk, lt, ()) := by rw [← elk, ← elt]
            have eright : rightOf l = (rk, rt, ()) := by rw [← erk, ← ert]
            generalize predOf l = s1 at c1
            generalize opOf l = s3 at c3
            have HK := Lib.hid (And.intro ek (And.intro eleft eright)); clear ek elk elt erk ert eleft eright
            obtain ⟨wx, ewx⟩ : ∃ wx, wr.alloc (.cells #[.int .i64 k, .string s1, .slice a mm cap2, .int .i64 s3, .int .i64 lk, .string lt, .int .i64 rk, .string rt] 70) = wx := ⟨_, rfl⟩
            have hB := Blk.new wr [.int .i64 k, .string s1, .slice a mm cap2, .int .i64 s3, .int .i64 lk, .string lt, .int .i64 rk, .string rt] 70
            have hWX : Ext w2 wx := by rw [← ewx]; exact hex4.out.alloc _
            have hXX : Ext w wx := HX2.out.trans hWX
            obtain ⟨g, eg⟩ : ∃ g, g = wr.heap.size := ⟨_, rfl⟩
            have HGB := Lib.hid hB
            rw [← eg] at HGB
            have ewx2 : wr.alloc (.cells [Value.int .i64 k, .string s1, .slice a mm cap2, .int .i64 s3, .int .i64 lk, .string lt, .int .i64 rk, .string rt].toArray 70) = wx := ewx
            rw [ewx2] at HGB
            have HWX := Lib.hid hWX
            have HXX := Lib.hid hXX
            have EG := Lib.hid (And.intro eg ewx)
            clear hB hWX hXX eg ewx ewx2
            by_cases h3 : k = 3
            · have b3 : (k == 3) = true := by simp [h3]
              have n2 : ¬ k = 2 := by omega
              have HH3 := Lib.hid (And.intro h3 n2); clear h3 n2
              go_wp2_with fail
              rw [EG.out.2, ← EG.out.1]
              refine (HSafe.out _ HWX.out lk lt).mono ?_
              rintro e w5 ⟨v, rfl, hk5, rfl⟩
              have X6 := Lib.hid hk5
              have d6 : w5.cell? ⟨g, 6, none⟩ = some (.int .i64 rk) := by rw [(HGB.out.ext hk5).cell']; rfl
              have d7 : w5.cell? ⟨g, 7, none⟩ = some (.string rt) := by rw [(HGB.out.ext hk5).cell']; rfl
              clear hk5 c0 c1 c2 c3 c4 c5 c6 c7
              cases hsl : safeT (namesB ls) false (lk, lt, ())
              · go_wp2
                go_ret
                refine RetN.mk (HXX.out.trans X6.out) ?_
                have hno : safeL (namesB ls) l = false := by unfold safeL; rw [if_pos (HK.out.1.trans HH3.out.1), HK.out.2.1, hsl]; rfl
                unfold checkR safeR
                rw [if_pos HP.out, if_neg (by rw [all_no HL.out.1 hno]; simp)]; rfl
              · go_wp2_with fail
                refine (HSafe.out _ (HWX.out.trans X6.out) rk rt).mono ?_
                rintro e w7 ⟨v, rfl, hk7, rfl⟩
                have X7 := Lib.hid (X6.out.trans hk7)
                clear hk7 d6 d7
                cases hsr : safeT (namesB ls) false (rk, rt, ())
                · go_wp2
                  go_ret
                  refine RetN.mk (HXX.out.trans X7.out) ?_
                  have hno : safeL (namesB ls) l = false := by unfold safeL; rw [if_pos (HK.out.1.trans HH3.out.1), HK.out.2.1, HK.out.2.2, hsr, Bool.and_false]
                  unfold checkR safeR
                  rw [if_pos HP.out, if_neg (by rw [all_no HL.out.1 hno]; simp)]; rfl
                · have HSL := Lib.hid (show safeL (namesB ls) l = (termsOf l).all (fun t => if k = 2 then safeT (namesB ls) true t else true) by
                    unfold safeL; rw [if_pos (HK.out.1.trans HH3.out.1), HK.out.2.1, HK.out.2.2, hsl, hsr]
                    exact (List.all_eq_true.2 (fun t _ => if_neg HH3.out.2)).symm)
                  have HX7 := X7
                  clear X7
                  go_wp2
                  go_loopw [7] (fun iv wr => AllTo wx (termsOf l) (fun t => if k = 2 then safeT (namesB ls) true t else true) mm iv wr) (fun iv _ => mm - (intOf iv).toNat)
                  case atStart => exact ⟨0, Nat.zero_le _, rfl, rfl, HX7.out⟩
                  case round =>
                    obtain ⟨z, hz, rfl, hall8, hex8⟩ := hrel
                    have X8 := Lib.hid (HXX.out.trans hex8.out)
                    have d0 : wr.cell? ⟨g, 0, none⟩ = some (.int .i64 k) := by rw [(HGB.out.ext hex8.out).cell']; rfl
                    have d2 : wr.cell? ⟨g, 2, none⟩ = some (.slice a mm cap2) := by rw [(HGB.out.ext hex8.out).cell']; rfl
                    by_cases h2 : k = 2
                    · have b2 : (k == 2) = true := by simp [h2]
                      have HH2 := Lib.hid h2; clear h2
                      by_cases hlt7 : z < mm
                      · have hlt8 : z < (termsOf l).length := by rw [← HM.out]; exact hlt7
                        obtain ⟨t, ht⟩ : ∃ t, (termsOf l)[z]? = some t := ⟨_, List.getElem?_eq_getElem hlt8⟩
                        obtain ⟨b9, off9, eao9, f0, f1, _⟩ := term_at (HL.out.2.terms.ext X8.out) ht
                        subst eao9
                        obtain ⟨kt, st, ⟨⟩⟩ := t
                        simp only at f0 f1
                        have HT := Lib.hid ht
                        have hkt : 1 ≤ kt ∧ kt ≤ 3 := by
                          have h5 := HLok.out HH2.out
                          unfold kinds at h5
                          exact of_decide_eq_true (List.all_eq_true.1 h5 _ (List.mem_of_getElem? ht))
                        have HKT := Lib.hid hkt
                        clear ht hlt8 hkt
                        by_cases h1 : kt = 1
                        · have n1 : (kt == 1) = true := by simp [h1]
                          have hst : safeT (namesB ls) true (kt, st, ()) = hasT (namesB ls) st := by
                            unfold safeT; rw [if_neg (by simp only; omega)]
                            cases hasT (namesB ls) st
                            · exact decide_eq_false (by simp only; rintro (x | x | x) <;> first | omega | cases x)
                            · exact decide_eq_true (.inr (.inr rfl))
                          have HST := Lib.hid hst; clear h1 hst
                          go_wp2_with fail
                          refine (HHas.out _ ((HWX.out.trans hex8.out).alloc _) st).mono ?_
                          rintro e w9 ⟨v, rfl, hk9, rfl⟩
                          have X9 := Lib.hid ((hex8.out.alloc _).trans hk9)
                          clear hk9 f0 f1 d0 d2
                          cases hqq : hasT (namesB ls) st
                          · go_wp2
                            go_ret
                            refine RetN.mk (HXX.out.trans X9.out) ?_
                            have hno : safeL (namesB ls) l = false := by rw [HSL.out]; exact all_no HT.out (by show (if k = 2 then _ else _) = false; rw [if_pos HH2.out, HST.out]; exact hqq)
                            unfold checkR safeR
                            rw [if_pos HP.out, if_neg (by rw [all_no HL.out.1 hno]; simp)]; rfl
                          · go_wp2
                            go_roundw
                            case rel => exact ⟨z + 1, by omega, by first | rfl | (congr 1; done) | (congr 1; omega), by rw [all_take HT.out, hall8.out]; show (if k = 2 then _ else _) = true; rw [if_pos HH2.out, HST.out]; exact hqq, X9⟩
                            case measure => simp [intOf]; omega
                        · have n1 : (kt == 1) = false := by simp [h1]
                          have hst : safeT (namesB ls) true (kt, st, ()) = true := by
                            have h3 := HKT.out
                            unfold safeT
                            by_cases h2 : kt = 2
                            · rw [if_pos h2]
                            · rw [if_neg h2]; exact decide_eq_true (.inl (by simp only; omega))
                          have HST := Lib.hid hst; clear h1 hst
                          go_wp2
                          go_roundw
                          case rel => exact ⟨z + 1, by omega, by first | rfl | (congr 1; done) | (congr 1; omega), by rw [all_take HT.out, hall8.out]; show (if k = 2 then _ else _) = true; rw [if_pos HH2.out]; exact HST.out, hex8.out.alloc _⟩
                          case measure => simp [intOf]; omega
                      · have e : (termsOf l).take z = termsOf l := List.take_of_length_le (by have := HM.out; omega)
                        have H9 := Lib.hid hall8.out
                        rw [e] at H9
                        clear e hall8
                        have hzm : ¬ (z : Int) < (mm : Int) := by omega
                        go_wp2
                        go_roundw
                        case rel => exact ⟨q + 1, by omega, by first | rfl | (congr 1; done) | (congr 1; omega), by rw [all_take HL.out.1, hall4.out, HSL.out, H9.out]; rfl, HWX.out.trans hex8.out⟩
                        case measure => simp [intOf]; omega
                    · have b2 : (k == 2) = false := by simp [h2]
                      have HH2 := Lib.hid h2; clear h2
                      go_wp2
                      go_roundw
                      case rel => exact ⟨q + 1, by omega, by first | rfl | (congr 1; done) | (congr 1; omega), by rw [all_take HL.out.1, hall4.out, HSL.out, List.all_eq_true.2 (fun t _ => if_neg HH2.out)]; rfl, HWX.out.trans hex8.out⟩
                      case measure => simp [intOf]; omega
            · have b3 : (k == 3) = false := by simp [h3]
              have HSL := Lib.hid (show safeL (namesB ls) l = (termsOf l).all (fun t => if k = 2 then safeT (namesB ls) true t else true) by
                unfold safeL; rw [if_neg (fun x => h3 (HK.out.1.symm.trans x)), HK.out.1]
                by_cases h2 : k = 2
                · rw [if_pos h2]; congr 1; funext t; rw [if_pos h2]
                · rw [if_neg h2]; symm; rw [List.all_eq_true]; intro t _; rw [if_neg h2])
              have HH3 := Lib.hid h3; clear h3
              go_wp2
              rw [EG.out.2, ← EG.out.1]
              have HX7 := Lib.hid (Kp.refl (F := fun _ => False) wx)
              clear c0 c1 c2 c3 c4 c5 c6 c7
              go_loopw [7] (fun iv wr => AllTo wx (termsOf l) (fun t => if k = 2 then safeT (namesB ls) true t else true) mm iv wr) (fun iv _ => mm - (intOf iv).toNat)
              case atStart => exact ⟨0, Nat.zero_le _, rfl, rfl, HX7.out⟩
              case round =>
                obtain ⟨z, hz, rfl, hall8, hex8⟩ := hrel
                have X8 := Lib.hid (HXX.out.trans hex8.out)
                have d0 : wr.cell? ⟨g, 0, none⟩ = some (.int .i64 k) := by rw [(HGB.out.ext hex8.out).cell']; rfl
                have d2 : wr.cell? ⟨g, 2, none⟩ = some (.slice a mm cap2) := by rw [(HGB.out.ext hex8.out).cell']; rfl
                by_cases h2 : k = 2
                · have b2 : (k == 2) = true := by simp [h2]
                  have HH2 := Lib.hid h2; clear h2
                  by_cases hlt7 : z < mm
                  · have hlt8 : z < (termsOf l).length := by rw [← HM.out]; exact hlt7
                    obtain ⟨t, ht⟩ : ∃ t, (termsOf l)[z]? = some t := ⟨_, List.getElem?_eq_getElem hlt8⟩
                    obtain ⟨b9, off9, eao9, f0, f1, _⟩ := term_at (HL.out.2.terms.ext X8.out) ht
                    subst eao9
                    obtain ⟨kt, st, ⟨⟩⟩ := t
                    simp only at f0 f1
                    have HT := Lib.hid ht
                    have hkt : 1 ≤ kt ∧ kt ≤ 3 := by
                      have h5 := HLok.out HH2.out
                      unfold kinds at h5
                      exact of_decide_eq_true (List.all_eq_true.1 h5 _ (List.mem_of_getElem? ht))
                    have HKT := Lib.hid hkt
                    clear ht hlt8 hkt
                    by_cases h1 : kt = 1
                    · have n1 : (kt == 1) = true := by simp [h1]
                      have hst : safeT (namesB ls) true (kt, st, ()) = hasT (namesB ls) st := by
                        unfold safeT; rw [if_neg (by simp only; omega)]
                        cases hasT (namesB ls) st
                        · exact decide_eq_false (by simp only; rintro (x | x | x) <;> first | omega | cases x)
                        · exact decide_eq_true (.inr (.inr rfl))
                      have HST := Lib.hid hst; clear h1 hst
                      go_wp2_with fail
                      refine (HHas.out _ ((HWX.out.trans hex8.out).alloc _) st).mono ?_
                      rintro e w9 ⟨v, rfl, hk9, rfl⟩
                      have X9 := Lib.hid ((hex8.out.alloc _).trans hk9)
                      clear hk9 f0 f1 d0 d2
                      cases hqq : hasT (namesB ls) st
                      · go_wp2
                        go_ret
                        refine RetN.mk (HXX.out.trans X9.out) ?_
                        have hno : safeL (namesB ls) l = false := by rw [HSL.out]; exact all_no HT.out (by show (if k = 2 then _ else _) = false; rw [if_pos HH2.out, HST.out]; exact hqq)
                        unfold checkR safeR
                        rw [if_pos HP.out, if_neg (by rw [all_no HL.out.1 hno]; simp)]; rfl
                      · go_wp2
                        go_roundw
                        case rel => exact ⟨z + 1, by omega, by first | rfl | (congr 1; done) | (congr 1; omega), by rw [all_take HT.out, hall8.out]; show (if k = 2 then _ else _) = true; rw [if_pos HH2.out, HST.out]; exact hqq, X9⟩
                        case measure => simp [intOf]; omega
                    · have n1 : (kt == 1) = false := by simp [h1]
                      have hst : safeT (namesB ls) true (kt, st, ()) = true := by
                        have h3 := HKT.out
                        unfold safeT
                        by_cases h2 : kt = 2
                        · rw [if_pos h2]
                        · rw [if_neg h2]; exact decide_eq_true (.inl (by simp only; omega))
                      have HST := Lib.hid hst; clear h1 hst
                      go_wp2
                      go_roundw
                      case rel => exact ⟨z + 1, by omega, by first | rfl | (congr 1; done) | (congr 1; omega), by rw [all_take HT.out, hall8.out]; show (if k = 2 then _ else _) = true; rw [if_pos HH2.out]; exact HST.out, hex8.out.alloc _⟩
                      case measure => simp [intOf]; omega
                  · have e : (termsOf l).take z = termsOf l := List.take_of_length_le (by have := HM.out; omega)
                    have H9 := Lib.hid hall8.out
                    rw [e] at H9
                    clear e hall8
                    have hzm : ¬ (z : Int) < (mm : Int) := by omega
                    go_wp2
                    go_roundw
                    case rel => exact ⟨q + 1, by omega, by first | rfl | (congr 1; done) | (congr 1; omega), by rw [all_take HL.out.1, hall4.out, HSL.out, H9.out]; rfl, HWX.out.trans hex8.out⟩
                    case measure => simp [intOf]; omega
                · have b2 : (k == 2) = false := by simp [h2]
                  have HH2 := Lib.hid h2; clear h2
                  go_wp2
                  go_roundw
                  case rel => exact ⟨q + 1, by omega, by first | rfl | (congr 1; done) | (congr 1; omega), by rw [all_take HL.out.1, hall4.out, HSL.out, List.all_eq_true.2 (fun t _ => if_neg HH2.out)]; rfl, HWX.out.trans hex8.out⟩
                  case measure => simp [intOf]; omega
          · have e : ls.take q = ls := List.take_of_length_le (by have := HN.out; omega)
            have HC := Lib.hid hall4.out
            rw [e] at HC
            clear e hall4
            have hqn : ¬ (q : Int) < (n : Int) := by omega
            go_wp2
            go_ret
            refine RetN.mk X5.out ?_
            unfold checkR safeR
            rw [if_pos HP.out, if_pos (by simp only [Bool.and_eq_true]; exact ⟨HB.out, HC.out⟩)]; rfl

set_option maxRecDepth 100000 in
theorem refVars_any (p : ByteArray) (hs : List TermZ) (ls : List LitZ) (ha : Option Addr) (hn hcap : Nat) (ba : Option Addr) (n bcap : Nat) (w : World) (G : Nat → Prop) (hhn : hn = hs.length) (hh : TermsAt w G ha hs) (hhl : hn ≤ 1048576) (hbn : n = ls.length) (h : LitsAt w G ba ls) (hf : Fit ls) (hc : checkR ((p, hs, ()), ls, ()) = 0) :
    Calls Try.prog 66 #[ruleV p ha hn hcap ba n bcap] w (RetN w fun w' v => ∃ ao cap, v = .slice ao (namesB ls).length cap ∧ (namesB ls).length ≤ cap ∧ CellsAt w' ao (strs (namesB ls))) := by
  have h1 := fun (W : World) (hW : Ext w W) => refCheck_any p hs ls ha hn hcap ba n bcap W G hhn (hh.ext hW) hhl hbn (h.ext hW) hf
  rw [hc] at h1
  have HC := Lib.hid h1
  have HV := Lib.hid (fun (W : World) (hW : Ext w W) => names_any p ha hn hcap ls ba n bcap W G hbn (h.ext hW) hf)
  clear h1 hhn hh hbn h hf hc
  go_enter Try.func66, Try.ntmps66
  go_wp2_with fail
  refine (HC.out _ ((Kp.refl _).alloc _)).mono ?_
  rintro e w1 ⟨v, rfl, hk1, rfl⟩
  have bb := (Blk.new w [.string p, .slice ha hn hcap, .slice ba n bcap] 27).ext hk1
  have c0 : w1.cell? ⟨w.heap.size, 0, none⟩ = some (.string p) := by rw [bb.cell']; rfl
  have c1 : w1.cell? ⟨w.heap.size, 1, none⟩ = some (.slice ha hn hcap) := by rw [bb.cell']; rfl
  have c2 : w1.cell? ⟨w.heap.size, 2, none⟩ = some (.slice ba n bcap) := by rw [bb.cell']; rfl
  have X1 := Lib.hid (((Kp.refl _).alloc _).trans hk1)
  clear hk1 bb
  go_wp2_with fail
  refine (HV.out _ X1.out).mono ?_
  rintro e w2 ⟨v, rfl, hk2, ao, cap, rfl, h1, h2⟩
  have X2 := Lib.hid (And.intro (X1.out.trans hk2) (And.intro h1 h2))
  clear hk2 h1 h2 c0 c1 c2
  go_wp2
  go_ret
  exact RetN.mk X2.out.1 ⟨ao, cap, rfl, X2.out.2⟩
end Go.Proofs.Ytcphalpcdcddpaa

/- cost: what is known, in memory; which counts are numbers; slices.IndexFunc, ContainsFunc at them. -/
namespace Go.Proofs.Ytcphalpcdcddpaa
open Go.RowKit
set_option linter.unusedVariables false

theorem run_store_float (P : Program) (w : World) (a : Addr) (m : Mode) (k : FloatKind) (b : Nat) : (store a (.float k b) m).run P w = stored P w a (.float k b) m := run_store P w a _ m rfl
/-- Real numbers as cells. -/
def flts (xs : List Nat) : List Value := xs.map (Value.float .f64)
theorem flts_len (xs : List Nat) : (flts xs).length = xs.length := by simp [flts]
theorem CellsAt.flt {w : World} {ao : Option Addr} {xs : List Nat} (h : CellsAt w ao (flts xs)) {k : Nat} (hk : k < xs.length) : ∃ b off, ao = some ⟨b, off, none⟩ ∧ w.cell? ⟨b, off + k, none⟩ = some (.float .f64 xs[k]) :=
  h k _ (by simp [flts, hk])
/-- What is known of predicates, from an address on. -/
def StatsAt (w : World) (ao : Option Addr) (S : List StatZ) : Prop := ∀ (i : Nat) (s : StatZ), S[i]? = some s → ∃ b off da dcap, ao = some ⟨b, off, none⟩ ∧ w.cell? ⟨b, off + i * 3, none⟩ = some (.string s.1) ∧ w.cell? ⟨b, off + i * 3 + 1, none⟩ = some (.float .f64 s.2.1) ∧ w.cell? ⟨b, off + i * 3 + 2, none⟩ = some (.slice da s.2.2.1.length dcap) ∧ s.2.2.1.length ≤ dcap ∧ dcap ≤ maxLen ∧ CellsAt w da (flts s.2.2.1)
theorem StatsAt.ext {w w' : World} {ao : Option Addr} {S : List StatZ} (h : StatsAt w ao S) (hk : Ext w w') : StatsAt w' ao S := fun i s hs => by
  obtain ⟨b, off, da, dcap, e, h1, h2, h3, h4, h5, h6⟩ := h i s hs
  exact ⟨b, off, da, dcap, e, hk.cell h1 id, hk.cell h2 id, hk.cell h3 id, h4, h5, h6.ext hk⟩
theorem StatsAt.take {w : World} {ao : Option Addr} {S : List StatZ} (h : StatsAt w ao S) (n : Nat) : StatsAt w ao (S.take n) := fun i s hs => h i s (by
  rw [List.getElem?_take] at hs
  split at hs
  · exact hs
  · cases hs)
/-- Words, and not too many. -/
structure StatsFit (S : List StatZ) : Prop where
  len : S.length ≤ 1048576
  dist : ∀ s ∈ S, s.2.2.1.length ≤ 1048576
  rows : ∀ s ∈ S, s.2.1 < 18446744073709551616
  words : ∀ s ∈ S, ∀ x ∈ s.2.2.1, x < 18446744073709551616
/-- A predicate's counts as a value. -/
abbrev statV (p : ByteArray) (x : Nat) (da : Option Addr) (n cap : Nat) : Value := .agg #[.string p, .float .f64 x, .slice da n cap]

theorem isInf_any (x : Nat) (w : World) (hx : x ≤ infW ∨ x = negW) : Calls Try.prog 52 #[.float .f64 x, .int .i64 1] w (RetN w fun w' v => v = .bool (decide (x = infW))) := by
  have h : (Ieee.double.order x 9218868437227405311 == some .gt) = decide (x = infW) := by
    rcases hx with hx | rfl
    · exact gt_max hx
    · decide
  have hf : (FloatKind.format .f64) = Ieee.double := rfl
  go_enter Try.func52, Try.ntmps52
  go_wp2
  go_ret
  exact RetN.mk (Kp.refl _) (congrArg Value.bool (by first | exact h | rfl))
theorem bad_any (x : Nat) (w : World) (hx : x < 18446744073709551616) : Calls Try.prog 81 #[.float .f64 x] w (RetN w fun w' v => v = .bool (!finW x)) := by
  have h := ge_zero hx
  by_cases h1 : x ≤ infW ∨ x = negW
  · rw [decide_eq_true h1] at h
    have hf : ((FloatKind.format .f64).order x 0 == some .gt || (FloatKind.format .f64).order x 0 == some .eq) = true := h
    have HI := Lib.hid (fun W => isInf_any x W h1)
    have H1 := Lib.hid h1; clear h1 h
    go_enter Try.func81, Try.ntmps81
    go_wp2_with fail
    refine (HI.out _).mono ?_
    rintro e w1 ⟨v, rfl, hk1, rfl⟩
    go_wp2
    go_ret
    refine RetN.mk hk1 (congrArg Value.bool ?_)
    unfold finW
    rcases H1.out with h | h
    · by_cases he : x = infW
      · subst he; decide
      · rw [decide_eq_false he, decide_eq_true (.inl (by omega))]; rfl
    · rw [decide_eq_false (by rw [h]; decide), decide_eq_true (.inr h)]; rfl
  · rw [decide_eq_false h1] at h
    have hf : ((FloatKind.format .f64).order x 0 == some .gt || (FloatKind.format .f64).order x 0 == some .eq) = false := h
    have H1 := Lib.hid h1; clear h1 h
    go_enter Try.func81, Try.ntmps81
    go_wp2
    go_ret
    refine RetN.mk (Kp.refl _) (congrArg Value.bool ?_)
    unfold finW
    rw [decide_eq_false (by have := H1.out; unfold negW at this; omega)]; rfl

/-- slices.IndexFunc, ContainsFunc at real numbers. -/
def TellF (f : FuncId) (first captured : Array Value) (w0 : World) (q : Nat → Bool) : Prop :=
  (∀ args w, (callFunc f args).run Try.prog w = .ok (Next.enter f args) w) ∧ ∀ w, Ext w0 w → ∀ (x : Nat), x < 18446744073709551616 → Calls Try.prog f (first.push (.float .f64 x) ++ captured) w (RetN w fun w' v => v = .bool (q x))
def NoneF (w0 : World) (ts : List Nat) (q : Nat → Bool) (n : Nat) (iv : Value) (w : World) : Prop := ∃ i : Nat, i ≤ n ∧ iv = .int .i64 i ∧ Hid (∀ (j : Nat) u, j < i → ts[j]? = some u → q u = false) ∧ Hid (Ext w0 w)
/-- The first of which it holds. -/
def FirstF (ts : List Nat) (q : Nat → Bool) (z : Int) : Prop := (∃ (i : Nat) (t : Nat), z = i ∧ ts[i]? = some t ∧ q t = true ∧ ∀ (j : Nat) u, j < i → ts[j]? = some u → q u = false) ∨ (z = -1 ∧ ∀ u ∈ ts, q u = false)
set_option maxRecDepth 100000 in
set_option maxHeartbeats 1000000 in
theorem indexF_any (ts : List Nat) (ao : Option Addr) (n cap : Nat) (f : FuncId) (first captured : Array Value) (q : Nat → Bool) (w : World) (hn : n = ts.length) (h : CellsAt w ao (flts ts)) (hfit : ∀ x ∈ ts, x < 18446744073709551616) (hq : TellF f first captured w q) (hl : n ≤ 4611686018427387904) :
    Calls Try.prog 95 #[.slice ao n cap, .func (Fn.func f) first captured] w (RetN w fun w' v => ∃ z : Int, v = .int .i64 z ∧ FirstF ts q z) := by
  have HN := Lib.hid hn; have HE := Lib.hid h; clear hn h
  have HFit := Lib.hid hfit; clear hfit
  have hent := hq.1
  have HQ := Lib.hid hq.2; clear hq
  go_enter Try.func95, Try.ntmps95
  go_wp2
  go_loopw [8] (fun iv wr => NoneF w ts q n iv wr) (fun iv _ => n - (intOf iv).toNat)
  case atStart => exact ⟨0, Nat.zero_le _, rfl, fun j u h => by omega, Kp.refl w⟩
  case round =>
    obtain ⟨i, hi, rfl, hno, hex⟩ := hrel
    by_cases hlt : i < n
    · have hlt' : i < ts.length := by rw [← HN.out]; exact hlt
      obtain ⟨b, off, eao, hc0⟩ := (HE.out.ext hex.out).flt hlt'
      subst eao
      have ht : ts[i]? = some ts[i] := List.getElem?_eq_getElem hlt'
      have hmem := List.getElem_mem hlt'
      generalize ts[i] = t at *
      obtain ⟨r, er⟩ : ∃ r : Bool, q t = r := ⟨_, rfl⟩
      have HC0 := HQ.out wr hex.out t (HFit.out t hmem)
      rw [er] at HC0
      have HC := Lib.hid HC0
      have HT := Lib.hid (And.intro ht er)
      clear ht hlt' er HC0
      clear hmem
      cases r
      · go_wp2_with fail
        refine HC.out.mono ?_
        rintro e w1 ⟨v, rfl, hk1, rfl⟩
        have HX := Lib.hid (hex.out.trans hk1); clear hk1
        go_wp2
        go_roundw
        case rel =>
          refine ⟨i + 1, by omega, by first | rfl | (congr 1; done) | (congr 1; omega), fun j u hj hu => ?_, HX⟩
          by_cases e : j = i
          · subst e; rw [HT.out.1] at hu; cases hu; exact HT.out.2
          · exact hno.out j u (by omega) hu
        case measure => simp [intOf]; omega
      · go_wp2_with fail
        refine HC.out.mono ?_
        rintro e w1 ⟨v, rfl, hk1, rfl⟩
        have HX := Lib.hid (hex.out.trans hk1); clear hk1
        go_wp2
        go_ret
        exact RetN.mk HX.out ⟨i, rfl, .inl ⟨i, t, rfl, HT.out.1, HT.out.2, hno.out⟩⟩
    · go_wp2
      go_ret
      refine RetN.mk hex.out ⟨-1, rfl, .inr ⟨rfl, fun u hu => ?_⟩⟩
      obtain ⟨j, hj, rfl⟩ := List.mem_iff_getElem.1 hu
      exact hno.out j _ (by have := HN.out; omega) (List.getElem?_eq_getElem hj)
theorem FirstF.any {ts : List Nat} {q : Nat → Bool} {z : Int} (h : FirstF ts q z) : decide (0 ≤ z) = ts.any (fun t => q t) := by
  rcases h with ⟨i, t, rfl, h1, h2, _⟩ | ⟨rfl, h⟩
  · rw [any_true h1 h2]; simp
  · symm; rw [show decide ((0 : Int) ≤ -1) = false by decide, List.any_eq_false]; intro t ht; rw [h t ht]; decide
set_option maxRecDepth 100000 in
theorem containsF_any (ts : List Nat) (ao : Option Addr) (n cap : Nat) (f : FuncId) (first captured : Array Value) (q : Nat → Bool) (w : World) (hn : n = ts.length) (h : CellsAt w ao (flts ts)) (hfit : ∀ x ∈ ts, x < 18446744073709551616) (hq : TellF f first captured w q) (hl : n ≤ 4611686018427387904) :
    Calls Try.prog 83 #[.slice ao n cap, .func (Fn.func f) first captured] w (RetN w fun w' v => v = .bool (ts.any (fun t => q t))) := by
  have HI := Lib.hid (indexF_any ts ao n cap f first captured q w hn h hfit hq hl)
  clear hn h hq hl hfit
  go_enter Try.func83, Try.ntmps83
  go_wp2_with fail
  refine HI.out.mono ?_
  rintro e w1 ⟨v, rfl, hk, z, rfl, hz⟩
  have h := hz.any
  go_wp2
  go_ret
  exact RetN.mk hk (congrArg Value.bool (by first | exact h | simp [← h]))

/-- slices.IndexFunc, ContainsFunc at counts. -/
def TellC (f : FuncId) (first captured : Array Value) (w0 : World) (q : ByteArray → Bool) : Prop :=
  (∀ args w, (callFunc f args).run Try.prog w = .ok (Next.enter f args) w) ∧ ∀ w, Ext w0 w → ∀ (p : ByteArray) (x : Nat) (da : Option Addr) (m dcap : Nat), Calls Try.prog f (first.push (statV p x da m dcap) ++ captured) w (RetN w fun w' v => v = .bool (q p))
def NoneC (w0 : World) (ts : List StatZ) (q : ByteArray → Bool) (n : Nat) (iv : Value) (w : World) : Prop := ∃ i : Nat, i ≤ n ∧ iv = .int .i64 i ∧ Hid (∀ (j : Nat) u, j < i → ts[j]? = some u → q u.1 = false) ∧ Hid (Ext w0 w)
/-- The first of which it holds. -/
def FirstC (ts : List StatZ) (q : ByteArray → Bool) (z : Int) : Prop := (∃ (i : Nat) (t : StatZ), z = i ∧ ts[i]? = some t ∧ q t.1 = true ∧ ∀ (j : Nat) u, j < i → ts[j]? = some u → q u.1 = false) ∨ (z = -1 ∧ ∀ u ∈ ts, q u.1 = false)
set_option maxRecDepth 100000 in
set_option maxHeartbeats 1000000 in
theorem indexC_any (ts : List StatZ) (ao : Option Addr) (n cap : Nat) (f : FuncId) (first captured : Array Value) (q : ByteArray → Bool) (w : World) (hn : n = ts.length) (h : StatsAt w ao ts) (hq : TellC f first captured w q) (hl : n ≤ 4611686018427387904) :
    Calls Try.prog 59 #[.slice ao n cap, .func (Fn.func f) first captured] w (RetN w fun w' v => ∃ z : Int, v = .int .i64 z ∧ FirstC ts q z) := by
  have HN := Lib.hid hn; have HE := Lib.hid h; clear hn h
  skip
  have hent := hq.1
  have HQ := Lib.hid hq.2; clear hq
  go_enter Try.func59, Try.ntmps59
  go_wp2
  go_loopw [8] (fun iv wr => NoneC w ts q n iv wr) (fun iv _ => n - (intOf iv).toNat)
  case atStart => exact ⟨0, Nat.zero_le _, rfl, fun j u h => by omega, Kp.refl w⟩
  case round =>
    obtain ⟨i, hi, rfl, hno, hex⟩ := hrel
    by_cases hlt : i < n
    · have hlt' : i < ts.length := by rw [← HN.out]; exact hlt
      obtain ⟨t, ht⟩ : ∃ t, ts[i]? = some t := ⟨_, List.getElem?_eq_getElem hlt'⟩
      obtain ⟨b, off, da, dcap, eao, hc0, hc1, hc2, _⟩ := (HE.out.ext hex.out) i t ht
      subst eao
      obtain ⟨r, er⟩ : ∃ r : Bool, q t.1 = r := ⟨_, rfl⟩
      have HC0 := HQ.out wr hex.out t.1 t.2.1 da t.2.2.1.length dcap
      rw [er] at HC0
      have HC := Lib.hid HC0
      have HT := Lib.hid (And.intro ht er)
      clear ht hlt' er HC0
      generalize t.2.2.1.length = m at *
      generalize t.2.1 = x at *
      cases r
      · go_wp2_with fail
        refine HC.out.mono ?_
        rintro e w1 ⟨v, rfl, hk1, rfl⟩
        have HX := Lib.hid (hex.out.trans hk1); clear hk1
        go_wp2
        go_roundw
        case rel =>
          refine ⟨i + 1, by omega, by first | rfl | (congr 1; done) | (congr 1; omega), fun j u hj hu => ?_, HX⟩
          by_cases e : j = i
          · subst e; rw [HT.out.1] at hu; cases hu; exact HT.out.2
          · exact hno.out j u (by omega) hu
        case measure => simp [intOf]; omega
      · go_wp2_with fail
        refine HC.out.mono ?_
        rintro e w1 ⟨v, rfl, hk1, rfl⟩
        have HX := Lib.hid (hex.out.trans hk1); clear hk1
        go_wp2
        go_ret
        exact RetN.mk HX.out ⟨i, rfl, .inl ⟨i, t, rfl, HT.out.1, HT.out.2, hno.out⟩⟩
    · go_wp2
      go_ret
      refine RetN.mk hex.out ⟨-1, rfl, .inr ⟨rfl, fun u hu => ?_⟩⟩
      obtain ⟨j, hj, rfl⟩ := List.mem_iff_getElem.1 hu
      exact hno.out j _ (by have := HN.out; omega) (List.getElem?_eq_getElem hj)
theorem FirstC.any {ts : List StatZ} {q : ByteArray → Bool} {z : Int} (h : FirstC ts q z) : decide (0 ≤ z) = ts.any (fun t => q t.1) := by
  rcases h with ⟨i, t, rfl, h1, h2, _⟩ | ⟨rfl, h⟩
  · rw [any_true h1 h2]; simp
  · symm; rw [show decide ((0 : Int) ≤ -1) = false by decide, List.any_eq_false]; intro t ht; rw [h t ht]; decide
set_option maxRecDepth 100000 in
theorem containsC_any (ts : List StatZ) (ao : Option Addr) (n cap : Nat) (f : FuncId) (first captured : Array Value) (q : ByteArray → Bool) (w : World) (hn : n = ts.length) (h : StatsAt w ao ts) (hq : TellC f first captured w q) (hl : n ≤ 4611686018427387904) :
    Calls Try.prog 84 #[.slice ao n cap, .func (Fn.func f) first captured] w (RetN w fun w' v => v = .bool (ts.any (fun t => q t.1))) := by
  have HI := Lib.hid (indexC_any ts ao n cap f first captured q w hn h  hq hl)
  clear hn h hq hl
  go_enter Try.func84, Try.ntmps84
  go_wp2_with fail
  refine HI.out.mono ?_
  rintro e w1 ⟨v, rfl, hk, z, rfl, hz⟩
  have h := hz.any
  go_wp2
  go_ret
  exact RetN.mk hk (congrArg Value.bool (by first | exact h | simp [← h]))
end Go.Proofs.Ytcphalpcdcddpaa

/- cost: right: may the counts be, as they are handed in? -/
namespace Go.Proofs.Ytcphalpcdcddpaa
open Go.RowKit
set_option linter.unusedVariables false
attribute [local go_sem] run_store_float

theorem same_any (p : ByteArray) (x : Nat) (da : Option Addr) (m dcap : Nat) (g : Nat) (s : ByteArray) (w : World) (hc : w.cell? ⟨g, 0, none⟩ = some (.string s)) :
    Calls Try.prog 82 #[statV p x da m dcap, .pointer (some ⟨g, 0, none⟩)] w (RetN w fun w' v => v = .bool (decide (p = s))) := by
  have e0 : (w.alloc (.cells #[.string p, .float .f64 x, .slice da m dcap] 56)).cell? ⟨g, 0, none⟩ = some (.string s) := ((Kp.refl (F := fun _ => False) w).alloc _).cell hc id
  clear hc
  by_cases h : p = s
  · have hb := str_eq s
    subst h
    go_enter Try.func82, Try.ntmps82
    go_wp2
    go_ret
    exact RetN.mk ((Kp.refl w).alloc _) (congrArg Value.bool (by simp))
  · have hb := str_ne h
    have H := Lib.hid h; clear h
    go_enter Try.func82, Try.ntmps82
    go_wp2
    go_ret
    exact RetN.mk ((Kp.refl w).alloc _) (congrArg Value.bool (decide_eq_false H.out).symm)

def StatsTo (w0 : World) (r : RuleZ) (S : List StatZ) (n : Nat) (iv : Value) (w : World) : Prop := ∃ i : Nat, i ≤ n ∧ iv = .int .i64 i ∧ Hid (∀ (j : Nat) (s : StatZ), j < i → S[j]? = some s → statOk r S j s = true) ∧ Hid (Ext w0 w)
theorem statOk_no {r : RuleZ} {S : List StatZ} {i : Nat} {s : StatZ} (hi : S[i]? = some s) (h : statOk r S i s = false) : ¬ statsOk r S := fun k => by
  have := k i s hi; rw [h] at this; cases this
theorem fitL_iff (s : StatZ) (l : LitZ) : fitL s l = true ↔ (l.1 = 1 → predOf l = s.1 → (termsOf l).length = s.2.2.1.length) := by
  unfold fitL; exact decide_eq_true_iff

open Classical in
set_option maxRecDepth 100000 in
set_option maxHeartbeats 8000000 in
theorem right_any (p : ByteArray) (hs : List TermZ) (ls : List LitZ) (ha : Option Addr) (hn hcap : Nat) (ba : Option Addr) (n bcap : Nat) (S : List StatZ) (sa : Option Addr) (sn scap : Nat) (w : World) (G : Nat → Prop) (hbn : n = ls.length) (h : LitsAt w G ba ls) (hf : Fit ls)
    (hsn : sn = S.length) (hsc : sn ≤ scap) (hS : StatsAt w sa S) (hSf : StatsFit S) :
    Calls Try.prog 55 #[ruleV p ha hn hcap ba n bcap, .slice sa sn scap] w (RetN w fun w' v => v = .bool (decide (statsOk ((p, hs, ()), ls, ()) S))) := by
  have HN := Lib.hid hbn; have HE := Lib.hid h; have HF := Lib.hid hf; have hl : n ≤ 1048576 := by have := hf.len; omega
  have HSN := Lib.hid hsn; have HSE := Lib.hid hS; have HSF := Lib.hid hSf; have hsl : sn ≤ 1048576 := by have := hSf.len; omega
  have hent : ∀ args w, (callFunc 81 args).run Try.prog w = .ok (.enter 81 args) w := enters_of Try.func81 (by kernel_rfl) rfl
  clear hbn h hf hsn hS hSf
  go_enter Try.func55, Try.ntmps55
  go_wp2
  obtain ⟨wb, eb⟩ : ∃ wb, w.alloc (.cells #[.string p, .slice ha hn hcap, .slice ba n bcap] 27) = wb := ⟨_, rfl⟩
  rw [eb]
  have HB := Lib.hid (Blk.new w [.string p, .slice ha hn hcap, .slice ba n bcap] 27)
  have HX := Lib.hid ((Kp.refl (F := fun _ => False) w).alloc (.cells #[.string p, .slice ha hn hcap, .slice ba n bcap] 27))
  have eb2 : w.alloc (.cells [Value.string p, .slice ha hn hcap, .slice ba n bcap].toArray 27) = wb := eb
  rw [eb2] at HB
  rw [eb] at HX
  clear eb eb2
  go_loopw [13] (fun iv wr => StatsTo wb ((p, hs, ()), ls, ()) S sn iv wr) (fun iv _ => sn - (intOf iv).toNat)
  case atStart => exact ⟨0, Nat.zero_le _, rfl, fun j s hj _ => by omega, Kp.refl _⟩
  case round =>
    obtain ⟨i, hi, rfl, hall, hex⟩ := hrel
    have XR := Lib.hid (HX.out.trans hex.out)
    by_cases hlt : i < sn
    · have hlt' : i < S.length := by rw [← HSN.out]; exact hlt
      obtain ⟨s, hsi⟩ : ∃ s, S[i]? = some s := ⟨_, List.getElem?_eq_getElem hlt'⟩
      obtain ⟨b, off, da, dcap, eao, c0, c1, c2, hdl, hdm, hd⟩ := HSE.out i s hsi
      subst eao
      replace c0 := XR.out.cell c0 id
      replace c1 := XR.out.cell c1 id
      replace c2 := XR.out.cell c2 id
      obtain ⟨dn, edn⟩ : ∃ dn, dn = s.2.2.1.length := ⟨_, rfl⟩
      rw [← edn] at c2 hdl
      obtain ⟨ps, eps⟩ : ∃ ps, ps = s.1 := ⟨_, rfl⟩
      rw [← eps] at c0
      obtain ⟨x, ex⟩ : ∃ x, x = s.2.1 := ⟨_, rfl⟩
      rw [← ex] at c1
      have hmem := List.mem_of_getElem? hsi
      have hx64 : x < 18446744073709551616 := ex ▸ HSF.out.rows s hmem
      have hdn : dn ≤ 1048576 := edn ▸ HSF.out.dist s hmem
      have hw64 := HSF.out.words s hmem
      obtain ⟨wx, ewx⟩ : ∃ wx, wr.alloc (.cells #[.string ps, .float .f64 x, .slice da dn dcap] 56) = wx := ⟨_, rfl⟩
      have hB := Blk.new wr [.string ps, .float .f64 x, .slice da dn dcap] 56
      have hWX : Ext wb wx := by rw [← ewx]; exact hex.out.alloc _
      obtain ⟨g, eg⟩ : ∃ g, g = wr.heap.size := ⟨_, rfl⟩
      have HGB := Lib.hid hB
      rw [← eg] at HGB
      have ewx2 : wr.alloc (.cells [Value.string ps, .float .f64 x, .slice da dn dcap].toArray 56) = wx := ewx
      rw [ewx2] at HGB
      have HWX := Lib.hid hWX
      have HXX := Lib.hid (HX.out.trans hWX)
      have EG := Lib.hid (And.intro eg ewx)
      have HD := Lib.hid (fun (W : World) (hW : Ext wx W) => containsF_any s.2.2.1 da dn dcap 81 #[] #[] (fun y => !finW y) W edn (hd.ext (HXX.out.trans hW)) hw64 ⟨hent, fun w' _ y hy => bad_any y w' hy⟩ (by omega))
      have hent2 : ∀ args w, (callFunc 82 args).run Try.prog w = .ok (.enter 82 args) w := enters_of Try.func82 (by kernel_rfl) rfl
      have HSame := Lib.hid (fun (W : World) (hW : Ext wx W) => containsC_any (S.take i) (some ⟨b, off, none⟩) i scap 82 #[] #[.pointer (some ⟨g, 0, none⟩)] (fun y => decide (y = ps)) W (by rw [List.length_take]; omega) ((HSE.out.ext (HXX.out.trans hW)).take i) ⟨hent2, fun w' hw' y a b c d => same_any y a b c d g ps w' (by rw [((HGB.out.ext hW).ext hw').cell']; rfl)⟩ (by omega))
      have HBad := Lib.hid (fun W => bad_any x W hx64)
      have HT := Lib.hid (And.intro hsi (And.intro edn (And.intro eps ex)))
      have hok : statOk ((p, hs, ()), ls, ()) S i s = ((!(!finW x)) && (!(s.2.2.1.any fun y => !finW y)) && (!((S.take i).any fun u => decide (u.1 = ps))) && ls.all (fitL s)) := by
        unfold statOk
        rw [← ex, eps]
        congr 1
        · congr 1
          · congr 1
            · rw [Bool.not_not]
            · rw [List.not_any_eq_all_not]; congr 1; funext y; rw [Bool.not_not]
          · rw [List.not_any_eq_all_not]; congr 1; funext y; rw [← decide_not]
      have HOk := Lib.hid hok
      clear hsi hlt' hmem hw64 hB hWX eg ewx ewx2 hd edn eps ex hok hent2 hx64 hdm
      go_wp2_with fail
      rw [EG.out.2]
      refine (HBad.out _).mono ?_
      rintro e w1 ⟨v, rfl, hk1, rfl⟩
      have X1 := Lib.hid hk1
      have c3 : w1.cell? ⟨g, 2, none⟩ = some (.slice da dn dcap) := by rw [(HGB.out.ext hk1).cell']; rfl
      clear hk1 c0 c1 c2
      rw [EG.out.1.symm]
      have hno : ∀ (W : World), Ext w W → statOk ((p, hs, ()), ls, ()) S i s = false → RetN w (fun w' v => v = .bool (decide (statsOk ((p, hs, ()), ls, ()) S))) (.returned (.bool false)) W := fun W hx h => RetN.mk hx (congrArg Value.bool (decide_eq_false (statOk_no HT.out.1 h)).symm)
      have HNo := Lib.hid hno
      clear hno
      cases hbr : (!finW x)
      · go_wp2_with fail
        refine (HD.out _ X1.out).mono ?_
        rintro e w2 ⟨v, rfl, hk2, rfl⟩
        have X2 := Lib.hid (X1.out.trans hk2)
        clear hk2 c3
        cases hdr : (s.2.2.1.any fun y => !finW y)
        · go_wp2_with fail
          refine (HSame.out _ X2.out).mono ?_
          rintro e w3 ⟨v, rfl, hk3, rfl⟩
          have X3 := Lib.hid (X2.out.trans hk3)
          clear hk3
          cases hsr : ((S.take i).any fun u => decide (u.1 = ps))
          · have HOk2 := Lib.hid (show statOk ((p, hs, ()), ls, ()) S i s = ls.all (fitL s) by rw [HOk.out, hbr, hdr, hsr]; simp)
            have b2 : w3.cell? ⟨w.heap.size, 2, none⟩ = some (.slice ba n bcap) := by rw [(HB.out.ext (HWX.out.trans X3.out)).cell']; rfl
            go_wp2
            clear b2
            go_loopw [39] (fun iv wr => AllTo wx ls (fitL s) n iv wr) (fun iv _ => n - (intOf iv).toNat)
            case atStart => exact ⟨0, Nat.zero_le _, rfl, rfl, X3⟩
            case round =>
              obtain ⟨q, hq, rfl, hall4, hex4⟩ := hrel
              have X5 := Lib.hid (HXX.out.trans hex4.out)
              by_cases hlt5 : q < n
              · have hlt6 : q < ls.length := by rw [← HN.out]; exact hlt5
                obtain ⟨l, hli⟩ : ∃ l, ls[q]? = some l := ⟨_, List.getElem?_eq_getElem hlt6⟩
                obtain ⟨b5, off5, a, cap2, eao, hG, hb, hL, c0, c1, c2, c3, c4, c5, c6, c7⟩ := lit_at HE.out hli
                subst eao
                replace c0 := X5.out.cell c0 id
                replace c1 := X5.out.cell c1 id
                replace c2 := X5.out.cell c2 id
                replace c3 := X5.out.cell c3 id
                replace c4 := X5.out.cell c4 id
                replace c5 := X5.out.cell c5 id
                replace c6 := X5.out.cell c6 id
                replace c7 := X5.out.cell c7 id
                have hq2 : (q : Int) < (n : Int) := by omega
                obtain ⟨mm, emm⟩ : ∃ mm, mm = (termsOf l).length := ⟨_, rfl⟩
                rw [← emm] at c2
                obtain ⟨k, ek⟩ : ∃ k, k = l.1 := ⟨_, rfl⟩
                rw [← ek] at c0
                obtain ⟨pl, epl⟩ : ∃ pl, pl = predOf l := ⟨_, rfl⟩
                rw [← epl] at c1
                have HL := Lib.hid (And.intro hli (And.intro emm (And.intro ek epl)))
                have hmm : mm ≤ 1048576 := by rw [emm]; exact HF.out.terms l (List.mem_of_getElem? hli)
                clear hli hlt6 hL hG hb emm ek epl
                generalize opOf l = s3 at c3
                generalize (leftOf l).1 = s4 at c4
                generalize (leftOf l).2.1 = s5 at c5
                generalize (rightOf l).1 = s6 at c6
                generalize (rightOf l).2.1 = s7 at c7
                have e0 : (wr.alloc (.cells #[.int .i64 k, .string pl, .slice a mm cap2, .int .i64 s3, .int .i64 s4, .string s5, .int .i64 s6, .string s7] 70)).cell? ⟨g, 0, none⟩ = some (.string ps) := by rw [((HGB.out.ext hex4.out).alloc _).cell']; rfl
                have e2 : (wr.alloc (.cells #[.int .i64 k, .string pl, .slice a mm cap2, .int .i64 s3, .int .i64 s4, .string s5, .int .i64 s6, .string s7] 70)).cell? ⟨g, 2, none⟩ = some (.slice da dn dcap) := by rw [((HGB.out.ext hex4.out).alloc _).cell']; rfl
                have hy : (k = 1 → pl = ps → mm = dn) → fitL s l = true := fun h => by
                  rw [fitL_iff, ← HL.out.2.2.1, ← HL.out.2.2.2, ← HL.out.2.1, ← HT.out.2.1, ← HT.out.2.2.1]; exact h
                by_cases h1 : k = 1
                · have n1 : (k == 1) = true := by simp [h1]
                  by_cases h2 : pl = ps
                  · by_cases h3 : mm = dn
                    · have HY := Lib.hid (hy fun _ _ => h3)
                      have hb := str_eq ps
                      have n3 : ((mm : Int) != (dn : Int)) = false := by simp [h3]
                      have n4 : ((mm : Int) == (dn : Int)) = true := by simp [h3]
                      clear h1 hy
                      subst h2
                      have HH := Lib.hid h3; clear h3
                      go_wp2
                      go_roundw
                      case rel => exact ⟨q + 1, by omega, by first | rfl | (congr 1; done) | (congr 1; omega), by rw [all_take HL.out.1, hall4.out, HY.out]; rfl, hex4.out.alloc _⟩
                      case measure => simp [intOf]; omega
                    · have HY := Lib.hid (show fitL s l = false by
                        rw [Bool.eq_false_iff, Ne, fitL_iff, ← HL.out.2.2.1, ← HL.out.2.2.2, ← HL.out.2.1, ← HT.out.2.1, ← HT.out.2.2.1]
                        exact fun k => h3 (k h1 h2))
                      have hb := str_eq ps
                      have n3 : ((mm : Int) != (dn : Int)) = true := by simp; omega
                      have n4 : ((mm : Int) == (dn : Int)) = false := by simp; omega
                      clear h1 hy
                      subst h2
                      have HH := Lib.hid h3; clear h3
                      go_wp2
                      go_ret
                      exact HNo.out _ (X5.out.alloc _) (by rw [HOk2.out]; exact all_no HL.out.1 HY.out)
                  · have HY := Lib.hid (hy fun _ x => absurd x h2)
                    have hb := str_ne h2
                    clear h1 hy h2
                    go_wp2
                    go_roundw
                    case rel => exact ⟨q + 1, by omega, by first | rfl | (congr 1; done) | (congr 1; omega), by rw [all_take HL.out.1, hall4.out, HY.out]; rfl, hex4.out.alloc _⟩
                    case measure => simp [intOf]; omega
                · have HY := Lib.hid (hy fun x => absurd x h1)
                  have n1 : (k == 1) = false := by simp [h1]
                  clear h1 hy
                  go_wp2
                  go_roundw
                  case rel => exact ⟨q + 1, by omega, by first | rfl | (congr 1; done) | (congr 1; omega), by rw [all_take HL.out.1, hall4.out, HY.out]; rfl, hex4.out.alloc _⟩
                  case measure => simp [intOf]; omega
              · have e : ls.take q = ls := List.take_of_length_le (by have := HN.out; omega)
                have HC := Lib.hid hall4.out
                rw [e] at HC
                clear e hall4
                have hqn : ¬ (q : Int) < (n : Int) := by omega
                go_wp2
                go_roundw
                case rel =>
                  refine ⟨i + 1, by omega, by first | rfl | (congr 1; done) | (congr 1; omega), fun j u hj hu => ?_, HWX.out.trans hex4.out⟩
                  by_cases e : j = i
                  · subst e; rw [HT.out.1] at hu; cases hu; rw [HOk2.out]; exact HC.out
                  · exact hall.out j u (by omega) hu
                case measure => simp [intOf]; omega
          · go_wp2
            go_ret
            exact HNo.out _ (HXX.out.trans X3.out) (by rw [HOk.out, hsr]; simp)
        · go_wp2
          go_ret
          exact HNo.out _ (HXX.out.trans X2.out) (by rw [HOk.out, hdr]; simp)
      · go_wp2
        go_ret
        exact HNo.out _ (HXX.out.trans X1.out) (by rw [HOk.out, hbr]; simp)
    · go_wp2
      go_ret
      refine RetN.mk XR.out (congrArg Value.bool (decide_eq_true ?_).symm)
      intro j s hj
      exact hall.out j s (by have := HSN.out; have := (List.getElem?_eq_some_iff.1 hj).1; omega) hj
end Go.Proofs.Ytcphalpcdcddpaa
