/- Texts joined for a claim (BaseAdd, BaseAdd2, BaseDecl, BaseFrom, Names, Names2, RefC, BaseRels, RelRead, RefRow, RefRow2, RefRow3, OwnRun, GotE, GathAux, GathRound, Gather, RefBase, RefBaseNil). -/
import Derived.Test.YtomeebimmmfmbaaGreatGa6
import Derived.Shelf.SlIter.Sorted
import Derived.Shelf.SlSortCmp.NoneTotal
import Derived.StillTailTactics
import Derived.Deep.RegionLaw
import Derived.Deep.OwnRows
import Derived.Laws.OwnMore
/- tuple.Base: Add, at every base. -/
namespace Go.Proofs.YtomeebimmmfmbaaGreat
open Go.RowKit
set_option linter.unusedVariables false

theorem addR_name {C : List CntZ} {s : ByteArray} (row : List ByteArray) (h : namedC s = false) : addR C s row = (false, 32) := if_pos h
theorem addR_long {C : List CntZ} {s : ByteArray} {row : List ByteArray} (h : namedC s = true) (hg : getC C s = none) (hl : 64 < row.length) : addR C s row = (false, 30) := by
  unfold addR
  rw [if_neg (by rw [h]; simp), if_pos (by unfold arOk; rw [hg]; exact decide_eq_false (by omega))]
theorem addR_arity {C : List CntZ} {s : ByteArray} {row : List ByteArray} {v : Nat × Rows2} (h : namedC s = true) (hg : getC C s = some v) (hl : v.1 ≠ row.length) : addR C s row = (false, 30) := by
  unfold addR
  rw [if_neg (by rw [h]; simp), if_pos (by unfold arOk; rw [hg]; exact decide_eq_false hl)]
theorem addR_text {C : List CntZ} {s : ByteArray} {row : List ByteArray} (h : namedC s = true) (hg : arOk C s row = true) (ht : textsC row = false) : addR C s row = (false, 31) := by
  unfold addR
  rw [if_neg (by rw [h]; simp), if_neg (by rw [hg]; simp), if_pos ht]
theorem addR_many {C : List CntZ} {s : ByteArray} {row : List ByteArray} (h : namedC s = true) (hg : arOk C s row = true) (ht : textsC row = true) (hm : 262144 ≤ totalC C) (hi : isIn cmpRow (rowsC C s) row = false) : addR C s row = (false, 4) := by
  unfold addR
  rw [if_neg (by rw [h]; simp), if_neg (by rw [hg]; simp), if_neg (by rw [ht]; simp), if_pos ⟨hm, hi⟩]
theorem addR_rest {C : List CntZ} {s : ByteArray} {row : List ByteArray} (h : namedC s = true) (hg : arOk C s row = true) (ht : textsC row = true) (hm : ¬ (262144 ≤ totalC C ∧ isIn cmpRow (rowsC C s) row = false)) :
    addR C s row = if 65536 ≤ (rowsC C s).length ∧ isIn cmpRow (rowsC C s) row = false then (false, 4) else (!isIn cmpRow (rowsC C s) row, 0) := by
  unfold addR
  rw [if_neg (by rw [h]; simp), if_neg (by rw [hg]; simp), if_neg (by rw [ht]; simp), if_neg hm]
theorem ar_some {C : List CntZ} {s : ByteArray} {row : List ByteArray} {v : Nat × Rows2} (hg : getC C s = some v) (h : v.1 = row.length) : arOk C s row = true := by unfold arOk; rw [hg]; exact decide_eq_true h
theorem ar_none {C : List CntZ} {s : ByteArray} {row : List ByteArray} (hg : getC C s = none) (h : row.length ≤ 64) : arOk C s row = true := by unfold arOk; rw [hg]; exact decide_eq_true h
theorem addC_not {C : List CntZ} {s : ByteArray} {row : List ByteArray} (h : (addR C s row).2 ≠ 0) : addC C s row = C := if_neg h

section
variable {S S' : Nat → Prop} {w w1 w2 w3 w4 : World} {bb r : Nat} {E : List Ent} {s : ByteArray} {ss : List ByteArray} {e : Ent} {iv' : Value}
/-- What Add leaves. -/
def BaseAdded (S : Nat → Prop) (w : World) (bb r : Nat) (E : List Ent) (s : ByteArray) (ss : List ByteArray) (w' : World) (v : Value) : Prop :=
  v = .tuple #[.bool (addR (cntE E) s ss).1, .int .i64 ((addR (cntE E) s ss).2 : Nat)] ∧ ∃ S' E', (∀ k, S k → S' k) ∧ (∀ k, S' k → S k ∨ w.heap.size ≤ k) ∧ BaseAt S' w' bb r E' ∧ cntE E' = addC (cntE E) s ss ∧ ∀ k, OwnB bb r E' k → OwnB bb r E k ∨ w.heap.size ≤ k
theorem BaseAdded.same (h : BaseAt S w bb r E) (hk : Ext w w1) {n : Nat} (hR : addR (cntE E) s ss = (false, n)) (hn : n ≠ 0) {v : Value} (hv : v = .tuple #[.bool false, .int .i64 (n : Nat)]) : BaseAdded S w bb r E s ss w1 v :=
  ⟨by rw [hv, hR], S, E, fun _ h => h, fun _ h => .inl h, h.ext hk, (addC_not (by rw [hR]; exact hn)).symm, fun _ h => .inl h⟩
theorem own_turn {pre post : List Ent} (hiv : ∀ k, iv'.ownBlock = some k → e.iv.ownBlock = some k ∨ w.heap.size ≤ k) (LL' : List (List ByteArray)) : ∀ k, OwnB bb r (pre ++ { e with iv := iv', LL := LL' } :: post) k → OwnB bb r (pre ++ e :: post) k ∨ w.heap.size ≤ k := by
  rintro k (h | h | ⟨f, hf, ho⟩)
  · exact .inl (.inl h)
  · exact .inl (.inr (.inl h))
  · rcases List.mem_append.1 hf with hf | hf
    · exact .inl (.inr (.inr ⟨f, List.mem_append_left _ hf, ho⟩))
    · rcases List.mem_cons.1 hf with rfl | hf
      · rcases ho with ho | ho
        · exact .inl (.inr (.inr ⟨e, List.mem_append_right _ List.mem_cons_self, .inl ho⟩))
        · rcases hiv k ho with h2 | h2
          · exact .inl (.inr (.inr ⟨e, List.mem_append_right _ List.mem_cons_self, .inr h2⟩))
          · exact .inr h2
      · exact .inl (.inr (.inr ⟨f, List.mem_append_right _ (List.mem_cons_of_mem _ hf), ho⟩))
theorem baseMap_own (h : BaseAt S w bb r E) (he : findE E s = some e) (hx : Ext w w2) (hk : Kp e.own w2 w3) : MapIs w3 r (entM E) := (h.map.ext hx).kp hk fun ho => (h.off e (findE_some he).1 r ho).2 rfl
theorem baseBlk_own (h : BaseAt S w bb r E) (he : findE E s = some e) (hx : Ext w w2) (hk : Kp e.own w2 w3) : Blk w3 bb [.map (some r), .int .i64 (totalC (cntE E) : Nat)] 140 := (h.blk.ext hx).kp hk fun ho => (h.off e (findE_some he).1 bb ho).1 rfl

/-- The rows were full. -/
theorem baseAdd_full {LL : List (List ByteArray)} (h : BaseAt S w bb r E) (he : findE E s = some e) (hf : namedC s = true ∧ e.ar = ss.length ∧ textsC ss = true ∧ e.LL = LL ∧ ¬ (262144 ≤ totalC (cntE E) ∧ isIn cmpRow LL ss = false)) (hx : Ext w w2) (hk : Kp e.own w2 w3) (hss : ∀ k, S k → S' k) (hsn : ∀ k, S' k → S k ∨ w2.heap.size ≤ k)
    (hr : RowsAt S' w3 e.b iv' e.ar (rowsAddL e.ar LL ss)) (hiv : ∀ k, iv'.ownBlock = some k → e.iv.ownBlock = some k ∨ w2.heap.size ≤ k) (h0 : rowsAddR e.ar LL ss = if 65536 ≤ LL.length ∧ isIn cmpRow LL ss = false then (false, 4) else (!isIn cmpRow LL ss, 0)) (h4 : 65536 ≤ LL.length ∧ isIn cmpRow LL ss = false) :
    RetF (OwnB bb r E) w (BaseAdded S w bb r E s ss) (.returned (.tuple #[.bool false, .int .i64 4])) w3 := by
  obtain ⟨f1, f2, f3, f4, f5⟩ := hf
  obtain ⟨g1, g2⟩ := findE_rows he
  have hL : rowsAddL e.ar LL ss = LL := by unfold rowsAddL; rw [h0, if_pos h4]; rfl
  rw [hL] at hr
  have hR : addR (cntE E) s ss = (false, 4) := by
    rw [addR_rest f1 (ar_some g1 f2) f3 (by rw [g2, f4]; exact f5), g2, f4, if_pos h4]
  have hC : addC (cntE E) s ss = cntE E := addC_not (by rw [hR]; decide)
  obtain ⟨pre, post, rfl⟩ := findE_split he
  have hem : e ∈ pre ++ e :: post := List.mem_append_right _ List.mem_cons_self
  have hkw : Kp e.own w w3 := (Ext.kp hx).trans hk
  have hz := hx.size
  have hs2 : ∀ k, S' k → S k ∨ w.heap.size ≤ k := fun k hk' => (hsn k hk').imp id fun q => Nat.le_trans hz q
  have hiv2 : ∀ k, iv'.ownBlock = some k → e.iv.ownBlock = some k ∨ w.heap.size ≤ k := fun k hk' => (hiv k hk').imp id fun q => Nat.le_trans hz q
  have hsame : cntE (pre ++ { e with iv := iv', LL := LL } :: post) = cntE (pre ++ e :: post) := by
    rw [← f4]; simp [cntE, Ent.cnt]
  refine RetF.mk (hkw.mono fun k _ ho => .inr (.inr ⟨e, hem, ho⟩)) ⟨by rw [hR]; rfl, S', pre ++ { e with iv := iv', LL := LL } :: post, hss, hs2, ?_, by rw [hC, hsame], own_turn hiv2 LL⟩
  exact h.turn hkw hss hs2 hr hiv2 (Kp.refl _) (baseMap_own h he hx hk) (baseBlk_own h he hx hk) (by rw [hsame]) (by rw [hsame]; exact h.ok)
/-- It was there. -/
theorem baseAdd_had {LL : List (List ByteArray)} (h : BaseAt S w bb r E) (he : findE E s = some e) (hf : namedC s = true ∧ e.ar = ss.length ∧ textsC ss = true ∧ e.LL = LL ∧ ¬ (262144 ≤ totalC (cntE E) ∧ isIn cmpRow LL ss = false)) (hx : Ext w w2) (hk : Kp e.own w2 w3) (hss : ∀ k, S k → S' k) (hsn : ∀ k, S' k → S k ∨ w2.heap.size ≤ k)
    (hr : RowsAt S' w3 e.b iv' e.ar (rowsAddL e.ar LL ss)) (hiv : ∀ k, iv'.ownBlock = some k → e.iv.ownBlock = some k ∨ w2.heap.size ≤ k) (h0 : rowsAddR e.ar LL ss = if 65536 ≤ LL.length ∧ isIn cmpRow LL ss = false then (false, 4) else (!isIn cmpRow LL ss, 0)) (hi : isIn cmpRow LL ss = true)
    (hk4 : Kp (fun k => k = r) w3 w4) (hm4 : MapIs w4 r (putM (entM E) s (.pointer (some ⟨e.b, 0, none⟩)))) : RetF (OwnB bb r E) w (BaseAdded S w bb r E s ss) (.returned (.tuple #[.bool false, .int .i64 0])) w4 := by
  obtain ⟨f1, f2, f3, f4, f5⟩ := hf
  obtain ⟨g1, g2⟩ := findE_rows he
  have hn4 : ¬ (65536 ≤ LL.length ∧ isIn cmpRow LL ss = false) := fun k => by rw [hi] at k; cases k.2
  have hadd : addS cmpRow LL ss = LL := by unfold addS; rw [if_pos hi]
  have hL : rowsAddL e.ar LL ss = LL := by unfold rowsAddL; rw [h0, if_neg hn4]; exact hadd
  rw [hL] at hr
  have hR : addR (cntE E) s ss = (false, 0) := by
    rw [addR_rest f1 (ar_some g1 f2) f3 (by rw [g2, f4]; exact f5), g2, f4, if_neg hn4, hi]; rfl
  have hnd := h.ok.nodup
  rw [show putM (entM E) s (.pointer (some ⟨e.b, 0, none⟩)) = entM E from entM_put he (by rw [entM_names]; exact hnd)] at hm4
  obtain ⟨pre, post, rfl⟩ := findE_split he
  have hem : e ∈ pre ++ e :: post := List.mem_append_right _ List.mem_cons_self
  have hkw : Kp e.own w w3 := (Ext.kp hx).trans hk
  have hz := hx.size
  have hs2 : ∀ k, S' k → S k ∨ w.heap.size ≤ k := fun k hk' => (hsn k hk').imp id fun q => Nat.le_trans hz q
  have hiv2 : ∀ k, iv'.ownBlock = some k → e.iv.ownBlock = some k ∨ w.heap.size ≤ k := fun k hk' => (hiv k hk').imp id fun q => Nat.le_trans hz q
  have hsame : cntE (pre ++ { e with iv := iv', LL := LL } :: post) = cntE (pre ++ e :: post) := by
    rw [← f4]; simp [cntE, Ent.cnt]
  have hC : addC (cntE (pre ++ e :: post)) s ss = cntE (pre ++ { e with iv := iv', LL := LL } :: post) := by
    unfold addC
    rw [if_pos (by rw [hR]), g2, f4, hadd, ← f2]
    exact cntE_set he hnd iv' LL
  refine RetF.mk ((hkw.mono fun k _ ho => .inr (.inr ⟨e, hem, ho⟩)).trans (hk4.mono fun k _ ho => .inr (.inl ho))) ⟨by rw [hR]; rfl, S', pre ++ { e with iv := iv', LL := LL } :: post, hss, hs2, ?_, hC.symm, own_turn hiv2 LL⟩
  exact h.turn hkw hss hs2 hr hiv2 (hk4.mono fun k _ ho => .inr ho) hm4 ((baseBlk_own h he hx hk).kp hk4 h.ne) (by rw [hsame]) (by rw [hsame]; exact h.ok)
/-- It came. -/
theorem baseAdd_got {LL : List (List ByteArray)} {n : Nat} (h : BaseAt S w bb r E) (he : findE E s = some e) (hf : namedC s = true ∧ e.ar = ss.length ∧ textsC ss = true ∧ e.LL = LL ∧ ¬ (262144 ≤ totalC (cntE E) ∧ isIn cmpRow LL ss = false)) (hx : Ext w w2) (hk : Kp e.own w2 w3) (hss : ∀ k, S k → S' k) (hsn : ∀ k, S' k → S k ∨ w2.heap.size ≤ k)
    (hr : RowsAt S' w3 e.b iv' e.ar (rowsAddL e.ar LL ss)) (hiv : ∀ k, iv'.ownBlock = some k → e.iv.ownBlock = some k ∨ w2.heap.size ≤ k) (h0 : rowsAddR e.ar LL ss = if 65536 ≤ LL.length ∧ isIn cmpRow LL ss = false then (false, 4) else (!isIn cmpRow LL ss, 0)) (hi : isIn cmpRow LL ss = false) (hn4 : ¬ (65536 ≤ LL.length ∧ isIn cmpRow LL ss = false))
    (hk4 : Kp (fun k => k = r) w3 w4) (hm4 : MapIs w4 r (putM (entM E) s (.pointer (some ⟨e.b, 0, none⟩)))) (en : totalC (cntE E) = n) : RetF (OwnB bb r E) w (BaseAdded S w bb r E s ss) (.returned (.tuple #[.bool true, .int .i64 0])) (w4.setCell ⟨bb, 1, none⟩ (.int .i64 ((n : Int) + 1))) := by
  obtain ⟨f1, f2, f3, f4, f5⟩ := hf
  obtain ⟨g1, g2⟩ := findE_rows he
  have hL : rowsAddL e.ar LL ss = addS cmpRow LL ss := by unfold rowsAddL; rw [h0, if_neg hn4]; rfl
  rw [hL] at hr
  have hR : addR (cntE E) s ss = (true, 0) := by
    rw [addR_rest f1 (ar_some g1 f2) f3 (by rw [g2, f4]; exact f5), g2, f4, if_neg hn4, hi]; rfl
  have hnd := h.ok.nodup
  rw [show putM (entM E) s (.pointer (some ⟨e.b, 0, none⟩)) = entM E from entM_put he (by rw [entM_names]; exact hnd)] at hm4
  obtain ⟨pre, post, rfl⟩ := findE_split he
  have hem : e ∈ pre ++ e :: post := List.mem_append_right _ List.mem_cons_self
  have hkw : Kp e.own w w3 := (Ext.kp hx).trans hk
  have hz := hx.size
  have hs2 : ∀ k, S' k → S k ∨ w.heap.size ≤ k := fun k hk' => (hsn k hk').imp id fun q => Nat.le_trans hz q
  have hiv2 : ∀ k, iv'.ownBlock = some k → e.iv.ownBlock = some k ∨ w.heap.size ≤ k := fun k hk' => (hiv k hk').imp id fun q => Nat.le_trans hz q
  have hset := cntE_set he hnd iv' (addS cmpRow LL ss)
  have hC : addC (cntE (pre ++ e :: post)) s ss = cntE (pre ++ { e with iv := iv', LL := addS cmpRow LL ss } :: post) := by
    unfold addC
    rw [if_pos (by rw [hR]), g2, f4, ← f2]
    exact hset
  have htot : n + 1 = totalC (cntE (pre ++ { e with iv := iv', LL := addS cmpRow LL ss } :: post)) := by
    have h1 := total_set hnd (s := s) (v := (e.ar, addS cmpRow LL ss))
    rw [hset, g2, f4] at h1
    have h2 := addS_len (c := cmpRow) LL ss
    rw [hi] at h2
    simp only [Bool.false_eq_true, if_false] at h2
    have h3 : (e.ar, addS cmpRow LL ss).2.length = LL.length + 1 := h2
    omega
  have kf : Kp (fun k => k = bb ∨ k = r) w3 (w4.setCell ⟨bb, 1, none⟩ (.int .i64 ((n : Int) + 1))) := (hk4.mono fun k _ ho => .inr ho).trans (Kp.setCell (F := fun k => k = bb ∨ k = r) (Kp.refl w4) (fun _ => .inl rfl) _)
  have hb5 : Blk (w4.setCell ⟨bb, 1, none⟩ (.int .i64 ((n : Int) + 1))) bb [.map (some r), .int .i64 ((n + 1 : Nat) : Int)] 140 := by
    have h1 := ((baseBlk_own h he hx hk).kp hk4 h.ne).set 1 (.int .i64 ((n : Int) + 1))
    exact h1
  have hm5 := hm4.kp (Kp.setCell (F := fun k => k = bb) (Kp.refl w4) (p := ⟨bb, 1, none⟩) (fun _ => rfl) (.int .i64 ((n : Int) + 1))) (fun e2 => h.ne e2.symm)
  refine RetF.mk ((hkw.mono fun k _ ho => .inr (.inr ⟨e, hem, ho⟩)).trans (kf.mono fun k _ ho => ho.elim .inl fun h => .inr (.inl h))) ⟨by rw [hR]; rfl, S', pre ++ { e with iv := iv', LL := addS cmpRow LL ss } :: post, hss, hs2, ?_, hC.symm, own_turn hiv2 _⟩
  exact h.turn hkw hss hs2 hr hiv2 kf hm5 hb5 htot (by rw [← hC]; exact ok_add h.ok s ss)
/-- Rows under a new name. -/
theorem baseAdd_new {n : Nat} {b : Nat} (h : BaseAt S w bb r E) (he : findE E s = none) (hf : namedC s = true ∧ ss.length ≤ 64 ∧ textsC ss = true ∧ ¬ 262144 ≤ totalC (cntE E)) (hx : Ext w w3) (hss : ∀ k, S k → S' k) (hsn : ∀ k, S' k → S k ∨ w.heap.size ≤ k)
    (hr : RowsAt S' w3 b iv' ss.length [ss]) (hb : w.heap.size ≤ b) (hiv : ∀ k, iv'.ownBlock = some k → w.heap.size ≤ k)
    (hk4 : Kp (fun k => k = r) w3 w4) (hm4 : MapIs w4 r (putM (entM E) s (.pointer (some ⟨b, 0, none⟩)))) (en : totalC (cntE E) = n) : RetF (OwnB bb r E) w (BaseAdded S w bb r E s ss) (.returned (.tuple #[.bool true, .int .i64 0])) (w4.setCell ⟨bb, 1, none⟩ (.int .i64 ((n : Int) + 1))) := by
  obtain ⟨f1, f2, f3, f4⟩ := hf
  obtain ⟨g1, g2⟩ := findE_none he
  have hR : addR (cntE E) s ss = (true, 0) := by
    rw [addR_rest f1 (ar_none g1 f2) f3 (fun k => f4 k.1), g2, if_neg (by simp)]; rfl
  have hone : addS cmpRow [] ss = [ss] := by simp [addS, isIn, below]
  have hpush := cntE_push he b iv' ss.length [ss]
  have hC : addC (cntE E) s ss = cntE (E ++ [{ name := s, b := b, iv := iv', ar := ss.length, LL := [ss] }]) := by
    unfold addC
    rw [if_pos (by rw [hR]), g2, hone]
    exact hpush
  have htot : n + 1 = totalC (cntE (E ++ [{ name := s, b := b, iv := iv', ar := ss.length, LL := [ss] }])) := by
    rw [← en]
    simp [totalC, cntE, Ent.cnt]
  rw [entM_push he b iv' ss.length [ss]] at hm4
  have kf : Kp (fun k => k = bb ∨ k = r) w3 (w4.setCell ⟨bb, 1, none⟩ (.int .i64 ((n : Int) + 1))) := (hk4.mono fun k _ ho => .inr ho).trans (Kp.setCell (F := fun k => k = bb ∨ k = r) (Kp.refl w4) (fun _ => .inl rfl) _)
  have hb5 : Blk (w4.setCell ⟨bb, 1, none⟩ (.int .i64 ((n : Int) + 1))) bb [.map (some r), .int .i64 ((n + 1 : Nat) : Int)] 140 := ((h.blk.ext hx).kp hk4 h.ne).set 1 (.int .i64 ((n : Int) + 1))
  have hm5 := hm4.kp (Kp.setCell (F := fun k => k = bb) (Kp.refl w4) (p := ⟨bb, 1, none⟩) (fun _ => rfl) (.int .i64 ((n : Int) + 1))) (fun e2 => h.ne e2.symm)
  have ho : ∀ k, Owns b iv' k → w.heap.size ≤ k := fun k ho => by
    rcases ho with rfl | ho
    · exact hb
    · exact hiv k ho
  refine RetF.mk ((Ext.kp hx).trans (kf.mono fun k _ ho => ho.elim .inl fun h => .inr (.inl h))) ⟨by rw [hR]; rfl, S', E ++ [{ name := s, b := b, iv := iv', ar := ss.length, LL := [ss] }], hss, hsn, ?_, hC.symm, ?_⟩
  · exact h.push (e := { name := s, b := b, iv := iv', ar := ss.length, LL := [ss] }) hx hss hsn hr ho kf hb5 hm5 htot (by rw [← hC]; exact ok_add h.ok s ss)
  · rintro k (h1 | h1 | ⟨f, hf, ho2⟩)
    · exact .inl (.inl h1)
    · exact .inl (.inr (.inl h1))
    · rcases List.mem_append.1 hf with hf | hf
      · exact .inl (.inr (.inr ⟨f, hf, ho2⟩))
      · obtain rfl := List.mem_singleton.1 hf
        exact .inr (ho k ho2)
end
end Go.Proofs.YtomeebimmmfmbaaGreat

/- tuple.Base: Add, walked. -/
namespace Go.Proofs.YtomeebimmmfmbaaGreat
open Go.RowKit
set_option linter.unusedVariables false

set_option maxRecDepth 100000 in
set_option maxHeartbeats 4000000 in
theorem baseAdd_any {S : Nat → Prop} {w : World} {bb r : Nat} {E : List Ent} (h : BaseAt S w bb r E) (s : ByteArray) {ao : Option Addr} {k cap : Nat} {ss : List ByteArray} (hx : RowIn w (ao, k, cap) ss) (ho : RowOff (ao, k, cap) (OwnB bb r E)) :
    Calls Tryz.prog 57 #[.pointer (some ⟨bb, 0, none⟩), .string s, .slice ao k cap] w (RetF (OwnB bb r E) w (BaseAdded S w bb r E s ss)) := by
  have hkn : k = ss.length := hx.1.1
  have hcs : CellsAt w ao (strs ss) := hx.1.2
  have hkl : k ≤ 8796093021952 := by rw [hkn]; exact hx.2.1
  have c0 : w.cell? ⟨bb, 0, none⟩ = some (.map (some r)) := by rw [h.blk.cell']; rfl
  have hlk := run_lookup_str (P := Tryz.prog) Tryz.underlying137 Tryz.underlying9 (z := .pointer none) (by kernel_rfl) h.map s
  rw [entM_get] at hlk
  have hnm := named_any s w
  rw [show decide (1 ≤ s.size ∧ s.size ≤ 4096) = namedC s from rfl] at hnm
  have HN := Lib.hid hnm; clear hnm
  have HT := Lib.hid (fun w1 (hw : Ext w w1) => texts_any ss ao k cap w1 hkn (hcs.ext hw) (by omega))
  obtain ⟨n, en⟩ : ∃ n, totalC (cntE E) = n := ⟨_, rfl⟩
  have EN := Lib.hid en
  have hnl : n ≤ 262144 := by rw [← en]; exact h.ok.few
  have c1 : w.cell? ⟨bb, 1, none⟩ = some (.int .i64 n) := by rw [h.blk.cell', en]; rfl
  have HC1 := Lib.hid (fun w1 (hw : Ext w w1) => (hw.cell c1 id : w1.cell? ⟨bb, 1, none⟩ = some (.int .i64 n)))
  have H := Lib.hid h
  have HX := Lib.hid (And.intro hx ho)
  have HKN := Lib.hid hkn
  clear h hx ho hcs hkn en c1
  cases hn : namedC s with
  | false =>
    rw [hn] at HN
    have HNM := Lib.hid hn
    clear hn hlk c0
    go_enter Tryz.func57, Tryz.ntmps57
    go_wp2_with fail
    refine HN.out.mono ?_
    rintro e w' ⟨rfl, rfl⟩
    go_wp2
    go_ret2
    exact RetF.mk (Kp.refl _) (BaseAdded.same H.out (Kp.refl _) (addR_name ss HNM.out) (by decide) rfl)
  | true =>
    rw [hn] at HN
    have HNM := Lib.hid hn
    clear hn
    cases he : findE E s with
    | none =>
      rw [he] at hlk
      have hlk' : ∀ w', w' = w → (Instr.lookup 137 (.map (some r)) (.string s) false).run Tryz.prog w' = .ok (.pointer none) w' := fun w' e => by rw [e]; exact hlk
      replace hlk := hlk' w rfl
      clear hlk'
      have HE := Lib.hid he
      clear he
      by_cases hl : 64 < k
      · have HNB := Lib.hid (newRows_bad (k : Int) w (.inr (by omega)))
        go_enter Tryz.func57, Tryz.ntmps57
        go_wp2_with fail
        refine HN.out.mono ?_
        rintro e w' ⟨rfl, rfl⟩
        go_wp2_with fail
        refine HNB.out.mono ?_
        rintro e w' ⟨rfl, rfl⟩
        go_wp2
        go_ret2
        exact RetF.mk (Kp.refl _) (BaseAdded.same H.out (Kp.refl _) (addR_long HNM.out (findE_none HE.out).1 (by rw [← HKN.out]; exact hl)) (by decide) rfl)
      have hk64 : k ≤ 64 := by omega
      have HNR := Lib.hid (newRows_any S w k hk64 H.out.inS)
      have HL := Lib.hid (show ss.length ≤ 64 by rw [← HKN.out]; exact hk64)
      clear hl
      cases ht : textsC ss with
      | false =>
        rw [ht] at HT
        have HTX := Lib.hid ht
        clear ht
        go_enter Tryz.func57, Tryz.ntmps57
        go_wp2_with fail
        refine HN.out.mono ?_
        rintro e w' ⟨rfl, rfl⟩
        go_wp2_with fail
        refine HNR.out.mono ?_
        rintro e w1 ⟨v, rfl, hk1, rfl, hrows⟩
        have d2 : w1.cell? ⟨w.heap.size, 2, none⟩ = some (.int .i64 k) := by rw [hrows.blk.cell']; rfl
        have HK1 := Lib.hid hk1
        clear hk1 hrows
        go_wp2_with fail
        refine (HT.out w1 HK1.out).mono ?_
        rintro e w2 ⟨v, rfl, hk2, rfl⟩
        have HK2 := Lib.hid (HK1.out.trans hk2)
        clear hk2
        go_wp2
        go_ret2
        exact RetF.mk (Ext.kp HK2.out) (BaseAdded.same H.out HK2.out (addR_text HNM.out (ar_none (findE_none HE.out).1 HL.out) HTX.out) (by decide) rfl)
      | true =>
        rw [ht] at HT
        have HTX := Lib.hid ht
        clear ht
        have HAdd := Lib.hid (fun w1 (hw : Ext w w1) (hr : RowsAt S w1 w.heap.size (.slice none 0 0) k []) => rowsAdd_any hr List.Pairwise.nil (ao := ao) (n := k) (cap := cap) (ss := ss) ⟨⟨HKN.out, HX.out.1.1.2.ext hw⟩, HX.out.1.2.1, fun a e hne => Nat.lt_of_lt_of_le (HX.out.1.2.2 a e hne) hw.size⟩
          (fun a e hne ho => by
            have := HX.out.1.2.2 a e hne
            rcases ho with ho | ho
            · omega
            · cases ho) (by simp))
        by_cases hm : 262144 ≤ n
        · have q2 : decide ((262144 : Int) ≤ (n : Int)) = true := by rw [decide_eq_true_iff]; omega
          have HM := Lib.hid hm
          have HHas := Lib.hid (fun w1 (hw : Ext w w1) (hr : RowsAt S w1 w.heap.size (.slice none 0 0) k []) => rowsHas_any hr List.Pairwise.nil (x := (ao, k, cap)) (ss := ss) ⟨⟨HKN.out, HX.out.1.1.2.ext hw⟩, HX.out.1.2.1, fun a e hne => Nat.lt_of_lt_of_le (HX.out.1.2.2 a e hne) hw.size⟩
            (fun a e hne ho => by
              have := HX.out.1.2.2 a e hne
              rcases ho with ho | ho
              · omega
              · cases ho))
          clear hm
          go_enter Tryz.func57, Tryz.ntmps57
          go_wp2_with fail
          refine HN.out.mono ?_
          rintro e w' ⟨rfl, rfl⟩
          go_wp2_with fail
          refine HNR.out.mono ?_
          rintro e w1 ⟨v, rfl, hk1, rfl, hrows⟩
          have d2 : w1.cell? ⟨w.heap.size, 2, none⟩ = some (.int .i64 k) := by rw [hrows.blk.cell']; rfl
          have HK1 := Lib.hid (And.intro hk1 hrows)
          clear hk1 hrows
          go_wp2_with fail
          refine (HT.out w1 HK1.out.1).mono ?_
          rintro e w2 ⟨v, rfl, hk2, rfl⟩
          have HK2 := Lib.hid (HK1.out.1.trans hk2)
          have HR2 := Lib.hid (HK1.out.2.ext hk2)
          have c1' := HC1.out w2 HK2.out
          clear hk2 d2
          go_wp2_with fail
          refine (HHas.out w2 HK2.out HR2.out).mono ?_
          rintro e w3 ⟨v, rfl, hk3, rfl⟩
          have HK3 := Lib.hid (HK2.out.trans hk3)
          clear hk3 c1'
          have hni : isIn cmpRow ([] : List (List ByteArray)) ss = false := rfl
          go_wp2
          go_ret2
          exact RetF.mk (Ext.kp HK3.out) (BaseAdded.same H.out HK3.out (addR_many HNM.out (ar_none (findE_none HE.out).1 HL.out) HTX.out (by rw [EN.out]; exact HM.out) (by rw [(findE_none HE.out).2]; rfl)) (by decide) rfl)
        · have q2 : decide ((262144 : Int) ≤ (n : Int)) = false := by rw [decide_eq_false_iff_not]; omega
          have HM := Lib.hid hm
          clear hm
          go_enter Tryz.func57, Tryz.ntmps57
          go_wp2_with fail
          refine HN.out.mono ?_
          rintro e w' ⟨rfl, rfl⟩
          go_wp2_with fail
          refine HNR.out.mono ?_
          rintro e w1 ⟨v, rfl, hk1, rfl, hrows⟩
          have d2 : w1.cell? ⟨w.heap.size, 2, none⟩ = some (.int .i64 k) := by rw [hrows.blk.cell']; rfl
          have HK1 := Lib.hid (And.intro hk1 hrows)
          clear hk1 hrows
          go_wp2_with fail
          refine (HT.out w1 HK1.out.1).mono ?_
          rintro e w2 ⟨v, rfl, hk2, rfl⟩
          have HK2 := Lib.hid (HK1.out.1.trans hk2)
          have HR2 := Lib.hid (HK1.out.2.ext hk2)
          have c1' := HC1.out w2 HK2.out
          clear hk2 d2
          go_wp2_with fail
          refine (HAdd.out w2 HK2.out HR2.out).mono ?_
          rintro e w3 ⟨v, rfl, hk3, hv, S', iv', hss, hsn, hrows3, hiv⟩
          have e0 : rowsAddR k [] ss = (true, 0) := by
            unfold rowsAddR; rw [if_neg (by rw [HKN.out]; simp), if_neg (by rw [HTX.out]; simp), if_neg (by simp)]; simp [isIn]
          have e1 : rowsAddL k [] ss = [ss] := by
            unfold rowsAddL; rw [e0]; simp [addS, isIn, below]
          rw [e0] at hv
          rw [e1] at hrows3
          subst hv
          have hz := HK2.out.size
          have kk3 : Kp (fun g => g = w.heap.size) w2 w3 := hk3.mono fun g _ h => by
            rcases h with h | h
            · exact h
            · cases h
          have hex3 : Ext w w3 := HK2.out.trans' kk3 (fun i hi e => by omega)
          rw [HKN.out] at hrows3
          have HR3 := Lib.hid (And.intro hex3 (And.intro hss (And.intro (fun q (hq : S' q) => (hsn q hq).imp id fun u => Nat.le_trans hz u) (And.intro hrows3 (fun q (hq : iv'.ownBlock = some q) => show w.heap.size ≤ q by
            rcases hiv q hq with u | u
            · cases u
            · exact Nat.le_trans hz u)))))
          have HB3 := Lib.hid (And.intro (H.out.blk.ext hex3) (H.out.map.ext hex3))
          clear hk3 kk3 hex3 hrows3 hss hsn hiv e0 e1 c1' hlk c0 hz
          go_wp2_with fail
          refine (basePut_any HB3.out.1 HB3.out.2 s (some ⟨w.heap.size, 0, none⟩)).mono ?_
          rintro e w4 ⟨v, rfl, hk4, hm4⟩
          have HM4 := Lib.hid (And.intro hk4 hm4)
          have hb4 : Blk w4 bb [.map (some r), .int .i64 (totalC (cntE E) : Nat)] 140 := HB3.out.1.kp hk4 H.out.ne
          have c4 : w4.cell? ⟨bb, 1, none⟩ = some (.int .i64 n) := by rw [hb4.cell', EN.out]; rfl
          have f4 := hb4.free 1
          clear hk4 hm4 hb4
          go_wp2
          go_ret2
          exact baseAdd_new H.out HE.out ⟨HNM.out, HL.out, HTX.out, by rw [EN.out]; exact HM.out⟩ HR3.out.1 HR3.out.2.1 HR3.out.2.2.1 HR3.out.2.2.2.1 (Nat.le_refl _) HR3.out.2.2.2.2 HM4.out.1 HM4.out.2 EN.out
    | some e0 =>
      rw [he] at hlk
      have HE := Lib.hid he
      obtain ⟨hem, hes⟩ := findE_some he
      obtain ⟨b0, eb0⟩ : ∃ b0, e0.b = b0 := ⟨_, rfl⟩
      obtain ⟨ar, ear⟩ : ∃ ar, e0.ar = ar := ⟨_, rfl⟩
      obtain ⟨LL, eLL⟩ : ∃ LL, e0.LL = LL := ⟨_, rfl⟩
      have hlk' : (Instr.lookup 137 (.map (some r)) (.string s) false).run Tryz.prog w = .ok (.pointer (some ⟨b0, 0, none⟩)) w := by rw [← eb0]; exact hlk
      have hra := H.out.rows e0 hem
      have d2 : w.cell? ⟨b0, 2, none⟩ = some (.int .i64 ar) := by rw [← eb0, hra.blk.cell', ear]; rfl
      have HEM := Lib.hid (And.intro hem (And.intro eb0 (And.intro ear eLL)))
      have hoff : RowOff (ao, k, cap) (Owns e0.b e0.iv) := fun a e hne hown => HX.out.2 a e hne (.inr (.inr ⟨e0, hem, hown⟩))
      have HOff := Lib.hid hoff
      have HHas := Lib.hid (fun w1 (hw : Ext w w1) => rowsHas_any ((H.out.rows e0 hem).ext hw) (H.out.strict hem) (x := (ao, k, cap)) (ss := ss) ⟨⟨HKN.out, HX.out.1.1.2.ext hw⟩, HX.out.1.2.1, fun a e hne => Nat.lt_of_lt_of_le (HX.out.1.2.2 a e hne) hw.size⟩ hoff)
      have HA := Lib.hid (fun w1 (hw : Ext w w1) => rowsAdd_any ((H.out.rows e0 hem).ext hw) (H.out.strict hem) (ao := ao) (n := k) (cap := cap) (ss := ss) ⟨⟨HKN.out, HX.out.1.1.2.ext hw⟩, HX.out.1.2.1, fun a e hne => Nat.lt_of_lt_of_le (HX.out.1.2.2 a e hne) hw.size⟩ hoff (by have := H.out.few hem; omega))
      clear he hem hes hra hoff hlk
      rw [HEM.out.2.1, HEM.out.2.2.2] at HHas
      rw [HEM.out.2.1, HEM.out.2.2.1, HEM.out.2.2.2] at HA
      clear eb0 ear eLL
      by_cases ha : ar = k
      · have HAr := Lib.hid ha
        have q1 : ((ar : Int) != (k : Int)) = false := by simp [ha]
        clear ha
        have hnil : Ext w w := Kp.refl w
        cases ht : textsC ss with
        | false =>
          rw [ht] at HT
          have HTX := Lib.hid ht
          clear ht
          go_enter Tryz.func57, Tryz.ntmps57
          go_wp2_with fail
          refine HN.out.mono ?_
          rintro e w' ⟨rfl, rfl⟩
          go_wp2_with fail
          refine (HT.out w hnil).mono ?_
          rintro e w2 ⟨v, rfl, hk2, rfl⟩
          have HK2 := Lib.hid hk2
          clear hk2
          go_wp2
          go_ret2
          exact RetF.mk (Ext.kp HK2.out) (BaseAdded.same H.out HK2.out (addR_text HNM.out (ar_some (findE_rows HE.out).1 (by rw [HEM.out.2.2.1, HAr.out]; exact HKN.out)) HTX.out) (by decide) rfl)
        | true =>
          rw [ht] at HT
          have HTX := Lib.hid ht
          clear ht
          have hR0 : rowsAddR ar LL ss = if 65536 ≤ LL.length ∧ isIn cmpRow LL ss = false then (false, 4) else (!isIn cmpRow LL ss, 0) := by
            unfold rowsAddR
            rw [if_neg (by rw [HAr.out, HKN.out]; simp), if_neg (by rw [HTX.out]; simp)]
          have HR0 := Lib.hid hR0
          clear hR0
          by_cases hm : 262144 ≤ n
          · have q2 : decide ((262144 : Int) ≤ (n : Int)) = true := by rw [decide_eq_true_iff]; omega
            have HM := Lib.hid hm
            clear hm
            cases hi : isIn cmpRow LL ss with
            | false =>
              have HI := Lib.hid hi
              rw [hi] at HHas
              clear hi
              go_enter Tryz.func57, Tryz.ntmps57
              go_wp2_with fail
              refine HN.out.mono ?_
              rintro e w' ⟨rfl, rfl⟩
              go_wp2_with fail
              refine (HT.out w hnil).mono ?_
              rintro e w2 ⟨v, rfl, hk2, rfl⟩
              have HK2 := Lib.hid hk2
              have c1' := HC1.out w2 hk2
              clear hk2
              go_wp2_with fail
              refine (HHas.out w2 HK2.out).mono ?_
              rintro e w3 ⟨v, rfl, hk3, rfl⟩
              have HK3 := Lib.hid (HK2.out.trans hk3)
              clear hk3 c1'
              go_wp2
              go_ret2
              exact RetF.mk (Ext.kp HK3.out) (BaseAdded.same H.out HK3.out (addR_many HNM.out (ar_some (findE_rows HE.out).1 (by rw [HEM.out.2.2.1, HAr.out]; exact HKN.out)) HTX.out (by rw [EN.out]; exact HM.out) (by rw [(findE_rows HE.out).2, HEM.out.2.2.2]; exact HI.out)) (by decide) rfl)
            | true =>
              have HI0 := Lib.hid hi
              rw [hi] at HHas
              clear hi
              have HF := Lib.hid (show (namedC s = true ∧ e0.ar = ss.length ∧ textsC ss = true ∧ e0.LL = LL ∧ ¬ (262144 ≤ totalC (cntE E) ∧ isIn cmpRow LL ss = false)) ∧ True from ⟨⟨HNM.out, by rw [HEM.out.2.2.1, HAr.out]; exact HKN.out, HTX.out, HEM.out.2.2.2, fun q => by rw [HI0.out] at q; cases q.2⟩, trivial⟩)
              go_enter Tryz.func57, Tryz.ntmps57
              go_wp2_with fail
              refine HN.out.mono ?_
              rintro e w' ⟨rfl, rfl⟩
              go_wp2_with fail
              refine (HT.out w hnil).mono ?_
              rintro e w2 ⟨v, rfl, hk2, rfl⟩
              have HK2 := Lib.hid hk2
              have c1' := HC1.out w2 hk2
              clear hk2
              go_wp2_with fail
              refine (HHas.out w2 HK2.out).mono ?_
              rintro e w2b ⟨v, rfl, hk3, rfl⟩
              have HK2b := Lib.hid (HK2.out.trans hk3)
              clear hk3 c1'
              go_wp2_with fail
              refine (HA.out w2b HK2b.out).mono ?_
              rintro e w3 ⟨v, rfl, hk3, hv, S', iv', hss, hsn, hrows3, hiv⟩
              rw [← HEM.out.2.1] at hk3 hrows3
              rw [← HEM.out.2.2.1] at hrows3
              have HX3 := Lib.hid (And.intro hk3 (And.intro hss (And.intro hsn (And.intro hrows3 hiv))))
              rw [HR0.out] at hv
              subst hv
              clear hk3 hss hsn hrows3 hiv
              by_cases h4 : 65536 ≤ LL.length ∧ isIn cmpRow LL ss = false
              · have e4 : (if 65536 ≤ LL.length ∧ isIn cmpRow LL ss = false then (false, 4) else (!isIn cmpRow LL ss, 0)) = (false, 4) := if_pos h4
                have H4 := Lib.hid (And.intro h4 e4)
                rw [e4]
                clear h4 e4
                go_wp2
                go_ret2
                exact baseAdd_full H.out HE.out HF.out.1 HK2b.out HX3.out.1 HX3.out.2.1 HX3.out.2.2.1 HX3.out.2.2.2.1 HX3.out.2.2.2.2 (by rw [HEM.out.2.2.1]; exact HR0.out) H4.out.1
              · have e4 : (if 65536 ≤ LL.length ∧ isIn cmpRow LL ss = false then (false, 4) else (!isIn cmpRow LL ss, 0)) = (!isIn cmpRow LL ss, 0) := if_neg h4
                have H4 := Lib.hid (And.intro h4 e4)
                rw [e4]
                clear h4 e4
                have hm3 := baseMap_own H.out HE.out HK2b.out HX3.out.1
                have hb3 := baseBlk_own H.out HE.out HK2b.out HX3.out.1
                have HB3 := Lib.hid (And.intro hb3 hm3)
                have c31 : w3.cell? ⟨bb, 1, none⟩ = some (.int .i64 n) := by rw [HB3.out.1.cell', EN.out]; rfl
                clear hm3 hb3 c31
                cases hi : isIn cmpRow LL ss with
                | true =>
                  have HI := Lib.hid hi
                  clear hi
                  go_wp2_with fail
                  refine (basePut_any HB3.out.1 HB3.out.2 s (some ⟨b0, 0, none⟩)).mono ?_
                  rintro e w4 ⟨v, rfl, hk4, hm4⟩
                  rw [← HEM.out.2.1] at hm4
                  have HM4 := Lib.hid (And.intro hk4 hm4)
                  clear hk4 hm4
                  go_wp2
                  go_ret2
                  exact baseAdd_had H.out HE.out HF.out.1 HK2b.out HX3.out.1 HX3.out.2.1 HX3.out.2.2.1 HX3.out.2.2.2.1 HX3.out.2.2.2.2 (by rw [HEM.out.2.2.1]; exact HR0.out) HI.out HM4.out.1 HM4.out.2
                | false =>
                  have HI := Lib.hid hi
                  clear hi
                  go_wp2_with fail
                  refine (basePut_any HB3.out.1 HB3.out.2 s (some ⟨b0, 0, none⟩)).mono ?_
                  rintro e w4 ⟨v, rfl, hk4, hm4⟩
                  rw [← HEM.out.2.1] at hm4
                  have HM4 := Lib.hid (And.intro hk4 hm4)
                  have hb4 : Blk w4 bb [.map (some r), .int .i64 (totalC (cntE E) : Nat)] 140 := HB3.out.1.kp hk4 H.out.ne
                  have c4 : w4.cell? ⟨bb, 1, none⟩ = some (.int .i64 n) := by rw [hb4.cell', EN.out]; rfl
                  have f4 := hb4.free 1
                  clear hk4 hm4 hb4
                  go_wp2
                  go_ret2
                  exact baseAdd_got H.out HE.out HF.out.1 HK2b.out HX3.out.1 HX3.out.2.1 HX3.out.2.2.1 HX3.out.2.2.2.1 HX3.out.2.2.2.2 (by rw [HEM.out.2.2.1]; exact HR0.out) HI.out H4.out.1 HM4.out.1 HM4.out.2 EN.out
          · have q2 : decide ((262144 : Int) ≤ (n : Int)) = false := by rw [decide_eq_false_iff_not]; omega
            have HM := Lib.hid hm
            clear hm
            have HF := Lib.hid (show (namedC s = true ∧ e0.ar = ss.length ∧ textsC ss = true ∧ e0.LL = LL ∧ ¬ (262144 ≤ totalC (cntE E) ∧ isIn cmpRow LL ss = false)) ∧ True from ⟨⟨HNM.out, by rw [HEM.out.2.2.1, HAr.out]; exact HKN.out, HTX.out, HEM.out.2.2.2, fun q => HM.out (by rw [← EN.out]; exact q.1)⟩, trivial⟩)
            go_enter Tryz.func57, Tryz.ntmps57
            go_wp2_with fail
            refine HN.out.mono ?_
            rintro e w' ⟨rfl, rfl⟩
            go_wp2_with fail
            refine (HT.out w hnil).mono ?_
            rintro e w2 ⟨v, rfl, hk2, rfl⟩
            have HK2 := Lib.hid hk2
            have c1' := HC1.out w2 hk2
            clear hk2
            go_wp2_with fail
            refine (HA.out w2 HK2.out).mono ?_
            rintro e w3 ⟨v, rfl, hk3, hv, S', iv', hss, hsn, hrows3, hiv⟩
            rw [← HEM.out.2.1] at hk3 hrows3
            rw [← HEM.out.2.2.1] at hrows3
            have HX3 := Lib.hid (And.intro hk3 (And.intro hss (And.intro hsn (And.intro hrows3 hiv))))
            rw [HR0.out] at hv
            subst hv
            clear hk3 hss hsn hrows3 hiv
            by_cases h4 : 65536 ≤ LL.length ∧ isIn cmpRow LL ss = false
            · have e4 : (if 65536 ≤ LL.length ∧ isIn cmpRow LL ss = false then (false, 4) else (!isIn cmpRow LL ss, 0)) = (false, 4) := if_pos h4
              have H4 := Lib.hid (And.intro h4 e4)
              rw [e4]
              clear h4 e4
              go_wp2
              go_ret2
              exact baseAdd_full H.out HE.out HF.out.1 HK2.out HX3.out.1 HX3.out.2.1 HX3.out.2.2.1 HX3.out.2.2.2.1 HX3.out.2.2.2.2 (by rw [HEM.out.2.2.1]; exact HR0.out) H4.out.1
            · have e4 : (if 65536 ≤ LL.length ∧ isIn cmpRow LL ss = false then (false, 4) else (!isIn cmpRow LL ss, 0)) = (!isIn cmpRow LL ss, 0) := if_neg h4
              have H4 := Lib.hid (And.intro h4 e4)
              rw [e4]
              clear h4 e4
              have hm3 := baseMap_own H.out HE.out HK2.out HX3.out.1
              have hb3 := baseBlk_own H.out HE.out HK2.out HX3.out.1
              have HB3 := Lib.hid (And.intro hb3 hm3)
              have c31 : w3.cell? ⟨bb, 1, none⟩ = some (.int .i64 n) := by rw [HB3.out.1.cell', EN.out]; rfl
              clear hm3 hb3 c31
              cases hi : isIn cmpRow LL ss with
              | true =>
                have HI := Lib.hid hi
                clear hi
                go_wp2_with fail
                refine (basePut_any HB3.out.1 HB3.out.2 s (some ⟨b0, 0, none⟩)).mono ?_
                rintro e w4 ⟨v, rfl, hk4, hm4⟩
                rw [← HEM.out.2.1] at hm4
                have HM4 := Lib.hid (And.intro hk4 hm4)
                clear hk4 hm4
                go_wp2
                go_ret2
                exact baseAdd_had H.out HE.out HF.out.1 HK2.out HX3.out.1 HX3.out.2.1 HX3.out.2.2.1 HX3.out.2.2.2.1 HX3.out.2.2.2.2 (by rw [HEM.out.2.2.1]; exact HR0.out) HI.out HM4.out.1 HM4.out.2
              | false =>
                have HI := Lib.hid hi
                clear hi
                go_wp2_with fail
                refine (basePut_any HB3.out.1 HB3.out.2 s (some ⟨b0, 0, none⟩)).mono ?_
                rintro e w4 ⟨v, rfl, hk4, hm4⟩
                rw [← HEM.out.2.1] at hm4
                have HM4 := Lib.hid (And.intro hk4 hm4)
                have hb4 : Blk w4 bb [.map (some r), .int .i64 (totalC (cntE E) : Nat)] 140 := HB3.out.1.kp hk4 H.out.ne
                have c4 : w4.cell? ⟨bb, 1, none⟩ = some (.int .i64 n) := by rw [hb4.cell', EN.out]; rfl
                have f4 := hb4.free 1
                clear hk4 hm4 hb4
                go_wp2
                go_ret2
                exact baseAdd_got H.out HE.out HF.out.1 HK2.out HX3.out.1 HX3.out.2.1 HX3.out.2.2.1 HX3.out.2.2.2.1 HX3.out.2.2.2.2 (by rw [HEM.out.2.2.1]; exact HR0.out) HI.out H4.out.1 HM4.out.1 HM4.out.2 EN.out
      · have HAr := Lib.hid ha
        have q1 : ((ar : Int) != (k : Int)) = true := by rw [bne_iff_ne]; omega
        clear ha
        go_enter Tryz.func57, Tryz.ntmps57
        go_wp2_with fail
        refine HN.out.mono ?_
        rintro e w' ⟨rfl, rfl⟩
        go_wp2
        go_ret2
        exact RetF.mk (Kp.refl _) (BaseAdded.same H.out (Kp.refl _) (addR_arity HNM.out (findE_rows HE.out).1 (by show e0.ar ≠ ss.length; rw [HEM.out.2.2.1, ← HKN.out]; exact HAr.out)) (by decide) rfl)
end Go.Proofs.YtomeebimmmfmbaaGreat

/- tuple.Base: Declare, at every base. -/
namespace Go.Proofs.YtomeebimmmfmbaaGreat
open Go.RowKit
set_option linter.unusedVariables false

section
variable {S S' : Nat → Prop} {w w1 w2 w3 w4 : World} {bb r : Nat} {E : List Ent} {s : ByteArray} {e : Ent}
/-- What Declare leaves. -/
def BaseDecled (S : Nat → Prop) (w : World) (bb r : Nat) (E : List Ent) (s : ByteArray) (a : Int) (w' : World) (v : Value) : Prop :=
  v = .int .i64 ((declR (cntE E) s a : Nat) : Int) ∧ ∃ E', BaseAt S w' bb r E' ∧ cntE E' = declC (cntE E) s a ∧ ∀ k, OwnB bb r E' k → OwnB bb r E k ∨ w.heap.size ≤ k
theorem BaseDecled.same {a : Int} (h : BaseAt S w bb r E) (hk : Ext w w1) {n : Nat} (hR : declR (cntE E) s a = n) (hn : declC (cntE E) s a = cntE E) {v : Value} (hv : v = .int .i64 (n : Nat)) : BaseDecled S w bb r E s a w1 v :=
  ⟨by rw [hv, hR], E, h.ext hk, hn.symm, fun _ h => .inl h⟩
theorem declR_name {C : List CntZ} (a : Int) (h : namedC s = false) : declR C s a = 32 := if_pos h
theorem declR_bad {C : List CntZ} {a : Int} (h : namedC s = true) (ha : a < 0 ∨ 64 < a) : declR C s a = 2 := by
  unfold declR
  rw [if_neg (by rw [h]; simp), if_pos ha]
theorem declR_none {C : List CntZ} {a : Int} (h : namedC s = true) (ha : ¬ (a < 0 ∨ 64 < a)) (hg : getC C s = none) : declR C s a = 0 := by
  unfold declR
  rw [if_neg (by rw [h]; simp), if_neg ha, hg]
theorem declR_some {C : List CntZ} {a : Int} {v : Nat × Rows2} (h : namedC s = true) (ha : ¬ (a < 0 ∨ 64 < a)) (hg : getC C s = some v) : declR C s a = if (v.1 : Int) = a then 0 else 30 := by
  unfold declR
  rw [if_neg (by rw [h]; simp), if_neg ha, hg]
theorem declC_not {C : List CntZ} {a : Int} (h : declR C s a ≠ 0) : declC C s a = C := if_neg fun k => h k.1
theorem declC_some {C : List CntZ} {a : Int} {v : Nat × Rows2} (hg : getC C s = some v) : declC C s a = C := if_neg fun k => by rw [hg] at k; cases k.2
/-- A name comes. -/
theorem baseDecl_new {k b : Nat} (h : BaseAt S w bb r E) (he : findE E s = none) (hn : namedC s = true) (hk : k ≤ 64) (hx : Ext w w3) (hr : RowsAt S w3 b (.slice none 0 0) k []) (hb : w.heap.size ≤ b)
    (hk4 : Kp (fun k => k = r) w3 w4) (hm4 : MapIs w4 r (putM (entM E) s (.pointer (some ⟨b, 0, none⟩)))) : RetF (OwnB bb r E) w (BaseDecled S w bb r E s (k : Int)) (.returned (.int .i64 0)) w4 := by
  obtain ⟨g1, g2⟩ := findE_none he
  have hR : declR (cntE E) s (k : Int) = 0 := declR_none hn (by omega) g1
  have hC : declC (cntE E) s (k : Int) = cntE (E ++ [{ name := s, b := b, iv := .slice none 0 0, ar := k, LL := [] }]) := by
    unfold declC
    rw [if_pos ⟨hR, g1⟩]
    simp [cntE, Ent.cnt]
  rw [entM_push he b (.slice none 0 0) k []] at hm4
  have ho : ∀ q, Owns b (.slice none 0 0) q → w.heap.size ≤ q := fun q ho => by
    rcases ho with rfl | ho
    · exact hb
    · cases ho
  have htot : totalC (cntE E) = totalC (cntE (E ++ [{ name := s, b := b, iv := .slice none 0 0, ar := k, LL := [] }])) := by simp [totalC, cntE, Ent.cnt]
  refine RetF.mk ((Ext.kp hx).trans (hk4.mono fun k _ ho => .inr (.inl ho))) ⟨by rw [hR]; rfl, E ++ [{ name := s, b := b, iv := .slice none 0 0, ar := k, LL := [] }], ?_, hC.symm, ?_⟩
  · exact h.push (e := { name := s, b := b, iv := .slice none 0 0, ar := k, LL := [] }) hx (fun _ x => x) (fun _ x => .inl x) hr ho (hk4.mono fun k _ ho => .inr ho) ((h.blk.ext hx).kp hk4 h.ne) hm4 htot (by rw [← hC]; exact ok_decl h.ok s _)
  · rintro q (h1 | h1 | ⟨f, hf, ho2⟩)
    · exact .inl (.inl h1)
    · exact .inl (.inr (.inl h1))
    · rcases List.mem_append.1 hf with hf | hf
      · exact .inl (.inr (.inr ⟨f, hf, ho2⟩))
      · obtain rfl := List.mem_singleton.1 hf
        exact .inr (ho q ho2)

set_option maxRecDepth 100000 in
set_option maxHeartbeats 4000000 in
theorem baseDecl_any (h : BaseAt S w bb r E) (s : ByteArray) (a : Int) :
    Calls Tryz.prog 56 #[.pointer (some ⟨bb, 0, none⟩), .string s, .int .i64 a] w (RetF (OwnB bb r E) w (BaseDecled S w bb r E s a)) := by
  have c0 : w.cell? ⟨bb, 0, none⟩ = some (.map (some r)) := by rw [h.blk.cell']; rfl
  have hnm := named_any s w
  rw [show decide (1 ≤ s.size ∧ s.size ≤ 4096) = namedC s from rfl] at hnm
  have HN := Lib.hid hnm; clear hnm
  have H := Lib.hid h
  have HLk := Lib.hid (fun w1 (hw : Ext w w1) => run_lookup_str (P := Tryz.prog) Tryz.underlying137 Tryz.underlying9 (z := .pointer none) (by kernel_rfl) (h.map.ext hw) s)
  rw [entM_get] at HLk
  clear h
  cases hn : namedC s with
  | false =>
    rw [hn] at HN
    have HNM := Lib.hid hn
    clear hn c0
    go_enter Tryz.func56, Tryz.ntmps56
    go_wp2_with fail
    refine HN.out.mono ?_
    rintro e w' ⟨rfl, rfl⟩
    go_wp2
    go_ret
    exact RetF.mk (Kp.refl _) (BaseDecled.same H.out (Kp.refl _) (declR_name a HNM.out) (declC_not (by rw [declR_name a HNM.out]; decide)) rfl)
  | true =>
    rw [hn] at HN
    have HNM := Lib.hid hn
    clear hn
    by_cases ha : a < 0 ∨ 64 < a
    · have HNB := Lib.hid (newRows_bad a w ha)
      have HAB := Lib.hid ha
      obtain ⟨p, hp⟩ : ∃ p : Option Addr, ((findE E s).map Ent.ptr).getD (.pointer none) = .pointer p := by
        cases findE E s with
        | none => exact ⟨none, rfl⟩
        | some e => exact ⟨some ⟨e.b, 0, none⟩, rfl⟩
      have hlk := HLk.out w (Kp.refl w)
      rw [hp] at hlk
      clear ha hp
      go_enter Tryz.func56, Tryz.ntmps56
      go_wp2_with fail
      refine HN.out.mono ?_
      rintro e w' ⟨rfl, rfl⟩
      go_wp2_with fail
      refine HNB.out.mono ?_
      rintro e w' ⟨rfl, rfl⟩
      go_wp2
      go_ret
      have e2 := declR_bad (s := s) (C := cntE E) HNM.out HAB.out
      exact RetF.mk (Kp.refl _) (BaseDecled.same H.out (Kp.refl _) e2 (declC_not (by rw [e2]; decide)) rfl)
    · obtain ⟨k, rfl⟩ := Int.eq_ofNat_of_zero_le (show 0 ≤ a by omega)
      have hk64 : k ≤ 64 := by omega
      have HNR := Lib.hid (newRows_any S w k hk64 H.out.inS)
      have HAN := Lib.hid ha
      clear ha
      cases he : findE E s with
      | none =>
        rw [he] at HLk
        have HE := Lib.hid he
        clear he
        go_enter Tryz.func56, Tryz.ntmps56
        go_wp2_with fail
        refine HN.out.mono ?_
        rintro e w' ⟨rfl, rfl⟩
        go_wp2_with fail
        refine HNR.out.mono ?_
        rintro e w1 ⟨v, rfl, hk1, rfl, hrows⟩
        have hlk : (Instr.lookup 137 (.map (some r)) (.string s) false).run Tryz.prog w1 = .ok (.pointer none) w1 := HLk.out w1 hk1
        have c1 := hk1.cell c0 id
        have HK1 := Lib.hid (And.intro hk1 hrows)
        clear hk1 hrows
        go_wp2_with fail
        refine (basePut_any (H.out.blk.ext HK1.out.1) (H.out.map.ext HK1.out.1) s (some ⟨w.heap.size, 0, none⟩)).mono ?_
        rintro e w4 ⟨v, rfl, hk4, hm4⟩
        have HM4 := Lib.hid (And.intro hk4 hm4)
        clear hk4 hm4
        go_wp2
        go_ret
        exact baseDecl_new H.out HE.out HNM.out hk64 HK1.out.1 HK1.out.2 (Nat.le_refl _) HM4.out.1 HM4.out.2
      | some e0 =>
        rw [he] at HLk
        have HE := Lib.hid he
        obtain ⟨hem, hes⟩ := findE_some he
        obtain ⟨b0, eb0⟩ : ∃ b0, e0.b = b0 := ⟨_, rfl⟩
        obtain ⟨ar, ear⟩ : ∃ ar, e0.ar = ar := ⟨_, rfl⟩
        have d2 : w.cell? ⟨b0, 2, none⟩ = some (.int .i64 ar) := by rw [← eb0, (H.out.rows e0 hem).blk.cell', ear]; rfl
        have HEM := Lib.hid (And.intro eb0 ear)
        have hg : getC (cntE E) s = some (ar, e0.LL) := by rw [← ear]; exact (findE_rows he).1
        have hR := declR_some (C := cntE E) HNM.out HAN.out hg
        have HR := Lib.hid (And.intro hR (declC_some (C := cntE E) (a := (k : Int)) hg))
        clear he hem hes eb0 ear hg hR
        by_cases hq : ar = k
        · have q1 : ((ar : Int) != (k : Int)) = false := by simp [hq]
          have HQ := Lib.hid hq
          clear hq
          go_enter Tryz.func56, Tryz.ntmps56
          go_wp2_with fail
          refine HN.out.mono ?_
          rintro e w' ⟨rfl, rfl⟩
          go_wp2_with fail
          refine HNR.out.mono ?_
          rintro e w1 ⟨v, rfl, hk1, rfl, hrows⟩
          have hlk : (Instr.lookup 137 (.map (some r)) (.string s) false).run Tryz.prog w1 = .ok (.pointer (some ⟨b0, 0, none⟩)) w1 := by rw [← HEM.out.1]; exact HLk.out w1 hk1
          have c1 := hk1.cell c0 id
          have d21 := hk1.cell d2 id
          have HK1 := Lib.hid hk1
          clear hk1 hrows
          go_wp2
          go_ret
          exact RetF.mk (Ext.kp HK1.out) (BaseDecled.same H.out HK1.out (by rw [HR.out.1, if_pos (by rw [HQ.out])]) HR.out.2 rfl)
        · have q1 : ((ar : Int) != (k : Int)) = true := by rw [bne_iff_ne]; omega
          have HQ := Lib.hid hq
          clear hq
          go_enter Tryz.func56, Tryz.ntmps56
          go_wp2_with fail
          refine HN.out.mono ?_
          rintro e w' ⟨rfl, rfl⟩
          go_wp2_with fail
          refine HNR.out.mono ?_
          rintro e w1 ⟨v, rfl, hk1, rfl, hrows⟩
          have hlk : (Instr.lookup 137 (.map (some r)) (.string s) false).run Tryz.prog w1 = .ok (.pointer (some ⟨b0, 0, none⟩)) w1 := by rw [← HEM.out.1]; exact HLk.out w1 hk1
          have c1 := hk1.cell c0 id
          have d21 := hk1.cell d2 id
          have HK1 := Lib.hid hk1
          clear hk1 hrows
          go_wp2
          go_ret
          exact RetF.mk (Ext.kp HK1.out) (BaseDecled.same H.out HK1.out (by rw [HR.out.1, if_neg (fun q => HQ.out (by omega))]) HR.out.2 rfl)
end
end Go.Proofs.YtomeebimmmfmbaaGreat

/- tuple.Base: FromRelations. -/
namespace Go.Proofs.YtomeebimmmfmbaaGreat
open Go.RowKit
set_option linter.unusedVariables false

/-- Relations that lie from an address on, in blocks of S, their rows too. -/
def RelsIn (S : Nat → Prop) (w : World) (ao : Option Addr) (L : List RelZ) : Prop := ∀ (i : Nat) (q : RelZ), L[i]? = some q → ∃ b off ra rcap, ao = some ⟨b, off, none⟩ ∧ S b ∧ w.cell? ⟨b, off + i * 3, none⟩ = some (.string q.1) ∧ w.cell? ⟨b, off + i * 3 + 1, none⟩ = some (.int .i64 q.2.1) ∧ w.cell? ⟨b, off + i * 3 + 2, none⟩ = some (.slice ra q.2.2.1.length rcap) ∧ q.2.2.1.length ≤ rcap ∧ rcap ≤ maxLen ∧ RowsIn S w ra q.2.2.1
section
variable {S S' : Nat → Prop} {w w' : World} {ao : Option Addr} {L : List RelZ}
theorem RelsIn.kp {F : Nat → Prop} (h : RelsIn S w ao L) (hk : Kp F w w') (hF : ∀ k, F k → ¬ S k) : RelsIn S w' ao L := fun i q hq => by
  obtain ⟨b, off, ra, rcap, e, hb, c0, c1, c2, h1, h2, h3⟩ := h i q hq
  exact ⟨b, off, ra, rcap, e, hb, hk.cell c0 (fun f => hF _ f hb), hk.cell c1 (fun f => hF _ f hb), hk.cell c2 (fun f => hF _ f hb), h1, h2, h3.kp hk hF⟩
theorem RelsIn.ext (h : RelsIn S w ao L) (hk : Ext w w') : RelsIn S w' ao L := h.kp hk fun _ x => x.elim
end
theorem from_bad {C : List CntZ} {q : RelZ} {L : List RelZ} (h : declR C q.1 q.2.1 ≠ 0) : fromC C (q :: L) = (C, declR C q.1 q.2.1) := if_neg h
theorem from_err {C : List CntZ} {q : RelZ} {L : List RelZ} (h : declR C q.1 q.2.1 = 0) (h2 : (addAll (declC C q.1 q.2.1) q.1 q.2.2.1).2 ≠ 0) : fromC C (q :: L) = addAll (declC C q.1 q.2.1) q.1 q.2.2.1 := by
  show (if declR C q.1 q.2.1 = 0 then _ else _) = _
  rw [if_pos h, if_neg h2]
theorem from_go {C : List CntZ} {q : RelZ} {L : List RelZ} (h : declR C q.1 q.2.1 = 0) (h2 : (addAll (declC C q.1 q.2.1) q.1 q.2.2.1).2 = 0) : fromC C (q :: L) = fromC (addAll (declC C q.1 q.2.1) q.1 q.2.2.1).1 L := by
  show (if declR C q.1 q.2.1 = 0 then _ else _) = _
  rw [if_pos h, if_pos h2]
theorem addAll_go {C : List CntZ} {s : ByteArray} {x : List ByteArray} {rs : Rows2} (h : (addR C s x).2 = 0) : addAll C s (x :: rs) = addAll (addC C s x) s rs := if_pos h
theorem addAll_bad {C : List CntZ} {s : ByteArray} {x : List ByteArray} {rs : Rows2} (h : (addR C s x).2 ≠ 0) : addAll C s (x :: rs) = (C, (addR C s x).2) := if_neg h

/-- What FromRelations makes. -/
def FromV (w : World) (L : List RelZ) (w' : World) (v : Value) : Prop :=
  ((fromC [] L).2 = 0 → ∃ bb r S E, v = .tuple #[.pointer (some ⟨bb, 0, none⟩), .int .i64 0] ∧ BaseAt S w' bb r E ∧ cntE E = (fromC [] L).1 ∧ (∀ k, S k → w.heap.size ≤ k) ∧ ∀ k, OwnB bb r E k → w.heap.size ≤ k) ∧
  ((fromC [] L).2 ≠ 0 → v = .tuple #[.pointer none, .int .i64 (((fromC [] L).2 : Nat) : Int)])
/-- A base of one's own. -/
structure MyBase (w0 : World) (S : Nat → Prop) (w : World) (bb r : Nat) (E : List Ent) : Prop where
  base : BaseAt S w bb r E
  ext : Ext w0 w
  pool : ∀ k, S k → w0.heap.size ≤ k
  own : ∀ k, OwnB bb r E k → w0.heap.size ≤ k
def FromTo (w0 : World) (bb r : Nat) (L : List RelZ) (n : Nat) (iv : Value) (w : World) : Prop := ∃ i : Nat, i ≤ n ∧ iv = .int .i64 i ∧ Hid (∃ S E, MyBase w0 S w bb r E ∧ fromC (cntE E) (L.drop i) = fromC [] L)
def FromIn (w0 : World) (bb r : Nat) (q : RelZ) (R : List CntZ × Nat) (g : Nat) (cs : List Value) (m : Nat) (jv : Value) (w : World) : Prop := ∃ j : Nat, j ≤ m ∧ jv = .int .i64 j ∧ Hid (∃ S E, MyBase w0 S w bb r E ∧ addAll (cntE E) q.1 (q.2.2.1.drop j) = R ∧ Blk w g cs 71 ∧ ¬ OwnB bb r E g)
theorem drop_at {α : Type} {xs : List α} {i : Nat} {x : α} (h : xs[i]? = some x) : xs.drop i = x :: xs.drop (i + 1) := by
  obtain ⟨hi, e⟩ := List.getElem?_eq_some_iff.1 h
  rw [List.drop_eq_getElem_cons hi, e]

theorem cells_lt {w : World} {xa : Option Addr} {ss : List ByteArray} (h : CellsAt w xa (strs ss)) (hne : ss ≠ []) : ∀ a, xa = some a → a.block < w.heap.size := fun a e => by
  cases ss with
  | nil => exact absurd rfl hne
  | cons s ss =>
    obtain ⟨b, off, e1, hc⟩ := h 0 (.string s) rfl
    rw [e] at e1; cases e1
    exact World.block_lt_of_cell? _ _ hc
set_option maxRecDepth 100000 in
set_option maxHeartbeats 4000000 in
theorem from_any (L : List RelZ) (ao : Option Addr) (n cap : Nat) (w : World) (S0 : Nat → Prop) (hn : n = L.length) (hL : RelsIn S0 w ao L) (hl : n ≤ 4194304) (hr : ∀ q ∈ L, q.2.2.1.length ≤ 1048576) :
    Calls Tryz.prog 23 #[.slice ao n cap] w (RetN w (FromV w L)) := by
  have HN := Lib.hid hn
  have HL := Lib.hid hL
  have HR := Lib.hid hr
  clear hn hL hr
  go_enter Tryz.func23, Tryz.ntmps23
  go_wp2_with fail
  refine (newBase_any w).mono ?_
  rintro e w1 ⟨v, rfl, hk1, rfl, hB, hm⟩
  obtain ⟨bb, ebb⟩ : ∃ bb, w.heap.size + 1 = bb := ⟨_, rfl⟩
  rw [ebb] at hB ⊢
  obtain ⟨r, er⟩ : ∃ r, w.heap.size = r := ⟨_, rfl⟩
  rw [er] at hB hm
  have HM0 := Lib.hid (show MyBase w (fun _ => False) w1 bb r [] from
    { base := BaseAt.new (fun _ => False) (fun _ x => x.elim) hk1 (by omega) (by omega) (by omega) hB hm
      ext := hk1, pool := fun _ x => x.elim
      own := fun k hk => by
        rcases hk with rfl | rfl | ⟨e, he, _⟩
        · omega
        · omega
        · simp at he })
  clear hB hm hk1 ebb er
  go_wp2
  go_loopw [15] (fun iv wr => FromTo w bb r L n iv wr) (fun iv _ => n - (intOf iv).toNat)
  case atStart => exact ⟨0, Nat.zero_le _, rfl, _, [], HM0.out, rfl⟩
  case round =>
    clear HM0
    obtain ⟨i, hi, rfl, hin⟩ := hrel
    obtain ⟨S, E, hM, hF⟩ := hin.out
    have HM := Lib.hid hM
    have HF := Lib.hid hF
    clear hin hM hF
    by_cases hlt : i < n
    · obtain ⟨q, hq⟩ : ∃ q, L[i]? = some q := ⟨_, List.getElem?_eq_getElem (by rw [← HN.out]; exact hlt)⟩
      obtain ⟨b, off, ra, rcap, eao, hSb, c0, c1, c2, hrl, hrm, hrows⟩ := HL.out i q hq
      subst eao
      replace c0 := HM.out.ext.cell c0 id
      replace c1 := HM.out.ext.cell c1 id
      replace c2 := HM.out.ext.cell c2 id
      obtain ⟨s, es⟩ : ∃ s, q.1 = s := ⟨_, rfl⟩
      obtain ⟨a, ea⟩ : ∃ a, q.2.1 = a := ⟨_, rfl⟩
      obtain ⟨m, em⟩ : ∃ m, q.2.2.1.length = m := ⟨_, rfl⟩
      rw [es] at c0
      rw [ea] at c1
      rw [em] at c2 hrl
      have hm1 : m ≤ 1048576 := by rw [← em]; exact HR.out q (List.mem_of_getElem? hq)
      have HQ := Lib.hid (And.intro hq (And.intro es (And.intro ea em)))
      have HRows := Lib.hid hrows
      clear hq es ea em hrows hSb
      obtain ⟨gx, egx⟩ : ∃ g, wr.heap.size = g := ⟨_, rfl⟩
      obtain ⟨wx, ewx⟩ : ∃ wx, wr.alloc (.cells #[.string s, .int .i64 a, .slice ra m rcap] 71) = wx := ⟨_, rfl⟩
      have HBx := Lib.hid (show Blk wx gx [.string s, .int .i64 a, .slice ra m rcap] 71 by rw [← ewx, ← egx]; exact Blk.new wr _ _)
      have HXx := Lib.hid (show Ext wr wx by rw [← ewx]; exact (Kp.refl wr).alloc _)
      have HGx := Lib.hid (show ∀ k, OwnB bb r E k → k < gx from fun k hk => by rw [← egx]; exact HM.out.base.ownLt k hk)
      have EGX := Lib.hid egx
      have x0 : wx.cell? ⟨wr.heap.size, 0, none⟩ = some (.string s) := by rw [egx, HBx.out.cell']; rfl
      have x1 : wx.cell? ⟨wr.heap.size, 1, none⟩ = some (.int .i64 a) := by rw [egx, HBx.out.cell']; rfl
      clear egx
      go_wp2_with fail
      rw [EGX.out]
      refine (baseDecl_any (HM.out.base.ext HXx.out) s a).mono ?_
      rintro e w2 ⟨v, rfl, hk2, rfl, E1, hB1, hC1, ho1⟩
      have hgx : gx < wx.heap.size := HBx.out.lt
      have hbx2 : Blk w2 gx [.string s, .int .i64 a, .slice ra m rcap] 71 := HBx.out.kp hk2 fun ho => by have := HGx.out gx ho; omega
      have hM1 : MyBase w S w2 bb r E1 :=
        { base := hB1
          ext := (HM.out.ext.trans HXx.out).trans' hk2 fun k hk ho => by have := HM.out.own k ho; omega
          pool := HM.out.pool
          own := fun k hk => by
            rcases ho1 k hk with h1 | h1
            · exact HM.out.own k h1
            · have := (HM.out.ext.trans HXx.out).size; omega }
      have hng : ¬ OwnB bb r E1 gx := fun ho => by
        rcases ho1 gx ho with h1 | h1
        · have := HGx.out gx h1; omega
        · omega
      have HM1 := Lib.hid (And.intro hM1 (And.intro hC1 (And.intro hbx2 hng)))
      clear hk2 hB1 hC1 ho1 hgx hbx2 hM1 hng ewx x0 x1 c0 c1 c2
      obtain ⟨d, ed⟩ : ∃ d, declR (cntE E) s a = d := ⟨_, rfl⟩
      rw [ed]
      have ED := Lib.hid ed
      clear ed
      have y2 : w2.cell? ⟨gx, 2, none⟩ = some (.slice ra m rcap) := by rw [HM1.out.2.2.1.cell']; rfl
      by_cases hd : d = 0
      · have q1 : ((d : Int) != 0) = false := by simp [hd]
        have HD := Lib.hid hd
        clear hd
        have hdr : (L.drop i) = q :: L.drop (i + 1) := drop_at HQ.out.1
        have HDr := Lib.hid hdr
        clear hdr
        go_wp2
        clear q1
        generalize hw5 : w2 = w5 at *; clear hw5
        go_loopw [31] (fun jv wk => FromIn w bb r q (addAll (declC (cntE E) s a) s q.2.2.1) gx [.string s, .int .i64 a, .slice ra m rcap] m jv wk) (fun jv _ => m - (intOf jv).toNat)
        case atStart => exact ⟨0, Nat.zero_le _, rfl, S, E1, HM1.out.1, by rw [HM1.out.2.1, HQ.out.2.1]; rfl, HM1.out.2.2.1, HM1.out.2.2.2⟩
        case round =>
          clear HM1 HBx HXx HGx EGX y2
          obtain ⟨j, hj, rfl, hin⟩ := hrel
          obtain ⟨S1, E2, hM2, hA2, hbx, hng⟩ := hin.out
          have HM2 := Lib.hid (And.intro hM2 (And.intro hA2 (And.intro hbx hng)))
          clear hin hM2 hA2 hbx hng
          by_cases hlt2 : j < m
          · obtain ⟨ss, hss⟩ : ∃ ss, q.2.2.1[j]? = some ss := ⟨_, List.getElem?_eq_getElem (by rw [HQ.out.2.2.2]; exact hlt2)⟩
            obtain ⟨g, o, xa, xcap, era, d0, d1, d2, d3⟩ := HRows.out.get hss
            subst era
            replace d0 := HM2.out.1.ext.cell d0 id
            obtain ⟨k, ek⟩ : ∃ k, ss.length = k := ⟨_, rfl⟩
            rw [ek] at d0
            have HSS := Lib.hid (And.intro hss ek)
            have HRow := Lib.hid (And.intro d1 (And.intro d2 d3))
            have y0 : wr.cell? ⟨gx, 0, none⟩ = some (.string s) := by rw [HM2.out.2.2.1.cell']; rfl
            clear hss ek d1 d2 d3
            go_wp2_with fail
            refine (baseAdd_any HM2.out.1.base s (ao := xa) (k := k) (cap := xcap) (ss := ss) ⟨⟨HSS.out.2.symm, HRow.out.1.ext HM2.out.1.ext⟩, HRow.out.2.1, fun a e hne => Nat.lt_of_lt_of_le (cells_lt HRow.out.1 (fun h => hne (by show k = 0; rw [← HSS.out.2, h]; rfl)) a e) HM2.out.1.ext.size⟩ (fun a e hne ho => by
              have h1 := HM2.out.1.own _ ho
              have h2 := cells_lt HRow.out.1 (fun h => hne (by show k = 0; rw [← HSS.out.2, h]; rfl)) a e
              omega)).mono ?_
            rintro e w3 ⟨v, rfl, hk3, rfl, S3, E3, hs1, hs2, hB3, hC3, ho3⟩
            have hgx : gx < wr.heap.size := HM2.out.2.2.1.lt
            have hM3 : MyBase w S3 w3 bb r E3 :=
              { base := hB3
                ext := HM2.out.1.ext.trans' hk3 fun k hk ho => by have := HM2.out.1.own k ho; omega
                pool := fun k hk => by
                  rcases hs2 k hk with h1 | h1
                  · exact HM2.out.1.pool k h1
                  · have := HM2.out.1.ext.size; omega
                own := fun k hk => by
                  rcases ho3 k hk with h1 | h1
                  · exact HM2.out.1.own k h1
                  · have := HM2.out.1.ext.size; omega }
            have hb3 : Blk w3 gx [.string s, .int .i64 a, .slice (some ⟨g, o, none⟩) m rcap] 71 := HM2.out.2.2.1.kp hk3 HM2.out.2.2.2
            have hng : ¬ OwnB bb r E3 gx := fun ho => by
              rcases ho3 gx ho with h1 | h1
              · exact HM2.out.2.2.2 h1
              · omega
            have HM3 := Lib.hid (And.intro hM3 (And.intro hC3 (And.intro hb3 hng)))
            clear hk3 hB3 hC3 ho3 hgx hM3 hng hb3 hs1 hs2 y0 d0
            obtain ⟨x1, ex1⟩ : ∃ x, (addR (cntE E2) s ss).1 = x := ⟨_, rfl⟩
            obtain ⟨x2, ex2⟩ : ∃ x, (addR (cntE E2) s ss).2 = x := ⟨_, rfl⟩
            rw [ex1, ex2]
            have EX := Lib.hid ex2
            clear ex1 ex2
            have hdj : q.2.2.1.drop j = ss :: q.2.2.1.drop (j + 1) := drop_at HSS.out.1
            have HDj := Lib.hid hdj
            clear hdj
            by_cases hx : x2 = 0
            · have q1 : ((x2 : Int) != 0) = false := by simp [hx]
              have HX := Lib.hid hx
              clear hx
              go_wp2
              go_roundw
              case rel =>
                refine ⟨j + 1, by omega, by first | rfl | (congr 1; done) | (congr 1; omega), S3, E3, HM3.out.1, ?_, HM3.out.2.2.1, HM3.out.2.2.2⟩
                rw [HM3.out.2.1, ← HM2.out.2.1, HDj.out, HQ.out.2.1]
                exact (addAll_go (by rw [EX.out]; exact HX.out)).symm
              case measure => simp [intOf]; omega
            · have q1 : ((x2 : Int) != 0) = true := by simp; omega
              have HX := Lib.hid hx
              clear hx
              go_wp2
              go_ret2
              have hall := HM2.out.2.1
              rw [HDj.out, HQ.out.2.1, addAll_bad (by rw [EX.out]; exact HX.out), EX.out] at hall
              have hfr : fromC [] L = (cntE E2, x2) := by
                rw [← HF.out, HDr.out, from_err (by rw [HQ.out.2.1, HQ.out.2.2.1, ED.out]; exact HD.out) (by rw [HQ.out.2.1, HQ.out.2.2.1, ← hall]; exact HX.out), HQ.out.2.1, HQ.out.2.2.1, ← hall]
              exact RetN.mk HM3.out.1.ext ⟨fun h0 => by rw [hfr] at h0; exact absurd h0 HX.out, fun _ => by rw [hfr]; rfl⟩
          · obtain rfl : j = m := by omega
            have hall := HM2.out.2.1
            rw [List.drop_of_length_le (by rw [HQ.out.2.2.2]; exact Nat.le_refl _)] at hall
            have hall' : addAll (declC (cntE E) s a) s q.2.2.1 = (cntE E2, 0) := hall.symm
            have HAll := Lib.hid hall'
            clear hall hall'
            go_wp2
            go_roundw
            case rel =>
              refine ⟨i + 1, by omega, by first | rfl | (congr 1; done) | (congr 1; omega), S1, E2, HM2.out.1, ?_⟩
              rw [← HF.out, HDr.out, from_go (by rw [HQ.out.2.1, HQ.out.2.2.1, ED.out]; exact HD.out) (by rw [HQ.out.2.1, HQ.out.2.2.1, HAll.out]), HQ.out.2.1, HQ.out.2.2.1, HAll.out]
            case measure => simp [intOf]; omega
      · have q1 : ((d : Int) != 0) = true := by simp; omega
        have HD := Lib.hid hd
        clear hd
        go_wp2
        go_ret2
        have hfr : fromC [] L = (cntE E, d) := by
          rw [← HF.out, drop_at HQ.out.1, from_bad (by rw [HQ.out.2.1, HQ.out.2.2.1, ED.out]; exact HD.out), HQ.out.2.1, HQ.out.2.2.1, ED.out]
        exact RetN.mk HM1.out.1.ext ⟨fun h0 => by rw [hfr] at h0; exact absurd h0 HD.out, fun _ => by rw [hfr]; rfl⟩
    · obtain rfl : i = n := by omega
      have hfr : fromC [] L = (cntE E, 0) := by
        rw [← HF.out, List.drop_of_length_le (by rw [← HN.out]; exact Nat.le_refl _)]; rfl
      have HFr := Lib.hid hfr
      clear hfr
      go_wp2
      go_ret2
      exact RetN.mk HM.out.ext ⟨fun _ => ⟨bb, r, S, E, rfl, HM.out.base, by rw [HFr.out], HM.out.pool, HM.out.own⟩, fun h0 => absurd (by rw [HFr.out]) h0⟩
end Go.Proofs.YtomeebimmmfmbaaGreat

/- tuple.Base: Names: the keys of a map, collected and sorted. -/
namespace Go.Proofs.YtomeebimmmfmbaaGreat
open Go.RowKit Go.Maps Go.Sort Go.Shelf
open Go.WideElems (Fit rd rg rd_mk rg_of)
set_option linter.unusedVariables false

def encT : ByteArray → Value := Value.string
/-- A map with text keys, as the kit holds it. -/
theorem mapKeys {w : World} {r : Nat} {m : List (ByteArray × Value)} (hm : MapIs w r m) (hk : ∀ p ∈ m, p.1.size ≤ maxLen) (hl : m.length ≤ maxLen) :
    ∃ D0 : DataW Nat, w.ownsMap Tryz.prog 9 (fun _ => some (.nil, [])) r m.length D0 ∧ (strKeys D0).Perm (m.map fun p => p.1.data.toList) ∧ Maps.size D0 = m.length := by
  obtain ⟨es, c, h1, h2, h3, h4⟩ := hm
  have hlen : es.size = m.length := by simpa using congrArg List.length h2
  have hrd : ∀ x ∈ es.toList, ∃ p ∈ m, x.key = .string p.1 ∧ rd Tryz.prog 9 (fun _ => some ((.nil : DataW Nat), [])) x = some (.string p.1.data.toList, .nil) := fun x hx => by
    have h5 : (x.key, x.val) ∈ es.toList.map (fun e => (e.key, e.val)) := List.mem_map.2 ⟨x, hx, rfl⟩
    rw [h2] at h5
    obtain ⟨p, hp, e⟩ := List.mem_map.1 h5
    have e1 : x.key = .string p.1 := (congrArg Prod.fst e).symm
    refine ⟨p, hp, e1, ?_⟩
    have hkey : keyOf Tryz.prog 9 x.key = some (.string p.1.data.toList) := by
      rw [e1]
      simp [keyOf, mapKey, Tryz.underlying9, hk p hp]
    have := rd_mk (P := Tryz.prog) (k := 9) (R := fun _ => some ((.nil : DataW Nat), [])) (born := x.born) (val := x.val) hkey rfl
    exact this
  refine ⟨_, ⟨es, c, h1, ⟨by omega, h4, fun x hx => ?_⟩, by omega, rfl⟩, ?_, ?_⟩
  · obtain ⟨p, _, _, h⟩ := hrd x hx
    exact ⟨_, h⟩
  · show (((es.toList.map (rg Tryz.prog 9 (fun _ => some ((.nil : DataW Nat), [])))).foldr DataW.insert []).map fun p => strOf p.1).Perm _
    refine ((WideShapes.sorted_perm _).map _).trans ?_
    rw [List.map_map]
    have e : es.toList.map ((fun p : Lit × DataW Nat => strOf p.1) ∘ rg Tryz.prog 9 (fun _ => some ((.nil : DataW Nat), []))) = m.map fun p => p.1.data.toList := by
      have h6 : es.toList.map ((fun p : Lit × DataW Nat => strOf p.1) ∘ rg Tryz.prog 9 (fun _ => some ((.nil : DataW Nat), []))) = es.toList.map fun x => (match x.key with | .string s => s.data.toList | _ => []) := by
        apply List.map_congr_left
        intro x hx
        obtain ⟨p, hp, e1, h7⟩ := hrd x hx
        simp only [Function.comp, rg_of h7, e1, strOf]
      rw [h6]
      have h8 := congrArg (fun l => l.map fun p : Value × Value => (match p.1 with | .string s => s.data.toList | _ => [])) h2
      simp only [List.map_map] at h8
      exact h8
    rw [e]
  · show ((es.toList.map _).foldr DataW.insert []).length = _
    rw [(WideShapes.sorted_perm _).length_eq, List.length_map, Array.length_toList]; exact hlen
/-- A row that the kit holds, as ours. -/
theorem row_of_owns {w : World} {base : Nat} {e : TypeId} {k n : Nat} {v : Value} {xs : List Value} (h : w.ownsRow base e k v n xs) : Row w e k v n xs (fun g => base ≤ g) := by
  obtain ⟨h1, h2 | ⟨g, cap, cur, rfl, hb, hg, hn, hc, hs, ht⟩⟩ := h
  · exact ⟨h1, .inl h2⟩
  · refine ⟨h1, .inr ⟨g, cap, cur.toList.drop (n * k), rfl, hb, ?_, ?_, hn, hc⟩⟩
    · rw [← ht, List.take_append_drop]
      unfold Blk
      rw [Array.toArray_toList]; exact hg
    · rw [← ht, List.take_append_drop, Array.length_toList]; exact hs
theorem swoN : SWO (ltOf cmpN) where
  irrefl x := by unfold ltOf; rw [decide_eq_false_iff_not, cmpN_ord.refl]; omega
  trans x y z h1 h2 := by
    unfold ltOf at *
    rw [decide_eq_true_eq] at *
    exact cmpN_ord.lt_trans h1 (by omega)
  ntrans x y z h1 h2 := by
    unfold ltOf at *
    rw [decide_eq_false_iff_not] at *
    have h3 := cmpN_ord.le_of h1
    have h4 := cmpN_ord.le_of h2
    have h5 := cmpN_ord.trans z y x h4 h3
    intro h6
    exact cmpN_ord.asymm h6 (by
      rcases Int.lt_or_eq_of_le h5 with h7 | h7
      · exact h7
      · have := cmpN_ord.zero h7; omega)
theorem totN (x y : ByteArray) (h1 : ltOf cmpN x y = false) (h2 : ltOf cmpN y x = false) : x = y := by
  unfold ltOf at *
  rw [decide_eq_false_iff_not] at *
  have h3 := cmpB_swap x.toList y.toList
  unfold cmpN at *
  exact toList_inj (cmpB_zero (by omega))
/-- A row whose cells were put anew. -/
theorem sortWorld_row {w : World} {blk : Nat} {xs ys : List ByteArray} {rest : List Value} {e : TypeId} (hB : Blk w blk (strs xs ++ rest) e) (hl : ys.length = xs.length) (n : Nat) (os : Array Obj) :
    Blk (sortWorld encT w blk 0 n ys.toArray os) blk (strs ys ++ rest) e ∧ Kp (fun k => k = blk) w (sortWorld encT w blk 0 n ys.toArray os) := by
  have hlt := hB.lt
  have hsz : (putRow encT (Sort.ahead w n) blk 0 ys.toArray).heap.size = w.heap.size := by simp [putRow, mapBlock, Sort.ahead]
  have hcells : putCells encT 0 ys.toArray (strs xs ++ rest).toArray = (strs ys ++ rest).toArray := by
    apply Array.ext_getElem?
    intro j
    unfold putCells
    rw [Array.getElem?_mapIdx]
    simp only [List.getElem?_toArray, Nat.zero_le, true_and, Nat.zero_add, Nat.sub_zero, List.size_toArray]
    by_cases hj : j < ys.length
    · have h1 : (strs ys ++ rest)[j]? = some (.string ys[j]) := by
        rw [List.getElem?_append_left (by rw [strs_len]; exact hj)]; exact strs_get? ys j hj
      have h2 : j < (strs xs ++ rest).length := by rw [List.length_append, strs_len]; omega
      rw [h1, List.getElem?_eq_getElem h2, Option.map_some, if_pos hj]
      congr 1
      show encT _ = _
      rw [getElem!_pos _ j (by simpa using hj)]
      simp [encT]
    · have h1 : (strs ys ++ rest)[j]? = (strs xs ++ rest)[j]? := by
        rw [List.getElem?_append_right (by rw [strs_len]; omega), List.getElem?_append_right (by rw [strs_len]; omega), strs_len, strs_len, hl]
      rw [h1]
      cases (strs xs ++ rest)[j]? with
      | none => rfl
      | some u => simp [hj]
  have hblk : (putRow encT (Sort.ahead w n) blk 0 ys.toArray).heap[blk]? = some (.cells (strs ys ++ rest).toArray e (0, 0)) := by
    unfold Blk at hB
    simp only [putRow, mapBlock, Sort.ahead, Array.getElem?_modify, if_pos, hB, Option.map_some, onCells, hcells]
  constructor
  · unfold Blk sortWorld
    rw [heap_grow_old _ _ (by rw [hsz]; exact hlt)]; exact hblk
  · refine ⟨rfl, rfl, rfl, ?_, fun k hk hne => ?_⟩
    · simp [sortWorld, grow, putRow, mapBlock, Sort.ahead]
    · unfold sortWorld
      rw [heap_grow_old _ _ (by rw [hsz]; exact hk)]
      simp only [putRow, mapBlock, Sort.ahead, Array.getElem?_modify]
      rw [if_neg (fun e => hne e.symm)]
theorem cmp_lays (blk size : Nat) (w : World) : CmpLays1 Tryz.prog 63 #[] encT cmpN blk 0 size w := fun m os dk hs x y => by
  refine (cmpString_any x y _).mono ?_
  rintro e w' ⟨rfl, rfl⟩
  exact ⟨rfl, 0, #[], by rw [grow_empty]; rfl⟩
end Go.Proofs.YtomeebimmmfmbaaGreat

/- tuple.Base: Names, walked: slices.SortedFunc at a map's keys. -/
namespace Go.Proofs.YtomeebimmmfmbaaGreat
open Go.RowKit Go.Maps Go.Sort Go.Shelf
set_option linter.unusedVariables false

theorem leN_perm {l l' : List ByteArray} (h : l.Perm l') : l.mergeSort leN = l'.mergeSort leN := by
  refine List.Perm.eq_of_pairwise (le := fun a b => leN a b = true) (fun a b _ _ h1 h2 => ?_) (List.pairwise_mergeSort leN_trans leN_total l) (List.pairwise_mergeSort leN_trans leN_total l') (((List.mergeSort_perm l leN).trans h).trans (List.mergeSort_perm l' leN).symm)
  unfold leN at h1 h2
  simp only [Bool.not_eq_true', decide_eq_false_iff_not] at h1 h2
  have := cmpB_swap a.toList b.toList
  exact toList_inj (cmpB_zero (by omega))
theorem collect_any {w : World} {B r : Nat} {m : List (ByteArray × Value)} (hB : w.cell? ⟨B, 0, none⟩ = some (.map (some r))) (hm : MapIs w r m) (hk : ∀ p ∈ m, p.1.size ≤ maxLen) (hl : m.length ≤ 1048576) :
    Calls Tryz.prog 102 #[.func (.func 104) #[] #[.pointer (some ⟨B, 0, none⟩)]] w (RetN w fun w' v => ∃ bs : List ByteArray, bs.Perm (m.map (·.1)) ∧ Row w' 9 1 v bs.length (strs bs) (New w) ∧ (v = .slice none 0 0 ↔ bs = [])) := by
  obtain ⟨D0, h1, h2, h3⟩ := mapKeys hm hk (by unfold maxLen; omega)
  have hseq := AnyZ.keys_gives (L := { Tryz.laysSlZ7_f62 with }) Fence.wide 3 trivial rfl (by omega) B r m.length D0 w (World.block_lt_of_cell? _ _ hB) hB h1
  have hc := (callsIn_wide (n := 5)).1 (AnyZ.collect_in Tryz.laysSlZ8_f102 Fence.wide 5 trivial trivial rfl (by omega) 104 #[.pointer (some ⟨B, 0, none⟩)] trivial (enters_of Tryz.func104 (by kernel_rfl) rfl) _ _ (by rw [h3]; unfold maxLen; omega) (by rw [h3]; omega) w hseq)
  refine Calls.mono hc ?_
  rintro e w' ⟨v, ss, rfl, hS, hrow, hnil, hb⟩
  refine RetN.mk (Kp.of_below hb) ⟨ss.map (fun l => ⟨l.toArray⟩), ?_, ?_, ?_⟩
  · have h4 := (hS.trans h2).map (fun l : List UInt8 => (⟨l.toArray⟩ : ByteArray))
    rw [List.map_map] at h4
    have e : (m.map ((fun l : List UInt8 => (⟨l.toArray⟩ : ByteArray)) ∘ fun p : ByteArray × Value => p.1.data.toList)) = m.map (·.1) := by
      apply List.map_congr_left
      intro p _
      simp
    rw [e] at h4
    exact h4
  · have h5 := row_of_owns hrow
    have e : ss.map encStr = strs (ss.map (fun l => ⟨l.toArray⟩)) := by
      unfold strs
      rw [List.map_map]; rfl
    rw [e] at h5
    rw [List.length_map]; exact h5
  · rw [hnil, List.map_eq_nil_iff]

set_option maxRecDepth 100000 in
set_option maxHeartbeats 2000000 in
theorem sortedNames_any {w : World} {B r : Nat} {m : List (ByteArray × Value)} (hB : w.cell? ⟨B, 0, none⟩ = some (.map (some r))) (hm : MapIs w r m) (hk : ∀ p ∈ m, p.1.size ≤ maxLen) (hl : m.length ≤ 1048576) :
    Calls Tryz.prog 61 #[.func (.func 104) #[] #[.pointer (some ⟨B, 0, none⟩)], .func (.func 63) #[] #[]] w (RetN w fun w' v => Row w' 9 1 v m.length (strs ((m.map (·.1)).mergeSort leN)) (New w)) := by
  have HC := Lib.hid (collect_any hB hm hk hl)
  clear hB hm hk
  go_enter Tryz.func61, Tryz.ntmps61
  go_wp2_with fail
  refine HC.out.mono ?_
  rintro e w1 ⟨v, rfl, hk1, bs, hp, hr, hnil⟩
  have hlen : bs.length = m.length := by rw [hp.length_eq, List.length_map]
  have hsort := leN_perm hp
  obtain ⟨q1, ⟨ev, en⟩ | ⟨g, cap, rest, rfl, hg, hb, hbl, hn, hcm⟩⟩ := hr
  · have hbs := hnil.1 ev
    subst hbs
    subst ev
    have HK := Lib.hid hk1
    have HS := Lib.hid (show Row w1 9 1 (.slice none 0 0) m.length (strs ((m.map (·.1)).mergeSort leN)) (New w) by
      rw [← hsort, ← hlen, List.mergeSort_nil]
      exact Row.nil _ _ _ _)
    clear hp hnil hlen hsort q1 en hk1
    go_wp2_with fail
    refine (AnyF.slices_SortFunc_none Tryz.laysSlF06_f103 none 0 _ w1).mono ?_
    rintro e w2 ⟨rfl, rfl⟩
    go_wp2
    go_ret
    exact RetN.mk HK.out HS.out
  · have hlt := hb.lt
    have hH : Holds encT w1 g 0 bs.toArray := fun j hj => by
      have hj' : j < bs.length := by simpa using hj
      refine ⟨?_, hb.free _⟩
      rw [hb.cell', Nat.zero_add, List.getElem?_append_left (by rw [strs_len]; exact hj'), strs_get? bs j hj', getElem!_pos _ j hj]
      simp [encT]
    have hml := List.length_mergeSort (le := leN) bs
    have hrow := fun n os => sortWorld_row (ys := bs.mergeSort leN) hb hml n os
    have hcall := Any.slices_SortFunc_total Tryz.laysSlF6_f103 encT (fun _ => rfl) cmpN swoN 63 #[] g 0 cap bs.toArray w1 (enters_of Tryz.func63 (by kernel_rfl) rfl) (cmp_lays g _ w1) hH hlt (by rw [List.size_toArray]; omega) totN
    have HCall := Lib.hid hcall
    have HFin := Lib.hid (And.intro hk1 (And.intro hrow (And.intro hsort (And.intro hlen (And.intro hg (And.intro hbl (And.intro hn hcm)))))))
    obtain ⟨n, en⟩ : ∃ n, bs.length = n := ⟨_, rfl⟩
    rw [List.size_toArray, en] at HCall
    rw [en]
    have EN := Lib.hid en
    clear hp hnil hlen hsort hk1 hrow hcall hH hlt hml hb hbl hn hcm q1 en
    go_wp2_with fail
    refine HCall.out.mono ?_
    rintro e w2 ⟨rfl, n2, os, rfl⟩
    obtain ⟨hk1, hrow, hsort, hlen, hg, hbl, hn, hcm⟩ := HFin.out
    have e3 : (bs.toArray.toList.mergeSort fun x y => !(ltOf cmpN) y x) = bs.mergeSort leN := rfl
    obtain ⟨r1, r2⟩ := hrow n2 os
    rw [e3]
    have HR := Lib.hid (show Row (sortWorld encT w1 g 0 n2 (bs.mergeSort leN).toArray os) 9 1 (.slice (some ⟨g, 0, none⟩) n cap) m.length (strs ((m.map (·.1)).mergeSort leN)) (New w) from by
      rw [← hsort, ← hlen, EN.out]
      refine ⟨by rw [strs_len, List.length_mergeSort, EN.out]; omega, .inr ⟨g, cap, rest, rfl, hg, r1, ?_, by rw [← EN.out]; exact hn, hcm⟩⟩
      rw [← hbl, List.length_append, List.length_append, strs_len, strs_len, List.length_mergeSort])
    have HX := Lib.hid (show Ext w (sortWorld encT w1 g 0 n2 (bs.mergeSort leN).toArray os) from hk1.trans' r2 fun i hi e => by have h9 : w.heap.size ≤ g := hg; omega)
    generalize sortWorld encT w1 g 0 n2 (bs.mergeSort leN).toArray os = w3 at *
    clear hk1 hrow hsort hlen hg hbl hn hcm e3 r1 r2
    go_wp2
    go_ret
    exact RetN.mk HX.out HR.out

theorem names_cnt (E : List Ent) : ((entM E).map (·.1)).mergeSort leN = namesC (cntE E) := by rw [entM_names]; rfl
set_option maxRecDepth 100000 in
theorem names_any {S : Nat → Prop} {w : World} {bb r : Nat} {E : List Ent} (h : BaseAt S w bb r E) (hl : E.length ≤ 1048576) :
    Calls Tryz.prog 25 #[.pointer (some ⟨bb, 0, none⟩)] w (RetN w fun w' v => Row w' 9 1 v E.length (strs (namesC (cntE E))) (New w)) := by
  have c0 : w.cell? ⟨bb, 0, none⟩ = some (.map (some r)) := by rw [h.blk.cell']; rfl
  have hks : ∀ p ∈ entM E, p.1.size ≤ maxLen := fun p hp => by
    obtain ⟨e, he, rfl⟩ := List.mem_map.1 hp
    have h1 := (h.ok.all _ (mem_cntE he)).name
    have h2 : 1 ≤ e.name.size ∧ e.name.size ≤ 4096 := of_decide_eq_true h1
    show e.name.size ≤ maxLen
    unfold maxLen; omega
  have HKeys := Lib.hid ((callsIn_wide (n := 5)).1 (AnyZ.keys_in Tryz.laysSlZ7_f62 Fence.wide 5 trivial rfl (some r) w))
  have hB : (w.alloc (.cells #[.map (some r)] 137)).cell? ⟨w.heap.size, 0, none⟩ = some (.map (some r)) := by rw [(Blk.new w [.map (some r)] _).cell']; rfl
  have hS := sortedNames_any hB (h.map.ext ((Kp.refl w).alloc _)) hks (by rw [show (entM E).length = E.length by simp [entM]]; exact hl)
  rw [names_cnt, show (entM E).length = E.length by simp [entM]] at hS
  have HS := Lib.hid hS
  have HXA := Lib.hid (show Ext w (w.alloc (.cells #[.map (some r)] 137)) from (Kp.refl w).alloc _)
  clear h hks hB hS
  go_enter Tryz.func25, Tryz.ntmps25
  go_wp2_with fail
  refine HKeys.out.mono ?_
  rintro e w1 ⟨rfl, rfl⟩
  go_wp2_with fail
  refine HS.out.mono ?_
  rintro e w2 ⟨v, rfl, hk2, hr⟩
  have HF := Lib.hid (And.intro (HXA.out.trans hk2) (Row.mono hr fun g hg => Nat.le_trans HXA.out.size hg))
  clear hk2 hr
  go_wp2
  go_ret
  exact RetN.mk HF.out.1 HF.out.2
end Go.Proofs.YtomeebimmmfmbaaGreat

/- Bases in plain Lean: the same contents whatever the order of names: what is declared, added and told is the same. No program in sight. -/
namespace Go.Proofs.YtomeebimmmfmbaaGreat
set_option linter.unusedVariables false
section
variable {C D : List CntZ} {s : ByteArray} {row : List ByteArray} {a : Int}
theorem SameC.refl (C : List CntZ) : SameC C C := fun _ => rfl
theorem SameC.symm (h : SameC C D) : SameC D C := fun s => (h s).symm
theorem SameC.trans {E : List CntZ} (h : SameC C D) (h' : SameC D E) : SameC C E := fun s => (h s).trans (h' s)
theorem same_total (hC : BaseOk C) (hD : BaseOk D) (h : SameC C D) : totalC C = totalC D := by
  rw [← rels_total hC, ← rels_total hD, rels_same hC.nodup hD.nodup h]
theorem same_rows (h : SameC C D) (s : ByteArray) : rowsC C s = rowsC D s := by unfold rowsC; rw [h s]
theorem same_declR (h : SameC C D) (s : ByteArray) (a : Int) : declR C s a = declR D s a := by unfold declR; rw [h s]
theorem same_declC (h : SameC C D) (s : ByteArray) (a : Int) : SameC (declC C s a) (declC D s a) := fun t => by
  unfold declC
  rw [same_declR h, h s]
  split
  · rename_i h2
    rw [getC_app h2.2, getC_app (by rw [h s]; exact h2.2), h t]
  · exact h t
theorem same_addR (hC : BaseOk C) (hD : BaseOk D) (h : SameC C D) (s : ByteArray) (row : List ByteArray) : addR C s row = addR D s row := by
  unfold addR arOk; rw [same_rows h, same_total hC hD h, h s]
theorem same_addC (hC : BaseOk C) (hD : BaseOk D) (h : SameC C D) (s : ByteArray) (row : List ByteArray) : SameC (addC C s row) (addC D s row) := fun t => by
  unfold addC
  rw [same_addR hC hD h, same_rows h]
  split
  · rw [getC_set, getC_set, h t]
  · exact h t
theorem perm_nodup (h : C.Perm D) (hn : (C.map (·.1)).Nodup) : (D.map (·.1)).Nodup := (h.map _).nodup_iff.1 hn
theorem perm_same (h : C.Perm D) (hn : (C.map (·.1)).Nodup) : SameC C D := fun s => by
  have hd := perm_nodup h hn
  apply Option.ext
  intro v
  rw [getC_mem hn, getC_mem hd, h.mem_iff]
theorem perm_total (h : C.Perm D) : totalC C = totalC D := perm_sum (h.map _)
theorem perm_ok (h : C.Perm D) (hC : BaseOk C) : BaseOk D := ⟨perm_nodup h hC.nodup, fun p hp => hC.all p (h.mem_iff.2 hp), by rw [← perm_total h]; exact hC.few⟩
/-- Names that stand in their order are told as they stand. -/
theorem names_sorted (h : Strict cmpN (C.map (·.1))) : namesC C = C.map (·.1) := (names_strict (h.nodup cmpN_ord)).unique cmpN_ord h fun x => (names_perm C).mem_iff
theorem rels_sorted (h : Strict cmpN (C.map (·.1))) : relsC C = C.map fun p => (p.1, (p.2.1 : Int), p.2.2, ()) := by
  unfold relsC
  rw [names_sorted h, List.map_map]
  apply List.map_congr_left
  intro p hp
  have hg : getC C p.1 = some p.2 := (getC_mem (h.nodup cmpN_ord)).2 hp
  show relOf C p.1 = _
  unfold relOf arC
  rw [rows_some hg, hg]
end
/-- An element put at its place among others by their names. -/
def insN {α : Type} (f : α → ByteArray) (G : List α) (g : α) : List α := G.take (below cmpN (G.map f) (f g)) ++ g :: G.drop (below cmpN (G.map f) (f g))
theorem insN_perm {α : Type} (f : α → ByteArray) (G : List α) (g : α) : (insN f G g).Perm (G ++ [g]) := by
  unfold insN
  refine List.perm_middle.trans ?_
  rw [List.take_append_drop]
  exact (List.perm_append_singleton g G).symm
theorem insN_strict {α : Type} (f : α → ByteArray) {G : List α} {g : α} (h : Strict cmpN (G.map f)) (hn : f g ∉ G.map f) : Strict cmpN ((insN f G g).map f) := by
  have hi : isIn cmpN (G.map f) (f g) = false := by
    rw [Bool.eq_false_iff]
    intro hi
    obtain ⟨y, hy, e⟩ := isIn_iff.1 hi
    exact hn (toList_inj (cmpB_zero e) ▸ hy)
  have := h.add cmpN_ord (f g)
  unfold addS at this
  rw [hi] at this
  have e : (insN f G g).map f = (G.map f).take (below cmpN (G.map f) (f g)) ++ f g :: (G.map f).drop (below cmpN (G.map f) (f g)) := by
    unfold insN
    rw [List.map_append, List.map_take, List.map_cons, List.map_drop]
  rw [e]
  simpa using this
end Go.Proofs.YtomeebimmmfmbaaGreat

/- tuple.Base: Relations. -/
namespace Go.Proofs.YtomeebimmmfmbaaGreat
open Go.RowKit
set_option linter.unusedVariables false

theorem elem_rel : ElemT Tryz.prog 22 71 3 48 (.agg #[.string ⟨#[]⟩, .int .i64 0, .slice none 0 0]) := ⟨by kernel_rfl, by kernel_rfl, rfl, by decide⟩
def relCells (x : RelZ × (Option Addr × Nat)) : List Value := [.string x.1.1, .int .i64 x.1.2.1, .slice x.2.1 x.1.2.2.1.length x.2.2]
theorem relCells_len (x : RelZ × (Option Addr × Nat)) : (relCells x).length = 3 := rfl
/-- A relation's rows in memory of their own. -/
def RelAt (w0 w : World) (x : RelZ × (Option Addr × Nat)) : Prop := OwnRows w0.heap.size w (.slice x.2.1 x.1.2.2.1.length x.2.2) x.1.2.2.1
theorem OwnRows.kpt {F : Nat → Prop} {lo : Nat} {w w' : World} {v : Value} {LL : List (List ByteArray)} (h : OwnRows lo w v LL) (hk : Kp F w w') (hF : ∀ g cs, F g → ¬ Blk w g cs 76 ∧ ¬ Blk w g cs 9) : OwnRows lo w' v LL := by
  obtain ⟨ps, h1, h2, h3, h4⟩ := h
  refine ⟨ps, h1, h2.kp' hk fun g hg _ hf => ?_, fun p hp => ⟨(h3 p hp).1.kp' hk fun g hg _ hf => ?_, (h3 p hp).2⟩, h4⟩
  · obtain ⟨cs, hb, _⟩ := h2.has hg
    exact (hF g cs hf).1 hb
  · obtain ⟨cs, hb, _⟩ := (h3 p hp).1.has hg
    exact (hF g cs hf).2 hb
theorem typ_sr : 9 ≠ 71 := by decide
theorem typ_lr : 76 ≠ 71 := by decide
theorem RelAt.row {w0 w w' : World} {x : RelZ × (Option Addr × Nat)} (h : RelAt w0 w x) {k : Nat} {v : Value} {n : Nat} {xs : List Value} {M : Nat → Prop} (hr : Row w 71 k v n xs M) (hk : Kp (fun g => v.ownBlock = some g) w w') : RelAt w0 w' x :=
  OwnRows.kpt h hk fun g cs hg => by
    obtain ⟨cs', hb, _⟩ := hr.has hg
    exact ⟨fun h1 => typ_lr (blk_ne h1 hb), fun h1 => typ_sr (blk_ne h1 hb)⟩
theorem OwnRows.slice {lo : Nat} {w : World} {v : Value} {LL : List (List ByteArray)} (h : OwnRows lo w v LL) : ∃ a c, v = .slice a LL.length c ∧ LL.length ≤ c ∧ c ≤ maxLen := by
  obtain ⟨ps, rfl, h2, h3, h4⟩ := h
  obtain ⟨q1, ⟨rfl, q2⟩ | ⟨g, cap, rest, rfl, _, _, _, hn, hc⟩⟩ := h2
  · exact ⟨none, 0, by rw [List.length_map, q2], by rw [List.length_map, q2]; exact Nat.le_refl _, by decide⟩
  · exact ⟨_, cap, by rw [List.length_map], by rw [List.length_map]; exact hn, hc⟩
/-- Relations in memory of their own. -/
def RelsV (lo : Nat) (w : World) (v : Value) (L : List RelZ) : Prop := ∃ a c, v = .slice a L.length c ∧ L.length ≤ c ∧ c ≤ maxLen ∧ RelsIn (fun g => lo ≤ g ∧ g < w.heap.size) w a L
theorem rels_own {w0 w : World} {L : List RelZ} {vs : List (Option Addr × Nat)} {v : Value} (hl : vs.length = L.length) (hr : Row w 71 3 v L.length ((L.zip vs).flatMap relCells) (New w0)) (hd : ∀ x ∈ L.zip vs, RelAt w0 w x) : RelsV w0.heap.size w v L := by
  have hnew := hr.block
  have hlt := hr.lt
  obtain ⟨q1, q2⟩ := hr
  have hsh : ∃ a c, v = .slice a L.length c ∧ L.length ≤ c ∧ c ≤ maxLen ∧ CellsAt w a ((L.zip vs).flatMap relCells) := by
    rcases q2 with ⟨rfl, q2⟩ | ⟨g, cap, rest, rfl, _, hb, _, hn, hc⟩
    · have hz : L = [] := List.eq_nil_of_length_eq_zero q2
      subst hz
      exact ⟨none, 0, rfl, Nat.le_refl _, by decide, CellsAt.nil _ _⟩
    · exact ⟨_, cap, rfl, hn, hc, CellsAt.pre hb⟩
  obtain ⟨a, c, rfl, h1, h2, hc⟩ := hsh
  refine ⟨a, c, rfl, h1, h2, fun i q hq => ?_⟩
  have hv : i < vs.length := by rw [hl]; exact (List.getElem?_eq_some_iff.1 hq).1
  have hz : (L.zip vs)[i]? = some (q, vs[i]) := by rw [List.getElem?_zip_eq_some]; exact ⟨hq, List.getElem?_eq_getElem hv⟩
  have hg := fun c hcc => flat_get relCells 3 relCells_len (L.zip vs) i _ c hz hcc
  obtain ⟨b, off, rfl, h0⟩ := hc (i * 3 + 0) _ (hg 0 (by decide))
  obtain ⟨_, _, e1, h3⟩ := hc (i * 3 + 1) _ (hg 1 (by decide))
  cases e1
  obtain ⟨_, _, e2, h4⟩ := hc (i * 3 + 2) _ (hg 2 (by decide))
  cases e2
  have hat := hd _ (List.mem_of_getElem? hz)
  obtain ⟨a2, c2, e3, h5, h6⟩ := OwnRows.slice hat
  obtain ⟨a3, c3, e4, h7⟩ := OwnRows.shape hat
  cases e3
  cases e4
  exact ⟨b, off, _, _, rfl, ⟨hnew b rfl, hlt b rfl⟩, h0, h3, h4, h5, h6, h7⟩
def RelTo (L : List RelZ) (w0 : World) (n : Nat) (iv ov : Value) (w : World) : Prop := ∃ i : Nat, i ≤ n ∧ iv = .int .i64 i ∧ Hid (Ext w0 w) ∧ Hid (∃ vs, vs.length = i ∧ Row w 71 3 ov i (((L.take i).zip vs).flatMap relCells) (New w0) ∧ ∀ x ∈ (L.take i).zip vs, RelAt w0 w x)

end Go.Proofs.YtomeebimmmfmbaaGreat

/- Relations that came in: how they lie. -/
namespace Go.Proofs.YtomeebimmmfmbaaGreat
open Go.ChangeShapes Go.WideShapes Go.ChangeAt Go.RowKit
set_option linter.unusedVariables false

noncomputable def shT : Shp Tryz.prog ByteArray := shStr 9 Tryz.underlying9 (by kernel_rfl)
noncomputable def shTs : Shp Tryz.prog (List ByteArray) := shSlice 76 shT Tryz.underlying76 (by kernel_rfl) (by decide)
noncomputable def shTss : Shp Tryz.prog (List (List ByteArray)) := shSlice 69 shTs Tryz.underlying69 (by kernel_rfl) (by decide)
noncomputable def shRel : Shp Tryz.prog RelZ := shStruct 71 (fdCons shT (fdCons (shInt 3 .i64 Tryz.underlying3 (by kernel_rfl)) (fdCons shTss fdNil))) (fs := _) Tryz.underlying71 ⟨_, _, rfl, rfl, rfl, _, _, rfl, rfl, rfl, _, _, rfl, rfl, rfl, rfl⟩ (by kernel_rfl)
theorem list_choose {α β : Type} {P : Nat → α → β → Prop} : ∀ (L : List α), (∀ i x, L[i]? = some x → ∃ y, P i x y) → ∃ ys : List β, ys.length = L.length ∧ ∀ (i : Nat) (x : α) (y : β), L[i]? = some x → ys[i]? = some y → P i x y := by
  intro L
  induction L generalizing P with
  | nil => exact fun _ => ⟨[], rfl, fun i x y h => by simp at h⟩
  | cons a L ih =>
    intro h
    obtain ⟨y0, h0⟩ := h 0 a rfl
    obtain ⟨ys, h1, h2⟩ := ih (P := fun i x y => P (i + 1) x y) fun i x hx => h (i + 1) x (by simpa using hx)
    refine ⟨y0 :: ys, by simp [h1], fun i x y hx hy => ?_⟩
    cases i with
    | zero => simp at hx hy; subst hx; subst hy; exact h0
    | succ i => exact h2 i x y (by simpa using hx) (by simpa using hy)
/-- Rows. -/
theorem elems_rows {w : World} {G : Nat → Prop} {ao : Option Addr} {LL : List (List ByteArray)} (h : ElemsAt shTs w G ao LL) (hl : ∀ ss ∈ LL, ss.length ≤ 8796093021952) : RowsIn (fun _ => True) w ao LL := by
  have h1 : ∀ (i : Nat) (ss : List ByteArray), LL[i]? = some ss → ∃ p : Option Addr × Nat × Nat, ∃ b off, ao = some ⟨b, off, none⟩ ∧ w.cell? ⟨b, off + i, none⟩ = some (.slice p.1 p.2.1 p.2.2) ∧ p.2.1 = ss.length ∧ CellsAt w p.1 (strs ss) := fun i ss hi => by
    obtain ⟨b, off, es, e, _, _, ⟨a1, c1, ee, hl, _, hc⟩, hcell⟩ := h i ss hi
    refine ⟨(a1, ss.length, c1), b, off, e, ?_, rfl, elems_strs (hu := Tryz.underlying9) (hc := by kernel_rfl) hc⟩
    have := hcell 0 (.slice a1 ss.length c1) (by rw [ee]; rfl)
    rw [show shTs.n = 1 from rfl, Nat.mul_one, Nat.add_zero] at this
    exact this
  obtain ⟨qs, hq, hP⟩ := list_choose LL h1
  have hz : ∀ p ∈ qs.zip LL, ReadsAs w p.1 p.2 ∧ p.2.length ≤ 8796093021952 ∧ ∀ a, p.1.1 = some a → True := fun p hp => by
    obtain ⟨i, hi, e⟩ := List.getElem_of_mem hp
    have h2 : (qs.zip LL)[i]? = some p := by rw [List.getElem?_eq_getElem hi, e]
    obtain ⟨h3, h4⟩ := List.getElem?_zip_eq_some.1 h2
    obtain ⟨b, off, _, _, h5, h6⟩ := hP i _ _ h4 h3
    exact ⟨⟨h5, h6⟩, hl _ (List.mem_of_getElem? h4), fun _ _ => trivial⟩
  refine ⟨qs.zip LL, ?_, fun i u hu => ?_, fun _ _ => trivial, hz⟩
  · rw [List.map_snd_zip (by omega)]
  · cases hp : (qs.zip LL)[i]? with
    | none => rw [show (rowVs (qs.zip LL))[i]? = ((qs.zip LL)[i]?).map _ from List.getElem?_map .., hp] at hu; cases hu
    | some p =>
      rw [rowVs_get _ _ _ hp] at hu
      cases hu
      obtain ⟨h3, h4⟩ := List.getElem?_zip_eq_some.1 hp
      obtain ⟨b, off, e, hc, _⟩ := hP i _ _ h4 h3
      exact ⟨b, off, e, hc⟩
/-- Relations. -/
theorem elems_rels {w : World} {G : Nat → Prop} {ao : Option Addr} {L : List RelZ} (h : ElemsAt shRel w G ao L) (hl : ∀ q ∈ L, ∀ ss ∈ q.2.2.1, ss.length ≤ 8796093021952) : RelsIn (fun _ => True) w ao L := fun i q hq => by
  obtain ⟨b, off, es, e, _, _, hat, hcell⟩ := h i q hq
  obtain ⟨x1, y1, e1, ⟨ex1, _⟩, x2, y2, e2, ⟨ex2, _⟩, x3, y3, e3, ⟨ra, rcap, ex3, r1, r2, r3⟩, e4⟩ := hat
  have e4' : y3 = [] := e4
  have ee : es = [.string q.1, .int .i64 q.2.1, .slice ra q.2.2.1.length rcap] := by
    rw [e1, ex1, e2, ex2, e3, ex3, e4']; rfl
  have hc : ∀ c u, es[c]? = some u → w.cell? ⟨b, off + i * 3 + c, none⟩ = some u := fun c u hu => by
    have := hcell c u hu
    rw [show shRel.n = 3 from rfl, ← Nat.add_assoc] at this
    exact this
  exact ⟨b, off, ra, rcap, e, trivial, hc 0 _ (by rw [ee]; rfl), hc 1 _ (by rw [ee]; rfl), hc 2 _ (by rw [ee]; rfl), r1, r2, elems_rows r3 (hl q (List.mem_of_getElem? hq))⟩
theorem rel_bulk {L : List RelZ} {N : Nat} (h : bulkL shRel.bulk L ≤ N) : L.length ≤ N ∧ ∀ q ∈ L, q.2.2.1.length ≤ N ∧ ∀ ss ∈ q.2.2.1, ss.length ≤ N := by
  refine ⟨Nat.le_trans (bulkL_len shRel.bulk (fun x => by show 1 ≤ _ + 1; omega) L) h, fun q hq => ?_⟩
  have h1 : shRel.bulk q ≤ N := Nat.le_trans (bulkL_mem shRel.bulk hq) h
  have h2 : shT.bulk q.1 + (1 + ((bulkL shTs.bulk q.2.2.1 + 1) + 0)) + 1 ≤ N := h1
  have h3 := bulkL_len shTs.bulk (fun x => by show 1 ≤ _ + 1; omega) q.2.2.1
  refine ⟨by omega, fun ss hs => ?_⟩
  have h4 : shTs.bulk ss ≤ _ := bulkL_mem shTs.bulk hs
  have h5 : bulkL shT.bulk ss + 1 ≤ bulkL shTs.bulk q.2.2.1 := h4
  have h6 := bulkL_len shT.bulk (fun x => by show 1 ≤ _ + 1; omega) ss
  omega
end Go.Proofs.YtomeebimmmfmbaaGreat

/- sibylref03.Rows: what lies where; NewRows, Arity, texts, copied, find, Below. -/
namespace Go.Proofs.YtomeebimmmfmbaaGreat
open Go.RowKit
set_option linter.unusedVariables false

/-- The document's Rows in memory: an arity, rows; S holds the rows and their list, the box lies off S. -/
def RefRows (S : Nat → Prop) (w : World) (c : Nat) (n : Nat) (LL : List (List ByteArray)) : Prop :=
  ∃ ao cap, Blk w c [.int .i64 n, .slice ao LL.length cap] 149 ∧ RowsIn S w ao LL ∧ (LL.length ≤ cap ∧ cap ≤ maxLen ∧ (ao = none ∧ cap = 0 ∨ ∃ g, ao = some ⟨g, 0, none⟩)) ∧ ¬ S c ∧ (∀ k, S k → k < w.heap.size) ∧ LL.length ≤ 1048576 * 1048576
/-- Between two rounds of a loop that only reads. -/
def ReadR (n : Nat) (ok : Nat → Prop) (w0 : World) (kv : Value) (w : World) : Prop := ∃ i : Nat, i ≤ n ∧ kv = .int .i64 i ∧ ok i ∧ Ext w0 w
/-- Between two rounds of a loop that counts. -/
def CountR (n : Nat) (f : Nat → Nat) (w0 : World) (nv kv : Value) (w : World) : Prop := ∃ i : Nat, i ≤ n ∧ nv = .int .i64 (f i : Nat) ∧ kv = .int .i64 i ∧ Ext w0 w
theorem below_step' {α : Type} (c : α → α → Int) (zs : List α) (x y : α) (i : Nat) (h : zs[i]? = some y) : below c (zs.take (i + 1)) x = below c (zs.take i) x + (if c y x < 0 then 1 else 0) := by
  obtain ⟨hl, e⟩ := List.getElem?_eq_some_iff.1 h
  unfold below
  rw [List.take_succ_eq_append_getElem hl, List.filter_append, e]
  by_cases hc : c y x < 0 <;> simp [hc]
/-- The place of a row; -1: there is none. -/
def findR (LL : List (List ByteArray)) (ss : List ByteArray) : Int := if isIn cmpRow LL ss then (below cmpRow LL ss : Nat) else -1
theorem first_alike' {α : Type} {c : α → α → Int} (O : OrdLaw c) {zs : List α} (hs : Strict c zs) {x y : α} {i : Nat} (hy : zs[i]? = some y) (hz : c y x = 0) : i = below c zs x := by
  refine hs.place O (by have := (List.getElem?_eq_some_iff.1 hy).1; omega) (fun u h0 hu => ?_) (fun u hu => ?_)
  · obtain ⟨h1, e1⟩ := List.getElem?_eq_some_iff.1 hu
    obtain ⟨h2, e2⟩ := List.getElem?_eq_some_iff.1 hy
    have := List.pairwise_iff_getElem.1 hs (i - 1) i h1 h2 (by omega)
    rw [e1, e2] at this
    exact O.lt_trans this (by omega)
  · rw [hy] at hu; cases hu; omega

section
variable {S S' : Nat → Prop} {w w' : World} {c n : Nat} {LL : List (List ByteArray)}
theorem RefRows.kp {F : Nat → Prop} (h : RefRows S w c n LL) (hk : Kp F w w') (hc : ¬ F c) (hF : ∀ k, F k → ¬ S k) : RefRows S w' c n LL := by
  obtain ⟨ao, cap, h1, h2, h3, h4, h5, h6⟩ := h
  exact ⟨ao, cap, h1.kp hk hc, h2.kp hk hF, h3, h4, fun k hS => Nat.lt_of_lt_of_le (h5 k hS) hk.size, h6⟩
theorem RefRows.ext (h : RefRows S w c n LL) (hk : Ext w w') : RefRows S w' c n LL := h.kp hk id fun _ x => x.elim
theorem RefRows.wide (h : RefRows S w c n LL) (hs : ∀ k, S k → S' k) (hc : ¬ S' c) (hl : ∀ k, S' k → k < w.heap.size) : RefRows S' w c n LL := by
  obtain ⟨ao, cap, h1, h2, h3, h4, h5, h6⟩ := h
  exact ⟨ao, cap, h1, h2.mono hs, h3, hc, hl, h6⟩
theorem RefRows.lt (h : RefRows S w c n LL) : c < w.heap.size := by obtain ⟨ao, cap, h1, _⟩ := h; exact h1.lt
theorem RefRows.inS (h : RefRows S w c n LL) : ∀ k, S k → k < w.heap.size := by obtain ⟨ao, cap, h1, h2, h3, h4, h5, _⟩ := h; exact h5
theorem RefRows.notS (h : RefRows S w c n LL) : ¬ S c := by obtain ⟨ao, cap, h1, h2, h3, h4, h5, _⟩ := h; exact h4
theorem RefRows.len (h : RefRows S w c n LL) : LL.length ≤ 1048576 * 1048576 := by obtain ⟨ao, cap, h1, h2, h3, h4, h5, h6⟩ := h; exact h6

theorem refNewRows_any (S : Nat → Prop) (w : World) (a : Nat) (ha : a ≤ 64) (hS : ∀ k, S k → k < w.heap.size) :
    Calls Tryz.prog 95 #[.int .i64 a] w (RetN w fun w' v => v = .tuple #[.pointer (some ⟨w.heap.size, 0, none⟩), .int .i64 0] ∧ RefRows S w' w.heap.size a []) := by
  have t1 : decide ((a : Int) < 0) = false := by simp
  have t2 : decide ((a : Int) > 64) = false := by simp; omega
  have t3 : decide (64 < (a : Int)) = false := by simp; omega
  go_enter Tryz.func95, Tryz.ntmps95
  go_wp2
  go_ret2
  refine RetN.mk ((Kp.refl w).alloc _) ⟨rfl, none, 0, Blk.new w [_, _] _, RowsIn.nil _ _, ⟨Nat.le_refl _, by decide, .inl ⟨rfl, rfl⟩⟩, fun h => by have := hS _ h; omega, fun k h => by have := hS k h; rw [alloc_size]; omega, by simp⟩
theorem refNewRows_bad (a : Int) (w : World) (ha : a < 0 ∨ 64 < a) : Calls Tryz.prog 95 #[.int .i64 a] w (Ret (.tuple #[.pointer none, .int .i64 2]) w) := by
  by_cases h0 : a < 0
  · have t1 : decide (a < 0) = true := by simp [h0]
    go_enter Tryz.func95, Tryz.ntmps95
    go_wp2
    go_ret2
    exact Ret.mk rfl
  · have h1 : 64 < a := by omega
    have t1 : decide (a < 0) = false := by simp; omega
    have t2 : decide (a > 64) = true := by simp; omega
    have t3 : decide (64 < a) = true := by simp; omega
    go_enter Tryz.func95, Tryz.ntmps95
    go_wp2
    go_ret2
    exact Ret.mk rfl
theorem copied_any (ss : List ByteArray) (ao : Option Addr) (m cap : Nat) (w : World) (hm : m = ss.length) (hc : CellsAt w ao (strs ss)) (hl : ss.length ≤ 8796093021952) :
    Calls Tryz.prog 110 #[.slice ao m cap] w (RetN w fun w' v => OwnRow w w' v ss) := by
  subst hm
  go_enter Tryz.func110, Tryz.ntmps110
  go_wp2_with (first | (at_builtin; refine Halted.out ?_))
  refine Halted.mk (wp_appN elem_str rfl _ _ rfl (Kp.refl (F := fun _ => False) w) rfl (Row.nil w 9 1 (New w)) rfl hc (by simp [strs]) (strs_one ss) (by omega) (by unfold maxLen; omega) ?_)
  intro v1 w1 hr1 hk1 _ _
  have HR := Lib.hid hr1; clear hr1
  go_wp2
  go_ret
  refine RetN.mk hk1 ?_
  unfold OwnRow
  simpa using HR.out
set_option maxRecDepth 100000 in
theorem refTexts_any (ss : List ByteArray) (ao : Option Addr) (m cap : Nat) (w : World) (hm : m = ss.length) (hc : CellsAt w ao (strs ss)) (hl : m ≤ 4611686018427387904) :
    Calls Tryz.prog 98 #[.slice ao m cap] w (Ret (.bool (textsC ss)) w) := by
  have HC := Lib.hid hc; have EN := Lib.hid hm; clear hc hm
  go_enter Tryz.func98, Tryz.ntmps98
  go_wp2
  go_loopw [3] (fun kv wr => wr = w ∧ ∃ i : Nat, i ≤ m ∧ kv = .int .i64 i ∧ ∀ j s, j < i → ss[j]? = some s → s.size ≤ 4096) (fun k _ => m - (intOf k).toNat)
  case atStart => exact ⟨rfl, 0, Nat.zero_le _, rfl, fun j s h => by omega⟩
  case round =>
    obtain ⟨ew, i, hi, rfl, hok⟩ := hrel
    subst ew
    have OK := Lib.hid hok; clear hok
    by_cases hlt : i < m
    · obtain ⟨y, hy⟩ : ∃ y, ss[i]? = some y := ⟨_, List.getElem?_eq_getElem (by have := EN.out; omega)⟩
      obtain ⟨g, o, eao, c3⟩ := HC.out i (.string y) (by simp [strs, hy])
      subst eao
      have HY := Lib.hid hy; clear hy
      have i1 : (i : Int) < (m : Int) := by omega
      by_cases hz : 4096 < y.size
      · have t1 : decide ((y.size : Int) > 4096) = true := by simp; omega
        have t2 : decide ((4096 : Int) < (y.size : Int)) = true := by simp; omega
        go_wp2
        go_ret
        have key : textsC ss = false := by
          cases hb : textsC ss with
          | false => rfl
          | true =>
            have := List.all_eq_true.1 hb y (List.mem_of_getElem? HY.out)
            simp at this; omega
        exact Ret.mk (by rw [key]; rfl)
      · have t1 : decide ((y.size : Int) > 4096) = false := by simp; omega
        have t2 : decide ((4096 : Int) < (y.size : Int)) = false := by simp; omega
        go_wp2
        go_roundw
        case rel =>
          refine ⟨by first | rfl | trivial, i + 1, by omega, by first | rfl | (congr 1; done) | (congr 1; omega), fun j s hj hs => ?_⟩
          by_cases e : j = i
          · subst e; rw [HY.out] at hs; cases hs; omega
          · exact OK.out j s (by omega) hs
        case measure => simp [intOf]; omega
    · go_wp2
      go_ret
      have key : textsC ss = true := List.all_eq_true.2 fun y hy => by
        obtain ⟨j, hj, rfl⟩ := List.mem_iff_getElem.1 hy
        have := OK.out j _ (by have := EN.out; omega) (List.getElem?_eq_getElem hj)
        simpa using this
      exact Ret.mk (by rw [key]; rfl)

theorem refRowFind_nil (v : Value) (w : World) : Calls Tryz.prog 99 #[.pointer none, v] w (Ret (.int .i64 (-1)) w) := by
  go_enter Tryz.func99, Tryz.ntmps99
  go_wp2
  go_ret
  exact Ret.mk rfl
set_option maxRecDepth 100000 in
set_option maxHeartbeats 1000000 in
theorem refRowFind_any (h : RefRows S w c n LL) (hst : Strict cmpRow LL) {xo : Option Addr} {m xc : Nat} {ss : List ByteArray} (hm : m = ss.length) (hx : CellsAt w xo (strs ss)) (hss : ss.length ≤ 8796093021952) :
    Calls Tryz.prog 99 #[.pointer (some ⟨c, 0, none⟩), .slice xo m xc] w (RetN w fun w' v => v = .int .i64 (findR LL ss)) := by
  have hl := h.len
  obtain ⟨ao, cap, h1, h2, _⟩ := h
  have c2 : w.cell? ⟨c, 1, none⟩ = some (.slice ao LL.length cap) := by rw [h1.cell']; rfl
  obtain ⟨N, en⟩ : ∃ n, n = LL.length := ⟨_, rfl⟩
  rw [← en] at c2 hl
  have HC := Lib.hid h2; have EN := Lib.hid en; have HX := Lib.hid hx; have HT := Lib.hid hst; clear h1 h2 en hx hst
  subst hm
  go_enter Tryz.func99, Tryz.ntmps99
  go_wp2
  go_loopw [5] (ReadR N (fun i => ∀ j z, j < i → LL[j]? = some z → ¬ cmpRow z ss = 0) w) (fun k _ => N - (intOf k).toNat)
  case atStart => exact ⟨0, Nat.zero_le _, rfl, fun j z h => by omega, Kp.refl _⟩
  case round =>
    obtain ⟨i, hi, rfl, hok, hex⟩ := hrel
    have OK := Lib.hid hok; clear hok
    have d2 := hex.cell c2 id
    by_cases hlt : i < N
    · obtain ⟨y, hy⟩ : ∃ y, LL[i]? = some y := ⟨_, List.getElem?_eq_getElem (by have := EN.out; omega)⟩
      obtain ⟨g, o, x, xcap, eao, c3, hcy, hly, _⟩ := (HC.out.ext hex).get hy
      subst eao
      have HY := Lib.hid hy; clear hy
      have i1 : (i : Int) < (N : Int) := by omega
      have i2 : (0 : Int) ≤ (i : Int) := by omega
      have HCM := Lib.hid (fun W (hW : Ext wr W) => refCompare_any y ss x xo xcap xc W (hcy.ext hW) ((HX.out.ext hex).ext hW) (by unfold maxLen; omega) (by unfold maxLen; omega))
      generalize hcc : cmpRow y ss = cc at HCM
      have HCC := Lib.hid hcc; clear hcc hcy
      by_cases hz : cc = 0
      · have t1 : (cc == 0) = true := by simp [hz]
        go_wp2_with fail
        refine (HCM.out _ (Kp.refl _)).mono ?_
        rintro e w1 ⟨rfl, k1, rfl⟩
        clear d2 c3
        go_wp2
        go_ret
        have key : findR LL ss = i := by
          unfold findR
          rw [if_pos (isIn_iff.2 ⟨y, List.mem_of_getElem? HY.out, by rw [HCC.out]; exact hz⟩), ← first_alike' (c := cmpRow) (cmpRow_law id) HT.out HY.out (by rw [HCC.out]; exact hz)]
        exact RetN.mk (hex.drewN k1) (by rw [key]; rfl)
      · have t1 : (cc == 0) = false := by simp [hz]
        go_wp2_with fail
        refine (HCM.out _ (Kp.refl _)).mono ?_
        rintro e w1 ⟨rfl, k1, rfl⟩
        clear d2 c3
        go_wp2
        go_roundw
        case rel =>
          refine ⟨i + 1, by omega, by first | rfl | (congr 1; done) | (congr 1; omega), fun j z hj hz' => ?_, hex.drewN k1⟩
          by_cases e : j = i
          · subst e
            rw [HY.out] at hz'; cases hz'
            rw [HCC.out]; exact hz
          · exact OK.out j z (by omega) hz'
        case measure => simp [intOf]; omega
    · go_wp2
      go_ret
      have key : findR LL ss = -1 := by
        unfold findR
        rw [if_neg]
        intro hb
        obtain ⟨y, hy, hz⟩ := isIn_iff.1 hb
        obtain ⟨j, hj, rfl⟩ := List.mem_iff_getElem.1 hy
        exact OK.out j _ (by have := EN.out; omega) (List.getElem?_eq_getElem hj) hz
      exact RetN.mk hex (by rw [key]; rfl)
set_option maxRecDepth 100000 in
set_option maxHeartbeats 1000000 in
theorem refRowBelow_any (h : RefRows S w c n LL) {xo : Option Addr} {m xc : Nat} {ss : List ByteArray} (hm : m = ss.length) (hx : CellsAt w xo (strs ss)) (hss : ss.length ≤ 8796093021952) :
    Calls Tryz.prog 131 #[.pointer (some ⟨c, 0, none⟩), .slice xo m xc] w (RetN w fun w' v => v = .int .i64 (below cmpRow LL ss : Nat)) := by
  have hl := h.len
  obtain ⟨ao, cap, h1, h2, _⟩ := h
  have c2 : w.cell? ⟨c, 1, none⟩ = some (.slice ao LL.length cap) := by rw [h1.cell']; rfl
  obtain ⟨N, en⟩ : ∃ n, n = LL.length := ⟨_, rfl⟩
  rw [← en] at c2 hl
  have HC := Lib.hid h2; have EN := Lib.hid en; have HX := Lib.hid hx; clear h1 h2 en hx
  subst hm
  obtain ⟨f, ef⟩ : ∃ f : Nat → Nat, f = fun i => below cmpRow (LL.take i) ss := ⟨_, rfl⟩
  have F0 : f 0 = 0 := by rw [ef]; rfl
  have FL := Lib.hid (show ∀ i, f i ≤ i from fun i => by rw [ef]; exact Nat.le_trans (below_le _ _) (by simp; omega))
  have FS := Lib.hid (show ∀ i y, LL[i]? = some y → f (i + 1) = f i + (if cmpRow y ss < 0 then 1 else 0) from fun i y h => by rw [ef]; exact below_step' cmpRow LL ss y i h)
  have FN := Lib.hid (show f N = below cmpRow LL ss by rw [ef]; show below cmpRow (LL.take N) ss = _; rw [List.take_of_length_le (by have := EN.out; omega)])
  clear ef
  go_enter Tryz.func131, Tryz.ntmps131
  go_wp2
  go_loopw [5, 6] (CountR N f w) (fun _ k _ => N - (intOf k).toNat)
  case atStart => exact ⟨0, Nat.zero_le _, by rw [F0]; rfl, rfl, Kp.refl _⟩
  case round =>
    obtain ⟨i, hi, rfl, rfl, hex⟩ := hrel
    have d2 := hex.cell c2 id
    by_cases hlt : i < N
    · obtain ⟨y, hy⟩ : ∃ y, LL[i]? = some y := ⟨_, List.getElem?_eq_getElem (by have := EN.out; omega)⟩
      obtain ⟨g, o, x, xcap, eao, c3, hcy, hly, _⟩ := (HC.out.ext hex).get hy
      subst eao
      have hs := FS.out i y hy
      have hbi := FL.out i
      have HCM := Lib.hid (fun W (hW : Ext wr W) => refCompare_any y ss x xo xcap xc W (hcy.ext hW) ((HX.out.ext hex).ext hW) (by unfold maxLen; omega) (by unfold maxLen; omega))
      generalize hcc : cmpRow y ss = cc at HCM hs
      have HS := Lib.hid hs
      have i1 : (i : Int) < (N : Int) := by omega
      have i2 : (0 : Int) ≤ (i : Int) := by omega
      clear hcc hcy hs hy
      by_cases hz : cc < 0
      · have t1 : decide (cc < 0) = true := by simp [hz]
        go_wp2_with fail
        refine (HCM.out _ (Kp.refl _)).mono ?_
        rintro e w1 ⟨rfl, k1, rfl⟩
        clear d2 c3
        go_wp2
        go_roundw
        case rel => exact ⟨i + 1, by omega, by rw [HS.out, if_pos hz]; go_num, by first | rfl | (congr 1; done) | (congr 1; omega), hex.drewN k1⟩
        case measure => simp [intOf]; omega
      · have t1 : decide (cc < 0) = false := by simp; omega
        go_wp2_with fail
        refine (HCM.out _ (Kp.refl _)).mono ?_
        rintro e w1 ⟨rfl, k1, rfl⟩
        clear d2 c3
        go_wp2
        go_roundw
        case rel => exact ⟨i + 1, by omega, by rw [HS.out, if_neg (by omega)]; rfl, by first | rfl | (congr 1; done) | (congr 1; omega), hex.drewN k1⟩
        case measure => simp [intOf]; omega
    · obtain rfl : i = N := by omega
      go_wp2
      go_ret
      exact RetN.mk hex (by rw [← FN.out]; rfl)
end
end Go.Proofs.YtomeebimmmfmbaaGreat

/- sibylref03.Rows: All, Copy, Same. -/
namespace Go.Proofs.YtomeebimmmfmbaaGreat
open Go.RowKit
set_option linter.unusedVariables false

/-- Between two rounds of a loop that gathers rows. -/
def GathR (n : Nat) (LL : Nat → List (List ByteArray)) (w0 : World) (lv kv : Value) (w : World) : Prop := ∃ i : Nat, i ≤ n ∧ kv = .int .i64 i ∧ Ext w0 w ∧ OwnRows w0.heap.size w lv (LL i)
/-- What may be added to a pool: what came since. -/
def Grows (w : World) (S S' : Nat → Prop) : Prop := (∀ k, S k → S' k) ∧ ∀ k, S' k → S k ∨ w.heap.size ≤ k
theorem Grows.refl (w : World) (S : Nat → Prop) : Grows w S S := ⟨fun _ h => h, fun _ h => .inl h⟩
theorem Grows.trans {w w' : World} {S S' S'' : Nat → Prop} (h : Grows w S S') (h' : Grows w' S' S'') (hs : w.heap.size ≤ w'.heap.size) : Grows w S S'' :=
  ⟨fun k hk => h'.1 k (h.1 k hk), fun k hk => (h'.2 k hk).elim (fun h2 => h.2 k h2) (fun h2 => .inr (Nat.le_trans hs h2))⟩

section
variable {S S' : Nat → Prop} {w w' : World} {c n c1 c2 n1 n2 : Nat} {LL L1 L2 : List (List ByteArray)} {v : Value} {lo : Nat}
/-- Own rows, one more behind them: the walk's law of 'append(l, row)'. -/
theorem OwnRows.wp {W w1 : World} {x : RowZ} {ss : List ByteArray} {ops : Array Oper} {rest : List Oper} {o : Oper} {a : Act} {Q : Exit → Act → World → Prop} (h : OwnRows lo W v LL) (hk : Ext W w1) (hlo : lo ≤ W.heap.size)
    (hx : Row w1 9 1 (.slice x.1 x.2.1 x.2.2) ss.length (strs ss) (New W)) (hss : ss.length ≤ 8796093021952) (hll : LL.length ≤ 1048576 * 1048576) (hgd : o.guard = none) (s y : Operand)
    (ho : o.op = .call { callee := .builtin .append, args := #[s, y], argTypes := #[69, 69] }) (hs : a.eval s = v) (hy : a.eval y = .slice (some ⟨w1.heap.size, 0, none⟩) 1 1)
    (H : ∀ v' w', (∃ ao cap, v' = .slice ao (LL.length + 1) cap) → OwnRows lo w' v' (LL ++ [ss]) → Kp (fun g => v.ownBlock = some g) (w1.alloc (.cells #[.slice x.1 x.2.1 x.2.2] 76)) w' → wpList Tryz.prog ops Q rest (a.put o.dst v') w') :
    wpList Tryz.prog ops Q (o :: rest) a (w1.alloc (.cells #[.slice x.1 x.2.1 x.2.2] 76)) := by
  obtain ⟨ps, rfl, r2, r3, r4⟩ := h
  have hex : Ext W (w1.alloc (.cells #[.slice x.1 x.2.1 x.2.2] 76)) := hk.alloc _
  have r2' := r2.ext hex
  rw [List.length_map] at hll
  refine wp_app elemRow hgd s y ho (Kp.refl (F := fun g => v.ownBlock = some g) _) (M := fun g => v.ownBlock = some g ∨ (w1.alloc (.cells #[.slice x.1 x.2.1 x.2.2] 76)).heap.size ≤ g) (fun g h h' => by rcases h with h | h; exact h; omega) (fun g h => .inr h) hs
    (Row.mono r2'.own fun g h => .inl h) hy (m := 1) (news := [.slice x.1 x.2.1 x.2.2]) rfl (CellsAt.one w1 _ _) (by simp; rfl) (by omega) (by unfold maxLen; omega) ?_
  intro v' w' hr' hk' _ _
  obtain ⟨ao, cap, e, _⟩ := hr'.shape
  refine H v' w' ⟨ao, cap, by rw [e]; simp⟩ ?_ hk'
  exact OwnRows.push r2' (fun p hp => ⟨(r3 p hp).1.ext hex, (r3 p hp).2⟩) r4 (B := W.heap.size) (fun p hp g hg => (r3 p hp).1.lt g hg) hlo (hx.alloc _) hss
    (Row.mono hr' fun g hg => by rcases hg with hg | hg; exact r2.block g hg; exact Nat.le_trans hlo (Nat.le_trans hex.size hg)) hk'

set_option maxRecDepth 100000 in
set_option maxHeartbeats 1000000 in
theorem refAll_any (h : RefRows S w c n LL) : Calls Tryz.prog 68 #[.pointer (some ⟨c, 0, none⟩)] w (RetN w fun w' v => OwnRows w.heap.size w' v LL) := by
  have hl := h.len
  obtain ⟨ao, cap, h1, h2, _⟩ := h
  have c2 : w.cell? ⟨c, 1, none⟩ = some (.slice ao LL.length cap) := by rw [h1.cell']; rfl
  obtain ⟨N, en⟩ : ∃ n, n = LL.length := ⟨_, rfl⟩
  rw [← en] at c2 hl
  have HC := Lib.hid h2; have EN := Lib.hid en; clear h1 h2 en
  go_enter Tryz.func68, Tryz.ntmps68
  go_wp2
  go_loopw [3, 4] (GathR N (fun i => LL.take i) w) (fun _ k _ => N - (intOf k).toNat)
  case atStart => exact ⟨0, Nat.zero_le _, rfl, Kp.refl _, OwnRows.nil _ _⟩
  case round =>
    obtain ⟨i, hi, rfl, hex, hown⟩ := hrel
    have d2 := hex.cell c2 id
    by_cases hlt : i < N
    · obtain ⟨y, hy⟩ : ∃ y, LL[i]? = some y := ⟨_, List.getElem?_eq_getElem (by have := EN.out; omega)⟩
      obtain ⟨g, o, x, xcap, eao, c3, hcy, hly, _⟩ := (HC.out.ext hex).get hy
      subst eao
      have et : LL.take (i + 1) = LL.take i ++ [y] := by rw [List.take_add_one, hy]; rfl
      have htl : (LL.take i).length = i := by rw [List.length_take, ← EN.out]; omega
      have hz := hex.size
      have i1 : (i : Int) < (N : Int) := by omega
      have i2 : (0 : Int) ≤ (i : Int) := by omega
      have HCP := Lib.hid (copied_any y x y.length xcap wr rfl hcy hly)
      have hown : OwnRows w.heap.size wr u3 (LL.take i) := hown
      obtain ⟨aov, capv, ev, _⟩ := hown.shape
      rw [htl] at ev
      subst ev
      have HR := Lib.hid hown
      have ET := Lib.hid et
      clear hcy hy et hown
      go_wp2_with fail
      refine HCP.out.mono ?_
      rintro e w1 ⟨v1, rfl, hk1, hr1⟩
      obtain ⟨ao1, cap1, ev, _, _⟩ := hr1.shape
      subst ev
      clear d2 c3
      go_wp2_with (first | (at_builtin; refine Halted.out ?_))
      refine Halted.mk (OwnRows.wp (x := (ao1, y.length, cap1)) HR.out hk1 hz hr1 hly (by omega) rfl _ _ rfl rfl rfl ?_)
      rintro v' w2 ⟨ao2, cap2, rfl⟩ hown2 hk2
      have HO := Lib.hid (And.intro hown2 hk2)
      have HB := Lib.hid (fun g hg => (HR.out.lt g hg).1)
      clear hown2 hk2
      go_wp2
      go_roundw
      case rel => exact ⟨i + 1, by omega, by first | rfl | (congr 1; done) | (congr 1; omega), (hex.trans (hk1.alloc _)).trans' HO.out.2 (fun k hk h => by have := HB.out k h; omega), by have h := HO.out.1; rw [htl] at h; show OwnRows _ _ _ (LL.take (i + 1)); rw [ET.out]; exact h⟩
      case measure => simp [intOf]; omega
    · obtain rfl : i = N := by omega
      have hown : OwnRows w.heap.size wr u3 (LL.take i) := hown
      rw [List.take_of_length_le (by have := EN.out; omega)] at hown
      obtain ⟨aov, capv, ev, _⟩ := hown.shape
      subst ev
      have HR := Lib.hid hown; clear hown
      go_wp2
      go_ret
      exact RetN.mk hex HR.out

end
end Go.Proofs.YtomeebimmmfmbaaGreat

/- sibylref03.Rows: Add, Drop. -/
namespace Go.Proofs.YtomeebimmmfmbaaGreat
open Go.RowKit
set_option linter.unusedVariables false

theorem CellsAt.sub' {w : World} {g off : Nat} {vs : List Value} (h : CellsAt w (some ⟨g, off, none⟩) vs) (k : Nat) : CellsAt w (some ⟨g, off + k, none⟩) (vs.drop k) := by
  intro i u hu
  rw [List.getElem?_drop] at hu
  obtain ⟨b, o, e, hc⟩ := h (k + i) u hu
  cases e
  exact ⟨g, off + k, rfl, by rw [Nat.add_assoc]; exact hc⟩
theorem CellsAt.take' {w : World} {ao : Option Addr} {vs : List Value} (h : CellsAt w ao vs) (k : Nat) : CellsAt w ao (vs.take k) := by
  intro i u hu
  rw [List.getElem?_take] at hu
  split at hu
  · exact h i u hu
  · cases hu
theorem Row.cast' {w : World} {e : TypeId} {k : Nat} {v : Value} {n n' : Nat} {xs xs' : List Value} {M : Nat → Prop} (h : Row w e k v n xs M) (hn : n = n') (hx : xs = xs') : Row w e k v n' xs' M := by subst hn hx; exact h
theorem rowVs_take (ps : List RowP) (k : Nat) : (rowVs ps).take k = rowVs (ps.take k) := by simp [rowVs]
theorem rowVs_drop (ps : List RowP) (k : Nat) : (rowVs ps).drop k = rowVs (ps.drop k) := by simp [rowVs]

section
variable {S S' : Nat → Prop} {w w0 w' : World} {c n : Nat} {LL : List (List ByteArray)} {v : Value}
theorem RefRows.store {lv0 : Value} (hex : Ext w0 w) (hc : c < w0.heap.size) (hnS : ¬ S c) (hS : ∀ k, S k → k < w0.heap.size) (hB : Blk w c [.int .i64 n, lv0] 149) {ps : List RowP} (hr : Row w 76 1 v ps.length (rowVs ps) (New w0))
    (hall : ∀ p ∈ ps, ReadsAs w p.1 p.2 ∧ p.2.length ≤ 8796093021952 ∧ ∀ a, p.1.1 = some a → S a.block ∨ (w0.heap.size ≤ a.block ∧ a.block < w.heap.size)) (hl : ps.length ≤ 1048576 * 1048576) :
    RefRows (fun k => S k ∨ (w0.heap.size ≤ k ∧ k < w.heap.size)) (w.setCell ⟨c, 1, none⟩ v) c n (ps.map Prod.snd) := by
  have hk : Kp (fun k => k = c) w (w.setCell ⟨c, 1, none⟩ v) := Kp.setCell (F := fun k => k = c) (Kp.refl w) (fun _ => rfl) v
  have hz := hex.size
  have hlt := hr.lt
  have hb := hr.block
  have hform : ∃ ao cap, v = .slice ao ps.length cap ∧ CellsAt w ao (rowVs ps) ∧ (ps.length ≤ cap ∧ cap ≤ maxLen ∧ (ao = none ∧ cap = 0 ∨ ∃ g, ao = some ⟨g, 0, none⟩)) := by
    obtain ⟨ao, cap, e, h1, h2⟩ := hr.shape
    refine ⟨ao, cap, e, h1, h2, ?_⟩
    subst e
    obtain ⟨_, ⟨e, h3⟩ | ⟨g, cap', rest, e, _, _, _, h4, h5⟩⟩ := hr
    · simp only [Value.slice.injEq] at e
      obtain ⟨rfl, _, rfl⟩ := e
      exact ⟨by decide, .inl ⟨rfl, rfl⟩⟩
    · simp only [Value.slice.injEq] at e
      obtain ⟨rfl, _, rfl⟩ := e
      exact ⟨h5, .inr ⟨_, rfl⟩⟩
  obtain ⟨ao, cap, rfl, hcs, hf⟩ := hform
  have hin : RowsIn (fun k => S k ∨ (w0.heap.size ≤ k ∧ k < w.heap.size)) w ao (ps.map Prod.snd) :=
    ⟨ps, rfl, hcs, fun a e => by subst e; exact .inr ⟨hb _ rfl, hlt _ rfl⟩, hall⟩
  have hcn : ¬ (S c ∨ (w0.heap.size ≤ c ∧ c < w.heap.size)) := fun h => by
    rcases h with h | h
    · exact hnS h
    · omega
  refine ⟨ao, cap, by simpa using hB.set 1 (.slice ao ps.length cap), hin.kp hk (fun k e h => by subst e; exact hcn h), by simpa using hf, hcn, fun k h => ?_, by simpa using hl⟩
  have := hk.size
  rcases h with h | h
  · have := hS k h; omega
  · omega

/-- What Add leaves. -/
def RefAdded (S : Nat → Prop) (w : World) (c n : Nat) (LL : List (List ByteArray)) (ss : List ByteArray) (w' : World) (v : Value) : Prop :=
  v = .tuple #[.bool (rowsAddR n LL ss).1, .int .i64 ((rowsAddR n LL ss).2 : Nat)] ∧ ∃ S', Grows w S S' ∧ RefRows S' w' c n (rowsAddL n LL ss)
theorem RefAdded.same {ss : List ByteArray} (h : RefRows S w c n LL) (hk : Ext w w') (hv : v = .tuple #[.bool (rowsAddR n LL ss).1, .int .i64 ((rowsAddR n LL ss).2 : Nat)]) (h0 : rowsAddL n LL ss = LL) : RefAdded S w c n LL ss w' v :=
  ⟨hv, S, Grows.refl _ _, by rw [h0]; exact h.ext hk⟩
set_option maxRecDepth 100000 in
set_option maxHeartbeats 2000000 in
theorem refAdd_any (h : RefRows S w c n LL) (hst : Strict cmpRow LL) {xo : Option Addr} {m xc : Nat} {ss : List ByteArray} (hm : m = ss.length) (hx : CellsAt w xo (strs ss)) (hss : ss.length ≤ 8796093021952) (hl1 : LL.length + 1 ≤ 1048576 * 1048576) :
    Calls Tryz.prog 101 #[.pointer (some ⟨c, 0, none⟩), .slice xo m xc] w (RetF (fun k => k = c) w (RefAdded S w c n LL ss)) := by
  have HH := Lib.hid h
  obtain ⟨ao, cap, B0, R0, ⟨f1, f2, f3⟩, hnS, hSw, _⟩ := h
  have c1 : w.cell? ⟨c, 0, none⟩ = some (.int .i64 n) := by rw [B0.cell']; rfl
  have HT := Lib.hid (refTexts_any ss xo m xc w hm hx (by omega))
  have HF := Lib.hid (refRowFind_any HH.out hst (xc := xc) hm hx hss)
  have HX := Lib.hid (And.intro hx (And.intro hst (And.intro hnS hSw)))
  have HB := Lib.hid (And.intro B0 R0)
  have F3 := Lib.hid f3
  clear hst hx hnS hSw B0 R0 f3
  by_cases h1 : m = n
  · have q1 : ((m : Int) != (n : Int)) = false := by simp [h1]
    have H1 := Lib.hid h1; clear h1
    have hn : ss.length = n := by rw [← hm, H1.out]
    have HN := Lib.hid hn
    have HM := Lib.hid hm
    cases ht : textsC ss with
    | false =>
      have e0 : rowsAddR n LL ss = (false, 31) := by unfold rowsAddR; rw [if_neg (by simp [hn]), if_pos ht]
      rw [ht] at HT; clear ht hn hm f1 f2 hss hl1
      go_enter Tryz.func101, Tryz.ntmps101
      go_wp2_with fail
      refine HT.out.mono ?_
      rintro e w1 ⟨rfl, rfl⟩
      go_wp2
      go_ret2
      exact RetF.mk (Kp.refl _) (RefAdded.same HH.out (Kp.refl _) (by rw [e0]; rfl) (by unfold rowsAddL; rw [e0]; rfl))
    | true =>
      rw [ht] at HT
      cases hin : isIn cmpRow LL ss with
      | true =>
        have e0 : rowsAddR n LL ss = (false, 0) := by unfold rowsAddR; rw [if_neg (by simp [hn]), if_neg (by simp [ht]), if_neg (by simp [hin]), hin]; rfl
        have e1 : rowsAddL n LL ss = LL := by unfold rowsAddL addS; rw [e0, if_pos rfl, if_pos hin]
        have ef : findR LL ss = (below cmpRow LL ss : Nat) := by unfold findR; rw [if_pos hin]
        rw [ef] at HF
        generalize below cmpRow LL ss = bl at HF
        have E := Lib.hid (And.intro e0 e1); clear e0 e1 ef hin ht hn hm f1 f2 hss hl1
        have t1 : decide ((bl : Int) ≥ 0) = true := by simp
        go_enter Tryz.func101, Tryz.ntmps101
        go_wp2_with fail
        refine HT.out.mono ?_
        rintro e w1 ⟨rfl, rfl⟩
        go_wp2_with fail
        refine HF.out.mono ?_
        rintro e w1 ⟨v, rfl, hk, rfl⟩
        have HK := Lib.hid hk; clear hk
        go_wp2
        go_ret2
        exact RetF.mk (Ext.kp HK.out) (RefAdded.same HH.out HK.out (by rw [E.out.1]; rfl) E.out.2)
      | false =>
        have ef : findR LL ss = -1 := by unfold findR; rw [if_neg (by simp [hin])]
        rw [ef] at HF
        by_cases h65 : 65536 ≤ LL.length
        · have e0 : rowsAddR n LL ss = (false, 4) := by unfold rowsAddR; rw [if_neg (by simp [hn]), if_neg (by simp [ht]), if_pos ⟨h65, hin⟩]
          have E := Lib.hid e0; clear e0 ef hin ht hn hm hss hl1
          have c2 : w.cell? ⟨c, 1, none⟩ = some (.slice ao LL.length cap) := by rw [HB.out.1.cell']; rfl
          have t1 : decide ((LL.length : Int) ≥ 65536) = true := by simp; omega
          have t2 : decide ((65536 : Int) ≤ (LL.length : Int)) = true := by simp; omega
          go_enter Tryz.func101, Tryz.ntmps101
          go_wp2_with fail
          refine HT.out.mono ?_
          rintro e w1 ⟨rfl, rfl⟩
          go_wp2_with fail
          refine HF.out.mono ?_
          rintro e w1 ⟨v, rfl, hk, rfl⟩
          have d2 := hk.cell c2 id
          have HK := Lib.hid hk; clear hk
          go_wp2
          go_ret2
          exact RetF.mk (Ext.kp HK.out) (RefAdded.same HH.out HK.out (by rw [E.out]; rfl) (by unfold rowsAddL; rw [E.out]; rfl))
        · have e0 : rowsAddR n LL ss = (true, 0) := by unfold rowsAddR; rw [if_neg (by simp [hn]), if_neg (by simp [ht]), if_neg (by simp [h65]), hin]; rfl
          have e1 : rowsAddL n LL ss = LL.take (below cmpRow LL ss) ++ ss :: LL.drop (below cmpRow LL ss) := by unfold rowsAddL addS; rw [e0, if_pos rfl, if_neg (by simp [hin])]
          have E := Lib.hid (And.intro e0 e1); clear e0 e1 ef hin ht
          have hle := below_le (c := cmpRow) LL ss
          have HW := Lib.hid (fun W (hW : Ext w W) => refRowBelow_any (HH.out.ext hW) (xc := xc) hm (HX.out.1.ext hW) hss)
          generalize below cmpRow LL ss = b at *
          have HCP := Lib.hid (fun W (hW : Ext w W) => copied_any ss xo m xc W hm (HX.out.1.ext hW) hss)
          obtain ⟨N, en⟩ : ∃ n, n = LL.length := ⟨_, rfl⟩
          have c2 : w.cell? ⟨c, 1, none⟩ = some (.slice ao N cap) := by rw [en, HB.out.1.cell']; rfl
          rw [← en] at hle h65 hl1 f1
          have EN := Lib.hid (And.intro en hm); clear en
          have t1 : decide ((N : Int) ≥ 65536) = false := by simp; omega
          have t2 : decide ((65536 : Int) ≤ (N : Int)) = false := by simp; omega
          unfold maxLen at f2
          have hcw := HH.out.lt
          have hmm : m ≤ 8796093021952 := by omega
          clear hm hn
          go_enter Tryz.func101, Tryz.ntmps101
          go_wp2_with fail
          refine HT.out.mono ?_
          rintro e w1 ⟨rfl, rfl⟩
          go_wp2_with fail
          refine HF.out.mono ?_
          rintro e w1 ⟨v, rfl, hk1, rfl⟩
          have d2 := hk1.cell c2 id
          go_wp2_with fail
          refine (HW.out _ hk1).mono ?_
          rintro e w2 ⟨v, rfl, hk2, rfl⟩
          have hx2 := hk1.trans hk2
          have d3 := hx2.cell c2 id
          clear d2 t1 t2
          obtain ⟨ps, hE, hcs, _, hall⟩ := HB.out.2
          have hpn : ps.length = N := by rw [EN.out.1, hE]; simp
          have PS := Lib.hid (And.intro hE (And.intro hcs (And.intro hall hpn)))
          clear hE hcs hall hpn
          rcases F3.out with ⟨rfl, rfl⟩ | ⟨g, rfl⟩
          · have hN0 : N = 0 := by omega
            have hb0 : b = 0 := by omega
            subst hN0 hb0
            clear f1 f2 hle
            go_wp2_with (first | (at_builtin; refine Halted.out ?_))
            refine Halted.mk (wp_appN elemRow rfl _ _ rfl hx2 rfl (Row.nil w2 76 1 (New w)) rfl (news := (rowVs ps).take 0) (by simp; exact CellsAt.nil _ _) (by simp) (by simp) (by decide) (by decide) ?_)
            intro v1 w3 hr1 hk3 _ _
            have HR1 := Lib.hid hr1; clear hr1
            go_wp2_with fail
            refine (HCP.out _ hk3).mono ?_
            rintro e w3c ⟨vc, rfl, hkc, hrc⟩
            obtain ⟨ao1, cap1, ev, _, _⟩ := hrc.shape
            subst ev
            have HRC := Lib.hid (And.intro hkc hrc)
            have hk3c := hk3.trans hkc
            clear hkc hrc
            go_wp2_with (first | (at_builtin; refine Halted.out ?_))
            refine Halted.mk (wp_appN elemRow rfl _ _ rfl (hk3c.alloc (.cells #[.slice ao1 ss.length cap1] 76)) rfl ((HR1.out.ext HRC.out.1).alloc _) rfl (CellsAt.one w3c (.slice ao1 ss.length cap1) 76) rfl (by simp; rfl) (by omega) (by unfold maxLen; omega) ?_)
            intro v2 w4 hr2 hk4 hk4' _
            have HR2 := Lib.hid (And.intro hr2 (And.intro hk4 hk4')); clear hr2 hk4'
            have e1 := hk4.cell c2 id
            go_wp2_with (first | (at_builtin; refine Halted.out ?_))
            refine Halted.mk (wp_appN elemRow rfl _ _ rfl hk4 rfl HR2.out.1 rfl (news := (rowVs ps).drop 0) (by rw [List.drop_of_length_le (by rw [rowVs_len, PS.out.2.2.2]; exact Nat.le_refl _)]; exact CellsAt.nil _ _) (by rw [List.length_drop, rowVs_len]; have := PS.out.2.2.2; omega) (fun u hu => rowVs_one ps u (List.mem_of_mem_drop hu)) (by omega) (by unfold maxLen; omega) ?_)
            intro v3 w5 hr3 hk5 hk5' _
            obtain ⟨ao3, n3, cap3, e3, _⟩ : ∃ ao n cap, v3 = .slice ao n cap ∧ True := by obtain ⟨ao, cap, e, _⟩ := hr3.shape; exact ⟨_, _, _, e, trivial⟩
            subst e3
            have g1 := hk5.cell c2 id
            have g2 := (HB.out.1.ext hk5).free 1
            have HR3 := Lib.hid (And.intro hr3 (And.intro hk5 hk5')); clear hr3 hk5'
            go_wp2
            go_ret2
            obtain ⟨hr3, hk5, hk5'⟩ := HR3.out
            obtain ⟨hr2, hk4, hk4'⟩ := HR2.out
            obtain ⟨hkc, hrc⟩ := HRC.out
            obtain ⟨hE, hcs, hall, hpn⟩ := PS.out
            obtain ⟨hx0, hst0, hnS0, hSw0⟩ := HX.out
            have hne : 9 ≠ 76 := by decide
            have q1 := (show Row w3c 9 1 (.slice ao1 ss.length cap1) ss.length (strs ss) (New w3) from hrc).alloc (.cells #[.slice ao1 ss.length cap1] 76)
            have q2 := q1.kp' hk4' fun g hg _ hf => q1.sort_ne ((HR1.out.ext hkc).alloc (.cells #[.slice ao1 ss.length cap1] 76)) hne hg hf
            have q3 := q2.kp' hk5' fun g hg _ hf => q2.sort_ne hr2 hne hg hf
            have q4 := Row.readsAs (x := (ao1, ss.length, cap1)) q3
            have eL : (ps.take 0 ++ ((ao1, ss.length, cap1), ss) :: ps.drop 0).map Prod.snd = rowsAddL n LL ss := by rw [E.out.2, hE]; simp
            have hlen : (ps.take 0 ++ (((ao1, ss.length, cap1), ss) : RowP) :: ps.drop 0).length = 0 + 1 := by rw [List.length_append, List.length_cons, List.length_take, List.length_drop]; omega
            have hfin := RefRows.store (S := S) (n := n) hk5 hcw hnS0 hSw0 (HB.out.1.ext hk5) (ps := ps.take 0 ++ ((ao1, ss.length, cap1), ss) :: ps.drop 0) (v := .slice ao3 n3 cap3)
              (hr3.cast' (by first | (rw [hlen]; omega) | rw [hlen]) (by rw [rowVs_append, rowVs_take, rowVs_drop]; simp [rowVs])) (fun p hp => by
                have hp' : p ∈ ps ∨ p = ((ao1, ss.length, cap1), ss) := by
                  rcases List.mem_append.1 hp with h | h
                  · exact .inl (List.mem_of_mem_take h)
                  · rcases List.mem_cons.1 h with h | h
                    · exact .inr h
                    · exact .inl (List.mem_of_mem_drop h)
                rcases hp' with hp' | rfl
                · obtain ⟨h1, h2, h3⟩ := hall p hp'
                  exact ⟨⟨h1.1, h1.2.ext hk5⟩, h2, fun a e => .inl (h3 a e)⟩
                · refine ⟨q4.1, hss, fun a e => .inr ?_⟩
                  have := q4.2 a e
                  have hz3 := hk3.size
                  exact ⟨Nat.le_trans hz3 this.1, this.2⟩) (by rw [hlen]; omega)
            rw [eL] at hfin
            refine RetF.mk (Kp.setCell (F := fun k => k = c) (Ext.kp hk5) (fun _ => rfl) _) ⟨by rw [E.out.1]; rfl, _, ⟨fun k h => .inl h, fun k h => h.imp id fun h => h.1⟩, hfin⟩
          · have hp1 : (b : Int) ≤ (cap : Int) := by omega
            have hp2 : (b : Int) ≤ (N : Int) := by omega
            by_cases hcm : cap = b
            all_goals
                go_wp2_with (first | (at_builtin; refine Halted.out ?_))
                refine Halted.mk (wp_appN elemRow rfl _ _ rfl hx2 rfl (Row.nil w2 76 1 (New w)) rfl ((PS.out.2.1.ext hx2).take' b) (by rw [List.length_take, rowVs_len, PS.out.2.2.2]; omega) (fun u hu => rowVs_one ps u (List.mem_of_mem_take hu)) (by omega) (by unfold maxLen; omega) ?_)
                intro v1 w3 hr1 hk3 _ _
                have HR1 := Lib.hid hr1; clear hr1
                go_wp2_with fail
                refine (HCP.out _ hk3).mono ?_
                rintro e w3c ⟨vc, rfl, hkc, hrc⟩
                obtain ⟨ao1, cap1, ev, _, _⟩ := hrc.shape
                subst ev
                have HRC := Lib.hid (And.intro hkc hrc)
                have hk3c := hk3.trans hkc
                clear hkc hrc
                go_wp2_with (first | (at_builtin; refine Halted.out ?_))
                refine Halted.mk (wp_appN elemRow rfl _ _ rfl (hk3c.alloc (.cells #[.slice ao1 ss.length cap1] 76)) rfl ((HR1.out.ext HRC.out.1).alloc _) rfl (CellsAt.one w3c (.slice ao1 ss.length cap1) 76) rfl (by simp; rfl) (by omega) (by unfold maxLen; omega) ?_)
                intro v2 w4 hr2 hk4 hk4' _
                have HR2 := Lib.hid (And.intro hr2 (And.intro hk4 hk4')); clear hr2 hk4'
                have e1 := hk4.cell c2 id
                go_wp2_with (first | (at_builtin; refine Halted.out ?_))
                refine Halted.mk (wp_appN elemRow rfl _ _ rfl hk4 rfl HR2.out.1 rfl (news := (rowVs ps).drop b) (by
                  first
                    | (have := (PS.out.2.1.ext hk4).sub' b; rwa [Nat.zero_add] at this)
                    | (rw [List.drop_of_length_le (by rw [rowVs_len, PS.out.2.2.2]; omega)]; exact CellsAt.nil _ _)) (by rw [List.length_drop, rowVs_len]; have := PS.out.2.2.2; omega) (fun u hu => rowVs_one ps u (List.mem_of_mem_drop hu)) (by omega) (by unfold maxLen; omega) ?_)
                intro v3 w5 hr3 hk5 hk5' _
                obtain ⟨ao3, n3, cap3, e3, _⟩ : ∃ ao n cap, v3 = .slice ao n cap ∧ True := by obtain ⟨ao, cap, e, _⟩ := hr3.shape; exact ⟨_, _, _, e, trivial⟩
                subst e3
                have g1 := hk5.cell c2 id
                have g2 := (HB.out.1.ext hk5).free 1
                have HR3 := Lib.hid (And.intro hr3 (And.intro hk5 hk5')); clear hr3 hk5'
                go_wp2
                go_ret2
                obtain ⟨hr3, hk5, hk5'⟩ := HR3.out
                obtain ⟨hr2, hk4, hk4'⟩ := HR2.out
                obtain ⟨hkc, hrc⟩ := HRC.out
                obtain ⟨hE, hcs, hall, hpn⟩ := PS.out
                obtain ⟨hx0, hst0, hnS0, hSw0⟩ := HX.out
                have hne : 9 ≠ 76 := by decide
                have q1 := (show Row w3c 9 1 (.slice ao1 ss.length cap1) ss.length (strs ss) (New w3) from hrc).alloc (.cells #[.slice ao1 ss.length cap1] 76)
                have q2 := q1.kp' hk4' fun g hg _ hf => q1.sort_ne ((HR1.out.ext hkc).alloc (.cells #[.slice ao1 ss.length cap1] 76)) hne hg hf
                have q3 := q2.kp' hk5' fun g hg _ hf => q2.sort_ne hr2 hne hg hf
                have q4 := Row.readsAs (x := (ao1, ss.length, cap1)) q3
                have eL : (ps.take b ++ ((ao1, ss.length, cap1), ss) :: ps.drop b).map Prod.snd = rowsAddL n LL ss := by rw [E.out.2, hE]; simp
                have hlen : (ps.take b ++ (((ao1, ss.length, cap1), ss) : RowP) :: ps.drop b).length = N + 1 := by rw [List.length_append, List.length_cons, List.length_take, List.length_drop]; omega
                have hfin := RefRows.store (S := S) (n := n) hk5 hcw hnS0 hSw0 (HB.out.1.ext hk5) (ps := ps.take b ++ ((ao1, ss.length, cap1), ss) :: ps.drop b) (v := .slice ao3 n3 cap3)
                  (hr3.cast' (by first | (rw [hlen]; omega) | rw [hlen]) (by rw [rowVs_append, rowVs_take, rowVs_drop]; simp [rowVs])) (fun p hp => by
                    have hp' : p ∈ ps ∨ p = ((ao1, ss.length, cap1), ss) := by
                      rcases List.mem_append.1 hp with h | h
                      · exact .inl (List.mem_of_mem_take h)
                      · rcases List.mem_cons.1 h with h | h
                        · exact .inr h
                        · exact .inl (List.mem_of_mem_drop h)
                    rcases hp' with hp' | rfl
                    · obtain ⟨h1, h2, h3⟩ := hall p hp'
                      exact ⟨⟨h1.1, h1.2.ext hk5⟩, h2, fun a e => .inl (h3 a e)⟩
                    · refine ⟨q4.1, hss, fun a e => .inr ?_⟩
                      have := q4.2 a e
                      have hz3 := hk3.size
                      exact ⟨Nat.le_trans hz3 this.1, this.2⟩) (by rw [hlen]; omega)
                rw [eL] at hfin
                refine RetF.mk (Kp.setCell (F := fun k => k = c) (Ext.kp hk5) (fun _ => rfl) _) ⟨by rw [E.out.1]; rfl, _, ⟨fun k h => .inl h, fun k h => h.imp id fun h => h.1⟩, hfin⟩
  · have q1 : ((m : Int) != (n : Int)) = true := by simp; omega
    have e0 : rowsAddR n LL ss = (false, 30) := by unfold rowsAddR; rw [if_pos (by omega)]
    have E := Lib.hid e0; clear e0 hm hss hl1 f1 f2
    go_enter Tryz.func101, Tryz.ntmps101
    go_wp2
    go_ret2
    exact RetF.mk (Kp.refl _) (RefAdded.same HH.out (Kp.refl _) (by rw [E.out]; rfl) (by unfold rowsAddL; rw [E.out]; rfl))

end
end Go.Proofs.YtomeebimmmfmbaaGreat

/- The append of a row to own rows, as a run; a builtin whose run is known as a step of a drawn region. -/
namespace Go.Proofs.YtomeebimmmfmbaaGreat
open Go.RowKit
set_option linter.unusedVariables false

section
variable {S S1 S2 S' : Nat → Prop} {w w' : World} {c c1 c2 n n1 n2 : Nat} {LL L1 L2 : List (List ByteArray)} {v : Value} {lo : Nat}
end
end Go.Proofs.YtomeebimmmfmbaaGreat

/- A range over rows of one's own that writes them over and keeps copies; rows written over. No program in sight. -/
namespace Go.Proofs.YtomeebimmmfmbaaGreat
open Go.RowKit Go.Shelf
set_option linter.unusedVariables false

/-- A row's value. -/
abbrev rowOf (p : RowP) : Value := .slice p.1.1 p.1.2.1 p.1.2.2
section
variable {W W' : World}
theorem CellsAt.sameOn {SB : Nat → Prop} {ao : Option Addr} {vs : List Value} (h : CellsAt W ao vs) (hs : SameOn SB W W') (ha : ∀ a, ao = some a → SB a.block) : CellsAt W' ao vs := fun i u hu => by
  obtain ⟨b, o, e, c⟩ := h i u hu
  exact ⟨b, o, e, (hs.cell (ha _ e)).trans c⟩
end
end Go.Proofs.YtomeebimmmfmbaaGreat

/- cost.Gather: what is known while a relation's rows go by. -/
namespace Go.Proofs.YtomeebimmmfmbaaGreat
open Go.RowKit Go.Shelf
set_option linter.unusedVariables false

theorem run_len_map {P : Program} {w : World} {r : Nat} {m : List (ByteArray × Value)} {t k e : TypeId} (ht : P.underlying t = some (.map k e)) (h : MapIs w r m) (ty : TypeId) : (Builtin.len_ #[t] ty #[.map (some r)]).run P w = .ok (.int .i64 m.length) w := by
  obtain ⟨es, c, h1, h2, _⟩ := h
  have e1 : es.size = m.length := by have := congrArg List.length h2; simpa using this
  simp [Builtin.len_, run_underlying ht, MapKept.run_getObj_map h1, goInt, Result.andThen, e1]
theorem nubTo_app (l m : List ByteArray) : ∀ k, k ≤ l.length → nubTo (l ++ m) k = nubTo l k
  | 0, _ => rfl
  | k + 1, h => by
    have ih := nubTo_app l m k (by omega)
    show (match (l ++ m)[k]? with | none => nubTo (l ++ m) k | some s => if hasT (nubTo (l ++ m) k) s = true then nubTo (l ++ m) k else nubTo (l ++ m) k ++ [s]) = (match l[k]? with | none => nubTo l k | some s => if hasT (nubTo l k) s = true then nubTo l k else nubTo l k ++ [s])
    rw [List.getElem?_append_left (by omega), ih]
theorem colN_app (A B : List (List ByteArray)) (c : Nat) : colN (A ++ B) c = colN A c ++ colN B c := by unfold colN; rw [List.map_append]
theorem setM_len (l : List ByteArray) : (setM l).length = l.length := by unfold setM; rw [List.length_map]
theorem MapIs.grown {W W' : World} {r : Nat} {m : List (ByteArray × Value)} {row : Option Nat} (h : MapIs W r m) (hg : W.grownBy W' row) (hr : row ≠ some r) : MapIs W' r m := by
  obtain ⟨es, c, h1, h2⟩ := h
  exact ⟨es, c, (hg.block r (lt_of_block h1) (fun e => hr e.symm)).trans h1, h2⟩
theorem KeepsFrom.of_kp {F : Nat → Prop} {B : Nat} {W W' : World} (h : Kp F W W') (hF : ∀ k, F k → k < B) : KeepsFrom B W W' :=
  ⟨h.size, fun k o hB hk _ => (h.block k (lt_of_block hk) fun f => by have := hF k f; omega).trans hk⟩

def rowsOfP {ps : List RowP} (pre : List { p : RowP // p ∈ ps }) : List (List ByteArray) := pre.map fun x => x.1.2
theorem rowsOfP_len {ps : List RowP} (pre : List { p : RowP // p ∈ ps }) : (rowsOfP pre).length = pre.length := by unfold rowsOfP; rw [List.length_map]
/-- The rows that went by are in the maps, column by column. -/
def GotG (w0 : World) (rs : List Nat) (ps : List RowP) (pre : List { p : RowP // p ∈ ps }) (W : World) : Prop :=
  pre.length ≤ ps.length ∧ Kp (fun g => g ∈ rs) w0 W ∧ ∀ (c r : Nat), rs[c]? = some r → MapIs W r (setM (nubTo (colN (rowsOfP pre) c) pre.length))
theorem GotG.own {w0 : World} {rs : List Nat} {ps : List RowP} {B : Nat} (hB : w0.heap.size ≤ B) (hrs : ∀ r ∈ rs, r < w0.heap.size) : OwnFrom B (GotG w0 rs ps) := fun pre W W' row hs hg hr =>
  ⟨hs.1, hs.2.1.grown hg (fun k e hk => by have := (hr k e).1; omega), fun c r h => (hs.2.2 c r h).grown hg (fun e => by have h1 := (hr r e).1; have h2 := hrs r (List.mem_of_getElem? h); omega)⟩
/-- A row goes into the maps. -/
def ColsG (X : World) (rs : List Nat) (A : List (List ByteArray)) (ss : List ByteArray) (n : Nat) (kv : Value) (W : World) : Prop :=
  ∃ c : Nat, c ≤ n ∧ kv = .int .i64 c ∧ Hid (Kp (fun g => g ∈ rs) X W) ∧ Hid (∀ (c' r : Nat), rs[c']? = some r → MapIs W r (setM (nubTo (colN (A ++ [ss]) c') (if c' < c then A.length + 1 else A.length))))
theorem GotG.cols {w0 X : World} {rs : List Nat} {ps : List RowP} {pre : List { p : RowP // p ∈ ps }} (h : GotG w0 rs ps pre X) (ss : List ByteArray) (n : Nat) : ColsG X rs (rowsOfP pre) ss n (.int .i64 (0 : Int)) X :=
  ⟨0, Nat.zero_le _, rfl, Lib.hid (Kp.refl _), Lib.hid fun c' r hr => by
    rw [if_neg (Nat.not_lt_zero _), colN_app, nubTo_app _ _ _ (by rw [colN_len]; exact Nat.le_refl _), rowsOfP_len]
    exact h.2.2 c' r hr⟩
theorem GotG.next {w0 X W : World} {rs : List Nat} {ps : List RowP} {pre : List { p : RowP // p ∈ ps }} (h : GotG w0 rs ps pre X) (x : { p : RowP // p ∈ ps }) (hl : pre.length < ps.length) (hk : Kp (fun g => g ∈ rs) X W)
    (hm : ∀ (c' r : Nat), rs[c']? = some r → MapIs W r (setM (nubTo (colN (rowsOfP pre ++ [x.1.2]) c') (if c' < rs.length then (rowsOfP pre).length + 1 else (rowsOfP pre).length)))) : GotG w0 rs ps (pre ++ [x]) W := by
  refine ⟨by rw [List.length_append, List.length_singleton]; omega, h.2.1.trans hk, fun c r hr => ?_⟩
  have h1 := hm c r hr
  rw [if_pos (List.getElem?_eq_some_iff.1 hr).1, rowsOfP_len] at h1
  rw [List.length_append, List.length_singleton]
  have e : rowsOfP (pre ++ [x]) = rowsOfP pre ++ [x.1.2] := by unfold rowsOfP; rw [List.map_append]; rfl
  rw [e]; exact h1
/-- A text goes into its column's map. -/
theorem cols_step {X W W' : World} {rs : List Nat} {A : List (List ByteArray)} {ss : List ByteArray} {c r : Nat} {s : ByteArray} (hn : rs.Nodup) (hr : rs[c]? = some r) (hs : ss[c]? = some s) (hX : Kp (fun g => g ∈ rs) X W)
    (hm : ∀ (c' r : Nat), rs[c']? = some r → MapIs W r (setM (nubTo (colN (A ++ [ss]) c') (if c' < c then A.length + 1 else A.length)))) (hW : MapIs W' r (putM (setM (nubTo (colN (A ++ [ss]) c) A.length)) s (.bool true))) (hk : Kp (fun k => k = r) W W') :
    Kp (fun g => g ∈ rs) X W' ∧ ∀ (c' r' : Nat), rs[c']? = some r' → MapIs W' r' (setM (nubTo (colN (A ++ [ss]) c') (if c' < c + 1 then A.length + 1 else A.length))) := by
  have hcol : (colN (A ++ [ss]) c)[A.length]? = some s := colN_get (r := ss) (by rw [List.getElem?_append_right (Nat.le_refl _), Nat.sub_self]; rfl) hs
  refine ⟨hX.trans (hk.mono fun g _ e => by rw [e]; exact List.mem_of_getElem? hr), fun c' r' hr' => ?_⟩
  by_cases e : c' = c
  · subst e
    rw [hr] at hr'
    injection hr' with hr'
    subst hr'
    rw [if_pos (by omega)]
    rw [putM_nub hcol] at hW
    exact hW
  · have hne : r' ≠ r := fun e2 => by
      subst e2
      obtain ⟨i1, q1⟩ := List.getElem?_eq_some_iff.1 hr'
      obtain ⟨i2, q2⟩ := List.getElem?_eq_some_iff.1 hr
      exact e ((List.getElem_inj hn).1 (q1.trans q2.symm))
    have h1 := (hm c' r' hr').kp hk hne
    by_cases hlt : c' < c
    · rw [if_pos hlt] at h1
      rw [if_pos (by omega)]; exact h1
    · rw [if_neg hlt] at h1
      rw [if_neg (by omega)]; exact h1
end Go.Proofs.YtomeebimmmfmbaaGreat

/- cost.Gather: a round of its loop over names. -/
namespace Go.Proofs.YtomeebimmmfmbaaGreat
open Go.RowKit Go.Shelf
set_option linter.unusedVariables false
theorem run_store_map (P : Program) (w : World) (a : Addr) (m : Mode) (r : Option Nat) : (store a (.map r) m).run P w = stored P w a (.map r) m := run_store P w a _ m rfl
attribute [local go_sem] Oper.semAt_some run_store_float run_store_map

def firstLoopG : Code → Option Code
  | .loop c => some c
  | .seq a b => match firstLoopG a with
    | some c => some c
    | none => firstLoopG b
  | .block _ c => firstLoopG c
  | .scope c => firstLoopG c
  | .cond _ a b => match firstLoopG a with
    | some c => some c
    | none => firstLoopG b
  | _ => none
noncomputable def gathBody : Code := ((Tryz.f8.body.bind firstLoopG).getD .skip)
theorem list_litG (l : List Value) : ∀ n, l.length = n → l = (List.range n).map fun i => l.getD i undef := fun n h => by
  subst h
  refine List.ext_getElem (by simp) fun i h1 h2 => ?_
  simp [List.getElem_map, List.getD_eq_getElem?_getD, h1]
set_option maxRecDepth 100000 in
theorem lit88 (t : Array Value) (h : t.size = 88) : ∃ u : Nat → Value, t = #[u 0, u 1, u 2, u 3, u 4, u 5, u 6, u 7, u 8, u 9, u 10, u 11, u 12, u 13, u 14, u 15, u 16, u 17, u 18, u 19, u 20, u 21, u 22, u 23, u 24, u 25, u 26, u 27, u 28, u 29, u 30, u 31, u 32, u 33, u 34, u 35, u 36, u 37, u 38, u 39, u 40, u 41, u 42, u 43, u 44, u 45, u 46, u 47, u 48, u 49, u 50, u 51, u 52, u 53, u 54, u 55, u 56, u 57, u 58, u 59, u 60, u 61, u 62, u 63, u 64, u 65, u 66, u 67, u 68, u 69, u 70, u 71, u 72, u 73, u 74, u 75, u 76, u 77, u 78, u 79, u 80, u 81, u 82, u 83, u 84, u 85, u 86, u 87] := by
  refine ⟨fun i => t.toList.getD i undef, ?_⟩
  apply Array.ext'
  have := list_litG t.toList 88 (by simpa using h)
  exact this
theorem elem_statG : ElemT Tryz.prog 39 48 3 48 (.agg #[.string ⟨#[]⟩, .float .f64 0, .slice none 0 0]) := ⟨by kernel_rfl, by kernel_rfl, rfl, by decide⟩
theorem typ_fg : 45 ≠ 48 := by decide
/-- Counts in a list of one's own, each with a list of its own. -/
def OutAt (S : List StatZ) (w1 : World) (i : Nat) (ov : Value) (W : World) : Prop := ∃ vs, vs.length = i ∧ Row W 48 3 ov i (((S.take i).zip vs).flatMap statC) (New w1) ∧ ∀ x ∈ (S.take i).zip vs, DistAt w1 W x
/-- Between two rounds. -/
def GathTo (bb : Nat) (S : List StatZ) (w1 : World) (n : Nat) (na : Option Addr) (ncap : Nat) (i : Nat) (u0 u4 u20 u21 u22 : Value) (ds : List Deferred) (W : World) : Prop :=
  i ≤ n ∧ u0 = .pointer (some ⟨bb, 0, none⟩) ∧ u20 = .slice na n ncap ∧ u21 = .int .i64 (n : Int) ∧ u22 = .int .i64 (i : Int) ∧ Hid (OutAt S w1 i u4 W) ∧ Hid (Ext w1 W) ∧ Hid (Marks w1.heap.size W ds)
def GathInv (bb : Nat) (S : List StatZ) (w1 : World) (n : Nat) (na : Option Addr) (ncap : Nat) (a' : Act) (w' : World) : Prop :=
  ∃ i : Nat, a'.tmps.size = 88 ∧ GathTo bb S w1 n na ncap i (a'.tmps.getD 0 undef) (a'.tmps.getD 4 undef) (a'.tmps.getD 20 undef) (a'.tmps.getD 21 undef) (a'.tmps.getD 22 undef) a'.defers w'
def gathMu (n : Nat) (a' : Act) (w' : World) : Nat := n - (intOf (a'.tmps.getD 22 undef)).toNat
def gathQ (bb : Nat) (S : List StatZ) (w1 : World) (n : Nat) (na : Option Addr) (ncap : Nat) (e : Exit) (a' : Act) (w' : World) : Prop := match e with
  | .exit k => k = 0 ∧ a'.tmps.size = 88 ∧ GathTo bb S w1 n na ncap n (a'.tmps.getD 0 undef) (a'.tmps.getD 4 undef) (a'.tmps.getD 20 undef) (a'.tmps.getD 21 undef) (a'.tmps.getD 22 undef) a'.defers w'
  | _ => False
theorem blk_madeG (w : World) (z : Value) (n : Nat) (e : TypeId) : Blk (w.alloc (.cells (madeCells #[z] n) e)) w.heap.size (List.replicate n z) e := by
  have h := Blk.new w (List.replicate n z) e
  have e1 : madeCells #[z] n = (List.replicate n z).toArray := by
    apply Array.toList_inj.1; rw [toList_madeCells_one]
  rw [e1]; exact h
/-- A list of counts that grows in a new record. -/
def DistG (ds : List Nat) (p : ByteArray) (r : Nat) (gx : Nat) (w0 : World) (m : Nat) (kv : Value) (w : World) : Prop := ∃ k : Nat, k ≤ m ∧ kv = .int .i64 k ∧ Hid (∃ dv, Blk w gx [.string p, .float .f64 r, dv] 48 ∧ Row w 45 1 dv k (flts (ds.take k)) (New w0)) ∧ Hid (Ext w0 w)
/-- A map a column, made so far. -/
def MapsTo (w0 : World) (gm gb ar : Nat) (kv : Value) (W : World) : Prop := ∃ c : Nat, c ≤ ar ∧ kv = .int .i64 c ∧ Hid (Ext w0 W) ∧ Hid (Blk W gb [.slice (some ⟨gm, 0, none⟩) ar ar] 80) ∧
  Hid (∃ rs : List Nat, rs.length = c ∧ rs.Nodup ∧ (∀ r ∈ rs, w0.heap.size ≤ r ∧ MapIs W r []) ∧ Blk W gm (rs.map (fun r => Value.map (some r)) ++ List.replicate (ar - c) (.map none)) 81)

section
variable {S0 : Nat → Prop} {w w1 : World} {bb r0 : Nat} {E : List Ent} {n : Nat} {na : Option Addr} {ncap : Nat}
set_option maxRecDepth 100000 in
set_option maxHeartbeats 8000000 in
theorem gath_round (h : BaseAt S0 w bb r0 E) (hn : n = (namesC (cntE E)).length) (hn8 : n ≤ 1048576) (hx1 : Ext w w1) (hcs : CellsAt w1 na (strs (namesC (cntE E)))) (a : Act) (W : World) (hI : GathInv bb ((relsC (cntE E)).map gatS) w1 n na ncap a W) :
    Code.wp Tryz.prog gathBody (Exit.then (fun a' w' => GathInv bb ((relsC (cntE E)).map gatS) w1 n na ncap a' w' ∧ gathMu n a' w' < gathMu n a W) (gathQ bb ((relsC (cntE E)).map gatS) w1 n na ncap)) a W := by
  have HV := Lib.hid (fun W (hW : Ext w W) => (BaseV.full bb r0 E h).ext hW)
  have HOk := Lib.hid h.ok
  have HN := Lib.hid (And.intro hn hn8)
  have HW1 := Lib.hid (And.intro hx1 hcs)
  clear h hn hn8 hx1 hcs
  obtain ⟨i, hsz, hrel⟩ := hI
  obtain ⟨tm, ds⟩ := a
  obtain ⟨u, rfl⟩ := lit88 tm hsz
  obtain ⟨hi, e0, e20, e21, e22, hout, hex, hmk⟩ := hrel
  replace e0 : u 0 = _ := e0
  replace e20 : u 20 = _ := e20
  replace e21 : u 21 = _ := e21
  replace e22 : u 22 = _ := e22
  replace hout : Hid (OutAt ((relsC (cntE E)).map gatS) w1 i (u 4) W) := hout
  rw [e0, e20, e21, e22]
  clear e0 e20 e21 e22 hsz
  obtain ⟨ov, eov⟩ : ∃ ov, u 4 = ov := ⟨_, rfl⟩
  rw [eov] at hout ⊢
  clear eov
  conv => arg 2; whnf
  by_cases hlt : i < n
  · obtain ⟨s, hs⟩ : ∃ s, (namesC (cntE E))[i]? = some s := ⟨_, List.getElem?_eq_getElem (by rw [← HN.out.1]; exact hlt)⟩
    obtain ⟨ab, ao, ena, hcx⟩ := HW1.out.2 i (.string s) (by simp [strs, hs])
    subst ena
    have hcW := hex.out.cell hcx id
    have hxW := HW1.out.1.trans hex.out
    have hmem : s ∈ namesC (cntE E) := List.mem_of_getElem? hs
    obtain ⟨f, hf⟩ : ∃ f, findE E s = some f := by
      have h1 := (names_perm (cntE E)).mem_iff.1 hmem
      obtain ⟨p, hp, e⟩ := List.mem_map.1 h1
      have h2 := (getC_mem HOk.out.nodup).2 (show (s, p.2) ∈ cntE E by rw [← e]; exact hp)
      rw [cntE_get] at h2
      cases hfe : findE E s with
      | none => rw [hfe] at h2; cases h2
      | some f => exact ⟨f, rfl⟩
    have hok := HOk.out.all (f.name, (f.ar, f.LL)) (List.mem_map.2 ⟨f, (findE_some hf).1, rfl⟩)
    obtain ⟨ar, ear⟩ : ∃ ar, f.ar = ar := ⟨_, rfl⟩
    obtain ⟨LL, eLL⟩ : ∃ LL, f.LL = LL := ⟨_, rfl⟩
    have har : ar ≤ 64 := by rw [← ear]; exact hok.ar
    have hfew : LL.length ≤ 65536 := by rw [← eLL]; exact hok.few
    have hlen : ∀ r ∈ LL, r.length = ar := by rw [← eLL, ← ear]; exact hok.len
    have hS : ((relsC (cntE E)).map gatS)[i]? = some (gatS (s, (ar : Int), LL, ())) := by
      unfold relsC
      rw [List.getElem?_map, List.getElem?_map, hs]
      show some (gatS (s, (arC (cntE E) s : Int), rowsC (cntE E) s, ())) = _
      unfold arC rowsC
      rw [cntE_get, hf]
      show some (gatS (s, (f.ar : Int), f.LL, ())) = _
      rw [ear, eLL]
    have hsl : ((relsC (cntE E)).map gatS).length = n := by rw [List.length_map]; unfold relsC; rw [List.length_map]; exact HN.out.1.symm
    obtain ⟨S, eS⟩ : ∃ S, (relsC (cntE E)).map gatS = S := ⟨_, rfl⟩
    rw [eS] at hS hsl hout ⊢
    have HS := Lib.hid (And.intro hS hsl)
    have HL := Lib.hid (And.intro hfew hlen)
    have HE := Lib.hid (And.intro hex.out (And.intro hmk.out hxW))
    have HO := Lib.hid hout
    have hba := baseArity_any (HV.out W hxW) s
    rw [hf] at hba
    have hba' : Calls Tryz.prog 26 #[.pointer (some ⟨bb, 0, none⟩), .string s] W (Ret (.tuple #[.int .i64 (ar : Nat), .bool true]) W) := by rw [← ear]; exact hba
    have HEach := Lib.hid (show ∀ W', Ext w W' → Calls Tryz.prog 27 #[.pointer (some ⟨bb, 0, none⟩), .string s] W' (RetN W' fun w' v => EachRows W'.heap.size w' v LL) from fun W' hW => by
      have := baseEach_any (HV.out W' hW) s
      rw [hf] at this
      rw [← eLL]; exact this)
    have HSize := Lib.hid (show ∀ W', Ext w W' → Calls Tryz.prog 28 #[.pointer (some ⟨bb, 0, none⟩), .string s] W' (RetN W' fun w' v => v = .int .i64 (LL.length : Nat)) from fun W' hW => by
      have := baseSize_any (HV.out W' hW) s
      rw [hf] at this
      rw [← eLL]; exact this)
    clear hS hsl hfew hlen hout hok hf hmem hs hcx hex hmk hxW ear eLL eS hba f
    have HCW := Lib.hid hcW
    go_wp2_with fail
    refine hba'.mono ?_
    rintro e W2 ⟨rfl, rfl⟩
    clear hba' hcW
    have hmk := run_make_row' (P := Tryz.prog) 80 81 (.map none) 8 Tryz.underlying80 (by kernel_rfl) rfl .i64 .i64 ar (by omega) (by omega)
    have har64 := har
    go_wp2_with fail
    clear hmk
    obtain ⟨gm, egm⟩ : ∃ gm, W.heap.size = gm := ⟨_, rfl⟩
    obtain ⟨W3, eW3⟩ : ∃ W3, (W.alloc (.cells (madeCells #[.map none] ar) 81)).alloc (.cells #[.slice (some ⟨W.heap.size, 0, none⟩) ar ar] 80) = W3 := ⟨_, rfl⟩
    have hBm : Blk W3 gm (List.replicate ar (.map none)) 81 := by rw [← eW3, ← egm]; exact (blk_madeG W _ _ _).alloc _
    have hBb : Blk W3 (gm + 1) [.slice (some ⟨gm, 0, none⟩) ar ar] 80 := by
      rw [← eW3, ← egm]
      have := Blk.new (W.alloc (.cells (madeCells #[.map none] ar) 81)) [.slice (some ⟨W.heap.size, 0, none⟩) ar ar] 80
      rw [alloc_size] at this
      exact this
    have hx3 : Ext W W3 := by rw [← eW3]; exact ((Kp.refl W).alloc _).alloc _
    rw [eW3, egm]
    obtain ⟨gb, egb⟩ : ∃ gb, gm + 1 = gb := ⟨_, rfl⟩
    rw [egb] at hBb ⊢
    have HGM := Lib.hid (And.intro egm egb)
    have H3 := Lib.hid (And.intro hBm (And.intro hBb hx3))
    have hmm := @run_makeMap Tryz.prog
    clear eW3 egm egb hBm hBb hx3
    go_loopw [36] (MapsTo W gm gb ar) (fun kv _ => ar - (intOf kv).toNat)
    case atStart => exact ⟨0, Nat.zero_le _, rfl, Lib.hid H3.out.2.2, Lib.hid H3.out.2.1, Lib.hid ⟨[], rfl, List.nodup_nil, fun r hr => by simp at hr, by simpa using H3.out.1⟩⟩
    case round =>
      obtain ⟨c, hc, rfl, hexc, hbb, hrs⟩ := hrel
      generalize hw5 : wr = W4 at *; clear hw5
      have c1 : W4.cell? ⟨gb, 0, none⟩ = some (.slice (some ⟨gm, 0, none⟩) ar ar) := by rw [hbb.out.cell']; rfl
      by_cases hltc : c < ar
      · obtain ⟨rs, hrl, hrn, hrm, hbm⟩ := hrs.out
        have hbm5 := hbm.alloc (.map #[] 0)
        have c2 : (W4.alloc (.map #[] 0)).cell? ⟨gm, c, none⟩ = some (.map none) := by
          rw [hbm5.cell', List.getElem?_append_right (by simp [hrl]), List.length_map, hrl, Nat.sub_self, List.getElem?_replicate, if_pos (by omega)]
        have z2 := hbm5.free c
        have HM := Lib.hid (And.intro hrl (And.intro hrn (And.intro hrm hbm)))
        clear hrs hrl hrn hrm hbm hbm5
        have HFin := Lib.hid (show MapsTo W gm gb ar (.int .i64 ((c : Int) + 1)) ((W4.alloc (.map #[] 0)).setCell ⟨gm, c, none⟩ (.map (some W4.heap.size))) from by
          obtain ⟨hrl, hrn, hrm, hbm⟩ := HM.out
          have e1 := HGM.out.1
          have e2 := HGM.out.2
          have hk : Kp (fun k => k = gm) W4 ((W4.alloc (.map #[] 0)).setCell ⟨gm, c, none⟩ (.map (some W4.heap.size))) := Kp.setCell (F := fun k => k = gm) ((Kp.refl W4).alloc _) (fun _ => rfl) _
          have hne : ∀ r ∈ rs, r ≠ gm := fun r hr e => by subst e; exact blk_map hbm (hrm r hr).2
          have hgml := hbm.lt
          refine ⟨c + 1, by omega, by first | rfl | (congr 1; done) | (congr 1; omega), Lib.hid (hexc.out.trans' hk fun k hk e => by omega), Lib.hid (hbb.out.kp hk (by omega)), Lib.hid ⟨rs ++ [W4.heap.size], by simp [hrl], ?_, fun r hr => ?_, ?_⟩⟩
          · refine List.nodup_append.2 ⟨hrn, by simp, fun x hx y hy e => ?_⟩
            simp at hy
            subst e
            have := (hrm x hx).2.lt
            omega
          · rcases List.mem_append.1 hr with hr | hr
            · exact ⟨(hrm r hr).1, (hrm r hr).2.kp hk (hne r hr)⟩
            · simp at hr
              subst hr
              exact ⟨hexc.out.size, (MapIs.new W4).kp (Kp.setCell (F := fun k => k = gm) (Kp.refl _) (fun _ => rfl) _) (by omega)⟩
          · have h5 := (hbm.alloc (.map #[] 0)).set c (.map (some W4.heap.size))
            have e5 : (rs.map (fun r => Value.map (some r)) ++ List.replicate (ar - c) (Value.map none)).set c (.map (some W4.heap.size)) = (rs ++ [W4.heap.size]).map (fun r => Value.map (some r)) ++ List.replicate (ar - (c + 1)) (.map none) := by
              rw [List.set_append_right _ _ (by simp [hrl]), List.length_map, hrl, Nat.sub_self, show ar - c = (ar - (c + 1)) + 1 from by omega, List.replicate_succ, List.set_cons_zero, List.map_append, List.append_assoc]
              rfl
            rw [e5] at h5
            exact h5)
        go_wp2
        go_roundw
        case rel => exact HFin.out
        case measure => simp [intOf]; omega
      · have ec : ar = c := by omega
        subst ec
        obtain ⟨rs, hrl, hrn, hrm, hbm⟩ := hrs.out
        rw [Nat.sub_self, List.replicate_zero, List.append_nil] at hbm
        have hxw4 := HE.out.2.2.trans hexc.out
        have HM := Lib.hid (And.intro hrl (And.intro hrn (And.intro hrm (And.intro hbm hbb.out))))
        have HX4 := Lib.hid (And.intro hxw4 (And.intro hexc.out (HE.out.1.trans hexc.out)))
        clear hrs hrl hrn hrm hbm hxw4 hexc hbb c1
        go_wp2_with fail
        refine (HEach.out W4 HX4.out.1).mono ?_
        rintro e W5 ⟨ve, rfl, hk5, Bs, ivx, rfl, hBs, hBB, hownx, hln⟩
        obtain ⟨ln, eln⟩ : ∃ ln, LL.length = ln := ⟨_, rfl⟩
        obtain ⟨aox, capx, ev, _⟩ := hownx.shape
        rw [eln] at ev
        subst ev
        obtain ⟨ps2, hL2, x2, x3, x4⟩ := hownx
        have hp2 : ps2.length = ln := by rw [← eln, hL2]; simp
        rw [hp2] at x2
        have hBsw := hBB.lt
        obtain ⟨SB, eSB⟩ : ∃ SB : Nat → Prop, SB = fun g => g = Bs ∨ (Value.slice aox ln capx).ownBlock = some g := ⟨_, rfl⟩
        have hSlt : ∀ g, SB g → g < W5.heap.size := fun g hg => by
          rw [eSB] at hg
          rcases hg with rfl | hg
          · exact hBsw
          · exact x2.lt g hg
        have hmaps : ∀ r ∈ rs, r < W5.heap.size ∧ MapIs W5 r [] := fun r hr => ⟨Nat.lt_of_lt_of_le ((HM.out.2.2.1 r hr).2.lt) hk5.size, (HM.out.2.2.1 r hr).2.ext hk5⟩
        have hSrs : ∀ g, SB g → g ∉ rs := fun g hg hr => by
          rw [eSB] at hg
          rcases hg with rfl | hg
          · exact blk_map hBB (hmaps _ hr).2
          · obtain ⟨cs, hb⟩ := x2.blkOf hg
            exact blk_map hb (hmaps _ hr).2
        have hseq : ∀ Wb, SameOn SB W5 Wb → SeqStopsK Fence.wide 3 Tryz.prog 135 #[.pointer (some ⟨Bs, 0, none⟩)] (fun x : { p : RowP // p ∈ ps2 } => #[.slice x.1.1.1 x.1.1.2.1 x.1.1.2.2]) (SameOn SB) (fun ys => ys = ps2.attach) (fun pre => pre <+: ps2.attach) ps2.attach.length Wb := fun Wb hWb => by
          have hSBs : SB Bs := by rw [eSB]; exact .inl rfl
          have hSBa : ∀ a, aox = some a → SB a.block := fun a e => by rw [eSB]; subst e; exact .inr rfl
          have hc0 : W5.cell? ⟨Bs, 0, none⟩ = some (.slice aox ln capx) := by rw [hBB.cell']; rfl
          have hc1 := (hWb.cell (o := 0) hSBs).trans hc0
          have hcs : CellsAt W5 aox (ps2.attach.map fun x => rowOf x.1) := by
            obtain ⟨ao, cap, e, hc, _⟩ := x2.shape
            simp only [Value.slice.injEq] at e
            obtain ⟨rfl, _, _⟩ := e
            have e : (ps2.attach.map fun x : { p : RowP // p ∈ ps2 } => rowOf x.1) = rowVs ps2 := by
              have h : (ps2.attach.map fun x : { p : RowP // p ∈ ps2 } => rowOf x.1) = (ps2.attach.map Subtype.val).map rowOf := by rw [List.map_map]; rfl
              rw [h, List.attach_map_subtype_val]; rfl
            rw [e]; exact hc
          have hcs1 := hcs.sameOn hWb hSBa
          have hln' : ln ≤ 1048576 * 1048576 := by rw [← eln]; exact hln
          exact fun l J Jx W hW _ _ hY h0 => values1VRow_in (fun x : { p : RowP // p ∈ ps2 } => .slice x.1.1.1 x.1.1.2.1 x.1.1.2.2) Fence.wide 3 trivial rfl (by omega) SB l Bs aox ln capx ps2.attach (by rw [List.length_attach]; exact hp2.symm) hln' J Jx hY W hSBs hSBa ((Kp.of_below hW).cell hc1 id) (hcs1.ext (Kp.of_below hW)) h0
        have HQ := Lib.hid hseq
        have HX := Lib.hid (And.intro x3 (And.intro hSlt (And.intro hSrs (And.intro hmaps (And.intro hL2 (And.intro hp2 eln))))))
        have H5 := Lib.hid hk5
        clear hseq x2 x3 x4 hSlt hSrs hmaps hL2 hp2 eSB hBB hk5 hln hBsw hBs eln
        go_wp2_with fail
        refine' wpIn_wide.1 (wpIn_rangeFunc_ownG (F := Fence.wide) (n := 4) (w0 := W5) rfl (by omega) (gf := 135) (lb := #[.pointer (some ⟨Bs, 0, none⟩)]) rfl trivial (enters_of Tryz.func135 (by kernel_rfl) rfl)
          (HQ.out W5 (SameOn.refl _ _)) SameOn.trans (SameOn.put HX.out.2.1) (Below.refl _ _) (fun _ => rfl) (GotG W5 rs ps2) (fun _ _ _ => False) (GotG.own (Nat.le_refl _) (fun r hr => (HX.out.2.2.2.1 r hr).1)) (fun _ _ _ _ _ h _ _ => h)
          ⟨Nat.zero_le _, Kp.refl _, fun c r hr => (HX.out.2.2.2.1 r (List.mem_of_getElem? hr)).2⟩ _ ?assign ?body ?done ?stop)
        case assign =>
          intro l x W K hK
          gi_wp2
          exact hK
        case stop =>
          rintro D c pre W _ _ h _
          exact h.elim
        case body =>
          rintro l pre ⟨⟨⟨ax, mx, cx⟩, sp⟩, hp⟩ X hgot hlen
          rw [List.length_attach] at hlen
          have hrow0 := (HX.out.1 _ hp).1
          have hmx : mx = sp.length := (Row.readsAs hrow0).1.1
          have hspl : sp.length = ar := HL.out.2 sp (by rw [HX.out.2.2.2.2.1]; exact List.mem_map.2 ⟨_, hp, rfl⟩)
          subst hmx
          have hbX := (HM.out.2.2.2.2.ext H5.out).kp hgot.2.1 fun hr => blk_map (HM.out.2.2.2.2.ext H5.out) (HX.out.2.2.2.1 _ hr).2
          have hmX := (HM.out.2.2.2.1.ext H5.out).kp hgot.2.1 fun hr => blk_map (HM.out.2.2.2.1.ext H5.out) (HX.out.2.2.2.1 _ hr).2
          have hrX := Row.kp' hrow0 hgot.2.1 fun g hg _ hr => by
            obtain ⟨cs, hb⟩ := hrow0.blkOf hg
            exact blk_map hb (HX.out.2.2.2.1 g hr).2
          have hax : ∀ a, ax = some a → a.block ∉ rs := fun a e hr => by
            subst e
            obtain ⟨cs, hb⟩ := hrow0.blkOf (show (rowOf ((some a, sp.length, cx), sp)).ownBlock = some a.block from rfl)
            exact blk_map hb (HX.out.2.2.2.1 _ hr).2
          have HB := Lib.hid (And.intro hbX (And.intro hmX (And.intro (Row.readsAs hrX).1.2 (And.intro hgot (And.intro hlen hax)))))
          have HCols := Lib.hid (hgot.cols sp sp.length)
          have HSP := Lib.hid hspl
          have hsp64 : sp.length ≤ 64 := by omega
          clear hrow0 hspl hbX hmX hrX hgot hlen hax
          gi_wp2
          gi_loopw [50] (ColsG X rs (rowsOfP pre) sp sp.length) (fun kv _ => sp.length - (intOf kv).toNat)
          case atStart => exact HCols.out
          case round =>
            obtain ⟨c, hc, rfl, hkX, hmc⟩ := hrel
            generalize hw7 : wr = W7 at *; clear hw7
            by_cases hltc : c < sp.length
            · obtain ⟨r, hr⟩ : ∃ r, rs[c]? = some r := ⟨_, List.getElem?_eq_getElem (by rw [HM.out.1, ← HSP.out]; exact hltc)⟩
              obtain ⟨t, ht⟩ : ∃ t, sp[c]? = some t := ⟨_, List.getElem?_eq_getElem hltc⟩
              have hm1 := hmc.out c r hr
              rw [if_neg (Nat.lt_irrefl _)] at hm1
              obtain ⟨w2, hrun, hM2, hk2⟩ := run_update_str (P := Tryz.prog) Tryz.underlying81 Tryz.underlying9 hm1 t (.bool true)
              have hst := cols_step HM.out.2.1 hr ht hkX.out hmc.out hM2 hk2
              have hnr : ∀ g cs e, Blk X g cs e → g ∉ rs := fun g cs e hb hg => by
                have h1 := (HX.out.2.2.2.1 g hg).1
                obtain ⟨c', hc'⟩ := List.getElem?_of_mem hg
                exact blk_map hb (HB.out.2.2.2.1.2.2 c' g hc')
              obtain ⟨ag, ao2, eax, hct⟩ := HB.out.2.2.1 c (.string t) (by simp [strs, ht])
              subst eax
              have d1 : W7.cell? ⟨gb, 0, none⟩ = some (.slice (some ⟨gm, 0, none⟩) ar ar) := by rw [(HB.out.1.kp hkX.out (hnr _ _ _ HB.out.1)).cell']; rfl
              have d2 : W7.cell? ⟨gm, c, none⟩ = some (.map (some r)) := by
                rw [(HB.out.2.1.kp hkX.out (hnr _ _ _ HB.out.2.1)).cell', List.getElem?_map, hr]; rfl
              have d3 : W7.cell? ⟨ag, ao2 + c, none⟩ = some (.string t) := hkX.out.cell hct fun hg => HB.out.2.2.2.2.2 _ rfl hg
              have HStep := Lib.hid hst
              have i1 : (c : Int) < (ar : Int) := by have := HSP.out; omega
              have i2 : (c : Int) < (sp.length : Int) := by omega
              clear hst hM2 hk2 hmc hkX hm1 ht hct
              gi_wp2
              go_roundw
              case rel => exact ⟨c + 1, by omega, by first | rfl | (congr 1; done) | (congr 1; omega), Lib.hid HStep.out.1, Lib.hid HStep.out.2⟩
              case measure => first | (simp [intOf]; done) | (simp [intOf]; omega)
            · have ec : sp.length = c := by omega
              have hml := HM.out.1
              have hspl := HSP.out
              have hSR := HX.out.2.2.1
              have hfin := hmc.out
              have hfin' : ∀ (c' r : Nat), rs[c']? = some r → MapIs W7 r (setM (nubTo (colN (rowsOfP pre ++ [sp]) c') (if c' < rs.length then (rowsOfP pre).length + 1 else (rowsOfP pre).length))) := fun c' r hr => by
                have h8 := hfin c' r hr
                rw [← ec, hspl, ← hml] at h8
                exact h8
              have HNx := Lib.hid (show KeepsFrom W5.heap.size X W7 ∧ SameOn SB X W7 ∧ GotG W5 rs ps2 (pre ++ [⟨((ax, sp.length, cx), sp), hp⟩]) W7 from by
                have hzX := HB.out.2.2.2.1.2.1.size
                exact ⟨KeepsFrom.of_kp hkX.out fun k hk => (HX.out.2.2.2.1 k hk).1, SameOn.of_kp hkX.out (fun k hk => by have := HX.out.2.1 k hk; omega) (fun k hk hf => hSR k hk hf), HB.out.2.2.2.1.next ⟨((ax, sp.length, cx), sp), hp⟩ HB.out.2.2.2.2.1 hkX.out hfin'⟩)
              clear hfin hfin' hml hSR hspl hmc hkX
              gi_wp2
              exact HNx.out
        case done =>
          rintro D1 ys X2 hD hys hgot hd
          have hys' := hys.symm; subst hys'; clear hys
          have hro : rowsOfP ps2.attach = LL := by
            unfold rowsOfP
            have h1 : ps2.attach.map (fun x => x.1.2) = (ps2.attach.map Subtype.val).map Prod.snd := by rw [List.map_map]; rfl
            rw [h1, List.attach_map_subtype_val, HX.out.2.2.2.2.1]
          obtain ⟨-, kg, hmaps⟩ := hgot
          rw [hro, List.length_attach, HX.out.2.2.2.2.2.1] at hmaps
          have hnr : ∀ g cs e, Blk W5 g cs e → g ∉ rs := fun g cs e hb hg => blk_map hb (HX.out.2.2.2.1 g hg).2
          have hbX := (HM.out.2.2.2.2.ext H5.out).kp kg (hnr _ _ _ (HM.out.2.2.2.2.ext H5.out))
          have hmX := (HM.out.2.2.2.1.ext H5.out).kp kg (hnr _ _ _ (HM.out.2.2.2.1.ext H5.out))
          have hxX : Ext W X2 := (HX4.out.2.1.trans H5.out).trans' kg fun k hk hr => by have := (HM.out.2.2.1 k hr).1; omega
          have hmk2 : Marks w1.heap.size X2 ({ target := .collected D1, args := #[] } :: ds) := by
            refine Marks.push HE.out.2.1 (fun j o h _ => (hxX.block j (lt_of_block h) id).trans h) ?_ ?_ hd
            · have := (HX4.out.2.1.trans H5.out).size; omega
            · have := (HX4.out.2.2.trans H5.out).size; omega
          have HD := Lib.hid (And.intro hxX (And.intro hmk2 (And.intro hbX (And.intro hmX hmaps))))
          clear hnr hbX hmX hxX hmk2 hmaps kg hd hD hro
          go_wp2_with fail
          refine (HSize.out X2 (HE.out.2.2.trans HD.out.1)).mono ?_
          rintro e X3 ⟨v3, rfl, hk3, rfl⟩
          obtain ⟨m, em⟩ : ∃ m, LL.length = m := ⟨_, rfl⟩
          rw [em]
          have hm16 : m ≤ 65536 := by rw [← em]; exact HL.out.1
          have HX3 := Lib.hid (And.intro hk3 em)
          clear hk3 em
          have c1 : ∀ o, (X3.alloc o).cell? ⟨gb, 0, none⟩ = some (.slice (some ⟨gm, 0, none⟩) ar ar) := fun o => by rw [((HD.out.2.2.1.ext HX3.out.1).alloc o).cell']; rfl
          go_wp2
          obtain ⟨gx, eg⟩ : ∃ g, X3.heap.size = g := ⟨_, rfl⟩
          obtain ⟨r, er⟩ : ∃ r, floatOfInt .f64 (m : Int) = r := ⟨_, rfl⟩
          rw [eg, er]
          obtain ⟨X4, ew2⟩ : ∃ x, X3.alloc (.cells #[.string s, .float .f64 r, .slice none 0 0] 48) = x := ⟨_, rfl⟩
          rw [ew2]
          have HGX := Lib.hid (show Blk X4 gx [.string s, .float .f64 r, .slice none 0 0] 48 by rw [← ew2, ← eg]; exact Blk.new X3 _ _)
          have X2e := Lib.hid (show Ext X3 X4 by rw [← ew2]; exact (Kp.refl X3).alloc _)
          have EGX := Lib.hid (And.intro (show X3.heap.size ≤ gx by rw [eg]; exact Nat.le_refl _) er)
          clear ew2 eg er c1
          go_loopw [69] (fun kv wk => DistG (colsN LL ar) s r gx X3 ar kv wk) (fun kv _ => ar - (intOf kv).toNat)
          case atStart => exact ⟨0, Nat.zero_le _, rfl, ⟨_, HGX.out, Row.nil _ _ _ _⟩, X2e.out⟩
          case round =>
            obtain ⟨c, hc, rfl, hin2, hex2⟩ := hrel
            obtain ⟨dv, hB, hr⟩ := hin2.out
            obtain ⟨ba, bc, edv, _, _⟩ := hr.shape
            subst edv
            generalize hw7 : wr = W7 at *; clear hw7
            have HBj := Lib.hid hB
            have HRj := Lib.hid hr
            clear hin2 hB hr
            by_cases hltc : c < ar
            · obtain ⟨q, hq⟩ : ∃ q, rs[c]? = some q := ⟨_, List.getElem?_eq_getElem (by rw [HM.out.1]; exact hltc)⟩
              have hmq := ((HD.out.2.2.2.2 c q hq).ext (HX3.out.1.trans hex2.out))
              have hlq := run_len_map (P := Tryz.prog) Tryz.underlying81 hmq 3
              rw [setM_len] at hlq
              have hdist : (nubTo (colN LL c) ln).length = distN LL c := by unfold distN; rw [HX.out.2.2.2.2.2.2]
              obtain ⟨nn, enn⟩ : ∃ nn, (nubTo (colN LL c) ln).length = nn := ⟨_, rfl⟩
              rw [enn] at hlq hdist
              have HY := Lib.hid (show floatOfInt .f64 (nn : Int) = fltN (distN LL c) by rw [hdist])
              have d2 : W7.cell? ⟨gm, c, none⟩ = some (.map (some q)) := by
                rw [(HD.out.2.2.2.1.ext (HX3.out.1.trans hex2.out)).cell', List.getElem?_map, hq]; rfl
              have g2 : W7.cell? ⟨gx, 2, none⟩ = some (.slice ba c bc) := by rw [HBj.out.cell']; rfl
              have i1 : (c : Int) < (ar : Int) := by omega
              clear hmq hq hdist enn
              have HRk := HRj
              go_wp2_with (first | (at_builtin; refine Halted.out ?_))
              refine Halted.mk (wp_appN (m := 1) (n := c) elem_flt rfl _ _ rfl (hex2.out.alloc _) rfl (HRk.out.alloc _) rfl (CellsAt.one W7 (.float .f64 (floatOfInt .f64 (nn : Int))) 45) (by rfl) (by simp [Value.oneCell']) (by omega) (by unfold maxLen; omega) ?_)
              intro v1 w8 hr1 hk1 hk2 _
              obtain ⟨b6, c6, ev6, _, _⟩ := hr1.shape
              subst ev6
              have hB6 : Blk w8 gx [.string s, .float .f64 r, .slice ba c bc] 48 := (HBj.out.alloc _).kp hk2 (fun e => (by obtain ⟨cs, hb⟩ := HRk.out.blkOf e; exact typ_fg (blk_ne hb HBj.out)))
              have x6 : w8.cell? ⟨gx, 2, none⟩ = some (.slice ba c bc) := by rw [hB6.cell']; rfl
              have x6f := hB6.free 2
              have HA := Lib.hid (And.intro hr1 (And.intro hk1 hB6))
              clear hr1 hk1 hk2 hB6 g2 d2 hlq
              go_wp2
              obtain ⟨hr1, hk1, hB6⟩ := HA.out
              obtain ⟨w9, ew9⟩ : ∃ w9, w8.setCell ⟨gx, 2, none⟩ (.slice b6 (c + 1) c6) = w9 := ⟨_, rfl⟩
              have hk67 : Kp (fun k => k = gx) w8 w9 := by rw [← ew9]; exact Kp.setCell (F := fun k => k = gx) (Kp.refl w8) (fun _ => rfl) _
              have hB9 : Blk w9 gx [.string s, .float .f64 r, .slice b6 (c + 1) c6] 48 := by rw [← ew9]; exact hB6.set 2 _
              have hx9 : Ext X3 w9 := by rw [← ew9]; exact Kp.setCell (F := fun _ => False) hk1 (fun h => by have := EGX.out.1; simp only at h; omega) _
              have hr9 := hr1.kp' hk67 fun g hg _ e => by
                obtain ⟨cs, hb⟩ := hr1.blkOf hg
                subst e
                exact typ_fg (blk_ne hb hB6)
              have e9 : flts ((colsN LL ar).take (c + 1)) = flts ((colsN LL ar).take c) ++ [.float .f64 (floatOfInt .f64 (nn : Int))] := by rw [takeSnoc (colsN_get LL hltc), HY.out]; simp [flts]
              rw [← e9] at hr9
              clear e9
              have HFin := Lib.hid (show ∃ dv, Blk w9 gx [.string s, .float .f64 r, dv] 48 ∧ Row w9 45 1 dv (c + 1) (flts ((colsN LL ar).take (c + 1))) (New X3) from ⟨_, hB9, hr9⟩)
              have HX9 := Lib.hid hx9
              rw [ew9]
              clear hr1 hk1 hB6 hk67 hB9 hx9 hr9 x6 x6f HA ew9
              go_roundw
              case rel => exact ⟨c + 1, by omega, by first | rfl | (congr 1; done) | (congr 1; omega), HFin.out, HX9.out⟩
              case measure => simp [intOf]; omega
            · have ec : ar = c := by omega
              subst ec
              have hall : (colsN LL ar).take ar = colsN LL ar := List.take_of_length_le (by rw [colsN_len]; exact Nat.le_refl _)
              rw [hall] at HRj
              obtain ⟨vs, hvs, hrow, hds⟩ := HO.out
              obtain ⟨oa, oc, eov, _, _⟩ := hrow.shape
              subst eov
              have l0 : W7.cell? ⟨gx, 0, none⟩ = some (.string s) := by rw [HBj.out.cell']; rfl
              have l1 : W7.cell? ⟨gx, 1, none⟩ = some (.float .f64 r) := by rw [HBj.out.cell']; rfl
              have l2 : W7.cell? ⟨gx, 2, none⟩ = some (.slice ba ar bc) := by rw [HBj.out.cell']; rfl
              have hXW := (HD.out.1.trans HX3.out.1).trans hex2.out
              have HRo := Lib.hid (hrow.ext hXW)
              have HDs := Lib.hid (And.intro hvs (fun x hx => (hds x hx).ext hXW))
              have hXw := HE.out.1.trans hXW
              have HMk := Lib.hid (HD.out.2.1.kp ((HX3.out.1).trans hex2.out) fun _ h => h.elim)
              clear hvs hrow hds hall hXW
              have hn8 := HN.out.2
              go_wp2_with (first | (at_builtin; refine Halted.out ?_))
              refine Halted.mk (wp_appN (m := 1) (n := i) elem_statG rfl _ _ rfl (hXw.alloc _) rfl (HRo.out.alloc _) rfl (CellsAt.new W7 [.string s, .float .f64 r, .slice ba ar bc] 48) (by rfl) (by simp [Value.oneCell']) (by omega) (by unfold maxLen; omega) ?_)
              intro v1 w6 hr1 hk1 hk2 _
              have HFin := Lib.hid (show OutAt S w1 (i + 1) v1 w6 from by
                have hgi := HS.out.1
                have hlen : (S.take i).length = vs.length := by rw [List.length_take, HDs.out.1]; have := HS.out.2; omega
                have et := takeSnoc hgi
                have hcl : (colsN LL ar).length = ar := colsN_len _ _
                have hkd : ∀ x, DistAt w1 (W7.alloc (.cells #[.string s, .float .f64 r, .slice ba ar bc] 48)) x → DistAt w1 w6 x := fun x hx => Row.kp' hx hk2 fun g hg _ e => by
                  obtain ⟨cs, hb⟩ := (HRo.out.alloc _).blkOf e
                  obtain ⟨cs', hb'⟩ := Row.blkOf hx hg
                  exact typ_fg (blk_ne hb' hb)
                refine ⟨vs ++ [(ba, bc)], by rw [List.length_append, HDs.out.1]; rfl, ?_, ?_⟩
                · rw [et, List.zip_append hlen, List.flatMap_append]
                  have e2 : (([gatS (s, (ar : Int), LL, ())].zip [(ba, bc)]).flatMap statC) = [.string s, .float .f64 r, .slice ba ar bc] := by
                    show statC (gatS (s, (ar : Int), LL, ()), (ba, bc)) ++ [] = _
                    rw [List.append_nil]
                    show [Value.string s, .float .f64 (floatOfInt .f64 (LL.length : Nat)), .slice ba (colsN LL ar).length bc] = _
                    rw [hcl, HX3.out.2, EGX.out.2]
                  rw [e2]; exact hr1
                · intro x hx
                  rw [et, List.zip_append hlen, List.mem_append] at hx
                  rcases hx with hx | hx
                  · exact hkd _ (Row.alloc (HDs.out.2 x hx) _)
                  · simp at hx; subst hx
                    refine hkd _ (Row.alloc (show Row W7 45 1 (.slice ba (colsN LL ar).length bc) (colsN LL ar).length (flts (colsN LL ar)) (New w1) from ?_) _)
                    have h := HRj.out.mono (M' := New w1) fun g hg => Nat.le_trans (HE.out.1.trans (HD.out.1.trans HX3.out.1)).size hg
                    rw [hcl]; exact h)
              have HX6 := Lib.hid (And.intro hk1 (show Marks w1.heap.size w6 ({ target := .collected D1, args := #[] } :: ds) from by
                refine (HMk.out.kp ((Kp.refl (F := fun _ => False) W7).alloc (.cells #[.string s, .float .f64 r, .slice ba ar bc] 48)) fun _ h => h.elim).others ⟨hk2.size, fun k o hk ho => (hk2.block k (lt_of_block hk) fun e => ?_).trans hk⟩
                obtain ⟨cs, hb⟩ := (HRo.out.alloc _).blkOf e
                unfold Blk at hb
                rw [hb] at hk; cases hk; cases ho))
              clear hr1 hk1 hk2 l0 l1 l2 hXw
              go_wp2
              refine ⟨⟨i + 1, rfl, by omega, rfl, rfl, rfl, by first | rfl | (congr 1; done) | (congr 1; omega), HFin, Lib.hid HX6.out.1, Lib.hid HX6.out.2⟩, ?_⟩
              show n - (intOf (.int .i64 _)).toNat < n - (intOf (.int .i64 _)).toNat
              simp [intOf]; omega
  · have ei : n = i := by omega
    subst ei
    go_wp2
    exact ⟨rfl, rfl, Nat.le_refl _, rfl, rfl, rfl, rfl, hout, hex, hmk⟩
end
end Go.Proofs.YtomeebimmmfmbaaGreat

/- cost.Gather. -/
namespace Go.Proofs.YtomeebimmmfmbaaGreat
open Go.RowKit Go.Shelf
set_option linter.unusedVariables false
attribute [local go_sem] Oper.semAt_some run_store_float

/-- Counts as Gather answers them: a list of one's own, each with a list of its own. -/
def GathV (S : List StatZ) (w : World) (v : Value) (W : World) : Prop := ∃ vs, vs.length = S.length ∧ Row W 48 3 v S.length ((S.zip vs).flatMap statC) (New w) ∧ ∀ x ∈ S.zip vs, DistAt w W x
theorem GathV.of_out {S : List StatZ} {w w1 W : World} {n : Nat} {v : Value} (h : OutAt S w1 n v W) (hn : n = S.length) (hx : Ext w w1) : GathV S w v W := by
  obtain ⟨vs, h1, h2, h3⟩ := h
  subst hn
  rw [List.take_of_length_le (Nat.le_refl _)] at h2 h3
  exact ⟨vs, h1, Row.mono h2.own fun g hg => Nat.le_trans hx.size (h2.block g hg), fun x hx' => Row.mono (h3 x hx').own fun g hg => Nat.le_trans hx.size ((h3 x hx').block g hg)⟩
theorem GathV.kp {S : List StatZ} {w W W' : World} {F : Nat → Prop} {v : Value} (h : GathV S w v W) (hk : Kp F W W') (hF : ∀ g cs e, Blk W g cs e → ¬ F g) : GathV S w v W' := by
  obtain ⟨vs, h1, h2, h3⟩ := h
  refine ⟨vs, h1, h2.kp' hk fun g hg _ f => ?_, fun x hx => Row.kp' (h3 x hx) hk fun g hg _ f => ?_⟩
  · obtain ⟨cs, hb⟩ := h2.blkOf hg; exact hF _ _ _ hb f
  · obtain ⟨cs, hb⟩ := Row.blkOf (h3 x hx) hg; exact hF _ _ _ hb f
theorem gath_ret {S : List StatZ} {w W w1 : World} {n : Nat} {tmps : Array Value} {ds : List Deferred} {v : Value} (hm : Marks w1.heap.size W ds) (h1 : Ext w w1) (hx : Ext w1 W) (ho : OutAt S w1 n v W) (hn : n = S.length) (ht : tmps.getD 2 undef = v) (ht3 : tmps.getD 3 undef = .int .i64 0) :
    bodyPostM Fence.wide 4 Tryz.prog Tryz.f8 (RetN w fun w' u => ∃ v, u = .tuple #[v, .int .i64 0] ∧ GathV S w v w') .ret { tmps := tmps, defers := ds } W := by
  refine leaves_marks hm fun w' e1 e2 e3 e4 e5 e6 => ?_
  have hx' := h1.trans hx
  have hz := h1.size
  have hk : Kp (fun k => ∃ o : Obj, W.heap[k]? = some o ∧ o.isCells = false) W w' := ⟨e1, e2, e3, by rw [e4]; exact Nat.le_refl _, fun k hk' hf => by
    obtain ⟨o, ho⟩ : ∃ o, W.heap[k]? = some o := ⟨_, Array.getElem?_eq_getElem hk'⟩
    rw [ho]
    cases hc : o.isCells with
    | true => exact e6 k o ho hc
    | false => exact absurd ⟨o, ho, hc⟩ hf⟩
  have hg := (GathV.of_out ho hn h1).kp hk fun g cs e hb ⟨o, h2, h3⟩ => by
    unfold Blk at hb
    rw [hb] at h2; cases h2; cases h3
  refine ⟨.tuple #[v, .int .i64 0], ?_, RetN.mk ⟨e1.trans hx'.os, e2.trans hx'.tape, e3.trans hx'.output, by rw [e4]; exact hx'.size, fun k hk _ => (e5 k (by omega)).trans (hx'.block k hk id)⟩ ⟨v, rfl, hg⟩⟩
  have ht' : tmps[2]?.getD undef = v := by simpa using ht
  have ht3' : tmps[3]?.getD undef = .int .i64 0 := by simpa using ht3
  simp [results, Tryz.f8, go_sem, ht', ht3']
section
variable {S0 : Nat → Prop} {w : World} {bb r0 : Nat} {E : List Ent}
set_option maxRecDepth 100000 in
set_option maxHeartbeats 8000000 in
theorem gather_any (h : BaseAt S0 w bb r0 E) (hl : E.length ≤ 1048576) :
    Calls Tryz.prog 8 #[.pointer (some ⟨bb, 0, none⟩)] w (RetN w fun w' u => ∃ v, u = .tuple #[v, .int .i64 0] ∧ GathV ((relsC (cntE E)).map gatS) w v w') := by
  refine callsIn_wide.1 (callsIn_of_wp_marks (n := 4) Tryz.func8 rfl trivial ?_ rfl)
  refine wpIn_wide.2 ?_
  obtain ⟨Q, eQ⟩ : ∃ Q, Q = bodyPostM Fence.wide 4 Tryz.prog Tryz.f8 (RetN w fun w' u => ∃ v, u = .tuple #[v, .int .i64 0] ∧ GathV ((relsC (cntE E)).map gatS) w v w') := ⟨_, rfl⟩
  rw [← eQ]
  have EQ := Lib.hid eQ; clear eQ
  have HNames := Lib.hid (names_any h hl)
  have hnl : E.length = (namesC (cntE E)).length := by rw [(names_perm _).length_eq, List.length_map]; unfold cntE; simp
  have H := Lib.hid (And.intro h (And.intro hnl hl))
  have hq1 : ∀ w : World, (binOp .eql 35 (.pointer (some ⟨bb, 0, none⟩)) (.pointer none)).run Tryz.prog w = .ok (.bool false) w := fun _ => by kernel_rfl
  obtain ⟨n, en⟩ : ∃ n, E.length = n := ⟨_, rfl⟩
  rw [en] at HNames H
  clear h hl hnl en
  simp only [Tryz.ntmps8, List.size_toArray, List.length_cons, List.length_nil, Nat.reduceAdd, Nat.reduceSub, Array.replicate_succ, Array.replicate_zero, List.push_toArray, List.append_toArray, List.nil_append, List.cons_append]
  go_wp2_with fail
  refine HNames.out.mono ?_
  rintro e w1 ⟨v1, rfl, hk1, hrn⟩
  obtain ⟨na, ncap, rfl, hnc, _⟩ := hrn.shape
  have HW1 := Lib.hid (And.intro hk1 hnc)
  clear hk1 hrn hnc hq1 HNames
  go_wp2
  refine Code.wp_mono ?_ (wp_loop (Q := gathQ bb ((relsC (cntE E)).map gatS) w1 n na ncap) (GathInv bb ((relsC (cntE E)).map gatS) w1 n na ncap) (gathMu n) ?start (fun a W hI => gath_round H.out.1 H.out.2.1 H.out.2.2 HW1.out.1 HW1.out.2 a W hI))
  case start => exact ⟨0, rfl, Nat.zero_le _, rfl, rfl, rfl, rfl, Lib.hid ⟨[], rfl, Row.nil _ _ _ _, fun x hx => by simp at hx⟩, Lib.hid (Kp.refl _), Lib.hid (Marks.nil _ _)⟩
  rintro e ⟨tm, ds⟩ W hq
  cases e with
  | exit nn =>
    obtain ⟨rfl, hsz, hrel⟩ := hq
    obtain ⟨u, rfl⟩ := lit88 tm hsz
    obtain ⟨hi, e0, e20, e21, e22, hout, hex, hmk⟩ := hrel
    replace e0 : u 0 = _ := e0
    replace hout : Hid (OutAt ((relsC (cntE E)).map gatS) w1 n (u 4) W) := hout
    obtain ⟨ov, eov⟩ : ∃ ov, u 4 = ov := ⟨_, rfl⟩
    rw [eov] at hout ⊢
    clear eov e20 e21 e22 hsz
    have HSl := Lib.hid (show n = ((relsC (cntE E)).map gatS).length from by rw [List.length_map]; unfold relsC; rw [List.length_map]; exact H.out.2.1)
    go_wp2
    rw [EQ.out]
    exact gath_ret hmk.out HW1.out.1 hex.out hout.out HSl.out rfl rfl
  | _ => exact hq.elim
end
end Go.Proofs.YtomeebimmmfmbaaGreat

/- The document's Base in memory: names and Rows beside each other; looking up. -/
namespace Go.Proofs.YtomeebimmmfmbaaGreat
open Go.RowKit
set_option linter.unusedVariables false

/-- The document's rows under a name. -/
structure REnt where
  name : ByteArray
  c : Nat
  ar : Nat
  LL : List (List ByteArray)
def REnt.ptr (g : REnt) : Value := .pointer (some ⟨g.c, 0, none⟩)
def REnt.cnt (g : REnt) : CntZ := (g.name, g.ar, g.LL)
def cntR (G : List REnt) : List CntZ := G.map REnt.cnt
def findR2 (G : List REnt) (s : ByteArray) : Option REnt := G.find? fun g => decide (g.name = s)
def optPtrR : Option REnt → Value
  | some g => g.ptr
  | none => .pointer none
theorem findR2_at {s : ByteArray} : ∀ {G : List REnt} {i : Nat} {g : REnt}, G[i]? = some g → g.name = s → (∀ (j : Nat) (g' : REnt), j < i → G[j]? = some g' → g'.name ≠ s) → findR2 G s = some g
  | [], i, g, h, _, _ => by simp at h
  | a :: G, 0, g, h, hn, _ => by
    simp at h; subst h
    unfold findR2
    rw [List.find?_cons, decide_eq_true hn]
  | a :: G, i + 1, g, h, hn, hb => by
    have ha := hb 0 a (by omega) rfl
    unfold findR2
    rw [List.find?_cons, decide_eq_false ha]
    exact findR2_at (i := i) (by simpa using h) hn fun j g' hj hg => hb (j + 1) g' (by omega) (by simpa using hg)
theorem findR2_no {s : ByteArray} {G : List REnt} (h : ∀ (j : Nat) (g : REnt), j < G.length → G[j]? = some g → g.name ≠ s) : findR2 G s = none := by
  unfold findR2
  rw [List.find?_eq_none]
  intro g hg
  obtain ⟨i, hi, e⟩ := List.getElem_of_mem hg
  simpa using h i g hi (by rw [List.getElem?_eq_getElem hi, e])
/-- How a list lies: from the head of its block on, or nowhere. -/
def FormG (n : Nat) (ao : Option Addr) (cap : Nat) : Prop := n ≤ cap ∧ cap ≤ maxLen ∧ (ao = none ∧ cap = 0 ∨ ∃ g, ao = some ⟨g, 0, none⟩)
theorem Row.form {w : World} {e : TypeId} {v : Value} {n : Nat} {xs : List Value} {M : Nat → Prop} (h : Row w e 1 v n xs M) : ∃ ao cap, v = .slice ao n cap ∧ CellsAt w ao xs ∧ FormG n ao cap ∧ ∀ a, ao = some a → M a.block ∧ a.block < w.heap.size := by
  obtain ⟨h1, ⟨rfl, rfl⟩ | ⟨g, cap, rest, rfl, b, c, d, e, f⟩⟩ := h
  · have : xs = [] := List.eq_nil_of_length_eq_zero (by simpa using h1)
    subst this
    exact ⟨none, 0, rfl, CellsAt.nil _ _, ⟨Nat.le_refl _, by decide, .inl ⟨rfl, rfl⟩⟩, fun a e => by cases e⟩
  · exact ⟨_, cap, rfl, CellsAt.pre c, ⟨e, f, .inr ⟨g, rfl⟩⟩, fun a e => by cases e; exact ⟨b, c.lt⟩⟩
structure RefB (S : Nat → Prop) (w : World) (cb : Nat) (G : List REnt) : Prop where
  blk : ∃ na nc aa ac, Blk w cb [.slice na G.length nc, .slice aa G.length ac] 147 ∧ CellsAt w na (strs (G.map REnt.name)) ∧ CellsAt w aa (G.map REnt.ptr) ∧ (∀ a, na = some a → S a.block) ∧ (∀ a, aa = some a → S a.block) ∧ FormG G.length na nc ∧ FormG G.length aa ac
  rows : ∀ g ∈ G, RefRows S w g.c g.ar g.LL
  apart : G.Pairwise fun g h => g.c ≠ h.c
  notS : ¬ S cb
  off : ∀ g ∈ G, g.c ≠ cb
  inS : ∀ k, S k → k < w.heap.size
  len : G.length ≤ 4194304
section
variable {S : Nat → Prop} {w w' : World} {cb : Nat} {G : List REnt}
def OwnG (cb : Nat) (G : List REnt) (k : Nat) : Prop := k = cb ∨ ∃ g ∈ G, k = g.c
theorem RefB.kp {F : Nat → Prop} (h : RefB S w cb G) (hk : Kp F w w') (hF : ∀ k, F k → ¬ OwnG cb G k) (hS : ∀ k, F k → ¬ S k) : RefB S w' cb G := by
  obtain ⟨na, nc, aa, ac, h1, h2, h3, h4, h5, h6⟩ := h.blk
  exact ⟨⟨na, nc, aa, ac, h1.kp hk (fun f => hF _ f (.inl rfl)), h2.kp hk (fun a e f => hS _ f (h4 a e)), h3.kp hk (fun a e f => hS _ f (h5 a e)), h4, h5, h6⟩,
    fun g hg => (h.rows g hg).kp hk (fun f => hF _ f (.inr ⟨g, hg, rfl⟩)) hS, h.apart, h.notS, h.off, fun k hk' => Nat.lt_of_lt_of_le (h.inS k hk') hk.size, h.len⟩
theorem RefB.ext (h : RefB S w cb G) (hk : Ext w w') : RefB S w' cb G := h.kp hk (fun _ x => x.elim) (fun _ x => x.elim)
set_option maxRecDepth 100000 in
set_option maxHeartbeats 1000000 in
theorem refBRows_any (h : RefB S w cb G) (s : ByteArray) : Calls Tryz.prog 96 #[.pointer (some ⟨cb, 0, none⟩), .string s] w (RetN w fun w' v => v = optPtrR (findR2 G s)) := by
  obtain ⟨na, nc, aa, ac, hB, hN, hA, _, _⟩ := h.blk
  obtain ⟨n, en⟩ : ∃ n, G.length = n := ⟨_, rfl⟩
  have hl := h.len
  rw [en] at hB hl
  have c0 : w.cell? ⟨cb, 0, none⟩ = some (.slice na n nc) := by rw [hB.cell']; rfl
  have c1 : w.cell? ⟨cb, 1, none⟩ = some (.slice aa n ac) := by rw [hB.cell']; rfl
  have HCell := Lib.hid (fun w' (hw : Ext w w') => (⟨hw.cell c0 id, hw.cell c1 id⟩ : w'.cell? ⟨cb, 0, none⟩ = some (.slice na n nc) ∧ w'.cell? ⟨cb, 1, none⟩ = some (.slice aa n ac)))
  have HG := Lib.hid (And.intro en (And.intro hN hA))
  clear h hB hN hA en
  go_enter Tryz.func96, Tryz.ntmps96
  go_wp2
  clear c0 c1
  go_loopw [5] (fun kv wr => ∃ i : Nat, i ≤ n ∧ kv = .int .i64 i ∧ Hid (Ext w wr) ∧ Hid (∀ (j : Nat) (g : REnt), j < i → G[j]? = some g → g.name ≠ s)) (fun k _ => n - (intOf k).toNat)
  case atStart => exact ⟨0, Nat.zero_le _, rfl, Lib.hid (Kp.refl _), Lib.hid fun j g hj => by omega⟩
  case round =>
    obtain ⟨i, hi, rfl, hex, hin⟩ := hrel
    obtain ⟨c0, c1⟩ := HCell.out wr hex.out
    by_cases hlt : i < n
    · obtain ⟨g, hg⟩ : ∃ g, G[i]? = some g := ⟨_, List.getElem?_eq_getElem (by rw [HG.out.1]; exact hlt)⟩
      obtain ⟨nb, no, rfl, d0⟩ := HG.out.2.1 i (.string g.name) (by simp [strs, hg])
      obtain ⟨ab, ao, rfl, d1⟩ := HG.out.2.2 i g.ptr (by simp [hg])
      replace d0 := hex.out.cell d0 id
      replace d1 := hex.out.cell d1 id
      obtain ⟨x, ex⟩ : ∃ x, g.name = x := ⟨_, rfl⟩
      obtain ⟨p, ep⟩ : ∃ p, g.c = p := ⟨_, rfl⟩
      have ept : g.ptr = .pointer (some ⟨p, 0, none⟩) := by rw [← ep]; rfl
      rw [ex] at d0
      rw [ept] at d1
      have HGi := Lib.hid (And.intro hg (And.intro ex ept))
      clear hg ex ep ept
      by_cases hxs : x = s
      · subst hxs
        have HX := Lib.hid hex.out
        have q1 : (x.toList == x.toList) = true := by simp
        go_wp2
        go_ret
        refine RetN.mk HX.out ?_
        rw [findR2_at HGi.out.1 HGi.out.2.1 hin.out]
        exact HGi.out.2.2.symm
      · have q1 : (x.toList == s.toList) = false := by
          cases h : (x.toList == s.toList)
          · rfl
          · exact absurd (toList_inj (eq_of_beq h)) hxs
        have HXS := Lib.hid hxs
        clear hxs
        go_wp2
        go_roundw
        case rel => exact ⟨i + 1, by omega, by first | rfl | (congr 1; done) | (congr 1; omega), hex, Lib.hid fun j g' hj hg' => by
          by_cases hji : j < i
          · exact hin.out j g' hji hg'
          · obtain rfl : j = i := by omega
            rw [HGi.out.1] at hg'
            injection hg' with hg'
            rw [← hg', HGi.out.2.1]; exact HXS.out⟩
        case measure => simp [intOf]; omega
    · obtain rfl : i = n := by omega
      go_wp2
      go_ret
      refine RetN.mk hex.out ?_
      rw [findR2_no (by rw [HG.out.1]; exact hin.out)]; rfl
def sumG (G : List REnt) (i : Nat) : Nat := ((G.take i).map fun g => g.LL.length).sum
theorem sumG_step {G : List REnt} {i : Nat} {g : REnt} (h : G[i]? = some g) : sumG G (i + 1) = sumG G i + g.LL.length := by
  unfold sumG
  rw [show G.take (i + 1) = G.take i ++ [g] by rw [List.take_add_one, h]; rfl, List.map_append, List.sum_append]; simp
theorem sumG_le (G : List REnt) (i : Nat) : sumG G i ≤ totalC (cntR G) := by
  have h : totalC (cntR G) = sumG G i + ((G.drop i).map fun g => g.LL.length).sum := by
    unfold sumG totalC cntR
    rw [← List.sum_append, ← List.map_append, List.take_append_drop, List.map_map]; rfl
  omega
theorem sumG_all {G : List REnt} {n : Nat} (h : G.length = n) : sumG G n = totalC (cntR G) := by
  unfold sumG totalC cntR
  rw [List.take_of_length_le (by omega), List.map_map]; rfl
set_option maxRecDepth 100000 in
set_option maxHeartbeats 1000000 in
theorem refBLen_any (h : RefB S w cb G) (hb : totalC (cntR G) ≤ 1099511627776) : Calls Tryz.prog 100 #[.pointer (some ⟨cb, 0, none⟩)] w (RetN w fun w' v => v = .int .i64 (totalC (cntR G) : Nat)) := by
  obtain ⟨na, nc, aa, ac, hB, hN, hA, _, _⟩ := h.blk
  obtain ⟨n, en⟩ : ∃ n, G.length = n := ⟨_, rfl⟩
  have hl := h.len
  rw [en] at hB hl
  have c1 : w.cell? ⟨cb, 1, none⟩ = some (.slice aa n ac) := by rw [hB.cell']; rfl
  have HG := Lib.hid (And.intro en (And.intro h hA))
  have HB := Lib.hid hb
  clear h hB hN hA en hb
  go_enter Tryz.func100, Tryz.ntmps100
  go_wp2
  go_loopw [3, 4] (fun nv kv wr => ∃ i : Nat, i ≤ n ∧ kv = .int .i64 i ∧ nv = .int .i64 (sumG G i : Nat) ∧ Hid (Ext w wr)) (fun _ k _ => n - (intOf k).toNat)
  case atStart => exact ⟨0, Nat.zero_le _, rfl, rfl, Lib.hid (Kp.refl _)⟩
  case round =>
    obtain ⟨i, hi, rfl, rfl, hex⟩ := hrel
    have c2 := hex.out.cell c1 id
    by_cases hlt : i < n
    · obtain ⟨g, hg⟩ : ∃ g, G[i]? = some g := ⟨_, List.getElem?_eq_getElem (by rw [HG.out.1]; exact hlt)⟩
      obtain ⟨ab, ao, rfl, d1⟩ := HG.out.2.2 i g.ptr (by simp [hg])
      replace d1 := hex.out.cell d1 id
      obtain ⟨lo, lc, hB2, _⟩ := HG.out.2.1.rows g (List.mem_of_getElem? hg)
      obtain ⟨p, ep⟩ : ∃ p, g.c = p := ⟨_, rfl⟩
      obtain ⟨l0, el⟩ : ∃ l0, g.LL.length = l0 := ⟨_, rfl⟩
      have ept : g.ptr = .pointer (some ⟨p, 0, none⟩) := by rw [← ep]; rfl
      rw [ept] at d1
      rw [ep, el] at hB2
      have d2 : wr.cell? ⟨p, 1, none⟩ = some (.slice lo l0 lc) := hex.out.cell (by rw [hB2.cell']; rfl) id
      have hst := sumG_step hg
      have hle := sumG_le G (i + 1)
      have HS := Lib.hid (And.intro hst el)
      obtain ⟨s0, es0⟩ : ∃ s0, sumG G i = s0 := ⟨_, rfl⟩
      have hs0 : s0 + l0 ≤ 1099511627776 := by have := HB.out; rw [hst, el, es0] at hle; omega
      rw [es0]
      have HE := Lib.hid es0
      clear hst hle es0 el ept ep hB2 hg
      go_wp2
      go_roundw
      case rel => exact ⟨i + 1, by omega, by first | rfl | (congr 1; done) | (congr 1; omega), by rw [HS.out.1, HS.out.2, HE.out, Int.natCast_add], hex⟩
      case measure => simp [intOf]; omega
    · obtain rfl : i = n := by omega
      rw [sumG_all HG.out.1]
      go_wp2
      go_ret
      exact RetN.mk hex.out rfl
theorem findR2_get (G : List REnt) (s : ByteArray) : getC (cntR G) s = (findR2 G s).map fun g => (g.ar, g.LL) := by
  unfold getC cntR findR2
  rw [List.find?_map, Option.map_map]; rfl
theorem findR2_some {G : List REnt} {s : ByteArray} {g : REnt} (h : findR2 G s = some g) : g ∈ G ∧ g.name = s := ⟨List.mem_of_find?_eq_some h, by have := List.find?_some h; simpa using this⟩
theorem refNamed_any (s : ByteArray) (w : World) : Calls Tryz.prog 94 #[.string s] w (Ret (.bool (namedC s)) w) := by
  unfold namedC
  by_cases h1 : 1 ≤ s.size
  · have q1 : (0 : Int) < (s.size : Int) := by omega
    by_cases h2 : s.size ≤ 4096
    · have q2 : (s.size : Int) ≤ 4096 := by omega
      rw [decide_eq_true (show 1 ≤ s.size ∧ s.size ≤ 4096 from ⟨h1, h2⟩)]
      go_enter Tryz.func94, Tryz.ntmps94
      go_wp2
      go_ret
      exact Ret.mk rfl
    · have q2 : ¬ (s.size : Int) ≤ 4096 := by omega
      rw [decide_eq_false (show ¬ (1 ≤ s.size ∧ s.size ≤ 4096) from fun h => h2 h.2)]
      go_enter Tryz.func94, Tryz.ntmps94
      go_wp2
      go_ret
      exact Ret.mk rfl
  · have q1 : ¬ (0 : Int) < (s.size : Int) := by omega
    rw [decide_eq_false (show ¬ (1 ≤ s.size ∧ s.size ≤ 4096) from fun h => h1 h.1)]
    go_enter Tryz.func94, Tryz.ntmps94
    go_wp2
    go_ret
    exact Ret.mk rfl
end
end Go.Proofs.YtomeebimmmfmbaaGreat

/- The document's Base: nil ones; a new one. -/
namespace Go.Proofs.YtomeebimmmfmbaaGreat
open Go.RowKit
set_option linter.unusedVariables false

theorem refBNew_any (S : Nat → Prop) (w : World) (hS : ∀ k, S k → k < w.heap.size) : Calls Tryz.prog 58 #[] w (RetN w fun w' v => v = .pointer (some ⟨w.heap.size, 0, none⟩) ∧ RefB S w' w.heap.size []) := by
  go_enter Tryz.func58, Tryz.ntmps58
  go_wp2
  go_ret
  refine RetN.mk ((Kp.refl w).alloc _) ⟨rfl, ⟨none, 0, none, 0, Blk.new w [_, _] _, CellsAt.nil _ _, CellsAt.nil _ _, fun a e => (by cases e), fun a e => (by cases e), ⟨Nat.le_refl _, by decide, .inl ⟨rfl, rfl⟩⟩, ⟨Nat.le_refl _, by decide, .inl ⟨rfl, rfl⟩⟩⟩, fun g hg => (by simp at hg), List.Pairwise.nil, fun h => by have := hS _ h; omega, fun g hg => (by simp at hg), fun k hk => by have h1 := hS k hk; show k < (w.heap.push _).size; simp; omega, by simp⟩
end Go.Proofs.YtomeebimmmfmbaaGreat
