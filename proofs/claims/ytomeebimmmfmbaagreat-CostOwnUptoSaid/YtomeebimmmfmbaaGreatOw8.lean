/- Texts joined for a claim (BaseV, RowSame, BaseAdd, BaseAdd2, BaseDecl, BaseFrom, Names, Names2, RefC, BaseRels, OwnApart, OwnLists, OwnLists2, RelRead). -/
import Derived.Test.YtomeebimmmfmbaaGreatOw7
import Derived.Shelf.SlIter.Sorted
import Derived.Shelf.SlSortCmp.NoneTotal
import Derived.StillTailTactics
/- A base behind a pointer that may be nil, its map too: what is asked of it by name. -/
namespace Go.Proofs.YtomeebimmmfmbaaGreat
open Go.RowKit
set_option linter.unusedVariables false
inductive BaseV (S : Nat → Prop) (w : World) : Value → List Ent → Prop
  | nil : BaseV S w (.pointer none) []
  | zero (bb : Nat) : Blk w bb [.map none, .int .i64 0] 140 → (∀ k, S k → k < w.heap.size) → ¬ S bb → BaseV S w (.pointer (some ⟨bb, 0, none⟩)) []
  | full (bb r : Nat) (E : List Ent) : BaseAt S w bb r E → BaseV S w (.pointer (some ⟨bb, 0, none⟩)) E
def optPtr : Option Ent → Value
  | some e => e.ptr
  | none => .pointer none
def optAr : Option Ent → Nat
  | some e => e.ar
  | none => 0
def optLL : Option Ent → List (List ByteArray)
  | some e => e.LL
  | none => []
def OptAt (S : Nat → Prop) (w : World) (o : Option Ent) : Prop := ∀ e, o = some e → RowsAt S w e.b e.iv e.ar e.LL ∧ Strict cmpRow e.LL
section
variable {S : Nat → Prop} {w w' : World} {o : Option Ent} {v : Value} {E : List Ent}
theorem BaseV.opt (h : BaseV S w v E) (s : ByteArray) : OptAt S w (findE E s) := fun e he => by
  cases h with
  | nil => cases he
  | zero => cases he
  | full bb r E h =>
    have hm := (findE_some he).1
    exact ⟨h.rows e hm, h.strict hm⟩
theorem BaseV.ext (h : BaseV S w v E) (hk : Ext w w') : BaseV S w' v E := by
  cases h with
  | nil => exact .nil
  | zero bb hb hi hs => exact .zero bb (hb.ext hk) (fun k hk' => Nat.lt_of_lt_of_le (hi k hk') hk.size) hs
  | full bb r E h => exact .full bb r E (h.ext hk)
theorem run_lookup_none {P : Program} {t k e : TypeId} (ht : P.underlying t = some (.map k e)) (hk : P.underlying k = some .string) {z : Value} (hz : (zeroValue e).run P w = .ok z w) (s : ByteArray) :
    (Instr.lookup t (.map none) (.string s) false).run P w = .ok z w := by
  have hc := run_check_str (P := P) (w := w) hk s true 9999
  have hf := run_find_str (P := P) (w := w) hk s (es := []) (r := none) rfl
  simp [Instr.lookup, run_underlying ht, hc, hz, hf, Result.andThen]
set_option maxRecDepth 100000 in
theorem of_any (h : BaseV S w v E) (s : ByteArray) : Calls Tryz.prog 64 #[v, .string s] w (Ret (optPtr (findE E s)) w) := by
  cases h with
  | nil =>
    go_enter Tryz.func64, Tryz.ntmps64
    go_wp2
    go_ret
    exact Ret.mk rfl
  | zero bb hb hi hs =>
    have c0 := hb.cell 0 (by simp)
    have hlk := run_lookup_none (P := Tryz.prog) (w := w) Tryz.underlying137 Tryz.underlying9 (z := .pointer none) (by kernel_rfl) s
    simp only [List.getElem_cons_zero] at c0
    clear hb hi hs
    go_enter Tryz.func64, Tryz.ntmps64
    go_wp2
    go_ret
    exact Ret.mk rfl
  | full bb r E h =>
    have c0 := h.blk.cell 0 (by simp)
    have hlk := run_lookup_str (P := Tryz.prog) Tryz.underlying137 Tryz.underlying9 (z := .pointer none) (by kernel_rfl) h.map s
    rw [entM_get] at hlk
    have he : ((findE E s).map Ent.ptr).getD (.pointer none) = optPtr (findE E s) := by cases findE E s <;> rfl
    rw [he] at hlk
    simp only [List.getElem_cons_zero] at c0
    clear h he
    go_enter Tryz.func64, Tryz.ntmps64
    go_wp2
    go_ret
    exact Ret.mk rfl
theorem optLen_any (h : OptAt S w o) : Calls Tryz.prog 67 #[optPtr o] w (RetN w fun w' v => v = .int .i64 ((optLL o).length : Nat)) := by
  cases o with
  | none =>
    refine (rowsLen_nil w).mono ?_
    rintro e w' ⟨rfl, rfl⟩
    exact RetN.mk (Kp.refl _) rfl
  | some e =>
    refine (rowsLen_q (z := False) (h e rfl).1.q).mono ?_
    rintro e w' ⟨v, rfl, hk, rfl, _⟩
    exact RetN.mk (Kp.fq hk) rfl
theorem optEach_any (h : OptAt S w o) : Calls Tryz.prog 66 #[optPtr o] w (RetN w fun w' v => EachRows w.heap.size w' v (optLL o)) := by
  cases o with
  | none => exact rowsEach_nil w
  | some e =>
    refine (rowsEach_q (z := False) (h e rfl).1.q).mono ?_
    rintro e w' ⟨v, rfl, hk, _, h2⟩
    exact RetN.mk (Kp.fq hk) h2
set_option maxRecDepth 100000 in
theorem baseArity_any (h : BaseV S w v E) (s : ByteArray) :
    Calls Tryz.prog 26 #[v, .string s] w (Ret (.tuple #[.int .i64 (optAr (findE E s) : Nat), .bool (findE E s).isSome]) w) := by
  have hO := of_any h s
  have hA := h.opt s
  clear h
  generalize findE E s = o at *
  cases o with
  | none =>
    have HO := Lib.hid (show Calls Tryz.prog 64 #[v, .string s] w (Ret (.pointer none) w) from hO)
    have HA := Lib.hid (rowsArity_nil w)
    clear hO hA
    show Calls Tryz.prog 26 #[v, .string s] w (Ret (.tuple #[.int .i64 0, .bool false]) w)
    go_enter Tryz.func26, Tryz.ntmps26
    go_wp2_with fail
    refine HO.out.mono ?_
    rintro e w1 ⟨rfl, rfl⟩
    go_wp2_with fail
    refine HA.out.mono ?_
    rintro e w1 ⟨rfl, rfl⟩
    go_wp2
    go_ret2
    exact Ret.mk rfl
  | some f =>
    obtain ⟨b, eb⟩ : ∃ b, f.b = b := ⟨_, rfl⟩
    obtain ⟨ar, ea⟩ : ∃ ar, f.ar = ar := ⟨_, rfl⟩
    have hr := rowsArity_q (z := False) (hA f rfl).1.q
    rw [eb, ea] at hr
    have HO := Lib.hid (show Calls Tryz.prog 64 #[v, .string s] w (Ret (.pointer (some ⟨b, 0, none⟩)) w) by rw [← eb]; exact hO)
    have HA := Lib.hid hr
    have hg : Calls Tryz.prog 26 #[v, .string s] w (Ret (.tuple #[.int .i64 (ar : Nat), .bool true]) w) := by
      clear hO hA hr eb ea
      go_enter Tryz.func26, Tryz.ntmps26
      go_wp2_with fail
      refine HO.out.mono ?_
      rintro e w1 ⟨rfl, rfl⟩
      go_wp2_with fail
      refine HA.out.mono ?_
      rintro e w1 ⟨rfl, rfl⟩
      go_wp2
      go_ret2
      exact Ret.mk rfl
    rw [← ea] at hg
    exact hg
theorem baseSize_any (h : BaseV S w v E) (s : ByteArray) :
    Calls Tryz.prog 28 #[v, .string s] w (RetN w fun w' v => v = .int .i64 ((optLL (findE E s)).length : Nat)) := by
  have HO := Lib.hid (of_any h s)
  have HH := Lib.hid (optLen_any (h.opt s))
  clear h
  go_enter Tryz.func28, Tryz.ntmps28
  go_wp2_with fail
  refine HO.out.mono ?_
  rintro e w1 ⟨rfl, rfl⟩
  go_wp2_with fail
  refine HH.out.mono ?_
  rintro e w1 ⟨v, rfl, hk, rfl⟩
  go_wp2
  go_ret
  exact RetN.mk hk rfl
theorem baseEach_any (h : BaseV S w v E) (s : ByteArray) :
    Calls Tryz.prog 27 #[v, .string s] w (RetN w fun w' v => EachRows w.heap.size w' v (optLL (findE E s))) := by
  have HO := Lib.hid (of_any h s)
  have HH := Lib.hid (optEach_any (h.opt s))
  clear h
  go_enter Tryz.func27, Tryz.ntmps27
  go_wp2_with fail
  refine HO.out.mono ?_
  rintro e w1 ⟨rfl, rfl⟩
  go_wp2_with fail
  refine HH.out.mono ?_
  rintro e w1 ⟨v, rfl, hk, hc⟩
  go_wp2
  go_ret
  exact RetN.mk hk hc
end
end Go.Proofs.YtomeebimmmfmbaaGreat

/- tuple.Rows: Same; Union, Minus, Meet; NewRows of a bad arity. -/
namespace Go.Proofs.YtomeebimmmfmbaaGreat
open Go.RowKit Go.Shelf
set_option linter.unusedVariables false
section
variable {z z1 z2 : Prop} {S : Nat → Prop} {w w' : World} {b b1 b2 : Nat} {iv iv1 iv2 : Value} {arity a1 a2 : Nat} {LL L1 L2 : List (List ByteArray)}
theorem newRows_bad (a : Int) (w : World) (ha : a < 0 ∨ 64 < a) : Calls Tryz.prog 89 #[.int .i64 a] w (Ret (.tuple #[.pointer none, .int .i64 2]) w) := by
  by_cases h0 : a < 0
  · have t1 : decide (a < 0) = true := by simp [h0]
    go_enter Tryz.func89, Tryz.ntmps89
    go_wp2
    go_ret2
    exact Ret.mk rfl
  · have h1 : 64 < a := by omega
    have t1 : decide (a < 0) = false := by simp; omega
    have t2 : decide (a > 64) = true := by simp; omega
    have t3 : decide (64 < a) = true := by simp; omega
    go_enter Tryz.func89, Tryz.ntmps89
    go_wp2
    go_ret2
    exact Ret.mk rfl
end
end Go.Proofs.YtomeebimmmfmbaaGreat

/- tuple.Base: Add, at every base. -/
namespace Go.Proofs.YtomeebimmmfmbaaGreat
open Go.RowKit
set_option linter.unusedVariables false
theorem addR_name {C : List CntZ} {s : ByteArray} (row : List ByteArray) (h : namedC s = false) : addR C s row = (false, 32) := if_pos h
theorem addR_long {C : List CntZ} {s : ByteArray} {row : List ByteArray} (h : namedC s = true) (hg : getC C s = none) (hl : 64 < row.length) : addR C s row = (false, 30) := by
  unfold addR
  rw [if_neg (by rw [h]; simp), if_pos (by unfold arOk; rw [hg]; exact decide_eq_false (by omega))]
theorem addR_arity {C : List CntZ} {s : ByteArray} {row : List ByteArray} {v : Nat × Rows2} (h : namedC s = true) (hg : getC C s = some v) (hl : v.1 ≠ row.length) : addR C s row = (false, 30) := by
  unfold addR
  rw [if_neg (by rw [h]; simp), if_pos (by unfold arOk; rw [hg]; exact decide_eq_false hl)]
theorem addR_text {C : List CntZ} {s : ByteArray} {row : List ByteArray} (h : namedC s = true) (hg : arOk C s row = true) (ht : textsC row = false) : addR C s row = (false, 31) := by
  unfold addR
  rw [if_neg (by rw [h]; simp), if_neg (by rw [hg]; simp), if_pos ht]
theorem addR_many {C : List CntZ} {s : ByteArray} {row : List ByteArray} (h : namedC s = true) (hg : arOk C s row = true) (ht : textsC row = true) (hm : 262144 ≤ totalC C) (hi : isIn cmpRow (rowsC C s) row = false) : addR C s row = (false, 4) := by
  unfold addR
  rw [if_neg (by rw [h]; simp), if_neg (by rw [hg]; simp), if_neg (by rw [ht]; simp), if_pos ⟨hm, hi⟩]
theorem addR_rest {C : List CntZ} {s : ByteArray} {row : List ByteArray} (h : namedC s = true) (hg : arOk C s row = true) (ht : textsC row = true) (hm : ¬ (262144 ≤ totalC C ∧ isIn cmpRow (rowsC C s) row = false)) :
    addR C s row = if 65536 ≤ (rowsC C s).length ∧ isIn cmpRow (rowsC C s) row = false then (false, 4) else (!isIn cmpRow (rowsC C s) row, 0) := by
  unfold addR
  rw [if_neg (by rw [h]; simp), if_neg (by rw [hg]; simp), if_neg (by rw [ht]; simp), if_neg hm]
theorem ar_some {C : List CntZ} {s : ByteArray} {row : List ByteArray} {v : Nat × Rows2} (hg : getC C s = some v) (h : v.1 = row.length) : arOk C s row = true := by unfold arOk; rw [hg]; exact decide_eq_true h
theorem ar_none {C : List CntZ} {s : ByteArray} {row : List ByteArray} (hg : getC C s = none) (h : row.length ≤ 64) : arOk C s row = true := by unfold arOk; rw [hg]; exact decide_eq_true h
theorem addC_not {C : List CntZ} {s : ByteArray} {row : List ByteArray} (h : (addR C s row).2 ≠ 0) : addC C s row = C := if_neg h
section
variable {S S' : Nat → Prop} {w w1 w2 w3 w4 : World} {bb r : Nat} {E : List Ent} {s : ByteArray} {ss : List ByteArray} {e : Ent} {iv' : Value}
def BaseAdded (S : Nat → Prop) (w : World) (bb r : Nat) (E : List Ent) (s : ByteArray) (ss : List ByteArray) (w' : World) (v : Value) : Prop :=
  v = .tuple #[.bool (addR (cntE E) s ss).1, .int .i64 ((addR (cntE E) s ss).2 : Nat)] ∧ ∃ S' E', (∀ k, S k → S' k) ∧ (∀ k, S' k → S k ∨ w.heap.size ≤ k) ∧ BaseAt S' w' bb r E' ∧ cntE E' = addC (cntE E) s ss ∧ ∀ k, OwnB bb r E' k → OwnB bb r E k ∨ w.heap.size ≤ k
theorem BaseAdded.same (h : BaseAt S w bb r E) (hk : Ext w w1) {n : Nat} (hR : addR (cntE E) s ss = (false, n)) (hn : n ≠ 0) {v : Value} (hv : v = .tuple #[.bool false, .int .i64 (n : Nat)]) : BaseAdded S w bb r E s ss w1 v :=
  ⟨by rw [hv, hR], S, E, fun _ h => h, fun _ h => .inl h, h.ext hk, (addC_not (by rw [hR]; exact hn)).symm, fun _ h => .inl h⟩
theorem own_turn {pre post : List Ent} (hiv : ∀ k, iv'.ownBlock = some k → e.iv.ownBlock = some k ∨ w.heap.size ≤ k) (LL' : List (List ByteArray)) : ∀ k, OwnB bb r (pre ++ { e with iv := iv', LL := LL' } :: post) k → OwnB bb r (pre ++ e :: post) k ∨ w.heap.size ≤ k := by
  rintro k (h | h | ⟨f, hf, ho⟩)
  · exact .inl (.inl h)
  · exact .inl (.inr (.inl h))
  · rcases List.mem_append.1 hf with hf | hf
    · exact .inl (.inr (.inr ⟨f, List.mem_append_left _ hf, ho⟩))
    · rcases List.mem_cons.1 hf with rfl | hf
      · rcases ho with ho | ho
        · exact .inl (.inr (.inr ⟨e, List.mem_append_right _ List.mem_cons_self, .inl ho⟩))
        · rcases hiv k ho with h2 | h2
          · exact .inl (.inr (.inr ⟨e, List.mem_append_right _ List.mem_cons_self, .inr h2⟩))
          · exact .inr h2
      · exact .inl (.inr (.inr ⟨f, List.mem_append_right _ (List.mem_cons_of_mem _ hf), ho⟩))
theorem baseMap_own (h : BaseAt S w bb r E) (he : findE E s = some e) (hx : Ext w w2) (hk : Kp e.own w2 w3) : MapIs w3 r (entM E) := (h.map.ext hx).kp hk fun ho => (h.off e (findE_some he).1 r ho).2 rfl
theorem baseBlk_own (h : BaseAt S w bb r E) (he : findE E s = some e) (hx : Ext w w2) (hk : Kp e.own w2 w3) : Blk w3 bb [.map (some r), .int .i64 (totalC (cntE E) : Nat)] 140 := (h.blk.ext hx).kp hk fun ho => (h.off e (findE_some he).1 bb ho).1 rfl
theorem baseAdd_full {LL : List (List ByteArray)} (h : BaseAt S w bb r E) (he : findE E s = some e) (hf : namedC s = true ∧ e.ar = ss.length ∧ textsC ss = true ∧ e.LL = LL ∧ ¬ (262144 ≤ totalC (cntE E) ∧ isIn cmpRow LL ss = false)) (hx : Ext w w2) (hk : Kp e.own w2 w3) (hss : ∀ k, S k → S' k) (hsn : ∀ k, S' k → S k ∨ w2.heap.size ≤ k)
    (hr : RowsAt S' w3 e.b iv' e.ar (rowsAddL e.ar LL ss)) (hiv : ∀ k, iv'.ownBlock = some k → e.iv.ownBlock = some k ∨ w2.heap.size ≤ k) (h0 : rowsAddR e.ar LL ss = if 65536 ≤ LL.length ∧ isIn cmpRow LL ss = false then (false, 4) else (!isIn cmpRow LL ss, 0)) (h4 : 65536 ≤ LL.length ∧ isIn cmpRow LL ss = false) :
    RetF (OwnB bb r E) w (BaseAdded S w bb r E s ss) (.returned (.tuple #[.bool false, .int .i64 4])) w3 := by
  obtain ⟨f1, f2, f3, f4, f5⟩ := hf
  obtain ⟨g1, g2⟩ := findE_rows he
  have hL : rowsAddL e.ar LL ss = LL := by unfold rowsAddL; rw [h0, if_pos h4]; rfl
  rw [hL] at hr
  have hR : addR (cntE E) s ss = (false, 4) := by
    rw [addR_rest f1 (ar_some g1 f2) f3 (by rw [g2, f4]; exact f5), g2, f4, if_pos h4]
  have hC : addC (cntE E) s ss = cntE E := addC_not (by rw [hR]; decide)
  obtain ⟨pre, post, rfl⟩ := findE_split he
  have hem : e ∈ pre ++ e :: post := List.mem_append_right _ List.mem_cons_self
  have hkw : Kp e.own w w3 := (Ext.kp hx).trans hk
  have hz := hx.size
  have hs2 : ∀ k, S' k → S k ∨ w.heap.size ≤ k := fun k hk' => (hsn k hk').imp id fun q => Nat.le_trans hz q
  have hiv2 : ∀ k, iv'.ownBlock = some k → e.iv.ownBlock = some k ∨ w.heap.size ≤ k := fun k hk' => (hiv k hk').imp id fun q => Nat.le_trans hz q
  have hsame : cntE (pre ++ { e with iv := iv', LL := LL } :: post) = cntE (pre ++ e :: post) := by
    rw [← f4]; simp [cntE, Ent.cnt]
  refine RetF.mk (hkw.mono fun k _ ho => .inr (.inr ⟨e, hem, ho⟩)) ⟨by rw [hR]; rfl, S', pre ++ { e with iv := iv', LL := LL } :: post, hss, hs2, ?_, by rw [hC, hsame], own_turn hiv2 LL⟩
  exact h.turn hkw hss hs2 hr hiv2 (Kp.refl _) (baseMap_own h he hx hk) (baseBlk_own h he hx hk) (by rw [hsame]) (by rw [hsame]; exact h.ok)
theorem baseAdd_had {LL : List (List ByteArray)} (h : BaseAt S w bb r E) (he : findE E s = some e) (hf : namedC s = true ∧ e.ar = ss.length ∧ textsC ss = true ∧ e.LL = LL ∧ ¬ (262144 ≤ totalC (cntE E) ∧ isIn cmpRow LL ss = false)) (hx : Ext w w2) (hk : Kp e.own w2 w3) (hss : ∀ k, S k → S' k) (hsn : ∀ k, S' k → S k ∨ w2.heap.size ≤ k)
    (hr : RowsAt S' w3 e.b iv' e.ar (rowsAddL e.ar LL ss)) (hiv : ∀ k, iv'.ownBlock = some k → e.iv.ownBlock = some k ∨ w2.heap.size ≤ k) (h0 : rowsAddR e.ar LL ss = if 65536 ≤ LL.length ∧ isIn cmpRow LL ss = false then (false, 4) else (!isIn cmpRow LL ss, 0)) (hi : isIn cmpRow LL ss = true)
    (hk4 : Kp (fun k => k = r) w3 w4) (hm4 : MapIs w4 r (putM (entM E) s (.pointer (some ⟨e.b, 0, none⟩)))) : RetF (OwnB bb r E) w (BaseAdded S w bb r E s ss) (.returned (.tuple #[.bool false, .int .i64 0])) w4 := by
  obtain ⟨f1, f2, f3, f4, f5⟩ := hf
  obtain ⟨g1, g2⟩ := findE_rows he
  have hn4 : ¬ (65536 ≤ LL.length ∧ isIn cmpRow LL ss = false) := fun k => by rw [hi] at k; cases k.2
  have hadd : addS cmpRow LL ss = LL := by unfold addS; rw [if_pos hi]
  have hL : rowsAddL e.ar LL ss = LL := by unfold rowsAddL; rw [h0, if_neg hn4]; exact hadd
  rw [hL] at hr
  have hR : addR (cntE E) s ss = (false, 0) := by
    rw [addR_rest f1 (ar_some g1 f2) f3 (by rw [g2, f4]; exact f5), g2, f4, if_neg hn4, hi]; rfl
  have hnd := h.ok.nodup
  rw [show putM (entM E) s (.pointer (some ⟨e.b, 0, none⟩)) = entM E from entM_put he (by rw [entM_names]; exact hnd)] at hm4
  obtain ⟨pre, post, rfl⟩ := findE_split he
  have hem : e ∈ pre ++ e :: post := List.mem_append_right _ List.mem_cons_self
  have hkw : Kp e.own w w3 := (Ext.kp hx).trans hk
  have hz := hx.size
  have hs2 : ∀ k, S' k → S k ∨ w.heap.size ≤ k := fun k hk' => (hsn k hk').imp id fun q => Nat.le_trans hz q
  have hiv2 : ∀ k, iv'.ownBlock = some k → e.iv.ownBlock = some k ∨ w.heap.size ≤ k := fun k hk' => (hiv k hk').imp id fun q => Nat.le_trans hz q
  have hsame : cntE (pre ++ { e with iv := iv', LL := LL } :: post) = cntE (pre ++ e :: post) := by
    rw [← f4]; simp [cntE, Ent.cnt]
  have hC : addC (cntE (pre ++ e :: post)) s ss = cntE (pre ++ { e with iv := iv', LL := LL } :: post) := by
    unfold addC
    rw [if_pos (by rw [hR]), g2, f4, hadd, ← f2]
    exact cntE_set he hnd iv' LL
  refine RetF.mk ((hkw.mono fun k _ ho => .inr (.inr ⟨e, hem, ho⟩)).trans (hk4.mono fun k _ ho => .inr (.inl ho))) ⟨by rw [hR]; rfl, S', pre ++ { e with iv := iv', LL := LL } :: post, hss, hs2, ?_, hC.symm, own_turn hiv2 LL⟩
  exact h.turn hkw hss hs2 hr hiv2 (hk4.mono fun k _ ho => .inr ho) hm4 ((baseBlk_own h he hx hk).kp hk4 h.ne) (by rw [hsame]) (by rw [hsame]; exact h.ok)
theorem baseAdd_got {LL : List (List ByteArray)} {n : Nat} (h : BaseAt S w bb r E) (he : findE E s = some e) (hf : namedC s = true ∧ e.ar = ss.length ∧ textsC ss = true ∧ e.LL = LL ∧ ¬ (262144 ≤ totalC (cntE E) ∧ isIn cmpRow LL ss = false)) (hx : Ext w w2) (hk : Kp e.own w2 w3) (hss : ∀ k, S k → S' k) (hsn : ∀ k, S' k → S k ∨ w2.heap.size ≤ k)
    (hr : RowsAt S' w3 e.b iv' e.ar (rowsAddL e.ar LL ss)) (hiv : ∀ k, iv'.ownBlock = some k → e.iv.ownBlock = some k ∨ w2.heap.size ≤ k) (h0 : rowsAddR e.ar LL ss = if 65536 ≤ LL.length ∧ isIn cmpRow LL ss = false then (false, 4) else (!isIn cmpRow LL ss, 0)) (hi : isIn cmpRow LL ss = false) (hn4 : ¬ (65536 ≤ LL.length ∧ isIn cmpRow LL ss = false))
    (hk4 : Kp (fun k => k = r) w3 w4) (hm4 : MapIs w4 r (putM (entM E) s (.pointer (some ⟨e.b, 0, none⟩)))) (en : totalC (cntE E) = n) : RetF (OwnB bb r E) w (BaseAdded S w bb r E s ss) (.returned (.tuple #[.bool true, .int .i64 0])) (w4.setCell ⟨bb, 1, none⟩ (.int .i64 ((n : Int) + 1))) := by
  obtain ⟨f1, f2, f3, f4, f5⟩ := hf
  obtain ⟨g1, g2⟩ := findE_rows he
  have hL : rowsAddL e.ar LL ss = addS cmpRow LL ss := by unfold rowsAddL; rw [h0, if_neg hn4]; rfl
  rw [hL] at hr
  have hR : addR (cntE E) s ss = (true, 0) := by
    rw [addR_rest f1 (ar_some g1 f2) f3 (by rw [g2, f4]; exact f5), g2, f4, if_neg hn4, hi]; rfl
  have hnd := h.ok.nodup
  rw [show putM (entM E) s (.pointer (some ⟨e.b, 0, none⟩)) = entM E from entM_put he (by rw [entM_names]; exact hnd)] at hm4
  obtain ⟨pre, post, rfl⟩ := findE_split he
  have hem : e ∈ pre ++ e :: post := List.mem_append_right _ List.mem_cons_self
  have hkw : Kp e.own w w3 := (Ext.kp hx).trans hk
  have hz := hx.size
  have hs2 : ∀ k, S' k → S k ∨ w.heap.size ≤ k := fun k hk' => (hsn k hk').imp id fun q => Nat.le_trans hz q
  have hiv2 : ∀ k, iv'.ownBlock = some k → e.iv.ownBlock = some k ∨ w.heap.size ≤ k := fun k hk' => (hiv k hk').imp id fun q => Nat.le_trans hz q
  have hset := cntE_set he hnd iv' (addS cmpRow LL ss)
  have hC : addC (cntE (pre ++ e :: post)) s ss = cntE (pre ++ { e with iv := iv', LL := addS cmpRow LL ss } :: post) := by
    unfold addC
    rw [if_pos (by rw [hR]), g2, f4, ← f2]
    exact hset
  have htot : n + 1 = totalC (cntE (pre ++ { e with iv := iv', LL := addS cmpRow LL ss } :: post)) := by
    have h1 := total_set hnd (s := s) (v := (e.ar, addS cmpRow LL ss))
    rw [hset, g2, f4] at h1
    have h2 := addS_len (c := cmpRow) LL ss
    rw [hi] at h2
    simp only [Bool.false_eq_true, if_false] at h2
    have h3 : (e.ar, addS cmpRow LL ss).2.length = LL.length + 1 := h2
    omega
  have kf : Kp (fun k => k = bb ∨ k = r) w3 (w4.setCell ⟨bb, 1, none⟩ (.int .i64 ((n : Int) + 1))) := (hk4.mono fun k _ ho => .inr ho).trans (Kp.setCell (F := fun k => k = bb ∨ k = r) (Kp.refl w4) (fun _ => .inl rfl) _)
  have hb5 : Blk (w4.setCell ⟨bb, 1, none⟩ (.int .i64 ((n : Int) + 1))) bb [.map (some r), .int .i64 ((n + 1 : Nat) : Int)] 140 := by
    have h1 := ((baseBlk_own h he hx hk).kp hk4 h.ne).set 1 (.int .i64 ((n : Int) + 1))
    exact h1
  have hm5 := hm4.kp (Kp.setCell (F := fun k => k = bb) (Kp.refl w4) (p := ⟨bb, 1, none⟩) (fun _ => rfl) (.int .i64 ((n : Int) + 1))) (fun e2 => h.ne e2.symm)
  refine RetF.mk ((hkw.mono fun k _ ho => .inr (.inr ⟨e, hem, ho⟩)).trans (kf.mono fun k _ ho => ho.elim .inl fun h => .inr (.inl h))) ⟨by rw [hR]; rfl, S', pre ++ { e with iv := iv', LL := addS cmpRow LL ss } :: post, hss, hs2, ?_, hC.symm, own_turn hiv2 _⟩
  exact h.turn hkw hss hs2 hr hiv2 kf hm5 hb5 htot (by rw [← hC]; exact ok_add h.ok s ss)
theorem baseAdd_new {n : Nat} {b : Nat} (h : BaseAt S w bb r E) (he : findE E s = none) (hf : namedC s = true ∧ ss.length ≤ 64 ∧ textsC ss = true ∧ ¬ 262144 ≤ totalC (cntE E)) (hx : Ext w w3) (hss : ∀ k, S k → S' k) (hsn : ∀ k, S' k → S k ∨ w.heap.size ≤ k)
    (hr : RowsAt S' w3 b iv' ss.length [ss]) (hb : w.heap.size ≤ b) (hiv : ∀ k, iv'.ownBlock = some k → w.heap.size ≤ k)
    (hk4 : Kp (fun k => k = r) w3 w4) (hm4 : MapIs w4 r (putM (entM E) s (.pointer (some ⟨b, 0, none⟩)))) (en : totalC (cntE E) = n) : RetF (OwnB bb r E) w (BaseAdded S w bb r E s ss) (.returned (.tuple #[.bool true, .int .i64 0])) (w4.setCell ⟨bb, 1, none⟩ (.int .i64 ((n : Int) + 1))) := by
  obtain ⟨f1, f2, f3, f4⟩ := hf
  obtain ⟨g1, g2⟩ := findE_none he
  have hR : addR (cntE E) s ss = (true, 0) := by
    rw [addR_rest f1 (ar_none g1 f2) f3 (fun k => f4 k.1), g2, if_neg (by simp)]; rfl
  have hone : addS cmpRow [] ss = [ss] := by simp [addS, isIn, below]
  have hpush := cntE_push he b iv' ss.length [ss]
  have hC : addC (cntE E) s ss = cntE (E ++ [{ name := s, b := b, iv := iv', ar := ss.length, LL := [ss] }]) := by
    unfold addC
    rw [if_pos (by rw [hR]), g2, hone]
    exact hpush
  have htot : n + 1 = totalC (cntE (E ++ [{ name := s, b := b, iv := iv', ar := ss.length, LL := [ss] }])) := by
    rw [← en]
    simp [totalC, cntE, Ent.cnt]
  rw [entM_push he b iv' ss.length [ss]] at hm4
  have kf : Kp (fun k => k = bb ∨ k = r) w3 (w4.setCell ⟨bb, 1, none⟩ (.int .i64 ((n : Int) + 1))) := (hk4.mono fun k _ ho => .inr ho).trans (Kp.setCell (F := fun k => k = bb ∨ k = r) (Kp.refl w4) (fun _ => .inl rfl) _)
  have hb5 : Blk (w4.setCell ⟨bb, 1, none⟩ (.int .i64 ((n : Int) + 1))) bb [.map (some r), .int .i64 ((n + 1 : Nat) : Int)] 140 := ((h.blk.ext hx).kp hk4 h.ne).set 1 (.int .i64 ((n : Int) + 1))
  have hm5 := hm4.kp (Kp.setCell (F := fun k => k = bb) (Kp.refl w4) (p := ⟨bb, 1, none⟩) (fun _ => rfl) (.int .i64 ((n : Int) + 1))) (fun e2 => h.ne e2.symm)
  have ho : ∀ k, Owns b iv' k → w.heap.size ≤ k := fun k ho => by
    rcases ho with rfl | ho
    · exact hb
    · exact hiv k ho
  refine RetF.mk ((Ext.kp hx).trans (kf.mono fun k _ ho => ho.elim .inl fun h => .inr (.inl h))) ⟨by rw [hR]; rfl, S', E ++ [{ name := s, b := b, iv := iv', ar := ss.length, LL := [ss] }], hss, hsn, ?_, hC.symm, ?_⟩
  · exact h.push (e := { name := s, b := b, iv := iv', ar := ss.length, LL := [ss] }) hx hss hsn hr ho kf hb5 hm5 htot (by rw [← hC]; exact ok_add h.ok s ss)
  · rintro k (h1 | h1 | ⟨f, hf, ho2⟩)
    · exact .inl (.inl h1)
    · exact .inl (.inr (.inl h1))
    · rcases List.mem_append.1 hf with hf | hf
      · exact .inl (.inr (.inr ⟨f, hf, ho2⟩))
      · obtain rfl := List.mem_singleton.1 hf
        exact .inr (ho k ho2)
end
end Go.Proofs.YtomeebimmmfmbaaGreat

/- tuple.Base: Add, walked. -/
namespace Go.Proofs.YtomeebimmmfmbaaGreat
open Go.RowKit
set_option linter.unusedVariables false
set_option maxRecDepth 100000 in
set_option maxHeartbeats 4000000 in
theorem baseAdd_any {S : Nat → Prop} {w : World} {bb r : Nat} {E : List Ent} (h : BaseAt S w bb r E) (s : ByteArray) {ao : Option Addr} {k cap : Nat} {ss : List ByteArray} (hx : RowIn w (ao, k, cap) ss) (ho : RowOff (ao, k, cap) (OwnB bb r E)) :
    Calls Tryz.prog 57 #[.pointer (some ⟨bb, 0, none⟩), .string s, .slice ao k cap] w (RetF (OwnB bb r E) w (BaseAdded S w bb r E s ss)) := by
  have hkn : k = ss.length := hx.1.1
  have hcs : CellsAt w ao (strs ss) := hx.1.2
  have hkl : k ≤ 8796093021952 := by rw [hkn]; exact hx.2.1
  have c0 : w.cell? ⟨bb, 0, none⟩ = some (.map (some r)) := by rw [h.blk.cell']; rfl
  have hlk := run_lookup_str (P := Tryz.prog) Tryz.underlying137 Tryz.underlying9 (z := .pointer none) (by kernel_rfl) h.map s
  rw [entM_get] at hlk
  have hnm := named_any s w
  rw [show decide (1 ≤ s.size ∧ s.size ≤ 4096) = namedC s from rfl] at hnm
  have HN := Lib.hid hnm; clear hnm
  have HT := Lib.hid (fun w1 (hw : Ext w w1) => texts_any ss ao k cap w1 hkn (hcs.ext hw) (by omega))
  obtain ⟨n, en⟩ : ∃ n, totalC (cntE E) = n := ⟨_, rfl⟩
  have EN := Lib.hid en
  have hnl : n ≤ 262144 := by rw [← en]; exact h.ok.few
  have c1 : w.cell? ⟨bb, 1, none⟩ = some (.int .i64 n) := by rw [h.blk.cell', en]; rfl
  have HC1 := Lib.hid (fun w1 (hw : Ext w w1) => (hw.cell c1 id : w1.cell? ⟨bb, 1, none⟩ = some (.int .i64 n)))
  have H := Lib.hid h
  have HX := Lib.hid (And.intro hx ho)
  have HKN := Lib.hid hkn
  clear h hx ho hcs hkn en c1
  cases hn : namedC s with
  | false =>
    rw [hn] at HN
    have HNM := Lib.hid hn
    clear hn hlk c0
    go_enter Tryz.func57, Tryz.ntmps57
    go_wp2_with fail
    refine HN.out.mono ?_
    rintro e w' ⟨rfl, rfl⟩
    go_wp2
    go_ret2
    exact RetF.mk (Kp.refl _) (BaseAdded.same H.out (Kp.refl _) (addR_name ss HNM.out) (by decide) rfl)
  | true =>
    rw [hn] at HN
    have HNM := Lib.hid hn
    clear hn
    cases he : findE E s with
    | none =>
      rw [he] at hlk
      have hlk' : ∀ w', w' = w → (Instr.lookup 137 (.map (some r)) (.string s) false).run Tryz.prog w' = .ok (.pointer none) w' := fun w' e => by rw [e]; exact hlk
      replace hlk := hlk' w rfl
      clear hlk'
      have HE := Lib.hid he
      clear he
      by_cases hl : 64 < k
      · have HNB := Lib.hid (newRows_bad (k : Int) w (.inr (by omega)))
        go_enter Tryz.func57, Tryz.ntmps57
        go_wp2_with fail
        refine HN.out.mono ?_
        rintro e w' ⟨rfl, rfl⟩
        go_wp2_with fail
        refine HNB.out.mono ?_
        rintro e w' ⟨rfl, rfl⟩
        go_wp2
        go_ret2
        exact RetF.mk (Kp.refl _) (BaseAdded.same H.out (Kp.refl _) (addR_long HNM.out (findE_none HE.out).1 (by rw [← HKN.out]; exact hl)) (by decide) rfl)
      have hk64 : k ≤ 64 := by omega
      have HNR := Lib.hid (newRows_any S w k hk64 H.out.inS)
      have HL := Lib.hid (show ss.length ≤ 64 by rw [← HKN.out]; exact hk64)
      clear hl
      cases ht : textsC ss with
      | false =>
        rw [ht] at HT
        have HTX := Lib.hid ht
        clear ht
        go_enter Tryz.func57, Tryz.ntmps57
        go_wp2_with fail
        refine HN.out.mono ?_
        rintro e w' ⟨rfl, rfl⟩
        go_wp2_with fail
        refine HNR.out.mono ?_
        rintro e w1 ⟨v, rfl, hk1, rfl, hrows⟩
        have d2 : w1.cell? ⟨w.heap.size, 2, none⟩ = some (.int .i64 k) := by rw [hrows.blk.cell']; rfl
        have HK1 := Lib.hid hk1
        clear hk1 hrows
        go_wp2_with fail
        refine (HT.out w1 HK1.out).mono ?_
        rintro e w2 ⟨v, rfl, hk2, rfl⟩
        have HK2 := Lib.hid (HK1.out.trans hk2)
        clear hk2
        go_wp2
        go_ret2
        exact RetF.mk (Ext.kp HK2.out) (BaseAdded.same H.out HK2.out (addR_text HNM.out (ar_none (findE_none HE.out).1 HL.out) HTX.out) (by decide) rfl)
      | true =>
        rw [ht] at HT
        have HTX := Lib.hid ht
        clear ht
        have HAdd := Lib.hid (fun w1 (hw : Ext w w1) (hr : RowsAt S w1 w.heap.size (.slice none 0 0) k []) => rowsAdd_any hr List.Pairwise.nil (ao := ao) (n := k) (cap := cap) (ss := ss) ⟨⟨HKN.out, HX.out.1.1.2.ext hw⟩, HX.out.1.2.1, fun a e hne => Nat.lt_of_lt_of_le (HX.out.1.2.2 a e hne) hw.size⟩
          (fun a e hne ho => by
            have := HX.out.1.2.2 a e hne
            rcases ho with ho | ho
            · omega
            · cases ho) (by simp))
        by_cases hm : 262144 ≤ n
        · have q2 : decide ((262144 : Int) ≤ (n : Int)) = true := by rw [decide_eq_true_iff]; omega
          have HM := Lib.hid hm
          have HHas := Lib.hid (fun w1 (hw : Ext w w1) (hr : RowsAt S w1 w.heap.size (.slice none 0 0) k []) => rowsHas_any hr List.Pairwise.nil (x := (ao, k, cap)) (ss := ss) ⟨⟨HKN.out, HX.out.1.1.2.ext hw⟩, HX.out.1.2.1, fun a e hne => Nat.lt_of_lt_of_le (HX.out.1.2.2 a e hne) hw.size⟩
            (fun a e hne ho => by
              have := HX.out.1.2.2 a e hne
              rcases ho with ho | ho
              · omega
              · cases ho))
          clear hm
          go_enter Tryz.func57, Tryz.ntmps57
          go_wp2_with fail
          refine HN.out.mono ?_
          rintro e w' ⟨rfl, rfl⟩
          go_wp2_with fail
          refine HNR.out.mono ?_
          rintro e w1 ⟨v, rfl, hk1, rfl, hrows⟩
          have d2 : w1.cell? ⟨w.heap.size, 2, none⟩ = some (.int .i64 k) := by rw [hrows.blk.cell']; rfl
          have HK1 := Lib.hid (And.intro hk1 hrows)
          clear hk1 hrows
          go_wp2_with fail
          refine (HT.out w1 HK1.out.1).mono ?_
          rintro e w2 ⟨v, rfl, hk2, rfl⟩
          have HK2 := Lib.hid (HK1.out.1.trans hk2)
          have HR2 := Lib.hid (HK1.out.2.ext hk2)
          have c1' := HC1.out w2 HK2.out
          clear hk2 d2
          go_wp2_with fail
          refine (HHas.out w2 HK2.out HR2.out).mono ?_
          rintro e w3 ⟨v, rfl, hk3, rfl⟩
          have HK3 := Lib.hid (HK2.out.trans hk3)
          clear hk3 c1'
          have hni : isIn cmpRow ([] : List (List ByteArray)) ss = false := rfl
          go_wp2
          go_ret2
          exact RetF.mk (Ext.kp HK3.out) (BaseAdded.same H.out HK3.out (addR_many HNM.out (ar_none (findE_none HE.out).1 HL.out) HTX.out (by rw [EN.out]; exact HM.out) (by rw [(findE_none HE.out).2]; rfl)) (by decide) rfl)
        · have q2 : decide ((262144 : Int) ≤ (n : Int)) = false := by rw [decide_eq_false_iff_not]; omega
          have HM := Lib.hid hm
          clear hm
          go_enter Tryz.func57, Tryz.ntmps57
          go_wp2_with fail
          refine HN.out.mono ?_
          rintro e w' ⟨rfl, rfl⟩
          go_wp2_with fail
          refine HNR.out.mono ?_
          rintro e w1 ⟨v, rfl, hk1, rfl, hrows⟩
          have d2 : w1.cell? ⟨w.heap.size, 2, none⟩ = some (.int .i64 k) := by rw [hrows.blk.cell']; rfl
          have HK1 := Lib.hid (And.intro hk1 hrows)
          clear hk1 hrows
          go_wp2_with fail
          refine (HT.out w1 HK1.out.1).mono ?_
          rintro e w2 ⟨v, rfl, hk2, rfl⟩
          have HK2 := Lib.hid (HK1.out.1.trans hk2)
          have HR2 := Lib.hid (HK1.out.2.ext hk2)
          have c1' := HC1.out w2 HK2.out
          clear hk2 d2
          go_wp2_with fail
          refine (HAdd.out w2 HK2.out HR2.out).mono ?_
          rintro e w3 ⟨v, rfl, hk3, hv, S', iv', hss, hsn, hrows3, hiv⟩
          have e0 : rowsAddR k [] ss = (true, 0) := by
            unfold rowsAddR; rw [if_neg (by rw [HKN.out]; simp), if_neg (by rw [HTX.out]; simp), if_neg (by simp)]; simp [isIn]
          have e1 : rowsAddL k [] ss = [ss] := by
            unfold rowsAddL; rw [e0]; simp [addS, isIn, below]
          rw [e0] at hv
          rw [e1] at hrows3
          subst hv
          have hz := HK2.out.size
          have kk3 : Kp (fun g => g = w.heap.size) w2 w3 := hk3.mono fun g _ h => by
            rcases h with h | h
            · exact h
            · cases h
          have hex3 : Ext w w3 := HK2.out.trans' kk3 (fun i hi e => by omega)
          rw [HKN.out] at hrows3
          have HR3 := Lib.hid (And.intro hex3 (And.intro hss (And.intro (fun q (hq : S' q) => (hsn q hq).imp id fun u => Nat.le_trans hz u) (And.intro hrows3 (fun q (hq : iv'.ownBlock = some q) => show w.heap.size ≤ q by
            rcases hiv q hq with u | u
            · cases u
            · exact Nat.le_trans hz u)))))
          have HB3 := Lib.hid (And.intro (H.out.blk.ext hex3) (H.out.map.ext hex3))
          clear hk3 kk3 hex3 hrows3 hss hsn hiv e0 e1 c1' hlk c0 hz
          go_wp2_with fail
          refine (basePut_any HB3.out.1 HB3.out.2 s (some ⟨w.heap.size, 0, none⟩)).mono ?_
          rintro e w4 ⟨v, rfl, hk4, hm4⟩
          have HM4 := Lib.hid (And.intro hk4 hm4)
          have hb4 : Blk w4 bb [.map (some r), .int .i64 (totalC (cntE E) : Nat)] 140 := HB3.out.1.kp hk4 H.out.ne
          have c4 : w4.cell? ⟨bb, 1, none⟩ = some (.int .i64 n) := by rw [hb4.cell', EN.out]; rfl
          have f4 := hb4.free 1
          clear hk4 hm4 hb4
          go_wp2
          go_ret2
          exact baseAdd_new H.out HE.out ⟨HNM.out, HL.out, HTX.out, by rw [EN.out]; exact HM.out⟩ HR3.out.1 HR3.out.2.1 HR3.out.2.2.1 HR3.out.2.2.2.1 (Nat.le_refl _) HR3.out.2.2.2.2 HM4.out.1 HM4.out.2 EN.out
    | some e0 =>
      rw [he] at hlk
      have HE := Lib.hid he
      obtain ⟨hem, hes⟩ := findE_some he
      obtain ⟨b0, eb0⟩ : ∃ b0, e0.b = b0 := ⟨_, rfl⟩
      obtain ⟨ar, ear⟩ : ∃ ar, e0.ar = ar := ⟨_, rfl⟩
      obtain ⟨LL, eLL⟩ : ∃ LL, e0.LL = LL := ⟨_, rfl⟩
      have hlk' : (Instr.lookup 137 (.map (some r)) (.string s) false).run Tryz.prog w = .ok (.pointer (some ⟨b0, 0, none⟩)) w := by rw [← eb0]; exact hlk
      have hra := H.out.rows e0 hem
      have d2 : w.cell? ⟨b0, 2, none⟩ = some (.int .i64 ar) := by rw [← eb0, hra.blk.cell', ear]; rfl
      have HEM := Lib.hid (And.intro hem (And.intro eb0 (And.intro ear eLL)))
      have hoff : RowOff (ao, k, cap) (Owns e0.b e0.iv) := fun a e hne hown => HX.out.2 a e hne (.inr (.inr ⟨e0, hem, hown⟩))
      have HOff := Lib.hid hoff
      have HHas := Lib.hid (fun w1 (hw : Ext w w1) => rowsHas_any ((H.out.rows e0 hem).ext hw) (H.out.strict hem) (x := (ao, k, cap)) (ss := ss) ⟨⟨HKN.out, HX.out.1.1.2.ext hw⟩, HX.out.1.2.1, fun a e hne => Nat.lt_of_lt_of_le (HX.out.1.2.2 a e hne) hw.size⟩ hoff)
      have HA := Lib.hid (fun w1 (hw : Ext w w1) => rowsAdd_any ((H.out.rows e0 hem).ext hw) (H.out.strict hem) (ao := ao) (n := k) (cap := cap) (ss := ss) ⟨⟨HKN.out, HX.out.1.1.2.ext hw⟩, HX.out.1.2.1, fun a e hne => Nat.lt_of_lt_of_le (HX.out.1.2.2 a e hne) hw.size⟩ hoff (by have := H.out.few hem; omega))
      clear he hem hes hra hoff hlk
      rw [HEM.out.2.1, HEM.out.2.2.2] at HHas
      rw [HEM.out.2.1, HEM.out.2.2.1, HEM.out.2.2.2] at HA
      clear eb0 ear eLL
      by_cases ha : ar = k
      · have HAr := Lib.hid ha
        have q1 : ((ar : Int) != (k : Int)) = false := by simp [ha]
        clear ha
        have hnil : Ext w w := Kp.refl w
        cases ht : textsC ss with
        | false =>
          rw [ht] at HT
          have HTX := Lib.hid ht
          clear ht
          go_enter Tryz.func57, Tryz.ntmps57
          go_wp2_with fail
          refine HN.out.mono ?_
          rintro e w' ⟨rfl, rfl⟩
          go_wp2_with fail
          refine (HT.out w hnil).mono ?_
          rintro e w2 ⟨v, rfl, hk2, rfl⟩
          have HK2 := Lib.hid hk2
          clear hk2
          go_wp2
          go_ret2
          exact RetF.mk (Ext.kp HK2.out) (BaseAdded.same H.out HK2.out (addR_text HNM.out (ar_some (findE_rows HE.out).1 (by rw [HEM.out.2.2.1, HAr.out]; exact HKN.out)) HTX.out) (by decide) rfl)
        | true =>
          rw [ht] at HT
          have HTX := Lib.hid ht
          clear ht
          have hR0 : rowsAddR ar LL ss = if 65536 ≤ LL.length ∧ isIn cmpRow LL ss = false then (false, 4) else (!isIn cmpRow LL ss, 0) := by
            unfold rowsAddR
            rw [if_neg (by rw [HAr.out, HKN.out]; simp), if_neg (by rw [HTX.out]; simp)]
          have HR0 := Lib.hid hR0
          clear hR0
          by_cases hm : 262144 ≤ n
          · have q2 : decide ((262144 : Int) ≤ (n : Int)) = true := by rw [decide_eq_true_iff]; omega
            have HM := Lib.hid hm
            clear hm
            cases hi : isIn cmpRow LL ss with
            | false =>
              have HI := Lib.hid hi
              rw [hi] at HHas
              clear hi
              go_enter Tryz.func57, Tryz.ntmps57
              go_wp2_with fail
              refine HN.out.mono ?_
              rintro e w' ⟨rfl, rfl⟩
              go_wp2_with fail
              refine (HT.out w hnil).mono ?_
              rintro e w2 ⟨v, rfl, hk2, rfl⟩
              have HK2 := Lib.hid hk2
              have c1' := HC1.out w2 hk2
              clear hk2
              go_wp2_with fail
              refine (HHas.out w2 HK2.out).mono ?_
              rintro e w3 ⟨v, rfl, hk3, rfl⟩
              have HK3 := Lib.hid (HK2.out.trans hk3)
              clear hk3 c1'
              go_wp2
              go_ret2
              exact RetF.mk (Ext.kp HK3.out) (BaseAdded.same H.out HK3.out (addR_many HNM.out (ar_some (findE_rows HE.out).1 (by rw [HEM.out.2.2.1, HAr.out]; exact HKN.out)) HTX.out (by rw [EN.out]; exact HM.out) (by rw [(findE_rows HE.out).2, HEM.out.2.2.2]; exact HI.out)) (by decide) rfl)
            | true =>
              have HI0 := Lib.hid hi
              rw [hi] at HHas
              clear hi
              have HF := Lib.hid (show (namedC s = true ∧ e0.ar = ss.length ∧ textsC ss = true ∧ e0.LL = LL ∧ ¬ (262144 ≤ totalC (cntE E) ∧ isIn cmpRow LL ss = false)) ∧ True from ⟨⟨HNM.out, by rw [HEM.out.2.2.1, HAr.out]; exact HKN.out, HTX.out, HEM.out.2.2.2, fun q => by rw [HI0.out] at q; cases q.2⟩, trivial⟩)
              go_enter Tryz.func57, Tryz.ntmps57
              go_wp2_with fail
              refine HN.out.mono ?_
              rintro e w' ⟨rfl, rfl⟩
              go_wp2_with fail
              refine (HT.out w hnil).mono ?_
              rintro e w2 ⟨v, rfl, hk2, rfl⟩
              have HK2 := Lib.hid hk2
              have c1' := HC1.out w2 hk2
              clear hk2
              go_wp2_with fail
              refine (HHas.out w2 HK2.out).mono ?_
              rintro e w2b ⟨v, rfl, hk3, rfl⟩
              have HK2b := Lib.hid (HK2.out.trans hk3)
              clear hk3 c1'
              go_wp2_with fail
              refine (HA.out w2b HK2b.out).mono ?_
              rintro e w3 ⟨v, rfl, hk3, hv, S', iv', hss, hsn, hrows3, hiv⟩
              rw [← HEM.out.2.1] at hk3 hrows3
              rw [← HEM.out.2.2.1] at hrows3
              have HX3 := Lib.hid (And.intro hk3 (And.intro hss (And.intro hsn (And.intro hrows3 hiv))))
              rw [HR0.out] at hv
              subst hv
              clear hk3 hss hsn hrows3 hiv
              by_cases h4 : 65536 ≤ LL.length ∧ isIn cmpRow LL ss = false
              · have e4 : (if 65536 ≤ LL.length ∧ isIn cmpRow LL ss = false then (false, 4) else (!isIn cmpRow LL ss, 0)) = (false, 4) := if_pos h4
                have H4 := Lib.hid (And.intro h4 e4)
                rw [e4]
                clear h4 e4
                go_wp2
                go_ret2
                exact baseAdd_full H.out HE.out HF.out.1 HK2b.out HX3.out.1 HX3.out.2.1 HX3.out.2.2.1 HX3.out.2.2.2.1 HX3.out.2.2.2.2 (by rw [HEM.out.2.2.1]; exact HR0.out) H4.out.1
              · have e4 : (if 65536 ≤ LL.length ∧ isIn cmpRow LL ss = false then (false, 4) else (!isIn cmpRow LL ss, 0)) = (!isIn cmpRow LL ss, 0) := if_neg h4
                have H4 := Lib.hid (And.intro h4 e4)
                rw [e4]
                clear h4 e4
                have hm3 := baseMap_own H.out HE.out HK2b.out HX3.out.1
                have hb3 := baseBlk_own H.out HE.out HK2b.out HX3.out.1
                have HB3 := Lib.hid (And.intro hb3 hm3)
                have c31 : w3.cell? ⟨bb, 1, none⟩ = some (.int .i64 n) := by rw [HB3.out.1.cell', EN.out]; rfl
                clear hm3 hb3 c31
                cases hi : isIn cmpRow LL ss with
                | true =>
                  have HI := Lib.hid hi
                  clear hi
                  go_wp2_with fail
                  refine (basePut_any HB3.out.1 HB3.out.2 s (some ⟨b0, 0, none⟩)).mono ?_
                  rintro e w4 ⟨v, rfl, hk4, hm4⟩
                  rw [← HEM.out.2.1] at hm4
                  have HM4 := Lib.hid (And.intro hk4 hm4)
                  clear hk4 hm4
                  go_wp2
                  go_ret2
                  exact baseAdd_had H.out HE.out HF.out.1 HK2b.out HX3.out.1 HX3.out.2.1 HX3.out.2.2.1 HX3.out.2.2.2.1 HX3.out.2.2.2.2 (by rw [HEM.out.2.2.1]; exact HR0.out) HI.out HM4.out.1 HM4.out.2
                | false =>
                  have HI := Lib.hid hi
                  clear hi
                  go_wp2_with fail
                  refine (basePut_any HB3.out.1 HB3.out.2 s (some ⟨b0, 0, none⟩)).mono ?_
                  rintro e w4 ⟨v, rfl, hk4, hm4⟩
                  rw [← HEM.out.2.1] at hm4
                  have HM4 := Lib.hid (And.intro hk4 hm4)
                  have hb4 : Blk w4 bb [.map (some r), .int .i64 (totalC (cntE E) : Nat)] 140 := HB3.out.1.kp hk4 H.out.ne
                  have c4 : w4.cell? ⟨bb, 1, none⟩ = some (.int .i64 n) := by rw [hb4.cell', EN.out]; rfl
                  have f4 := hb4.free 1
                  clear hk4 hm4 hb4
                  go_wp2
                  go_ret2
                  exact baseAdd_got H.out HE.out HF.out.1 HK2b.out HX3.out.1 HX3.out.2.1 HX3.out.2.2.1 HX3.out.2.2.2.1 HX3.out.2.2.2.2 (by rw [HEM.out.2.2.1]; exact HR0.out) HI.out H4.out.1 HM4.out.1 HM4.out.2 EN.out
          · have q2 : decide ((262144 : Int) ≤ (n : Int)) = false := by rw [decide_eq_false_iff_not]; omega
            have HM := Lib.hid hm
            clear hm
            have HF := Lib.hid (show (namedC s = true ∧ e0.ar = ss.length ∧ textsC ss = true ∧ e0.LL = LL ∧ ¬ (262144 ≤ totalC (cntE E) ∧ isIn cmpRow LL ss = false)) ∧ True from ⟨⟨HNM.out, by rw [HEM.out.2.2.1, HAr.out]; exact HKN.out, HTX.out, HEM.out.2.2.2, fun q => HM.out (by rw [← EN.out]; exact q.1)⟩, trivial⟩)
            go_enter Tryz.func57, Tryz.ntmps57
            go_wp2_with fail
            refine HN.out.mono ?_
            rintro e w' ⟨rfl, rfl⟩
            go_wp2_with fail
            refine (HT.out w hnil).mono ?_
            rintro e w2 ⟨v, rfl, hk2, rfl⟩
            have HK2 := Lib.hid hk2
            have c1' := HC1.out w2 hk2
            clear hk2
            go_wp2_with fail
            refine (HA.out w2 HK2.out).mono ?_
            rintro e w3 ⟨v, rfl, hk3, hv, S', iv', hss, hsn, hrows3, hiv⟩
            rw [← HEM.out.2.1] at hk3 hrows3
            rw [← HEM.out.2.2.1] at hrows3
            have HX3 := Lib.hid (And.intro hk3 (And.intro hss (And.intro hsn (And.intro hrows3 hiv))))
            rw [HR0.out] at hv
            subst hv
            clear hk3 hss hsn hrows3 hiv
            by_cases h4 : 65536 ≤ LL.length ∧ isIn cmpRow LL ss = false
            · have e4 : (if 65536 ≤ LL.length ∧ isIn cmpRow LL ss = false then (false, 4) else (!isIn cmpRow LL ss, 0)) = (false, 4) := if_pos h4
              have H4 := Lib.hid (And.intro h4 e4)
              rw [e4]
              clear h4 e4
              go_wp2
              go_ret2
              exact baseAdd_full H.out HE.out HF.out.1 HK2.out HX3.out.1 HX3.out.2.1 HX3.out.2.2.1 HX3.out.2.2.2.1 HX3.out.2.2.2.2 (by rw [HEM.out.2.2.1]; exact HR0.out) H4.out.1
            · have e4 : (if 65536 ≤ LL.length ∧ isIn cmpRow LL ss = false then (false, 4) else (!isIn cmpRow LL ss, 0)) = (!isIn cmpRow LL ss, 0) := if_neg h4
              have H4 := Lib.hid (And.intro h4 e4)
              rw [e4]
              clear h4 e4
              have hm3 := baseMap_own H.out HE.out HK2.out HX3.out.1
              have hb3 := baseBlk_own H.out HE.out HK2.out HX3.out.1
              have HB3 := Lib.hid (And.intro hb3 hm3)
              have c31 : w3.cell? ⟨bb, 1, none⟩ = some (.int .i64 n) := by rw [HB3.out.1.cell', EN.out]; rfl
              clear hm3 hb3 c31
              cases hi : isIn cmpRow LL ss with
              | true =>
                have HI := Lib.hid hi
                clear hi
                go_wp2_with fail
                refine (basePut_any HB3.out.1 HB3.out.2 s (some ⟨b0, 0, none⟩)).mono ?_
                rintro e w4 ⟨v, rfl, hk4, hm4⟩
                rw [← HEM.out.2.1] at hm4
                have HM4 := Lib.hid (And.intro hk4 hm4)
                clear hk4 hm4
                go_wp2
                go_ret2
                exact baseAdd_had H.out HE.out HF.out.1 HK2.out HX3.out.1 HX3.out.2.1 HX3.out.2.2.1 HX3.out.2.2.2.1 HX3.out.2.2.2.2 (by rw [HEM.out.2.2.1]; exact HR0.out) HI.out HM4.out.1 HM4.out.2
              | false =>
                have HI := Lib.hid hi
                clear hi
                go_wp2_with fail
                refine (basePut_any HB3.out.1 HB3.out.2 s (some ⟨b0, 0, none⟩)).mono ?_
                rintro e w4 ⟨v, rfl, hk4, hm4⟩
                rw [← HEM.out.2.1] at hm4
                have HM4 := Lib.hid (And.intro hk4 hm4)
                have hb4 : Blk w4 bb [.map (some r), .int .i64 (totalC (cntE E) : Nat)] 140 := HB3.out.1.kp hk4 H.out.ne
                have c4 : w4.cell? ⟨bb, 1, none⟩ = some (.int .i64 n) := by rw [hb4.cell', EN.out]; rfl
                have f4 := hb4.free 1
                clear hk4 hm4 hb4
                go_wp2
                go_ret2
                exact baseAdd_got H.out HE.out HF.out.1 HK2.out HX3.out.1 HX3.out.2.1 HX3.out.2.2.1 HX3.out.2.2.2.1 HX3.out.2.2.2.2 (by rw [HEM.out.2.2.1]; exact HR0.out) HI.out H4.out.1 HM4.out.1 HM4.out.2 EN.out
      · have HAr := Lib.hid ha
        have q1 : ((ar : Int) != (k : Int)) = true := by rw [bne_iff_ne]; omega
        clear ha
        go_enter Tryz.func57, Tryz.ntmps57
        go_wp2_with fail
        refine HN.out.mono ?_
        rintro e w' ⟨rfl, rfl⟩
        go_wp2
        go_ret2
        exact RetF.mk (Kp.refl _) (BaseAdded.same H.out (Kp.refl _) (addR_arity HNM.out (findE_rows HE.out).1 (by show e0.ar ≠ ss.length; rw [HEM.out.2.2.1, ← HKN.out]; exact HAr.out)) (by decide) rfl)
end Go.Proofs.YtomeebimmmfmbaaGreat

/- tuple.Base: Declare, at every base. -/
namespace Go.Proofs.YtomeebimmmfmbaaGreat
open Go.RowKit
set_option linter.unusedVariables false
section
variable {S S' : Nat → Prop} {w w1 w2 w3 w4 : World} {bb r : Nat} {E : List Ent} {s : ByteArray} {e : Ent}
def BaseDecled (S : Nat → Prop) (w : World) (bb r : Nat) (E : List Ent) (s : ByteArray) (a : Int) (w' : World) (v : Value) : Prop :=
  v = .int .i64 ((declR (cntE E) s a : Nat) : Int) ∧ ∃ E', BaseAt S w' bb r E' ∧ cntE E' = declC (cntE E) s a ∧ ∀ k, OwnB bb r E' k → OwnB bb r E k ∨ w.heap.size ≤ k
theorem BaseDecled.same {a : Int} (h : BaseAt S w bb r E) (hk : Ext w w1) {n : Nat} (hR : declR (cntE E) s a = n) (hn : declC (cntE E) s a = cntE E) {v : Value} (hv : v = .int .i64 (n : Nat)) : BaseDecled S w bb r E s a w1 v :=
  ⟨by rw [hv, hR], E, h.ext hk, hn.symm, fun _ h => .inl h⟩
theorem declR_name {C : List CntZ} (a : Int) (h : namedC s = false) : declR C s a = 32 := if_pos h
theorem declR_bad {C : List CntZ} {a : Int} (h : namedC s = true) (ha : a < 0 ∨ 64 < a) : declR C s a = 2 := by
  unfold declR
  rw [if_neg (by rw [h]; simp), if_pos ha]
theorem declR_none {C : List CntZ} {a : Int} (h : namedC s = true) (ha : ¬ (a < 0 ∨ 64 < a)) (hg : getC C s = none) : declR C s a = 0 := by
  unfold declR
  rw [if_neg (by rw [h]; simp), if_neg ha, hg]
theorem declR_some {C : List CntZ} {a : Int} {v : Nat × Rows2} (h : namedC s = true) (ha : ¬ (a < 0 ∨ 64 < a)) (hg : getC C s = some v) : declR C s a = if (v.1 : Int) = a then 0 else 30 := by
  unfold declR
  rw [if_neg (by rw [h]; simp), if_neg ha, hg]
theorem declC_not {C : List CntZ} {a : Int} (h : declR C s a ≠ 0) : declC C s a = C := if_neg fun k => h k.1
theorem declC_some {C : List CntZ} {a : Int} {v : Nat × Rows2} (hg : getC C s = some v) : declC C s a = C := if_neg fun k => by rw [hg] at k; cases k.2
theorem baseDecl_new {k b : Nat} (h : BaseAt S w bb r E) (he : findE E s = none) (hn : namedC s = true) (hk : k ≤ 64) (hx : Ext w w3) (hr : RowsAt S w3 b (.slice none 0 0) k []) (hb : w.heap.size ≤ b)
    (hk4 : Kp (fun k => k = r) w3 w4) (hm4 : MapIs w4 r (putM (entM E) s (.pointer (some ⟨b, 0, none⟩)))) : RetF (OwnB bb r E) w (BaseDecled S w bb r E s (k : Int)) (.returned (.int .i64 0)) w4 := by
  obtain ⟨g1, g2⟩ := findE_none he
  have hR : declR (cntE E) s (k : Int) = 0 := declR_none hn (by omega) g1
  have hC : declC (cntE E) s (k : Int) = cntE (E ++ [{ name := s, b := b, iv := .slice none 0 0, ar := k, LL := [] }]) := by
    unfold declC
    rw [if_pos ⟨hR, g1⟩]
    simp [cntE, Ent.cnt]
  rw [entM_push he b (.slice none 0 0) k []] at hm4
  have ho : ∀ q, Owns b (.slice none 0 0) q → w.heap.size ≤ q := fun q ho => by
    rcases ho with rfl | ho
    · exact hb
    · cases ho
  have htot : totalC (cntE E) = totalC (cntE (E ++ [{ name := s, b := b, iv := .slice none 0 0, ar := k, LL := [] }])) := by simp [totalC, cntE, Ent.cnt]
  refine RetF.mk ((Ext.kp hx).trans (hk4.mono fun k _ ho => .inr (.inl ho))) ⟨by rw [hR]; rfl, E ++ [{ name := s, b := b, iv := .slice none 0 0, ar := k, LL := [] }], ?_, hC.symm, ?_⟩
  · exact h.push (e := { name := s, b := b, iv := .slice none 0 0, ar := k, LL := [] }) hx (fun _ x => x) (fun _ x => .inl x) hr ho (hk4.mono fun k _ ho => .inr ho) ((h.blk.ext hx).kp hk4 h.ne) hm4 htot (by rw [← hC]; exact ok_decl h.ok s _)
  · rintro q (h1 | h1 | ⟨f, hf, ho2⟩)
    · exact .inl (.inl h1)
    · exact .inl (.inr (.inl h1))
    · rcases List.mem_append.1 hf with hf | hf
      · exact .inl (.inr (.inr ⟨f, hf, ho2⟩))
      · obtain rfl := List.mem_singleton.1 hf
        exact .inr (ho q ho2)
set_option maxRecDepth 100000 in
set_option maxHeartbeats 4000000 in
theorem baseDecl_any (h : BaseAt S w bb r E) (s : ByteArray) (a : Int) :
    Calls Tryz.prog 56 #[.pointer (some ⟨bb, 0, none⟩), .string s, .int .i64 a] w (RetF (OwnB bb r E) w (BaseDecled S w bb r E s a)) := by
  have c0 : w.cell? ⟨bb, 0, none⟩ = some (.map (some r)) := by rw [h.blk.cell']; rfl
  have hnm := named_any s w
  rw [show decide (1 ≤ s.size ∧ s.size ≤ 4096) = namedC s from rfl] at hnm
  have HN := Lib.hid hnm; clear hnm
  have H := Lib.hid h
  have HLk := Lib.hid (fun w1 (hw : Ext w w1) => run_lookup_str (P := Tryz.prog) Tryz.underlying137 Tryz.underlying9 (z := .pointer none) (by kernel_rfl) (h.map.ext hw) s)
  rw [entM_get] at HLk
  clear h
  cases hn : namedC s with
  | false =>
    rw [hn] at HN
    have HNM := Lib.hid hn
    clear hn c0
    go_enter Tryz.func56, Tryz.ntmps56
    go_wp2_with fail
    refine HN.out.mono ?_
    rintro e w' ⟨rfl, rfl⟩
    go_wp2
    go_ret
    exact RetF.mk (Kp.refl _) (BaseDecled.same H.out (Kp.refl _) (declR_name a HNM.out) (declC_not (by rw [declR_name a HNM.out]; decide)) rfl)
  | true =>
    rw [hn] at HN
    have HNM := Lib.hid hn
    clear hn
    by_cases ha : a < 0 ∨ 64 < a
    · have HNB := Lib.hid (newRows_bad a w ha)
      have HAB := Lib.hid ha
      obtain ⟨p, hp⟩ : ∃ p : Option Addr, ((findE E s).map Ent.ptr).getD (.pointer none) = .pointer p := by
        cases findE E s with
        | none => exact ⟨none, rfl⟩
        | some e => exact ⟨some ⟨e.b, 0, none⟩, rfl⟩
      have hlk := HLk.out w (Kp.refl w)
      rw [hp] at hlk
      clear ha hp
      go_enter Tryz.func56, Tryz.ntmps56
      go_wp2_with fail
      refine HN.out.mono ?_
      rintro e w' ⟨rfl, rfl⟩
      go_wp2_with fail
      refine HNB.out.mono ?_
      rintro e w' ⟨rfl, rfl⟩
      go_wp2
      go_ret
      have e2 := declR_bad (s := s) (C := cntE E) HNM.out HAB.out
      exact RetF.mk (Kp.refl _) (BaseDecled.same H.out (Kp.refl _) e2 (declC_not (by rw [e2]; decide)) rfl)
    · obtain ⟨k, rfl⟩ := Int.eq_ofNat_of_zero_le (show 0 ≤ a by omega)
      have hk64 : k ≤ 64 := by omega
      have HNR := Lib.hid (newRows_any S w k hk64 H.out.inS)
      have HAN := Lib.hid ha
      clear ha
      cases he : findE E s with
      | none =>
        rw [he] at HLk
        have HE := Lib.hid he
        clear he
        go_enter Tryz.func56, Tryz.ntmps56
        go_wp2_with fail
        refine HN.out.mono ?_
        rintro e w' ⟨rfl, rfl⟩
        go_wp2_with fail
        refine HNR.out.mono ?_
        rintro e w1 ⟨v, rfl, hk1, rfl, hrows⟩
        have hlk : (Instr.lookup 137 (.map (some r)) (.string s) false).run Tryz.prog w1 = .ok (.pointer none) w1 := HLk.out w1 hk1
        have c1 := hk1.cell c0 id
        have HK1 := Lib.hid (And.intro hk1 hrows)
        clear hk1 hrows
        go_wp2_with fail
        refine (basePut_any (H.out.blk.ext HK1.out.1) (H.out.map.ext HK1.out.1) s (some ⟨w.heap.size, 0, none⟩)).mono ?_
        rintro e w4 ⟨v, rfl, hk4, hm4⟩
        have HM4 := Lib.hid (And.intro hk4 hm4)
        clear hk4 hm4
        go_wp2
        go_ret
        exact baseDecl_new H.out HE.out HNM.out hk64 HK1.out.1 HK1.out.2 (Nat.le_refl _) HM4.out.1 HM4.out.2
      | some e0 =>
        rw [he] at HLk
        have HE := Lib.hid he
        obtain ⟨hem, hes⟩ := findE_some he
        obtain ⟨b0, eb0⟩ : ∃ b0, e0.b = b0 := ⟨_, rfl⟩
        obtain ⟨ar, ear⟩ : ∃ ar, e0.ar = ar := ⟨_, rfl⟩
        have d2 : w.cell? ⟨b0, 2, none⟩ = some (.int .i64 ar) := by rw [← eb0, (H.out.rows e0 hem).blk.cell', ear]; rfl
        have HEM := Lib.hid (And.intro eb0 ear)
        have hg : getC (cntE E) s = some (ar, e0.LL) := by rw [← ear]; exact (findE_rows he).1
        have hR := declR_some (C := cntE E) HNM.out HAN.out hg
        have HR := Lib.hid (And.intro hR (declC_some (C := cntE E) (a := (k : Int)) hg))
        clear he hem hes eb0 ear hg hR
        by_cases hq : ar = k
        · have q1 : ((ar : Int) != (k : Int)) = false := by simp [hq]
          have HQ := Lib.hid hq
          clear hq
          go_enter Tryz.func56, Tryz.ntmps56
          go_wp2_with fail
          refine HN.out.mono ?_
          rintro e w' ⟨rfl, rfl⟩
          go_wp2_with fail
          refine HNR.out.mono ?_
          rintro e w1 ⟨v, rfl, hk1, rfl, hrows⟩
          have hlk : (Instr.lookup 137 (.map (some r)) (.string s) false).run Tryz.prog w1 = .ok (.pointer (some ⟨b0, 0, none⟩)) w1 := by rw [← HEM.out.1]; exact HLk.out w1 hk1
          have c1 := hk1.cell c0 id
          have d21 := hk1.cell d2 id
          have HK1 := Lib.hid hk1
          clear hk1 hrows
          go_wp2
          go_ret
          exact RetF.mk (Ext.kp HK1.out) (BaseDecled.same H.out HK1.out (by rw [HR.out.1, if_pos (by rw [HQ.out])]) HR.out.2 rfl)
        · have q1 : ((ar : Int) != (k : Int)) = true := by rw [bne_iff_ne]; omega
          have HQ := Lib.hid hq
          clear hq
          go_enter Tryz.func56, Tryz.ntmps56
          go_wp2_with fail
          refine HN.out.mono ?_
          rintro e w' ⟨rfl, rfl⟩
          go_wp2_with fail
          refine HNR.out.mono ?_
          rintro e w1 ⟨v, rfl, hk1, rfl, hrows⟩
          have hlk : (Instr.lookup 137 (.map (some r)) (.string s) false).run Tryz.prog w1 = .ok (.pointer (some ⟨b0, 0, none⟩)) w1 := by rw [← HEM.out.1]; exact HLk.out w1 hk1
          have c1 := hk1.cell c0 id
          have d21 := hk1.cell d2 id
          have HK1 := Lib.hid hk1
          clear hk1 hrows
          go_wp2
          go_ret
          exact RetF.mk (Ext.kp HK1.out) (BaseDecled.same H.out HK1.out (by rw [HR.out.1, if_neg (fun q => HQ.out (by omega))]) HR.out.2 rfl)
end
end Go.Proofs.YtomeebimmmfmbaaGreat

/- tuple.Base: FromRelations. -/
namespace Go.Proofs.YtomeebimmmfmbaaGreat
open Go.RowKit
set_option linter.unusedVariables false
def RelsIn (S : Nat → Prop) (w : World) (ao : Option Addr) (L : List RelZ) : Prop := ∀ (i : Nat) (q : RelZ), L[i]? = some q → ∃ b off ra rcap, ao = some ⟨b, off, none⟩ ∧ S b ∧ w.cell? ⟨b, off + i * 3, none⟩ = some (.string q.1) ∧ w.cell? ⟨b, off + i * 3 + 1, none⟩ = some (.int .i64 q.2.1) ∧ w.cell? ⟨b, off + i * 3 + 2, none⟩ = some (.slice ra q.2.2.1.length rcap) ∧ q.2.2.1.length ≤ rcap ∧ rcap ≤ maxLen ∧ RowsIn S w ra q.2.2.1
section
variable {S S' : Nat → Prop} {w w' : World} {ao : Option Addr} {L : List RelZ}
theorem RelsIn.kp {F : Nat → Prop} (h : RelsIn S w ao L) (hk : Kp F w w') (hF : ∀ k, F k → ¬ S k) : RelsIn S w' ao L := fun i q hq => by
  obtain ⟨b, off, ra, rcap, e, hb, c0, c1, c2, h1, h2, h3⟩ := h i q hq
  exact ⟨b, off, ra, rcap, e, hb, hk.cell c0 (fun f => hF _ f hb), hk.cell c1 (fun f => hF _ f hb), hk.cell c2 (fun f => hF _ f hb), h1, h2, h3.kp hk hF⟩
theorem RelsIn.ext (h : RelsIn S w ao L) (hk : Ext w w') : RelsIn S w' ao L := h.kp hk fun _ x => x.elim
end
theorem from_bad {C : List CntZ} {q : RelZ} {L : List RelZ} (h : declR C q.1 q.2.1 ≠ 0) : fromC C (q :: L) = (C, declR C q.1 q.2.1) := if_neg h
theorem from_err {C : List CntZ} {q : RelZ} {L : List RelZ} (h : declR C q.1 q.2.1 = 0) (h2 : (addAll (declC C q.1 q.2.1) q.1 q.2.2.1).2 ≠ 0) : fromC C (q :: L) = addAll (declC C q.1 q.2.1) q.1 q.2.2.1 := by
  show (if declR C q.1 q.2.1 = 0 then _ else _) = _
  rw [if_pos h, if_neg h2]
theorem from_go {C : List CntZ} {q : RelZ} {L : List RelZ} (h : declR C q.1 q.2.1 = 0) (h2 : (addAll (declC C q.1 q.2.1) q.1 q.2.2.1).2 = 0) : fromC C (q :: L) = fromC (addAll (declC C q.1 q.2.1) q.1 q.2.2.1).1 L := by
  show (if declR C q.1 q.2.1 = 0 then _ else _) = _
  rw [if_pos h, if_pos h2]
theorem addAll_go {C : List CntZ} {s : ByteArray} {x : List ByteArray} {rs : Rows2} (h : (addR C s x).2 = 0) : addAll C s (x :: rs) = addAll (addC C s x) s rs := if_pos h
theorem addAll_bad {C : List CntZ} {s : ByteArray} {x : List ByteArray} {rs : Rows2} (h : (addR C s x).2 ≠ 0) : addAll C s (x :: rs) = (C, (addR C s x).2) := if_neg h
def FromV (w : World) (L : List RelZ) (w' : World) (v : Value) : Prop :=
  ((fromC [] L).2 = 0 → ∃ bb r S E, v = .tuple #[.pointer (some ⟨bb, 0, none⟩), .int .i64 0] ∧ BaseAt S w' bb r E ∧ cntE E = (fromC [] L).1 ∧ (∀ k, S k → w.heap.size ≤ k) ∧ ∀ k, OwnB bb r E k → w.heap.size ≤ k) ∧
  ((fromC [] L).2 ≠ 0 → v = .tuple #[.pointer none, .int .i64 (((fromC [] L).2 : Nat) : Int)])
structure MyBase (w0 : World) (S : Nat → Prop) (w : World) (bb r : Nat) (E : List Ent) : Prop where
  base : BaseAt S w bb r E
  ext : Ext w0 w
  pool : ∀ k, S k → w0.heap.size ≤ k
  own : ∀ k, OwnB bb r E k → w0.heap.size ≤ k
def FromTo (w0 : World) (bb r : Nat) (L : List RelZ) (n : Nat) (iv : Value) (w : World) : Prop := ∃ i : Nat, i ≤ n ∧ iv = .int .i64 i ∧ Hid (∃ S E, MyBase w0 S w bb r E ∧ fromC (cntE E) (L.drop i) = fromC [] L)
def FromIn (w0 : World) (bb r : Nat) (q : RelZ) (R : List CntZ × Nat) (g : Nat) (cs : List Value) (m : Nat) (jv : Value) (w : World) : Prop := ∃ j : Nat, j ≤ m ∧ jv = .int .i64 j ∧ Hid (∃ S E, MyBase w0 S w bb r E ∧ addAll (cntE E) q.1 (q.2.2.1.drop j) = R ∧ Blk w g cs 71 ∧ ¬ OwnB bb r E g)
theorem drop_at {α : Type} {xs : List α} {i : Nat} {x : α} (h : xs[i]? = some x) : xs.drop i = x :: xs.drop (i + 1) := by
  obtain ⟨hi, e⟩ := List.getElem?_eq_some_iff.1 h
  rw [List.drop_eq_getElem_cons hi, e]
theorem cells_lt {w : World} {xa : Option Addr} {ss : List ByteArray} (h : CellsAt w xa (strs ss)) (hne : ss ≠ []) : ∀ a, xa = some a → a.block < w.heap.size := fun a e => by
  cases ss with
  | nil => exact absurd rfl hne
  | cons s ss =>
    obtain ⟨b, off, e1, hc⟩ := h 0 (.string s) rfl
    rw [e] at e1; cases e1
    exact World.block_lt_of_cell? _ _ hc
set_option maxRecDepth 100000 in
set_option maxHeartbeats 4000000 in
theorem from_any (L : List RelZ) (ao : Option Addr) (n cap : Nat) (w : World) (S0 : Nat → Prop) (hn : n = L.length) (hL : RelsIn S0 w ao L) (hl : n ≤ 4194304) (hr : ∀ q ∈ L, q.2.2.1.length ≤ 1048576) :
    Calls Tryz.prog 23 #[.slice ao n cap] w (RetN w (FromV w L)) := by
  have HN := Lib.hid hn
  have HL := Lib.hid hL
  have HR := Lib.hid hr
  clear hn hL hr
  go_enter Tryz.func23, Tryz.ntmps23
  go_wp2_with fail
  refine (newBase_any w).mono ?_
  rintro e w1 ⟨v, rfl, hk1, rfl, hB, hm⟩
  obtain ⟨bb, ebb⟩ : ∃ bb, w.heap.size + 1 = bb := ⟨_, rfl⟩
  rw [ebb] at hB ⊢
  obtain ⟨r, er⟩ : ∃ r, w.heap.size = r := ⟨_, rfl⟩
  rw [er] at hB hm
  have HM0 := Lib.hid (show MyBase w (fun _ => False) w1 bb r [] from
    { base := BaseAt.new (fun _ => False) (fun _ x => x.elim) hk1 (by omega) (by omega) (by omega) hB hm
      ext := hk1, pool := fun _ x => x.elim
      own := fun k hk => by
        rcases hk with rfl | rfl | ⟨e, he, _⟩
        · omega
        · omega
        · simp at he })
  clear hB hm hk1 ebb er
  go_wp2
  go_loopw [15] (fun iv wr => FromTo w bb r L n iv wr) (fun iv _ => n - (intOf iv).toNat)
  case atStart => exact ⟨0, Nat.zero_le _, rfl, _, [], HM0.out, rfl⟩
  case round =>
    clear HM0
    obtain ⟨i, hi, rfl, hin⟩ := hrel
    obtain ⟨S, E, hM, hF⟩ := hin.out
    have HM := Lib.hid hM
    have HF := Lib.hid hF
    clear hin hM hF
    by_cases hlt : i < n
    · obtain ⟨q, hq⟩ : ∃ q, L[i]? = some q := ⟨_, List.getElem?_eq_getElem (by rw [← HN.out]; exact hlt)⟩
      obtain ⟨b, off, ra, rcap, eao, hSb, c0, c1, c2, hrl, hrm, hrows⟩ := HL.out i q hq
      subst eao
      replace c0 := HM.out.ext.cell c0 id
      replace c1 := HM.out.ext.cell c1 id
      replace c2 := HM.out.ext.cell c2 id
      obtain ⟨s, es⟩ : ∃ s, q.1 = s := ⟨_, rfl⟩
      obtain ⟨a, ea⟩ : ∃ a, q.2.1 = a := ⟨_, rfl⟩
      obtain ⟨m, em⟩ : ∃ m, q.2.2.1.length = m := ⟨_, rfl⟩
      rw [es] at c0
      rw [ea] at c1
      rw [em] at c2 hrl
      have hm1 : m ≤ 1048576 := by rw [← em]; exact HR.out q (List.mem_of_getElem? hq)
      have HQ := Lib.hid (And.intro hq (And.intro es (And.intro ea em)))
      have HRows := Lib.hid hrows
      clear hq es ea em hrows hSb
      obtain ⟨gx, egx⟩ : ∃ g, wr.heap.size = g := ⟨_, rfl⟩
      obtain ⟨wx, ewx⟩ : ∃ wx, wr.alloc (.cells #[.string s, .int .i64 a, .slice ra m rcap] 71) = wx := ⟨_, rfl⟩
      have HBx := Lib.hid (show Blk wx gx [.string s, .int .i64 a, .slice ra m rcap] 71 by rw [← ewx, ← egx]; exact Blk.new wr _ _)
      have HXx := Lib.hid (show Ext wr wx by rw [← ewx]; exact (Kp.refl wr).alloc _)
      have HGx := Lib.hid (show ∀ k, OwnB bb r E k → k < gx from fun k hk => by rw [← egx]; exact HM.out.base.ownLt k hk)
      have EGX := Lib.hid egx
      have x0 : wx.cell? ⟨wr.heap.size, 0, none⟩ = some (.string s) := by rw [egx, HBx.out.cell']; rfl
      have x1 : wx.cell? ⟨wr.heap.size, 1, none⟩ = some (.int .i64 a) := by rw [egx, HBx.out.cell']; rfl
      clear egx
      go_wp2_with fail
      rw [EGX.out]
      refine (baseDecl_any (HM.out.base.ext HXx.out) s a).mono ?_
      rintro e w2 ⟨v, rfl, hk2, rfl, E1, hB1, hC1, ho1⟩
      have hgx : gx < wx.heap.size := HBx.out.lt
      have hbx2 : Blk w2 gx [.string s, .int .i64 a, .slice ra m rcap] 71 := HBx.out.kp hk2 fun ho => by have := HGx.out gx ho; omega
      have hM1 : MyBase w S w2 bb r E1 :=
        { base := hB1
          ext := (HM.out.ext.trans HXx.out).trans' hk2 fun k hk ho => by have := HM.out.own k ho; omega
          pool := HM.out.pool
          own := fun k hk => by
            rcases ho1 k hk with h1 | h1
            · exact HM.out.own k h1
            · have := (HM.out.ext.trans HXx.out).size; omega }
      have hng : ¬ OwnB bb r E1 gx := fun ho => by
        rcases ho1 gx ho with h1 | h1
        · have := HGx.out gx h1; omega
        · omega
      have HM1 := Lib.hid (And.intro hM1 (And.intro hC1 (And.intro hbx2 hng)))
      clear hk2 hB1 hC1 ho1 hgx hbx2 hM1 hng ewx x0 x1 c0 c1 c2
      obtain ⟨d, ed⟩ : ∃ d, declR (cntE E) s a = d := ⟨_, rfl⟩
      rw [ed]
      have ED := Lib.hid ed
      clear ed
      have y2 : w2.cell? ⟨gx, 2, none⟩ = some (.slice ra m rcap) := by rw [HM1.out.2.2.1.cell']; rfl
      by_cases hd : d = 0
      · have q1 : ((d : Int) != 0) = false := by simp [hd]
        have HD := Lib.hid hd
        clear hd
        have hdr : (L.drop i) = q :: L.drop (i + 1) := drop_at HQ.out.1
        have HDr := Lib.hid hdr
        clear hdr
        go_wp2
        clear q1
        generalize hw5 : w2 = w5 at *; clear hw5
        go_loopw [31] (fun jv wk => FromIn w bb r q (addAll (declC (cntE E) s a) s q.2.2.1) gx [.string s, .int .i64 a, .slice ra m rcap] m jv wk) (fun jv _ => m - (intOf jv).toNat)
        case atStart => exact ⟨0, Nat.zero_le _, rfl, S, E1, HM1.out.1, by rw [HM1.out.2.1, HQ.out.2.1]; rfl, HM1.out.2.2.1, HM1.out.2.2.2⟩
        case round =>
          clear HM1 HBx HXx HGx EGX y2
          obtain ⟨j, hj, rfl, hin⟩ := hrel
          obtain ⟨S1, E2, hM2, hA2, hbx, hng⟩ := hin.out
          have HM2 := Lib.hid (And.intro hM2 (And.intro hA2 (And.intro hbx hng)))
          clear hin hM2 hA2 hbx hng
          by_cases hlt2 : j < m
          · obtain ⟨ss, hss⟩ : ∃ ss, q.2.2.1[j]? = some ss := ⟨_, List.getElem?_eq_getElem (by rw [HQ.out.2.2.2]; exact hlt2)⟩
            obtain ⟨g, o, xa, xcap, era, d0, d1, d2, d3⟩ := HRows.out.get hss
            subst era
            replace d0 := HM2.out.1.ext.cell d0 id
            obtain ⟨k, ek⟩ : ∃ k, ss.length = k := ⟨_, rfl⟩
            rw [ek] at d0
            have HSS := Lib.hid (And.intro hss ek)
            have HRow := Lib.hid (And.intro d1 (And.intro d2 d3))
            have y0 : wr.cell? ⟨gx, 0, none⟩ = some (.string s) := by rw [HM2.out.2.2.1.cell']; rfl
            clear hss ek d1 d2 d3
            go_wp2_with fail
            refine (baseAdd_any HM2.out.1.base s (ao := xa) (k := k) (cap := xcap) (ss := ss) ⟨⟨HSS.out.2.symm, HRow.out.1.ext HM2.out.1.ext⟩, HRow.out.2.1, fun a e hne => Nat.lt_of_lt_of_le (cells_lt HRow.out.1 (fun h => hne (by show k = 0; rw [← HSS.out.2, h]; rfl)) a e) HM2.out.1.ext.size⟩ (fun a e hne ho => by
              have h1 := HM2.out.1.own _ ho
              have h2 := cells_lt HRow.out.1 (fun h => hne (by show k = 0; rw [← HSS.out.2, h]; rfl)) a e
              omega)).mono ?_
            rintro e w3 ⟨v, rfl, hk3, rfl, S3, E3, hs1, hs2, hB3, hC3, ho3⟩
            have hgx : gx < wr.heap.size := HM2.out.2.2.1.lt
            have hM3 : MyBase w S3 w3 bb r E3 :=
              { base := hB3
                ext := HM2.out.1.ext.trans' hk3 fun k hk ho => by have := HM2.out.1.own k ho; omega
                pool := fun k hk => by
                  rcases hs2 k hk with h1 | h1
                  · exact HM2.out.1.pool k h1
                  · have := HM2.out.1.ext.size; omega
                own := fun k hk => by
                  rcases ho3 k hk with h1 | h1
                  · exact HM2.out.1.own k h1
                  · have := HM2.out.1.ext.size; omega }
            have hb3 : Blk w3 gx [.string s, .int .i64 a, .slice (some ⟨g, o, none⟩) m rcap] 71 := HM2.out.2.2.1.kp hk3 HM2.out.2.2.2
            have hng : ¬ OwnB bb r E3 gx := fun ho => by
              rcases ho3 gx ho with h1 | h1
              · exact HM2.out.2.2.2 h1
              · omega
            have HM3 := Lib.hid (And.intro hM3 (And.intro hC3 (And.intro hb3 hng)))
            clear hk3 hB3 hC3 ho3 hgx hM3 hng hb3 hs1 hs2 y0 d0
            obtain ⟨x1, ex1⟩ : ∃ x, (addR (cntE E2) s ss).1 = x := ⟨_, rfl⟩
            obtain ⟨x2, ex2⟩ : ∃ x, (addR (cntE E2) s ss).2 = x := ⟨_, rfl⟩
            rw [ex1, ex2]
            have EX := Lib.hid ex2
            clear ex1 ex2
            have hdj : q.2.2.1.drop j = ss :: q.2.2.1.drop (j + 1) := drop_at HSS.out.1
            have HDj := Lib.hid hdj
            clear hdj
            by_cases hx : x2 = 0
            · have q1 : ((x2 : Int) != 0) = false := by simp [hx]
              have HX := Lib.hid hx
              clear hx
              go_wp2
              go_roundw
              case rel =>
                refine ⟨j + 1, by omega, by first | rfl | (congr 1; done) | (congr 1; omega), S3, E3, HM3.out.1, ?_, HM3.out.2.2.1, HM3.out.2.2.2⟩
                rw [HM3.out.2.1, ← HM2.out.2.1, HDj.out, HQ.out.2.1]
                exact (addAll_go (by rw [EX.out]; exact HX.out)).symm
              case measure => simp [intOf]; omega
            · have q1 : ((x2 : Int) != 0) = true := by simp; omega
              have HX := Lib.hid hx
              clear hx
              go_wp2
              go_ret2
              have hall := HM2.out.2.1
              rw [HDj.out, HQ.out.2.1, addAll_bad (by rw [EX.out]; exact HX.out), EX.out] at hall
              have hfr : fromC [] L = (cntE E2, x2) := by
                rw [← HF.out, HDr.out, from_err (by rw [HQ.out.2.1, HQ.out.2.2.1, ED.out]; exact HD.out) (by rw [HQ.out.2.1, HQ.out.2.2.1, ← hall]; exact HX.out), HQ.out.2.1, HQ.out.2.2.1, ← hall]
              exact RetN.mk HM3.out.1.ext ⟨fun h0 => by rw [hfr] at h0; exact absurd h0 HX.out, fun _ => by rw [hfr]; rfl⟩
          · obtain rfl : j = m := by omega
            have hall := HM2.out.2.1
            rw [List.drop_of_length_le (by rw [HQ.out.2.2.2]; exact Nat.le_refl _)] at hall
            have hall' : addAll (declC (cntE E) s a) s q.2.2.1 = (cntE E2, 0) := hall.symm
            have HAll := Lib.hid hall'
            clear hall hall'
            go_wp2
            go_roundw
            case rel =>
              refine ⟨i + 1, by omega, by first | rfl | (congr 1; done) | (congr 1; omega), S1, E2, HM2.out.1, ?_⟩
              rw [← HF.out, HDr.out, from_go (by rw [HQ.out.2.1, HQ.out.2.2.1, ED.out]; exact HD.out) (by rw [HQ.out.2.1, HQ.out.2.2.1, HAll.out]), HQ.out.2.1, HQ.out.2.2.1, HAll.out]
            case measure => simp [intOf]; omega
      · have q1 : ((d : Int) != 0) = true := by simp; omega
        have HD := Lib.hid hd
        clear hd
        go_wp2
        go_ret2
        have hfr : fromC [] L = (cntE E, d) := by
          rw [← HF.out, drop_at HQ.out.1, from_bad (by rw [HQ.out.2.1, HQ.out.2.2.1, ED.out]; exact HD.out), HQ.out.2.1, HQ.out.2.2.1, ED.out]
        exact RetN.mk HM1.out.1.ext ⟨fun h0 => by rw [hfr] at h0; exact absurd h0 HD.out, fun _ => by rw [hfr]; rfl⟩
    · obtain rfl : i = n := by omega
      have hfr : fromC [] L = (cntE E, 0) := by
        rw [← HF.out, List.drop_of_length_le (by rw [← HN.out]; exact Nat.le_refl _)]; rfl
      have HFr := Lib.hid hfr
      clear hfr
      go_wp2
      go_ret2
      exact RetN.mk HM.out.ext ⟨fun _ => ⟨bb, r, S, E, rfl, HM.out.base, by rw [HFr.out], HM.out.pool, HM.out.own⟩, fun h0 => absurd (by rw [HFr.out]) h0⟩
end Go.Proofs.YtomeebimmmfmbaaGreat

/- tuple.Base: Names: the keys of a map, collected and sorted. -/
namespace Go.Proofs.YtomeebimmmfmbaaGreat
open Go.RowKit Go.Maps Go.Sort Go.Shelf
open Go.WideElems (Fit rd rg rd_mk rg_of)
set_option linter.unusedVariables false
def encT : ByteArray → Value := Value.string
theorem mapKeys {w : World} {r : Nat} {m : List (ByteArray × Value)} (hm : MapIs w r m) (hk : ∀ p ∈ m, p.1.size ≤ maxLen) (hl : m.length ≤ maxLen) :
    ∃ D0 : DataW Nat, w.ownsMap Tryz.prog 9 (fun _ => some (.nil, [])) r m.length D0 ∧ (strKeys D0).Perm (m.map fun p => p.1.data.toList) ∧ Maps.size D0 = m.length := by
  obtain ⟨es, c, h1, h2, h3, h4⟩ := hm
  have hlen : es.size = m.length := by simpa using congrArg List.length h2
  have hrd : ∀ x ∈ es.toList, ∃ p ∈ m, x.key = .string p.1 ∧ rd Tryz.prog 9 (fun _ => some ((.nil : DataW Nat), [])) x = some (.string p.1.data.toList, .nil) := fun x hx => by
    have h5 : (x.key, x.val) ∈ es.toList.map (fun e => (e.key, e.val)) := List.mem_map.2 ⟨x, hx, rfl⟩
    rw [h2] at h5
    obtain ⟨p, hp, e⟩ := List.mem_map.1 h5
    have e1 : x.key = .string p.1 := (congrArg Prod.fst e).symm
    refine ⟨p, hp, e1, ?_⟩
    have hkey : keyOf Tryz.prog 9 x.key = some (.string p.1.data.toList) := by
      rw [e1]
      simp [keyOf, mapKey, Tryz.underlying9, hk p hp]
    have := rd_mk (P := Tryz.prog) (k := 9) (R := fun _ => some ((.nil : DataW Nat), [])) (born := x.born) (val := x.val) hkey rfl
    exact this
  refine ⟨_, ⟨es, c, h1, ⟨by omega, h4, fun x hx => ?_⟩, by omega, rfl⟩, ?_, ?_⟩
  · obtain ⟨p, _, _, h⟩ := hrd x hx
    exact ⟨_, h⟩
  · show (((es.toList.map (rg Tryz.prog 9 (fun _ => some ((.nil : DataW Nat), [])))).foldr DataW.insert []).map fun p => strOf p.1).Perm _
    refine ((WideShapes.sorted_perm _).map _).trans ?_
    rw [List.map_map]
    have e : es.toList.map ((fun p : Lit × DataW Nat => strOf p.1) ∘ rg Tryz.prog 9 (fun _ => some ((.nil : DataW Nat), []))) = m.map fun p => p.1.data.toList := by
      have h6 : es.toList.map ((fun p : Lit × DataW Nat => strOf p.1) ∘ rg Tryz.prog 9 (fun _ => some ((.nil : DataW Nat), []))) = es.toList.map fun x => (match x.key with | .string s => s.data.toList | _ => []) := by
        apply List.map_congr_left
        intro x hx
        obtain ⟨p, hp, e1, h7⟩ := hrd x hx
        simp only [Function.comp, rg_of h7, e1, strOf]
      rw [h6]
      have h8 := congrArg (fun l => l.map fun p : Value × Value => (match p.1 with | .string s => s.data.toList | _ => [])) h2
      simp only [List.map_map] at h8
      exact h8
    rw [e]
  · show ((es.toList.map _).foldr DataW.insert []).length = _
    rw [(WideShapes.sorted_perm _).length_eq, List.length_map, Array.length_toList]; exact hlen
theorem row_of_owns {w : World} {base : Nat} {e : TypeId} {k n : Nat} {v : Value} {xs : List Value} (h : w.ownsRow base e k v n xs) : Row w e k v n xs (fun g => base ≤ g) := by
  obtain ⟨h1, h2 | ⟨g, cap, cur, rfl, hb, hg, hn, hc, hs, ht⟩⟩ := h
  · exact ⟨h1, .inl h2⟩
  · refine ⟨h1, .inr ⟨g, cap, cur.toList.drop (n * k), rfl, hb, ?_, ?_, hn, hc⟩⟩
    · rw [← ht, List.take_append_drop]
      unfold Blk
      rw [Array.toArray_toList]; exact hg
    · rw [← ht, List.take_append_drop, Array.length_toList]; exact hs
theorem swoN : SWO (ltOf cmpN) where
  irrefl x := by unfold ltOf; rw [decide_eq_false_iff_not, cmpN_ord.refl]; omega
  trans x y z h1 h2 := by
    unfold ltOf at *
    rw [decide_eq_true_eq] at *
    exact cmpN_ord.lt_trans h1 (by omega)
  ntrans x y z h1 h2 := by
    unfold ltOf at *
    rw [decide_eq_false_iff_not] at *
    have h3 := cmpN_ord.le_of h1
    have h4 := cmpN_ord.le_of h2
    have h5 := cmpN_ord.trans z y x h4 h3
    intro h6
    exact cmpN_ord.asymm h6 (by
      rcases Int.lt_or_eq_of_le h5 with h7 | h7
      · exact h7
      · have := cmpN_ord.zero h7; omega)
theorem totN (x y : ByteArray) (h1 : ltOf cmpN x y = false) (h2 : ltOf cmpN y x = false) : x = y := by
  unfold ltOf at *
  rw [decide_eq_false_iff_not] at *
  have h3 := cmpB_swap x.toList y.toList
  unfold cmpN at *
  exact toList_inj (cmpB_zero (by omega))
theorem sortWorld_row {w : World} {blk : Nat} {xs ys : List ByteArray} {rest : List Value} {e : TypeId} (hB : Blk w blk (strs xs ++ rest) e) (hl : ys.length = xs.length) (n : Nat) (os : Array Obj) :
    Blk (sortWorld encT w blk 0 n ys.toArray os) blk (strs ys ++ rest) e ∧ Kp (fun k => k = blk) w (sortWorld encT w blk 0 n ys.toArray os) := by
  have hlt := hB.lt
  have hsz : (putRow encT (Sort.ahead w n) blk 0 ys.toArray).heap.size = w.heap.size := by simp [putRow, mapBlock, Sort.ahead]
  have hcells : putCells encT 0 ys.toArray (strs xs ++ rest).toArray = (strs ys ++ rest).toArray := by
    apply Array.ext_getElem?
    intro j
    unfold putCells
    rw [Array.getElem?_mapIdx]
    simp only [List.getElem?_toArray, Nat.zero_le, true_and, Nat.zero_add, Nat.sub_zero, List.size_toArray]
    by_cases hj : j < ys.length
    · have h1 : (strs ys ++ rest)[j]? = some (.string ys[j]) := by
        rw [List.getElem?_append_left (by rw [strs_len]; exact hj)]; exact strs_get? ys j hj
      have h2 : j < (strs xs ++ rest).length := by rw [List.length_append, strs_len]; omega
      rw [h1, List.getElem?_eq_getElem h2, Option.map_some, if_pos hj]
      congr 1
      show encT _ = _
      rw [getElem!_pos _ j (by simpa using hj)]
      simp [encT]
    · have h1 : (strs ys ++ rest)[j]? = (strs xs ++ rest)[j]? := by
        rw [List.getElem?_append_right (by rw [strs_len]; omega), List.getElem?_append_right (by rw [strs_len]; omega), strs_len, strs_len, hl]
      rw [h1]
      cases (strs xs ++ rest)[j]? with
      | none => rfl
      | some u => simp [hj]
  have hblk : (putRow encT (Sort.ahead w n) blk 0 ys.toArray).heap[blk]? = some (.cells (strs ys ++ rest).toArray e (0, 0)) := by
    unfold Blk at hB
    simp only [putRow, mapBlock, Sort.ahead, Array.getElem?_modify, if_pos, hB, Option.map_some, onCells, hcells]
  constructor
  · unfold Blk sortWorld
    rw [heap_grow_old _ _ (by rw [hsz]; exact hlt)]; exact hblk
  · refine ⟨rfl, rfl, rfl, ?_, fun k hk hne => ?_⟩
    · simp [sortWorld, grow, putRow, mapBlock, Sort.ahead]
    · unfold sortWorld
      rw [heap_grow_old _ _ (by rw [hsz]; exact hk)]
      simp only [putRow, mapBlock, Sort.ahead, Array.getElem?_modify]
      rw [if_neg (fun e => hne e.symm)]
theorem cmp_lays (blk size : Nat) (w : World) : CmpLays1 Tryz.prog 63 #[] encT cmpN blk 0 size w := fun m os dk hs x y => by
  refine (cmpString_any x y _).mono ?_
  rintro e w' ⟨rfl, rfl⟩
  exact ⟨rfl, 0, #[], by rw [grow_empty]; rfl⟩
end Go.Proofs.YtomeebimmmfmbaaGreat

/- tuple.Base: Names, walked: slices.SortedFunc at a map's keys. -/
namespace Go.Proofs.YtomeebimmmfmbaaGreat
open Go.RowKit Go.Maps Go.Sort Go.Shelf
set_option linter.unusedVariables false
theorem leN_perm {l l' : List ByteArray} (h : l.Perm l') : l.mergeSort leN = l'.mergeSort leN := by
  refine List.Perm.eq_of_pairwise (le := fun a b => leN a b = true) (fun a b _ _ h1 h2 => ?_) (List.pairwise_mergeSort leN_trans leN_total l) (List.pairwise_mergeSort leN_trans leN_total l') (((List.mergeSort_perm l leN).trans h).trans (List.mergeSort_perm l' leN).symm)
  unfold leN at h1 h2
  simp only [Bool.not_eq_true', decide_eq_false_iff_not] at h1 h2
  have := cmpB_swap a.toList b.toList
  exact toList_inj (cmpB_zero (by omega))
theorem collect_any {w : World} {B r : Nat} {m : List (ByteArray × Value)} (hB : w.cell? ⟨B, 0, none⟩ = some (.map (some r))) (hm : MapIs w r m) (hk : ∀ p ∈ m, p.1.size ≤ maxLen) (hl : m.length ≤ 1048576) :
    Calls Tryz.prog 102 #[.func (.func 104) #[] #[.pointer (some ⟨B, 0, none⟩)]] w (RetN w fun w' v => ∃ bs : List ByteArray, bs.Perm (m.map (·.1)) ∧ Row w' 9 1 v bs.length (strs bs) (New w) ∧ (v = .slice none 0 0 ↔ bs = [])) := by
  obtain ⟨D0, h1, h2, h3⟩ := mapKeys hm hk (by unfold maxLen; omega)
  have hseq := AnyZ.keys_gives (L := { Tryz.laysSlZ7_f62 with }) Fence.wide 3 trivial rfl (by omega) B r m.length D0 w (World.block_lt_of_cell? _ _ hB) hB h1
  have hc := (callsIn_wide (n := 5)).1 (AnyZ.collect_in Tryz.laysSlZ8_f102 Fence.wide 5 trivial trivial rfl (by omega) 104 #[.pointer (some ⟨B, 0, none⟩)] trivial (enters_of Tryz.func104 (by kernel_rfl) rfl) _ _ (by rw [h3]; unfold maxLen; omega) (by rw [h3]; omega) w hseq)
  refine Calls.mono hc ?_
  rintro e w' ⟨v, ss, rfl, hS, hrow, hnil, hb⟩
  refine RetN.mk (Kp.of_below hb) ⟨ss.map (fun l => ⟨l.toArray⟩), ?_, ?_, ?_⟩
  · have h4 := (hS.trans h2).map (fun l : List UInt8 => (⟨l.toArray⟩ : ByteArray))
    rw [List.map_map] at h4
    have e : (m.map ((fun l : List UInt8 => (⟨l.toArray⟩ : ByteArray)) ∘ fun p : ByteArray × Value => p.1.data.toList)) = m.map (·.1) := by
      apply List.map_congr_left
      intro p _
      simp
    rw [e] at h4
    exact h4
  · have h5 := row_of_owns hrow
    have e : ss.map encStr = strs (ss.map (fun l => ⟨l.toArray⟩)) := by
      unfold strs
      rw [List.map_map]; rfl
    rw [e] at h5
    rw [List.length_map]; exact h5
  · rw [hnil, List.map_eq_nil_iff]
set_option maxRecDepth 100000 in
set_option maxHeartbeats 2000000 in
theorem sortedNames_any {w : World} {B r : Nat} {m : List (ByteArray × Value)} (hB : w.cell? ⟨B, 0, none⟩ = some (.map (some r))) (hm : MapIs w r m) (hk : ∀ p ∈ m, p.1.size ≤ maxLen) (hl : m.length ≤ 1048576) :
    Calls Tryz.prog 61 #[.func (.func 104) #[] #[.pointer (some ⟨B, 0, none⟩)], .func (.func 63) #[] #[]] w (RetN w fun w' v => Row w' 9 1 v m.length (strs ((m.map (·.1)).mergeSort leN)) (New w)) := by
  have HC := Lib.hid (collect_any hB hm hk hl)
  clear hB hm hk
  go_enter Tryz.func61, Tryz.ntmps61
  go_wp2_with fail
  refine HC.out.mono ?_
  rintro e w1 ⟨v, rfl, hk1, bs, hp, hr, hnil⟩
  have hlen : bs.length = m.length := by rw [hp.length_eq, List.length_map]
  have hsort := leN_perm hp
  obtain ⟨q1, ⟨ev, en⟩ | ⟨g, cap, rest, rfl, hg, hb, hbl, hn, hcm⟩⟩ := hr
  · have hbs := hnil.1 ev
    subst hbs
    subst ev
    have HK := Lib.hid hk1
    have HS := Lib.hid (show Row w1 9 1 (.slice none 0 0) m.length (strs ((m.map (·.1)).mergeSort leN)) (New w) by
      rw [← hsort, ← hlen, List.mergeSort_nil]
      exact Row.nil _ _ _ _)
    clear hp hnil hlen hsort q1 en hk1
    go_wp2_with fail
    refine (AnyF.slices_SortFunc_none Tryz.laysSlF06_f103 none 0 _ w1).mono ?_
    rintro e w2 ⟨rfl, rfl⟩
    go_wp2
    go_ret
    exact RetN.mk HK.out HS.out
  · have hlt := hb.lt
    have hH : Holds encT w1 g 0 bs.toArray := fun j hj => by
      have hj' : j < bs.length := by simpa using hj
      refine ⟨?_, hb.free _⟩
      rw [hb.cell', Nat.zero_add, List.getElem?_append_left (by rw [strs_len]; exact hj'), strs_get? bs j hj', getElem!_pos _ j hj]
      simp [encT]
    have hml := List.length_mergeSort (le := leN) bs
    have hrow := fun n os => sortWorld_row (ys := bs.mergeSort leN) hb hml n os
    have hcall := Any.slices_SortFunc_total Tryz.laysSlF6_f103 encT (fun _ => rfl) cmpN swoN 63 #[] g 0 cap bs.toArray w1 (enters_of Tryz.func63 (by kernel_rfl) rfl) (cmp_lays g _ w1) hH hlt (by rw [List.size_toArray]; omega) totN
    have HCall := Lib.hid hcall
    have HFin := Lib.hid (And.intro hk1 (And.intro hrow (And.intro hsort (And.intro hlen (And.intro hg (And.intro hbl (And.intro hn hcm)))))))
    obtain ⟨n, en⟩ : ∃ n, bs.length = n := ⟨_, rfl⟩
    rw [List.size_toArray, en] at HCall
    rw [en]
    have EN := Lib.hid en
    clear hp hnil hlen hsort hk1 hrow hcall hH hlt hml hb hbl hn hcm q1 en
    go_wp2_with fail
    refine HCall.out.mono ?_
    rintro e w2 ⟨rfl, n2, os, rfl⟩
    obtain ⟨hk1, hrow, hsort, hlen, hg, hbl, hn, hcm⟩ := HFin.out
    have e3 : (bs.toArray.toList.mergeSort fun x y => !(ltOf cmpN) y x) = bs.mergeSort leN := rfl
    obtain ⟨r1, r2⟩ := hrow n2 os
    rw [e3]
    have HR := Lib.hid (show Row (sortWorld encT w1 g 0 n2 (bs.mergeSort leN).toArray os) 9 1 (.slice (some ⟨g, 0, none⟩) n cap) m.length (strs ((m.map (·.1)).mergeSort leN)) (New w) from by
      rw [← hsort, ← hlen, EN.out]
      refine ⟨by rw [strs_len, List.length_mergeSort, EN.out]; omega, .inr ⟨g, cap, rest, rfl, hg, r1, ?_, by rw [← EN.out]; exact hn, hcm⟩⟩
      rw [← hbl, List.length_append, List.length_append, strs_len, strs_len, List.length_mergeSort])
    have HX := Lib.hid (show Ext w (sortWorld encT w1 g 0 n2 (bs.mergeSort leN).toArray os) from hk1.trans' r2 fun i hi e => by have h9 : w.heap.size ≤ g := hg; omega)
    generalize sortWorld encT w1 g 0 n2 (bs.mergeSort leN).toArray os = w3 at *
    clear hk1 hrow hsort hlen hg hbl hn hcm e3 r1 r2
    go_wp2
    go_ret
    exact RetN.mk HX.out HR.out
theorem names_cnt (E : List Ent) : ((entM E).map (·.1)).mergeSort leN = namesC (cntE E) := by rw [entM_names]; rfl
set_option maxRecDepth 100000 in
theorem names_any {S : Nat → Prop} {w : World} {bb r : Nat} {E : List Ent} (h : BaseAt S w bb r E) (hl : E.length ≤ 1048576) :
    Calls Tryz.prog 25 #[.pointer (some ⟨bb, 0, none⟩)] w (RetN w fun w' v => Row w' 9 1 v E.length (strs (namesC (cntE E))) (New w)) := by
  have c0 : w.cell? ⟨bb, 0, none⟩ = some (.map (some r)) := by rw [h.blk.cell']; rfl
  have hks : ∀ p ∈ entM E, p.1.size ≤ maxLen := fun p hp => by
    obtain ⟨e, he, rfl⟩ := List.mem_map.1 hp
    have h1 := (h.ok.all _ (mem_cntE he)).name
    have h2 : 1 ≤ e.name.size ∧ e.name.size ≤ 4096 := of_decide_eq_true h1
    show e.name.size ≤ maxLen
    unfold maxLen; omega
  have HKeys := Lib.hid ((callsIn_wide (n := 5)).1 (AnyZ.keys_in Tryz.laysSlZ7_f62 Fence.wide 5 trivial rfl (some r) w))
  have hB : (w.alloc (.cells #[.map (some r)] 137)).cell? ⟨w.heap.size, 0, none⟩ = some (.map (some r)) := by rw [(Blk.new w [.map (some r)] _).cell']; rfl
  have hS := sortedNames_any hB (h.map.ext ((Kp.refl w).alloc _)) hks (by rw [show (entM E).length = E.length by simp [entM]]; exact hl)
  rw [names_cnt, show (entM E).length = E.length by simp [entM]] at hS
  have HS := Lib.hid hS
  have HXA := Lib.hid (show Ext w (w.alloc (.cells #[.map (some r)] 137)) from (Kp.refl w).alloc _)
  clear h hks hB hS
  go_enter Tryz.func25, Tryz.ntmps25
  go_wp2_with fail
  refine HKeys.out.mono ?_
  rintro e w1 ⟨rfl, rfl⟩
  go_wp2_with fail
  refine HS.out.mono ?_
  rintro e w2 ⟨v, rfl, hk2, hr⟩
  have HF := Lib.hid (And.intro (HXA.out.trans hk2) (Row.mono hr fun g hg => Nat.le_trans HXA.out.size hg))
  clear hk2 hr
  go_wp2
  go_ret
  exact RetN.mk HF.out.1 HF.out.2
end Go.Proofs.YtomeebimmmfmbaaGreat

/- Bases in plain Lean: the same contents whatever the order of names: what is declared, added and told is the same. No program in sight. -/
namespace Go.Proofs.YtomeebimmmfmbaaGreat
set_option linter.unusedVariables false
section
variable {C D : List CntZ} {s : ByteArray} {row : List ByteArray} {a : Int}
theorem SameC.refl (C : List CntZ) : SameC C C := fun _ => rfl
theorem SameC.symm (h : SameC C D) : SameC D C := fun s => (h s).symm
theorem SameC.trans {E : List CntZ} (h : SameC C D) (h' : SameC D E) : SameC C E := fun s => (h s).trans (h' s)
theorem same_total (hC : BaseOk C) (hD : BaseOk D) (h : SameC C D) : totalC C = totalC D := by
  rw [← rels_total hC, ← rels_total hD, rels_same hC.nodup hD.nodup h]
theorem same_rows (h : SameC C D) (s : ByteArray) : rowsC C s = rowsC D s := by unfold rowsC; rw [h s]
theorem same_declR (h : SameC C D) (s : ByteArray) (a : Int) : declR C s a = declR D s a := by unfold declR; rw [h s]
theorem same_declC (h : SameC C D) (s : ByteArray) (a : Int) : SameC (declC C s a) (declC D s a) := fun t => by
  unfold declC
  rw [same_declR h, h s]
  split
  · rename_i h2
    rw [getC_app h2.2, getC_app (by rw [h s]; exact h2.2), h t]
  · exact h t
theorem same_addR (hC : BaseOk C) (hD : BaseOk D) (h : SameC C D) (s : ByteArray) (row : List ByteArray) : addR C s row = addR D s row := by
  unfold addR arOk; rw [same_rows h, same_total hC hD h, h s]
theorem same_addC (hC : BaseOk C) (hD : BaseOk D) (h : SameC C D) (s : ByteArray) (row : List ByteArray) : SameC (addC C s row) (addC D s row) := fun t => by
  unfold addC
  rw [same_addR hC hD h, same_rows h]
  split
  · rw [getC_set, getC_set, h t]
  · exact h t
theorem perm_nodup (h : C.Perm D) (hn : (C.map (·.1)).Nodup) : (D.map (·.1)).Nodup := (h.map _).nodup_iff.1 hn
theorem perm_same (h : C.Perm D) (hn : (C.map (·.1)).Nodup) : SameC C D := fun s => by
  have hd := perm_nodup h hn
  apply Option.ext
  intro v
  rw [getC_mem hn, getC_mem hd, h.mem_iff]
theorem perm_total (h : C.Perm D) : totalC C = totalC D := perm_sum (h.map _)
theorem perm_ok (h : C.Perm D) (hC : BaseOk C) : BaseOk D := ⟨perm_nodup h hC.nodup, fun p hp => hC.all p (h.mem_iff.2 hp), by rw [← perm_total h]; exact hC.few⟩
end
def insN {α : Type} (f : α → ByteArray) (G : List α) (g : α) : List α := G.take (below cmpN (G.map f) (f g)) ++ g :: G.drop (below cmpN (G.map f) (f g))
theorem insN_perm {α : Type} (f : α → ByteArray) (G : List α) (g : α) : (insN f G g).Perm (G ++ [g]) := by
  unfold insN
  refine List.perm_middle.trans ?_
  rw [List.take_append_drop]
  exact (List.perm_append_singleton g G).symm
theorem insN_strict {α : Type} (f : α → ByteArray) {G : List α} {g : α} (h : Strict cmpN (G.map f)) (hn : f g ∉ G.map f) : Strict cmpN ((insN f G g).map f) := by
  have hi : isIn cmpN (G.map f) (f g) = false := by
    rw [Bool.eq_false_iff]
    intro hi
    obtain ⟨y, hy, e⟩ := isIn_iff.1 hi
    exact hn (toList_inj (cmpB_zero e) ▸ hy)
  have := h.add cmpN_ord (f g)
  unfold addS at this
  rw [hi] at this
  have e : (insN f G g).map f = (G.map f).take (below cmpN (G.map f) (f g)) ++ f g :: (G.map f).drop (below cmpN (G.map f) (f g)) := by
    unfold insN
    rw [List.map_append, List.map_take, List.map_cons, List.map_drop]
  rw [e]
  simpa using this
end Go.Proofs.YtomeebimmmfmbaaGreat

/- tuple.Base: Relations. -/
namespace Go.Proofs.YtomeebimmmfmbaaGreat
open Go.RowKit
set_option linter.unusedVariables false
end Go.Proofs.YtomeebimmmfmbaaGreat

/- The law of one's own memory: apart. -/
namespace Go.Proofs.YtomeebimmmfmbaaGreat
open Go.RowKit Go.Shelf
set_option linter.unusedVariables false
structure ApSt (w3 w : World) (lo gm g2 : Nat) (p : ByteArray) (hv : Value) (ba : Option Addr) (n bc : Nat) (f : Nat → SlZ) : Prop where
  kp : Kp (fun k => (lo ≤ k ∧ k < gm) ∨ k = g2) w3 w
  box : Blk w g2 [.string p, hv, .slice ba n bc] 28
  body : BodyW w (fun k => (lo ≤ k ∧ k < gm) ∨ w3.heap.size ≤ k) ba n bc f
def HeadW (w3 w : World) (lo gm : Nat) (ha : Option Addr) (hn hc n : Nat) (f : Nat → SlZ) : Prop :=
  (∃ xs, Row w 94 2 (.slice ha hn hc) hn xs (fun k => (lo ≤ k ∧ k < gm) ∨ w3.heap.size ≤ k)) ∧ ∀ i, i < n → ∀ a, ha = some a → ∀ b, (f i).1 = some b → a.block ≠ b.block
theorem ApSt.headTo {w3 w w' : World} {lo gm g2 : Nat} {p : ByteArray} {hv : Value} {ba : Option Addr} {n bc : Nat} {f : Nat → SlZ} {ha : Option Addr} {hn hc : Nat} (h : ApSt w3 w lo gm g2 p hv ba n bc f) (hh : HeadW w3 w lo gm ha hn hc n f) (hk : Kp (fun k => (Value.slice ha hn hc).ownBlock = some k) w w') : ApSt w3 w' lo gm g2 p hv ba n bc f := by
  obtain ⟨⟨xs, hx⟩, hne⟩ := hh
  refine ⟨h.kp.trans' hk fun k hk3 e => ?_, h.box.kp hk fun e => ?_, h.body.kp hk (fun a ha e => ?_) fun i hi a ha e => ?_⟩
  · rcases hx.block k e with h1 | h1
    · exact .inl h1
    · omega
  · obtain ⟨cs, hb⟩ := hx.blkOf e
    exact typ_tr (blk_ne hb h.box)
  · obtain ⟨cs, hb⟩ := hx.blkOf e
    obtain ⟨⟨cs1, hr, _⟩, _, _⟩ := h.body
    obtain ⟨cs2, hb2⟩ := row_addrE (q := (ba, n, bc)) hr ha
    exact typ_tl (blk_ne hb hb2)
  · obtain ⟨b, hb, eb⟩ := own_addr e
    exact hne i hi b hb a ha eb
theorem ApSt.put {w3 w : World} {lo gm g2 : Nat} {p : ByteArray} {hv : Value} {ba : Option Addr} {n bc : Nat} {f : Nat → SlZ} (h : ApSt w3 w lo gm g2 p hv ba n bc f) (v : Value) : ApSt w3 (w.setCell ⟨g2, 1, none⟩ v) lo gm g2 p v ba n bc f := by
  have hk : Kp (fun k => k = g2) w (w.setCell ⟨g2, 1, none⟩ v) := Kp.setCell (F := fun k => k = g2) (Kp.refl w) (fun _ => rfl) _
  refine ⟨h.kp.trans' hk fun k _ e => .inr e, h.box.set 1 v, h.body.kp hk (fun a ha e => ?_) fun i hi a ha e => ?_⟩
  · obtain ⟨⟨cs1, hr, _⟩, _, _⟩ := h.body
    obtain ⟨cs2, hb2⟩ := row_addrE (q := (ba, n, bc)) hr ha
    rw [e] at hb2
    exact typ_lrC (blk_ne hb2 h.box)
  · obtain ⟨xs, hx⟩ := h.body.terms i hi
    obtain ⟨cs2, hb2⟩ := row_addrE hx ha
    rw [e] at hb2
    exact typ_tr (blk_ne hb2 h.box)
theorem ApSt.term {w3 w w' : World} {lo gm g2 : Nat} {p : ByteArray} {hv : Value} {ba : Option Addr} {n bc : Nat} {f : Nat → SlZ} (h : ApSt w3 w lo gm g2 p hv ba n bc f) {i : Nat} (hi : i < n) {gt m c : Nat} (hq : f i = (some ⟨gt, 0, none⟩, m, c)) (hk : Kp (fun k => k = gt) w w') (hr : ∃ xs, Row w' 94 2 (.slice (some ⟨gt, 0, none⟩) m c) m xs (fun k => (lo ≤ k ∧ k < gm) ∨ w3.heap.size ≤ k)) : ApSt w3 w' lo gm g2 p hv ba n bc f := by
  obtain ⟨xs, hx⟩ := h.body.terms i hi
  obtain ⟨cs, hb⟩ := row_addrE hx (show (f i).1 = some ⟨gt, 0, none⟩ by rw [hq])
  have hM := (row_addr (ao := (f i).1) hx (show (f i).1 = some ⟨gt, 0, none⟩ by rw [hq])).2
  refine ⟨h.kp.trans' hk fun k hk3 e => ?_, h.box.kp hk fun e => ?_, h.body.term hi (show (f i).1 = some ⟨gt, 0, none⟩ by rw [hq]) hk (by rw [hq]; exact hr)⟩
  · subst e
    rcases hM with h1 | h1
    · exact .inl h1
    · have h2 : w3.heap.size ≤ k := h1
      omega
  · have hb' : Blk w gt cs 94 := hb
    rw [← e] at hb'
    exact typ_tr (blk_ne hb' h.box)
theorem ApSt.app {w3 w w1 : World} {lo gm g2 : Nat} {p : ByteArray} {hv : Value} {gb n bc : Nat} {f : Nat → SlZ} (h : ApSt w3 w lo gm g2 p hv (some ⟨gb, 0, none⟩) n bc f) {i : Nat} (hi : i < n) {q : SlZ} {xs : List Value} (hk : Kp (fun k => (slV (f i)).ownBlock = some k) w w1) (hr : Row w1 94 2 (slV q) q.2.1 xs (fun k => (slV (f i)).ownBlock = some k ∨ w.heap.size ≤ k)) :
    ApSt w3 (w1.setCell ⟨gb, i * 8 + 2, none⟩ (slV q)) lo gm g2 p hv (some ⟨gb, 0, none⟩) n bc (updF f i q) ∧ Blk w1 g2 [.string p, hv, .slice (some ⟨gb, 0, none⟩) n bc] 28 ∧ ∃ cs, Row w1 97 8 (.slice (some ⟨gb, 0, none⟩) n bc) n cs (fun k => (lo ≤ k ∧ k < gm) ∨ w3.heap.size ≤ k) ∧ ∀ j, j < n → cs[j * 8 + 2]? = some (slV (f j)) := by
  obtain ⟨h1, cs, h2, h3⟩ := h.body.app hi hk hr fun k hk' => .inr (Nat.le_trans h.kp.size hk')
  obtain ⟨ys, hy⟩ := h.body.terms i hi
  have hbx : Blk w1 g2 [.string p, hv, .slice (some ⟨gb, 0, none⟩) n bc] 28 := h.box.kp hk fun e => by
    obtain ⟨cs1, hb⟩ := hy.blkOf e
    exact typ_tr (blk_ne hb h.box)
  have hks : Kp (fun k => k = gb) w1 (w1.setCell ⟨gb, i * 8 + 2, none⟩ (slV q)) := Kp.setCell (F := fun k => k = gb) (Kp.refl w1) (fun _ => rfl) _
  have hM := (row_addr h2 rfl).2
  obtain ⟨cs2, hgb⟩ := row_addrE (q := (some ⟨gb, 0, none⟩, n, bc)) h2 rfl
  refine ⟨⟨(h.kp.trans' hk fun k hk3 e => ?_).trans' hks fun k hk3 e => ?_, hbx.kp hks fun e => ?_, h1⟩, hbx, cs, h2, h3⟩
  · rcases hy.block k e with h1 | h1
    · exact .inl h1
    · omega
  · subst e
    rcases hM with h1 | h1
    · exact .inl h1
    · have h2 : w3.heap.size ≤ k := h1
      omega
  · have hb' : Blk w1 gb cs2 97 := hgb
    rw [← e] at hb'
    exact typ_lrC (blk_ne hb' hbx)
theorem ApSt.kind {w3 w : World} {lo gm g2 : Nat} {p : ByteArray} {hv : Value} {gb n bc : Nat} {f : Nat → SlZ} (h : ApSt w3 w lo gm g2 p hv (some ⟨gb, 0, none⟩) n bc f) {i : Nat} (hi : i < n) (v : Value) : ApSt w3 (w.setCell ⟨gb, i * 8, none⟩ v) lo gm g2 p hv (some ⟨gb, 0, none⟩) n bc f := by
  obtain ⟨cs, hr, _⟩ := h.body.row
  have hks : Kp (fun k => k = gb) w (w.setCell ⟨gb, i * 8, none⟩ v) := Kp.setCell (F := fun k => k = gb) (Kp.refl w) (fun _ => rfl) _
  have hM := (row_addr hr rfl).2
  obtain ⟨cs2, hgb⟩ := row_addrE (q := (some ⟨gb, 0, none⟩, n, bc)) hr rfl
  refine ⟨h.kp.trans' hks fun k hk3 e => ?_, h.box.kp hks fun e => ?_, h.body.kind hi v⟩
  · subst e
    rcases hM with h1 | h1
    · exact .inl h1
    · have h2 : w3.heap.size ≤ k := h1
      omega
  · have hb' : Blk w gb cs2 97 := hgb
    rw [← e] at hb'
    exact typ_lrC (blk_ne hb' h.box)
theorem ApSt.ext {w3 w w' : World} {lo gm g2 : Nat} {p : ByteArray} {hv : Value} {ba : Option Addr} {n bc : Nat} {f : Nat → SlZ} (h : ApSt w3 w lo gm g2 p hv ba n bc f) (hk : Ext w w') : ApSt w3 w' lo gm g2 p hv ba n bc f := ⟨h.kp.trans' hk fun _ _ e => e.elim, h.box.ext hk, h.body.ext hk⟩
def ApHeadTo (w3 : World) (lo gm g2 : Nat) (p : ByteArray) (ha : Option Addr) (hn hc : Nat) (ba : Option Addr) (n bc : Nat) (f : Nat → SlZ) (iv : Value) (w : World) : Prop :=
  ∃ i : Nat, i ≤ hn ∧ iv = .int .i64 i ∧ Hid (ApSt w3 w lo gm g2 p (.slice ha hn hc) ba n bc f) ∧ Hid (HeadW w3 w lo gm ha hn hc n f)
def ApBodyTo (w3 : World) (lo gm g2 : Nat) (p : ByteArray) (ba : Option Addr) (n bc : Nat) (iv : Value) (w : World) : Prop :=
  ∃ i : Nat, i ≤ n ∧ iv = .int .i64 i ∧ Hid (∃ hv f, ApSt w3 w lo gm g2 p hv ba n bc f ∧ ∀ j, j < n → (f j).2.1 ≤ 1048576 + i)
def ApInTo (w3 : World) (lo gm g2 : Nat) (p : ByteArray) (hv : Value) (ba : Option Addr) (n bc : Nat) (f : Nat → SlZ) (m : Nat) (iv : Value) (w : World) : Prop :=
  ∃ i : Nat, i ≤ m ∧ iv = .int .i64 i ∧ Hid (ApSt w3 w lo gm g2 p hv ba n bc f)
set_option maxRecDepth 100000 in
set_option maxHeartbeats 8000000 in
theorem apart_any (p : ByteArray) (hs : List TermZ) (ls : List LitZ) (ha : Option Addr) (hn hc : Nat) (ba : Option Addr) (n bc : Nat) (f : Nat → SlZ) (lo gm : Nat) (hb : Option Addr) (hbc : Nat) (bb : Option Addr) (bbc : Nat) (w : World)
    (hhn : hn = hs.length) (hhl : hn ≤ 1048576) (hbn : n = ls.length) (hf : Fit ls) (hgm : gm ≤ w.heap.size)
    (hA1 : ∃ xs, Row w 94 2 (.slice ha hn hc) hn xs (fun k => lo ≤ k ∧ k < gm)) (hA2 : BodyW w (fun k => lo ≤ k ∧ k < gm) ba n bc f)
    (hA3 : ∀ i, i < n → ∀ a, ha = some a → ∀ b, (f i).1 = some b → a.block ≠ b.block) (hA4 : ∀ i, i < n → (f i).2.1 ≤ 1048576)
    (hB1 : TermsAt w (fun k => gm ≤ k) hb hs) (hB2 : LitsAt w (fun k => gm ≤ k) bb ls) :
    Calls Tryz.prog 22 #[ruleV p ha hn hc ba n bc, ruleV p hb hn hbc bb n bbc] w (fun e w' => e = .returned (.bool true) ∧ Kp (fun k => lo ≤ k ∧ k < gm) w w') := by
  have hl : n ≤ 1048576 := by have := hf.len; omega
  have HTw := Lib.hid (fun (W : World) (hW : Ext w W) => twin_any p hs ls hb hn hbc bb n bbc W _ hhn (hB1.ext hW) hhl hbn (hB2.ext hW) hf)
  have HA := Lib.hid (And.intro hA1 (And.intro hA2 (And.intro hA3 hA4)))
  have HB := Lib.hid (And.intro hB1 hB2)
  have HN := Lib.hid (And.intro hhn (And.intro hbn hf))
  have HGM := Lib.hid hgm
  clear hA1 hA2 hA3 hA4 hB1 hB2 hhn hbn hf hgm
  go_enter Tryz.func22, Tryz.ntmps22
  obtain ⟨wb, eb⟩ : ∃ wb, (w.alloc (.cells #[.string p, .slice ha hn hc, .slice ba n bc] 28)).alloc (.cells #[.string p, .slice hb hn hbc, .slice bb n bbc] 28) = wb := ⟨_, rfl⟩
  have hB1' : Blk wb w.heap.size [.string p, .slice ha hn hc, .slice ba n bc] 28 := by rw [← eb]; exact (Blk.new w _ _).alloc _
  have hB2' : Blk wb (w.heap.size + 1) [.string p, .slice hb hn hbc, .slice bb n bbc] 28 := by
    have := Blk.new (w.alloc (.cells #[.string p, .slice ha hn hc, .slice ba n bc] 28)) [.string p, .slice hb hn hbc, .slice bb n bbc] 28
    rw [alloc_size] at this
    rw [← eb]; exact this
  have hX : Ext w wb := by rw [← eb]; exact ((Kp.refl w).alloc _).alloc _
  obtain ⟨g2, eg2⟩ : ∃ g, w.heap.size = g := ⟨_, rfl⟩
  rw [eg2] at hB1' hB2'
  have HBx := Lib.hid (And.intro hB1' (And.intro hB2' (And.intro hX eg2)))
  have HWb := Lib.hid eb
  have d0 : wb.cell? ⟨g2 + 1, 0, none⟩ = some (.string p) := by rw [hB2'.cell']; rfl
  have d1 : wb.cell? ⟨g2 + 1, 1, none⟩ = some (.slice hb hn hbc) := by rw [hB2'.cell']; rfl
  have d2 : wb.cell? ⟨g2 + 1, 2, none⟩ = some (.slice bb n bbc) := by rw [hB2'.cell']; rfl
  clear hB1' hB2' hX
  go_wp2_with fail
  clear d0 d1 d2 eb
  refine (HTw.out _ HBx.out.2.2.1).mono ?_
  rintro e w1 ⟨v, rfl, hk1, wa, wc, va, vc, rfl, hrm⟩
  have HR := Lib.hid (And.intro hk1 hrm)
  clear hk1 hrm HTw
  obtain ⟨wC, eC⟩ : ∃ wC, w1.alloc (.cells #[.string ⟨#[]⟩, .slice none 0 0, .slice none 0 0] 28) = wC := ⟨_, rfl⟩
  have hz : Blk wC w1.heap.size [.string ⟨#[]⟩, .slice none 0 0, .slice none 0 0] 28 := by rw [← eC]; exact Blk.new w1 _ _
  have hXC : Ext w1 wC := by rw [← eC]; exact (Kp.refl w1).alloc _
  obtain ⟨g5, eg5⟩ : ∃ g, w1.heap.size = g := ⟨_, rfl⟩
  rw [eg5] at hz
  have z0 : wC.cell? ⟨g5, 0, none⟩ = some (.string ⟨#[]⟩) := by rw [hz.cell']; rfl
  have z1 : wC.cell? ⟨g5, 1, none⟩ = some (.slice none 0 0) := by rw [hz.cell']; rfl
  have z2 : wC.cell? ⟨g5, 2, none⟩ = some (.slice none 0 0) := by rw [hz.cell']; rfl
  have f0 := hz.free 0
  have f1 := hz.free 1
  have f2 := hz.free 2
  have HC := Lib.hid (And.intro hz (And.intro hXC eg5))
  clear hz hXC
  go_wp2
  generalize hw3 : World.setCell (World.setCell (World.setCell _ _ _) _ _) _ _ = w3
  obtain ⟨hD, hk3⟩ : Blk w3 g5 [.string p, .slice wa hn wc, .slice va n vc] 28 ∧ Kp (fun k => k = g5) wC w3 := by rw [← hw3]; exact rule_set HC.out.1
  have hwC : Ext w wC := HBx.out.2.2.1.trans (HR.out.1.trans HC.out.2.1)
  have hs1 : w.heap.size ≤ w1.heap.size := (HBx.out.2.2.1.trans HR.out.1).size
  have hX3 : Ext w w3 := hwC.trans' hk3 fun k hk e => by have := HC.out.2.2; omega
  have hzb : wb.heap.size = g2 + 2 := by
    have h1 := HBx.out.2.1.lt
    have h2 := HBx.out.2.2.2
    rw [← HWb.out, alloc_size, alloc_size]; omega
  have hX13 : Ext w1 w3 := (HC.out.2.1).trans' hk3 fun k hk e => by have := HC.out.2.2; omega
  have hXb3 : Ext wb w3 := HR.out.1.trans hX13
  have H0 := Lib.hid (show ApSt w3 w3 lo gm g2 p (.slice ha hn hc) ba n bc f from ⟨Kp.refl _, HBx.out.1.ext hXb3, by
      obtain ⟨⟨cs, h1, h2⟩, h3, h4⟩ := HA.out.2.1.ext hX3
      exact ⟨⟨cs, h1.mono fun k hk => .inl hk, h2⟩, fun i hi => by obtain ⟨xs, hx⟩ := h3 i hi; exact ⟨xs, hx.mono fun k hk => .inl hk⟩, h4⟩⟩)
  have H1 := Lib.hid (show HeadW w3 w3 lo gm ha hn hc n f from ⟨by
      obtain ⟨xs, hx⟩ := HA.out.1
      exact ⟨xs, (Row.ext hx hX3).mono fun k hk => .inl hk⟩, HA.out.2.2.1⟩)
  have H5 := Lib.hid (And.intro hD (And.intro (HR.out.2.ext hX13) (And.intro (HBx.out.2.1.ext hXb3) (And.intro hX3 (And.intro hXb3.size (show g5 < w3.heap.size from hD.lt))))))
  clear hw3 hk3 hD hwC hX3 hX13 hXb3 hs1 z0 z1 z2 f0 f1 f2 eC HWb hzb
  go_loopw [6] (fun iv wr => ApHeadTo w3 lo gm g2 p ha hn hc ba n bc f iv wr) (fun iv _ => hn - (intOf iv).toNat)
  case atStart => exact ⟨0, Nat.zero_le _, rfl, H0, H1⟩
  case round =>
    clear H0 H1
    obtain ⟨i, hi, rfl, hst, hhd⟩ := hrel
    have c1 : wr.cell? ⟨g2, 1, none⟩ = some (.slice ha hn hc) := by rw [hst.out.box.cell']; rfl
    by_cases hlt : i < hn
    · obtain ⟨⟨xs, hx⟩, hne⟩ := hhd.out
      obtain ⟨gh, eha, -, -, -⟩ := hx.lies (by omega)
      subst eha
      have hxl : xs.length = hn * 2 := hx.1
      obtain ⟨y0, h0⟩ : ∃ y, xs[i * 2]? = some y := ⟨_, List.getElem?_eq_getElem (by omega)⟩
      obtain ⟨y1, h1⟩ : ∃ y, xs[i * 2 + 1]? = some y := ⟨_, List.getElem?_eq_getElem (by omega)⟩
      obtain ⟨z0, f0⟩ := hx.cellR h0
      obtain ⟨z1, f1⟩ := hx.cellR h1
      have HX := Lib.hid (And.intro hx (And.intro hxl hne))
      clear hx hxl h0 h1 hne
      go_wp2
      generalize hw4 : World.setCell (World.setCell _ _ _) _ _ = w4
      have hk4 : Kp (fun k => (Value.slice (some ⟨gh, 0, none⟩) hn hc).ownBlock = some k) wr w4 := by
        rw [← hw4]
        have ho : (Value.slice (some ⟨gh, 0, none⟩) hn hc).ownBlock = some gh := rfl
        exact Kp.setCell (F := fun k => (Value.slice (some ⟨gh, 0, none⟩) hn hc).ownBlock = some k) (Kp.setCell (F := fun k => (Value.slice (some ⟨gh, 0, none⟩) hn hc).ownBlock = some k) (Kp.refl wr) (fun _ => ho) _) (fun _ => ho) _
      have hr4 : ∃ xs, Row w4 94 2 (.slice (some ⟨gh, 0, none⟩) hn hc) hn xs (fun k => (lo ≤ k ∧ k < gm) ∨ w3.heap.size ≤ k) := by
        rw [← hw4]
        have hl := HX.out.2.1
        exact ⟨_, (HX.out.1.putO (i * 2) (by omega) _).putO (i * 2 + 1) (by rw [List.length_set]; omega) _⟩
      have H4 := Lib.hid (hst.out.headTo hhd.out hk4)
      have H4h := Lib.hid (show HeadW w3 w4 lo gm (some ⟨gh, 0, none⟩) hn hc n f from ⟨hr4, HX.out.2.2⟩)
      clear hw4 hk4 hr4
      go_roundw
      case rel => exact ⟨i + 1, by omega, by first | rfl | (congr 1; done) | (congr 1; omega), H4, H4h⟩
      case measure => simp [intOf]; omega
    · have ei : hn = i := by omega
      subst ei
      have hA4 := HA.out.2.2.2
      have HF4 := Lib.hid (show ∀ j, j < n → (f j).2.1 ≤ 1048576 + 0 from hA4)
      clear hA4
      obtain ⟨xs, hx⟩ := hhd.out.1
      have HX := Lib.hid hx
      clear hx
      go_wp2_with (first | (at_builtin; refine Halted.out ?_))
      refine Halted.mk (wp_appP (m := 1) (n := hn) elem_term rfl _ _ rfl rfl (HX.out.alloc _) rfl (CellsAt.two wr (.int .i64 (-8)) (.string ⟨#[]⟩) 94) (by rfl) (by simp [Value.oneCell']) (by omega) (by unfold maxLen; omega) ?_)
      intro v1 w5 hr1 hk1
      obtain ⟨va1, vc1, ev1, -, -⟩ := hr1.shape
      subst ev1
      have H5a := Lib.hid ((hst.out.ext ((Kp.refl wr).alloc (.cells #[.int .i64 (-8), .string ⟨#[]⟩] 94))).headTo (show HeadW w3 (wr.alloc (.cells #[.int .i64 (-8), .string ⟨#[]⟩] 94)) lo gm ha hn hc n f from ⟨⟨_, HX.out.alloc _⟩, hhd.out.2⟩) hk1)
      have x1 : w5.cell? ⟨g2, 1, none⟩ = some (.slice ha hn hc) := by rw [H5a.out.box.cell']; rfl
      have x1f := H5a.out.box.free 1
      clear hr1 hk1 c1 HX
      go_wp2
      generalize hw6 : w5.setCell _ _ = w6
      have H6 := Lib.hid (show ApSt w3 w6 lo gm g2 p (.slice va1 (hn + 1) vc1) ba n bc f by rw [← hw6]; exact H5a.out.put _)
      clear hw6 x1 x1f H5a hst hhd
      generalize hwz : wr = wz at *; clear hwz
      go_loopw [7] (fun iv wr => ApBodyTo w3 lo gm g2 p ba n bc iv wr) (fun iv _ => n - (intOf iv).toNat)
      case atStart => exact ⟨0, Nat.zero_le _, rfl, Lib.hid ⟨_, f, H6.out, HF4.out⟩⟩
      case round =>
        clear H6 HF4
        obtain ⟨i, hi, rfl, hst⟩ := hrel
        obtain ⟨hv, f, hs0, hfl⟩ := hst.out
        have c2 : wr.cell? ⟨g2, 2, none⟩ = some (.slice ba n bc) := by rw [hs0.box.cell']; rfl
        by_cases hlt : i < n
        · obtain ⟨cs, hrow, hcs⟩ := hs0.body.row
          obtain ⟨gb, eba, -, -, -⟩ := hrow.lies (by omega)
          subst eba
          obtain ⟨q, eq⟩ : ∃ q, f i = q := ⟨_, rfl⟩
          obtain ⟨ta, tm, tc⟩ := q
          have hcell : wr.cell? ⟨gb, i * 8 + 2, none⟩ = some (.slice ta tm tc) := by
            have h := (hrow.cellR (hcs i hlt)).1
            rw [eq] at h; exact h
          have htm : tm ≤ 1048576 + i := by have h := hfl i hlt; rw [eq] at h; exact h
          have HS := Lib.hid (And.intro hs0 (And.intro hfl eq))
          clear hs0 hfl hrow hcs eq hst
          go_wp2
          generalize hw7 : wr = w7 at *; clear hw7
          go_loopw [8] (fun kv wr => ApInTo w3 lo gm g2 p hv (some ⟨gb, 0, none⟩) n bc f tm kv wr) (fun kv _ => tm - (intOf kv).toNat)
          case atStart => exact ⟨0, Nat.zero_le _, rfl, Lib.hid HS.out.1⟩
          case round =>
            clear hcell c2
            obtain ⟨k, hk, rfl, hin⟩ := hrel
            have c2 : wr.cell? ⟨g2, 2, none⟩ = some (.slice (some ⟨gb, 0, none⟩) n bc) := by rw [hin.out.box.cell']; rfl
            obtain ⟨cs, hrow, hcs⟩ := hin.out.body.row
            have hcell : wr.cell? ⟨gb, i * 8 + 2, none⟩ = some (.slice ta tm tc) := by
              have h := (hrow.cellR (hcs i hlt)).1
              rw [HS.out.2.2] at h; exact h
            have hcell2 := (hrow.cellR (hcs i hlt)).2
            clear hrow hcs
            obtain ⟨xs, hx⟩ : ∃ xs, Row wr 94 2 (.slice ta tm tc) tm xs (fun k => (lo ≤ k ∧ k < gm) ∨ w3.heap.size ≤ k) := by
              obtain ⟨xs, hx⟩ := hin.out.body.terms i hlt
              rw [HS.out.2.2] at hx
              exact ⟨xs, hx⟩
            by_cases hlt2 : k < tm
            · obtain ⟨gt, eta, -, -, -⟩ := hx.lies (by omega)
              subst eta
              have hxl : xs.length = tm * 2 := hx.1
              obtain ⟨y0, h0⟩ : ∃ y, xs[k * 2]? = some y := ⟨_, List.getElem?_eq_getElem (by omega)⟩
              obtain ⟨y1, h1⟩ : ∃ y, xs[k * 2 + 1]? = some y := ⟨_, List.getElem?_eq_getElem (by omega)⟩
              obtain ⟨z0, f0⟩ := hx.cellR h0
              obtain ⟨z1, f1⟩ := hx.cellR h1
              have HX := Lib.hid (And.intro hx hxl)
              clear hx hxl h0 h1 hcell2
              go_wp2
              generalize hw8 : World.setCell (World.setCell _ _ _) _ _ = w8
              have hk8 : Kp (fun k => k = gt) wr w8 := by
                rw [← hw8]
                exact Kp.setCell (F := fun k => k = gt) (Kp.setCell (F := fun k => k = gt) (Kp.refl wr) (fun _ => rfl) _) (fun _ => rfl) _
              have hr8 : ∃ xs, Row w8 94 2 (.slice (some ⟨gt, 0, none⟩) tm tc) tm xs (fun k => (lo ≤ k ∧ k < gm) ∨ w3.heap.size ≤ k) := by
                rw [← hw8]
                have hl := HX.out.2
                exact ⟨_, (HX.out.1.putO (k * 2) (by omega) _).putO (k * 2 + 1) (by rw [List.length_set]; omega) _⟩
              have H8 := Lib.hid (hin.out.term hlt HS.out.2.2 hk8 hr8)
              clear hw8 hk8 hr8
              go_roundw
              case rel => exact ⟨k + 1, by omega, by first | rfl | (congr 1; done) | (congr 1; omega), H8⟩
              case measure => simp [intOf]; omega
            · have ek : tm = k := by omega
              subst ek
              have HX := Lib.hid hx
              have HF := Lib.hid (And.intro hcell2 hin.out)
              have HJ := Lib.hid (show ∀ w', Ext wr w' → (fun w' : World => w'.cell? ⟨g2, 2, none⟩ = some (.slice (some ⟨gb, 0, none⟩) n bc) ∧ w'.cell? ⟨gb, i * 8 + 2, none⟩ = some (.slice ta tm tc)) w' from fun w' hw => ⟨hw.cell c2 id, hw.cell hcell id⟩)
              have hi8 : i ≤ 1048576 := by omega
              clear hx hcell2 hin
              go_wp2
              clear c2 hcell
              refine draw_begin (fun w' : World => w'.cell? ⟨g2, 2, none⟩ = some (.slice (some ⟨gb, 0, none⟩) n bc) ∧ w'.cell? ⟨gb, i * 8 + 2, none⟩ = some (.slice ta tm tc)) [16] (by kernel_rfl) (HJ.out _ (Kp.refl wr).drew) (fun hHeld => ?_)
              (refine draw_free (i := 0) (v := ?_) rfl ?_ ?_; rotate_left; (intro w; go_simp; try with_reducible rfl)); (try simp only [Act.put, List.setIfInBounds_toArray, List.set_cons_zero, List.set_cons_succ])
              (refine draw_in (i := 1) (v := ?_) rfl ?_ ?_; rotate_left; (intro w hSw; (try dsimp only at hSw); go_simp; try with_reducible rfl)); (try simp only [Act.put, List.setIfInBounds_toArray, List.set_cons_zero, List.set_cons_succ])
              (refine draw_free (i := 2) (v := ?_) rfl ?_ ?_; rotate_left; (intro w; go_simp; try with_reducible rfl)); (try simp only [Act.put, List.setIfInBounds_toArray, List.set_cons_zero, List.set_cons_succ])
              (refine draw_free (i := 3) (v := ?_) rfl ?_ ?_; rotate_left; (intro w; go_simp; try with_reducible rfl)); (try simp only [Act.put, List.setIfInBounds_toArray, List.set_cons_zero, List.set_cons_succ])
              (refine draw_in (i := 4) (v := ?_) rfl ?_ ?_; rotate_left; (intro w hSw; (try dsimp only at hSw); go_simp; try with_reducible rfl)); (try simp only [Act.put, List.setIfInBounds_toArray, List.set_cons_zero, List.set_cons_succ])
              (refine draw_free (i := 5) (v := ?_) rfl ?_ ?_; rotate_left; (intro w; go_simp; try with_reducible rfl)); (try simp only [Act.put, List.setIfInBounds_toArray, List.set_cons_zero, List.set_cons_succ])
              (refine draw_in (i := 6) (v := ?_) rfl ?_ ?_; rotate_left; (intro w hSw; (try dsimp only at hSw); go_simp; try with_reducible rfl)); (try simp only [Act.put, List.setIfInBounds_toArray, List.set_cons_zero, List.set_cons_succ])
              (refine draw_free (i := 7) (v := ?_) rfl ?_ ?_; rotate_left; (intro w; go_simp; try with_reducible rfl)); (try simp only [Act.put, List.setIfInBounds_toArray, List.set_cons_zero, List.set_cons_succ])
              (refine draw_free (i := 8) (v := ?_) rfl ?_ ?_; rotate_left; (intro w; go_simp; try with_reducible rfl)); (try simp only [Act.put, List.setIfInBounds_toArray, List.set_cons_zero, List.set_cons_succ])
              (refine draw_in (i := 9) (v := ?_) rfl ?_ ?_; rotate_left; (intro w hSw; (try dsimp only at hSw); go_simp; try with_reducible rfl)); (try simp only [Act.put, List.setIfInBounds_toArray, List.set_cons_zero, List.set_cons_succ])
              (refine draw_free (i := 10) (v := ?_) rfl ?_ ?_; rotate_left; (intro w; go_simp; try with_reducible rfl)); (try simp only [Act.put, List.setIfInBounds_toArray, List.set_cons_zero, List.set_cons_succ])
              refine draw_one (i := 11) ?_
              refine comes_turn (i := 11) rfl (fun K hK => ?_)
              go_simp
              refine hK.out _ _ ?_ (fun hHeld => ?_)
              · (try dsimp only); (exact HJ.out _ (by first | exact ((Kp.refl wr).alloc _).drew | exact (Kp.refl wr).drew.alloc _))
              clear hK K; (try simp only [Act.put, List.setIfInBounds_toArray, List.set_cons_zero, List.set_cons_succ])
              refine draw_one (i := 12) ?_
              refine comes_turn (i := 12) rfl (fun K hK => ?_)
              refine draw_appP (m := 1) (n := tm) elem_term rfl _ _ rfl rfl (by first | exact (HX.out.alloc _).drew | exact HX.out.drew.alloc _) rfl (by first | exact (CellsAt.two wr (.int .i64 (-8)) (.string ⟨#[]⟩) 94) | exact (CellsAt.two _ (.int .i64 (-8)) (.string ⟨#[]⟩) 94)) (by rfl) (by simp [Value.oneCell']) (by omega) (by unfold maxLen; omega) ?_; intro v9 w9 hr9 hk9; obtain ⟨a9, c9, e9, -, -⟩ := hr9.shape; subst e9; have HAp := Lib.hid ((HF.out.2.ext (show Ext wr _ from by first | exact ((Kp.refl wr).alloc (.cells #[.int .i64 (-8), .string ⟨#[]⟩] 94)).drew | exact (Kp.refl wr).drew.alloc (.cells #[.int .i64 (-8), .string ⟨#[]⟩] 94))).app hlt (q := (a9, tm + 1, c9)) (by rw [HS.out.2.2]; exact hk9) (by rw [HS.out.2.2]; exact hr9)); have HS9 := Lib.hid (show w9.cell? ⟨g2, 2, none⟩ = some (.slice (some ⟨gb, 0, none⟩) n bc) ∧ w9.cell? ⟨gb, i * 8 + 2, none⟩ = some (.slice ta tm tc) from ⟨by rw [HAp.out.2.1.cell']; rfl, by obtain ⟨cs, h2, h3⟩ := HAp.out.2.2; have h := (h2.cellR (h3 i hlt)).1; rw [HS.out.2.2] at h; exact h⟩); have f9 : w9.frozen? ⟨gb, i * 8 + 2, none⟩ = false := (by obtain ⟨cs, h2, h3⟩ := HAp.out.2.2; exact (h2.cellR (h3 i hlt)).2); have z9 := HS9.out.2; clear hr9 hk9
              refine hK.out _ _ ?_ (fun hHeld => ?_)
              · (try dsimp only); (exact HS9.out)
              clear hK K; (try simp only [Act.put, List.setIfInBounds_toArray, List.set_cons_zero, List.set_cons_succ])
              (refine draw_in (i := 13) (v := ?_) rfl ?_ ?_; rotate_left; (intro w hSw; (try dsimp only at hSw); go_simp; try with_reducible rfl)); (try simp only [Act.put, List.setIfInBounds_toArray, List.set_cons_zero, List.set_cons_succ])
              (refine draw_free (i := 14) (v := ?_) rfl ?_ ?_; rotate_left; (intro w; go_simp; try with_reducible rfl)); (try simp only [Act.put, List.setIfInBounds_toArray, List.set_cons_zero, List.set_cons_succ])
              (refine draw_free (i := 15) (v := ?_) rfl ?_ ?_; rotate_left; (intro w; go_simp; try with_reducible rfl)); (try simp only [Act.put, List.setIfInBounds_toArray, List.set_cons_zero, List.set_cons_succ])
              refine draw_one (i := 16) ?_
              refine comes_late (i := 16) rfl (by kernel_rfl) (fun K hK => ?_)
              go_simp
              refine hK.out _ _ ?_
              clear hK K; (try simp only [Act.put, List.setIfInBounds_toArray, List.set_cons_zero, List.set_cons_succ])
              refine wpAnyD_done (by kernel_rfl) ?_ _
              clear hHeld HJ f9 z9
              obtain ⟨w10, e10⟩ : ∃ x, w9.setCell ⟨gb, i * 8 + 1 + 1, none⟩ (.slice a9 (tm + 1) c9) = x := ⟨_, rfl⟩
              rw [e10]
              have H10 := Lib.hid (show ApSt w3 w10 lo gm g2 p hv (some ⟨gb, 0, none⟩) n bc (updF f i (a9, tm + 1, c9)) by rw [← e10]; exact HAp.out.1)
              clear e10 HAp HS9
              have c2 : w10.cell? ⟨g2, 2, none⟩ = some (.slice (some ⟨gb, 0, none⟩) n bc) := by rw [H10.out.box.cell']; rfl
              obtain ⟨y, hy, hyf⟩ : ∃ y, w10.cell? ⟨gb, i * 8, none⟩ = some y ∧ w10.frozen? ⟨gb, i * 8, none⟩ = false := by
                obtain ⟨cs, hrow, hcs⟩ := H10.out.body.row
                have hl := hrow.1
                exact ⟨_, hrow.cellR (List.getElem?_eq_getElem (show i * 8 < cs.length by omega))⟩
              go_wp2
              generalize hw11 : w10.setCell _ _ = w11
              have H11 := Lib.hid (show ApSt w3 w11 lo gm g2 p hv (some ⟨gb, 0, none⟩) n bc (updF f i (a9, tm + 1, c9)) by rw [← hw11]; exact H10.out.kind hlt _)
              clear hw11 hy hyf c2 H10
              go_roundw
              case rel =>
                refine ⟨i + 1, by omega, by first | rfl | (congr 1; done) | (congr 1; omega), Lib.hid ⟨hv, _, H11.out, fun j hj => ?_⟩⟩
                have h := HS.out.2.1 j hj
                unfold updF
                split
                · show tm + 1 ≤ _
                  omega
                · omega
              case measure => simp [intOf]; omega
        · have ei : n = i := by omega
          subst ei
          obtain ⟨cs, hrow, hcs⟩ := hs0.body.row
          have HS := Lib.hid (And.intro hs0 hrow)
          clear hs0 hfl hrow hcs hst
          go_wp2_with (first | (at_builtin; refine Halted.out ?_))
          refine Halted.mk (wp_appP (m := 1) (n := n) elem_lit rfl _ _ rfl rfl (HS.out.2.alloc _) rfl (CellsAt.new wr [.int .i64 (-8), .string ⟨#[]⟩, .slice none 0 0, .int .i64 0, .int .i64 0, .string ⟨#[]⟩, .int .i64 0, .string ⟨#[]⟩] 97) (by rfl) (by simp [Value.oneCell']) (by omega) (by unfold maxLen; omega) ?_)
          intro v9 w9 hr9 hk9
          obtain ⟨a9, c9, e9, -, -⟩ := hr9.shape
          subst e9
          have hbx : Blk w9 g2 [.string p, hv, .slice ba n bc] 28 := (HS.out.1.box.alloc _).kp hk9 fun e => by
            obtain ⟨cs, hb⟩ := HS.out.2.blkOf e
            exact typ_lrC (blk_ne hb HS.out.1.box)
          have hKF : Kp (fun k => (lo ≤ k ∧ k < gm) ∨ k = g2) w3 w9 := (HS.out.1.kp.alloc _).trans' hk9 fun k hk e => by
            rcases HS.out.2.block k e with h1 | h1
            · exact .inl h1
            · omega
          have x2 : w9.cell? ⟨g2, 2, none⟩ = some (.slice ba n bc) := by rw [hbx.cell']; rfl
          have x2f := hbx.free 2
          have hbig : (0 : Int) < (n : Int) + 1 := by omega
          obtain ⟨w10, e10⟩ : ∃ x, w9.setCell ⟨g2, 2, none⟩ (.slice a9 (n + 1) c9) = x := ⟨_, rfl⟩
          have hk10 : Kp (fun k => k = g2) w9 w10 := by rw [← e10]; exact Kp.setCell (F := fun k => k = g2) (Kp.refl w9) (fun _ => rfl) _
          have hbx10 : Blk w10 g2 [.string p, hv, .slice a9 (n + 1) c9] 28 := by rw [← e10]; exact hbx.set 2 _
          have hK10 : Kp (fun k => (lo ≤ k ∧ k < gm) ∨ k = g2) w3 w10 := hKF.trans' hk10 fun k _ e => .inr e
          have hsz : w.heap.size = g2 ∧ gm ≤ g2 ∧ wb.heap.size ≤ w1.heap.size ∧ g2 + 1 < wb.heap.size ∧ w1.heap.size = g5 := ⟨HBx.out.2.2.2, by have h1 := HGM.out; have h2 := HBx.out.2.2.2; omega, HR.out.1.size, HBx.out.2.1.lt, HC.out.2.2⟩
          have hb10 : Blk w10 (g2 + 1) [.string p, .slice hb hn hbc, .slice bb n bbc] 28 := H5.out.2.2.1.kp hK10 fun h => by omega
          have h510 : Blk w10 g5 [.string p, .slice wa hn wc, .slice va n vc] 28 := H5.out.1.kp hK10 fun h => by omega
          have hKw : Kp (fun k => lo ≤ k ∧ k < gm) w w10 := (Ext.kp H5.out.2.2.2.1).trans' hK10 fun k hk h => by
            rcases h with h | h
            · exact h
            · omega
          have t1 : TermsAt w10 (fun k => gm ≤ k) hb hs := HB.out.1.kp hKw fun k h1 h2 => by omega
          have t2 : LitsAt w10 (fun k => gm ≤ k) bb ls := HB.out.2.kp hKw fun k h1 h2 => by omega
          have t3 : TermsAt w10 (New wb) wa hs := (H5.out.2.1.head.at (terms_fit HB.out.1)).kp hK10 fun k h1 h2 => by
            have h3 : wb.heap.size ≤ k := h1
            omega
          have t4 : LitsAt w10 (New wb) va ls := (H5.out.2.1.lits (lits_all HB.out.2)).kp hK10 fun k h1 h2 => by
            have h3 : wb.heap.size ≤ k := h1
            omega
          have HS2 := Lib.hid (same25_any p hs ls hb wa hn hbc wc bb va n bbc vc w10 _ _ HN.out.1 t1 t3 hhl HN.out.2.1 t2 t4 HN.out.2.2)
          have HS3 := Lib.hid (And.intro hKw hbx10)
          have p0 : w10.cell? ⟨g2 + 1, 0, none⟩ = some (.string p) := by rw [hb10.cell']; rfl
          have p1 : w10.cell? ⟨g2 + 1, 1, none⟩ = some (.slice hb hn hbc) := by rw [hb10.cell']; rfl
          have p2 : w10.cell? ⟨g2 + 1, 2, none⟩ = some (.slice bb n bbc) := by rw [hb10.cell']; rfl
          have q0 : w10.cell? ⟨g5, 0, none⟩ = some (.string p) := by rw [h510.cell']; rfl
          have q1 : w10.cell? ⟨g5, 1, none⟩ = some (.slice wa hn wc) := by rw [h510.cell']; rfl
          have q2 : w10.cell? ⟨g5, 2, none⟩ = some (.slice va n vc) := by rw [h510.cell']; rfl
          clear hr9 hk9 c2 hbx hKF HS hk10 hbx10 hK10 hsz hb10 h510 hKw t1 t2 t3 t4
          go_wp2_with fail
          refine HS2.out.mono ?_
          rintro e w11 ⟨v, rfl, hk11, rfl⟩
          have H11 := Lib.hid (And.intro (HS3.out.1.ext hk11) (HS3.out.2.ext hk11))
          have x11 : w11.cell? ⟨g2, 2, none⟩ = some (.slice a9 (n + 1) c9) := by rw [H11.out.2.cell']; rfl
          clear hk11 e10 x2 x2f p0 p1 p2 q0 q1 q2
          go_wp2
          go_ret
          exact ⟨rfl, H11.out.1⟩
end Go.Proofs.YtomeebimmmfmbaaGreat

/- The law of one's own memory: four lists that are written full and grown. -/
namespace Go.Proofs.YtomeebimmmfmbaaGreat
open Go.RowKit
set_option linter.unusedVariables false
theorem run_app2 {P : Program} {w : World} {t e : TypeId} {k bytes : Nat} {z : Value} (E : ElemT P t e k bytes z) (ty : TypeId) {v : Value} {n : Nat} {xs : List Value} {M : Nat → Prop} (hr : Row w e k v n xs M)
    {ao : Option Addr} {m c : Nat} {news : List Value} (hl : news.length = m * k) (hs : CellsAt w ao news) (h1 : ∀ u ∈ news, u.oneCell' = true) (hb : (n + m) * bytes ≤ 140737488355328) (h63 : n + m ≤ maxLen) :
    ∃ v' w', (Builtin.append_ #[t, t] ty #[v, .slice ao m c]).run P w = .ok v' w' ∧ Row w' e k v' (n + m) (xs ++ news) (fun g => v.ownBlock = some g ∨ w.heap.size ≤ g) ∧ Kp (fun g => v.ownBlock = some g) w w' ∧ (v'.ownBlock = v.ownBlock ∨ Ext w w') := by
  by_cases hm : m = 0
  · subst hm
    have hn : news = [] := List.eq_nil_of_length_eq_zero (by simpa using hl)
    subst hn
    obtain ⟨ao1, cap1, rfl, _, hcap⟩ := hr.shape
    refine ⟨_, w, run_append_none' E ty hcap _ _, ?_, Kp.refl _, .inl rfl⟩
    simp only [Nat.add_zero, List.append_nil]
    obtain ⟨h1, h2 | ⟨g, cap, rest, a, b, c⟩⟩ := hr
    · exact ⟨h1, .inl h2⟩
    · exact ⟨h1, .inr ⟨g, cap, rest, a, .inl (by rw [a]; rfl), c⟩⟩
  · have hne : news ≠ [] := by
      rintro rfl
      have h0 := Nat.mul_pos (Nat.pos_of_ne_zero hm) E.2.2.2
      simp only [List.length_nil] at hl; omega
    obtain ⟨b, off, rfl, hlt⟩ := hs.off hne
    have hsrc : ∀ j u, news[j]? = some u → w.cell? ((⟨b, off, none⟩ : Addr).add j) = some u := fun j u hu => by
      obtain ⟨b', off', he, hc⟩ := hs j u hu
      cases he
      rw [Addr.add_lit]; exact hc
    obtain ⟨ht, hi, hz, hk⟩ := E
    obtain ⟨i, hi, hz1, hz2, hz3⟩ := info_parts hi
    have hsmall : n + m ≤ 9223372036854775807 := h63
    have grown : ∀ old, (w.drew.alloc (.cells (xs.toArray ++ news.toArray ++ Builtin.zeroCells z.cells (grownCap w (n + m) old e - (n + m))) e)).heap[w.heap.size]? =
        some (.cells ((xs ++ news) ++ (Builtin.zeroCells z.cells (grownCap w (n + m) old e - (n + m))).toList).toArray e (0, 0)) := fun old => by
      show (w.heap.push _)[w.heap.size]? = _
      simp
    have lens : ∀ old, ((xs ++ news) ++ (Builtin.zeroCells z.cells (grownCap w (n + m) old e - (n + m))).toList).length = grownCap w (n + m) old e * k := fun old => by
      have hge := grownCap_ge w (n + m) old e
      simp only [List.length_append, Array.length_toList, size_zeroCells, hz, hr.1, hl, ← Nat.add_mul]
      congr 1; omega
    obtain ⟨hx, ⟨rfl, rfl⟩ | ⟨g, cap, rest, rfl, hM, hB, hlen, hnc, hcm⟩⟩ := hr
    · have hx0 : xs = [] := List.eq_nil_of_length_eq_zero (by simpa using hx)
      subst hx0
      have hr := run_append_nil (P := P) w t ty e i z ht hi hz1 ⟨b, off, none⟩ m c news (by rw [hz2]; exact hl) hsrc (by omega) (by omega) (by rw [hz3]; simp only [Nat.zero_add] at hb; omega)
      refine ⟨_, _, hr, ?_, ⟨rfl, rfl, rfl, by simp, fun k hk _ => Below.heap_alloc w.drew _ k hk⟩, .inr ⟨rfl, rfl, rfl, by simp, fun k hk _ => Below.heap_alloc w.drew _ k hk⟩⟩
      have h0 := grown 0
      have h2 := lens 0
      simp only [Nat.zero_add, List.nil_append, Array.empty_append] at h0 h2 ⊢
      exact ⟨hl, .inr ⟨_, _, _, rfl, .inr (Nat.le_refl _), h0, h2, grownCap_ge w m 0 e, grownCap_le_maxLen w m 0 e (by omega)⟩⟩
    · by_cases hroom : n + m ≤ cap
      · have hr := run_append_room (P := P) w t ty e i ht hi g n cap _ hB ⟨b, off, none⟩ m c news (by rw [hz2]; exact hl) hsrc h1 hroom (by
            simp only [hz2, List.size_toArray, hlen, hl, ← Nat.add_mul]; exact Nat.mul_le_mul_right _ hroom)
        refine ⟨_, _, hr, ⟨by rw [List.length_append, hx, hl, Nat.add_mul], .inr ⟨g, cap, rest.drop news.length, rfl, .inl rfl, ?_, ?_, hroom, hcm⟩⟩, ⟨rfl, rfl, rfl, by simp, fun k _ hk => setRow_other w g k _ (fun e => hk (by simp [Value.ownBlock, e]))⟩, .inl rfl⟩
        · show _ = _
          rw [setRow_heap w g _ _ e _ hB]
          congr 2
          simp only [hz2]
          rw [← hx]
          simp
        · have : news.length ≤ rest.length := by
            have := hlen
            simp only [List.length_append, hx] at this
            have h3 : (n + m) * k ≤ cap * k := Nat.mul_le_mul_right _ hroom
            rw [Nat.add_mul] at h3
            omega
          simp only [List.length_append, List.length_drop] at hlen ⊢
          omega
      · have holds : ∀ j u, xs[j]? = some u → w.cell? ((⟨g, 0, none⟩ : Addr).add j) = some u := fun j u hu => by
          rw [Addr.add_lit, Nat.zero_add, hB.cell', List.getElem?_append_left (List.getElem?_eq_some_iff.1 hu).1]; exact hu
        have hr := run_append_grow (P := P) w t ty e i z ht hi hz1 ⟨g, 0, none⟩ n cap xs (by rw [hz2]; exact hx) holds ⟨b, off, none⟩ m c news (by rw [hz2]; exact hl) hsrc (by omega) (by omega) (by rw [hz3]; exact growslice_fits (by omega) hb)
        exact ⟨_, _, hr, ⟨by rw [List.length_append, hx, hl, Nat.add_mul], .inr ⟨_, _, _, rfl, .inr (Nat.le_refl _), grown cap, lens cap, grownCap_ge w (n + m) cap e, grownCap_le_maxLen w (n + m) cap e (by omega)⟩⟩, ⟨rfl, rfl, rfl, by simp, fun k hk _ => Below.heap_alloc w.drew _ k hk⟩, .inr ⟨rfl, rfl, rfl, by simp, fun k hk _ => Below.heap_alloc w.drew _ k hk⟩⟩
theorem wp_appQ {P : Program} {t e : TypeId} {k bytes : Nat} {z : Value} {w : World} (E : ElemT P t e k bytes z) {ops : Array Oper} {rest : List Oper} {o : Oper} {a : Act} {Q : Exit → Act → World → Prop} (hgd : o.guard = none) (s x : Operand)
    (ho : o.op = .call { callee := .builtin .append, args := #[s, x], argTypes := #[t, t] })
    {v : Value} {n : Nat} {xs : List Value} {M : Nat → Prop} (hs : a.eval s = v) (hr : Row w e k v n xs M)
    {ao : Option Addr} {m c : Nat} {news : List Value} (hx : a.eval x = .slice ao m c) (hsrc : CellsAt w ao news) (hl : news.length = m * k) (h1 : ∀ u ∈ news, u.oneCell' = true)
    (hb : (n + m) * bytes ≤ 140737488355328) (h63 : n + m ≤ maxLen)
    (h : ∀ v' w', Row w' e k v' (n + m) (xs ++ news) (fun g => v.ownBlock = some g ∨ w.heap.size ≤ g) → Kp (fun g => v.ownBlock = some g) w w' → (v'.ownBlock = v.ownBlock ∨ Ext w w') → wpList P ops Q rest (a.put o.dst v') w') : wpList P ops Q (o :: rest) a w := by
  refine wpList_plain hgd fun K hK => ?_
  obtain ⟨v', w', hrun, h2, h3, h4⟩ := run_app2 (P := P) E o.type hr hl hsrc h1 hb h63 (c := c)
  unfold Oper.wp execOp
  simp only [ho, resolve, invoke, builtin, Sem.run_bind, Sem.run_pure, Result.andThen_ok, List.map_toArray, List.map_cons, List.map_nil, hs, hx, hrun]
  exact hK _ _ (h v' w' h2 h3 h4)
def updC (C : Nat → List Int) (i : Nat) (xs : List Int) : Nat → List Int := fun j => if j = i then xs else C j
structure AllW (w : World) (M : Nat → Prop) (ga : Nat) (vs : Nat → SlZ) (C : Nat → List Int) : Prop where
  blk : Blk w ga [slV (vs 0), slV (vs 1), slV (vs 2), slV (vs 3)] 29
  rows : ∀ i, i < 4 → Row w 3 1 (slV (vs i)) (vs i).2.1 (ints (C i)) M
  far : ∀ i j, i < 4 → j < 4 → i ≠ j → ∀ a b, (vs i).1 = some a → (vs j).1 = some b → a.block ≠ b.block
theorem typ_ilO : 3 ≠ 29 := by decide
theorem AllW.len {w : World} {M : Nat → Prop} {ga : Nat} {vs : Nat → SlZ} {C : Nat → List Int} (h : AllW w M ga vs C) {i : Nat} (hi : i < 4) : (C i).length = (vs i).2.1 := by
  have := (h.rows i hi).1
  rw [ints_len, Nat.mul_one] at this; exact this
theorem AllW.cell {w : World} {M : Nat → Prop} {ga : Nat} {vs : Nat → SlZ} {C : Nat → List Int} (h : AllW w M ga vs C) {i : Nat} (hi : i < 4) : w.cell? ⟨ga, i, none⟩ = some (.slice (vs i).1 (vs i).2.1 (vs i).2.2) := by
  rw [h.blk.cell']
  rcases (show i = 0 ∨ i = 1 ∨ i = 2 ∨ i = 3 by omega) with rfl | rfl | rfl | rfl <;> rfl
theorem AllW.kp {w w' : World} {M F : Nat → Prop} {ga : Nat} {vs : Nat → SlZ} {C : Nat → List Int} (h : AllW w M ga vs C) (hk : Kp F w w') (h1 : ¬ F ga) (h2 : ∀ i, i < 4 → ∀ a, (vs i).1 = some a → ¬ F a.block) : AllW w' M ga vs C :=
  ⟨h.blk.kp hk h1, fun i hi => Row.kpA (h.rows i hi) hk (h2 i hi), h.far⟩
theorem AllW.ext {w w' : World} {M : Nat → Prop} {ga : Nat} {vs : Nat → SlZ} {C : Nat → List Int} (h : AllW w M ga vs C) (hk : Ext w w') : AllW w' M ga vs C := h.kp hk id fun _ _ _ _ => id
theorem AllW.at {w : World} {M : Nat → Prop} {ga : Nat} {vs : Nat → SlZ} {C : Nat → List Int} (h : AllW w M ga vs C) {i : Nat} (hi : i < 4) {a : Addr} (ha : (vs i).1 = some a) : a = ⟨a.block, 0, none⟩ ∧ M a.block ∧ a.block < w.heap.size ∧ a.block ≠ ga := by
  have hr := h.rows i hi
  have h1 := row_addr (ao := (vs i).1) hr ha
  obtain ⟨cs, hb⟩ := row_addrE hr ha
  refine ⟨?_, h1.2, h1.1, fun e => ?_⟩
  · obtain ⟨_, ⟨e1, _⟩ | ⟨g', cap, rest, e1, _⟩⟩ := hr
    · unfold slV at e1; rw [ha] at e1; cases e1
    · unfold slV at e1; rw [ha] at e1; cases e1; rfl
  · rw [e] at hb
    exact typ_ilO (blk_ne hb h.blk)
theorem AllW.put {w : World} {M : Nat → Prop} {ga : Nat} {vs : Nat → SlZ} {C : Nat → List Int} (h : AllW w M ga vs C) {i : Nat} (hi : i < 4) {g : Nat} (hg : (vs i).1 = some ⟨g, 0, none⟩) {k : Nat} (hk : k < (C i).length) (z : Int) : AllW (w.setCell ⟨g, k, none⟩ (.int .i64 z)) M ga vs (updC C i ((C i).set k z)) := by
  have hks : Kp (fun k => k = g) w (w.setCell ⟨g, k, none⟩ (.int .i64 z)) := Kp.setCell (F := fun k => k = g) (Kp.refl w) (fun _ => rfl) _
  refine ⟨h.blk.kp hks fun e => (h.at hi hg).2.2.2 e.symm, fun j hj => ?_, h.far⟩
  unfold updC
  by_cases e : j = i
  · subst e
    rw [if_pos rfl]
    have hr := h.rows j hj
    unfold slV at hr ⊢
    rw [hg] at hr ⊢
    have h1 := hr.putO k (by rw [ints_len]; exact hk) (.int .i64 z)
    rw [show ints ((C j).set k z) = (ints (C j)).set k (.int .i64 z) by simp [ints, List.map_set]]
    exact h1
  · rw [if_neg e]
    exact Row.kpA (h.rows j hj) hks fun a ha e2 => h.far j i hj hi e a _ ha hg e2
structure GrewW (w : World) (v : SlZ) (xs : List Int) (l : SlZ) (ys : List Int) (s : Nat) : Prop where
  row : Row w 3 1 (slV l) l.2.1 (ints (xs ++ ys)) (fun g => (slV v).ownBlock = some g ∨ s ≤ g)
  old : CellsAt w v.1 (ints xs)
theorem GrewW.start {w : World} {M : Nat → Prop} {v : SlZ} {xs : List Int} {s : Nat} (h : Row w 3 1 (slV v) v.2.1 (ints xs) M) : GrewW w v xs v [] s := by
  refine ⟨?_, ?_⟩
  · rw [List.append_nil]
    obtain ⟨h1, ⟨e, h0⟩ | ⟨g, cap, rest, e, hM, hB, h2⟩⟩ := h
    · exact ⟨h1, .inl ⟨e, h0⟩⟩
    · exact ⟨h1, .inr ⟨g, cap, rest, e, .inl (by rw [e]; rfl), hB, h2⟩⟩
  · obtain ⟨a, c, e, hc, _⟩ := h.shape
    unfold slV at e
    cases v with
    | mk v1 v2 =>
      cases e
      exact hc
theorem GrewW.app {w w1 : World} {v l q : SlZ} {xs ys : List Int} {s : Nat} {z : Int} (h : GrewW w v xs l ys s) (hs : s ≤ w.heap.size) (hk : Kp (fun g => (slV l).ownBlock = some g) w w1) (hr : Row w1 3 1 (slV q) q.2.1 (ints (xs ++ ys) ++ [.int .i64 z]) (fun g => (slV l).ownBlock = some g ∨ w.heap.size ≤ g)) (he : (slV q).ownBlock = (slV l).ownBlock ∨ Ext w w1) (hv : ∀ a, v.1 = some a → a = ⟨a.block, 0, none⟩) : GrewW w1 v xs q (ys ++ [z]) s := by
  refine ⟨?_, ?_⟩
  · have e : ints (xs ++ (ys ++ [z])) = ints (xs ++ ys) ++ [.int .i64 z] := by simp [ints]
    rw [e]
    refine hr.mono fun g hg => ?_
    rcases hg with hg | hg
    · exact h.row.block g hg
    · exact .inr (Nat.le_trans hs hg)
  · rcases he with he | he
    · by_cases hin : ∃ g, v.1 = some ⟨g, 0, none⟩ ∧ (slV l).ownBlock = some g
      · obtain ⟨g, hg, hl⟩ := hin
        obtain ⟨_, ⟨e1, _⟩ | ⟨g', cap, rest, e1, _, hB, _⟩⟩ := hr
        · rw [hl, e1] at he; cases he
        · rw [hl, e1] at he
          cases he
          rw [hg]
          have e : ints (xs ++ ys) ++ [.int .i64 z] ++ rest = ints xs ++ (ints ys ++ [.int .i64 z] ++ rest) := by simp [ints]
          rw [e] at hB
          exact CellsAt.pre hB
      · refine h.old.kp hk fun a ha e => hin ⟨a.block, by rw [ha, ← hv a ha], e⟩
    · exact h.old.ext he
theorem GrewW.kp {w w' : World} {F : Nat → Prop} {v l : SlZ} {xs ys : List Int} {s : Nat} (h : GrewW w v xs l ys s) (hk : Kp F w w') (h1 : ∀ a, v.1 = some a → ¬ F a.block) (h2 : ∀ a, l.1 = some a → ¬ F a.block) : GrewW w' v xs l ys s :=
  ⟨Row.kpA h.row hk h2, h.old.kp hk h1⟩
theorem GrewW.less {w : World} {v l : SlZ} {xs ys : List Int} {s s' : Nat} (h : GrewW w v xs l ys s) (hs : s' ≤ s) : GrewW w v xs l ys s' :=
  ⟨h.row.mono fun g hg => hg.imp id fun h => Nat.le_trans hs h, h.old⟩
theorem GrewW.lies {w : World} {v l : SlZ} {xs ys : List Int} {s : Nat} (h : GrewW w v xs l ys s) {a : Addr} (ha : l.1 = some a) : ((∃ b, v.1 = some b ∧ b.block = a.block) ∨ s ≤ a.block) ∧ a.block < w.heap.size := by
  have h1 := row_addr (ao := l.1) h.row ha
  exact ⟨h1.2.imp (fun h => own_addr h) id, h1.1⟩
structure GrowAll (w : World) (M : Nat → Prop) (ga : Nat) (vs : Nat → SlZ) (C : Nat → List Int) (Y : Nat → List Int) (gs : Nat → SlZ) (i s0 : Nat) : Prop where
  blk : Blk w ga [slV (vs 0), slV (vs 1), slV (vs 2), slV (vs 3)] 29
  done : ∀ j, j < i → GrewW w (vs j) (C j) (gs j) (Y j) s0
  todo : ∀ j, i ≤ j → j < 4 → Row w 3 1 (slV (vs j)) (vs j).2.1 (ints (C j)) M
  far : ∀ i j, i < 4 → j < 4 → i ≠ j → ∀ a b, (vs i).1 = some a → (vs j).1 = some b → a.block ≠ b.block
  before : ∀ i, i < 4 → ∀ a, (vs i).1 = some a → a.block < s0 ∧ a = ⟨a.block, 0, none⟩
structure GrowOne (w : World) (M : Nat → Prop) (ga : Nat) (vs : Nat → SlZ) (C : Nat → List Int) (Y : Nat → List Int) (gs : Nat → SlZ) (i s0 s1 : Nat) (l : SlZ) (ys : List Int) : Prop where
  blk : Blk w ga [slV (vs 0), slV (vs 1), slV (vs 2), slV (vs 3)] 29
  done : ∀ j, j < i → GrewW w (vs j) (C j) (gs j) (Y j) s0 ∧ ∀ a, (gs j).1 = some a → a.block < s1
  one : GrewW w (vs i) (C i) l ys s1
  todo : ∀ j, i < j → j < 4 → Row w 3 1 (slV (vs j)) (vs j).2.1 (ints (C j)) M
  far : ∀ i j, i < 4 → j < 4 → i ≠ j → ∀ a b, (vs i).1 = some a → (vs j).1 = some b → a.block ≠ b.block
  before : ∀ i, i < 4 → ∀ a, (vs i).1 = some a → a.block < s0 ∧ a = ⟨a.block, 0, none⟩
  size : s0 ≤ s1 ∧ s1 ≤ w.heap.size
theorem GrowAll.one {w : World} {M : Nat → Prop} {ga : Nat} {vs : Nat → SlZ} {C Y : Nat → List Int} {gs : Nat → SlZ} {i s0 : Nat} (h : GrowAll w M ga vs C Y gs i s0) (hi : i < 4) (hs : s0 ≤ w.heap.size) : GrowOne w M ga vs C Y gs i s0 w.heap.size (vs i) [] :=
  ⟨h.blk, fun j hj => ⟨h.done j hj, fun a ha => ((h.done j hj).lies ha).2⟩, GrewW.start (h.todo i (Nat.le_refl _) hi), fun j h1 h2 => h.todo j (by omega) h2, h.far, h.before, hs, Nat.le_refl _⟩
theorem GrowOne.kp {w w' : World} {M F : Nat → Prop} {ga : Nat} {vs : Nat → SlZ} {C Y : Nat → List Int} {gs : Nat → SlZ} {i s0 s1 : Nat} {l : SlZ} {ys : List Int} (h : GrowOne w M ga vs C Y gs i s0 s1 l ys) (hk : Kp F w w') (h0 : ¬ F ga) (h1 : ∀ j, j < 4 → ∀ a, (vs j).1 = some a → ¬ F a.block) (h2 : ∀ j, j < i → ∀ a, (gs j).1 = some a → ¬ F a.block) (h3 : ∀ a, l.1 = some a → ¬ F a.block) (hi : i < 4) : GrowOne w' M ga vs C Y gs i s0 s1 l ys :=
  ⟨h.blk.kp hk h0, fun j hj => ⟨(h.done j hj).1.kp hk (h1 j (by omega)) (h2 j hj), (h.done j hj).2⟩, h.one.kp hk (h1 i hi) h3, fun j a b => Row.kpA (h.todo j a b) hk (h1 j b), h.far, h.before, h.size.1, Nat.le_trans h.size.2 hk.size⟩
theorem GrowOne.ext {w w' : World} {M : Nat → Prop} {ga : Nat} {vs : Nat → SlZ} {C Y : Nat → List Int} {gs : Nat → SlZ} {i s0 s1 : Nat} {l : SlZ} {ys : List Int} (h : GrowOne w M ga vs C Y gs i s0 s1 l ys) (hk : Ext w w') (hi : i < 4) : GrowOne w' M ga vs C Y gs i s0 s1 l ys := h.kp hk id (fun _ _ _ _ => id) (fun _ _ _ _ => id) (fun _ _ => id) hi
theorem GrowOne.app {w w1 : World} {M : Nat → Prop} {ga : Nat} {vs : Nat → SlZ} {C Y : Nat → List Int} {gs : Nat → SlZ} {i s0 s1 : Nat} {l q : SlZ} {ys : List Int} {z : Int} (h : GrowOne w M ga vs C Y gs i s0 s1 l ys) (hi : i < 4) (hk : Kp (fun g => (slV l).ownBlock = some g) w w1) (hr : Row w1 3 1 (slV q) q.2.1 (ints (C i ++ ys) ++ [.int .i64 z]) (fun g => (slV l).ownBlock = some g ∨ w.heap.size ≤ g)) (he : (slV q).ownBlock = (slV l).ownBlock ∨ Ext w w1) : GrowOne w1 M ga vs C Y gs i s0 s1 q (ys ++ [z]) := by
  have key : ∀ g, (slV l).ownBlock = some g → (∃ b, (vs i).1 = some b ∧ b.block = g) ∨ s1 ≤ g := fun g hg => by
    obtain ⟨a, ha, e⟩ := own_addr hg
    subst e
    exact (h.one.lies ha).1
  have hs := h.size.1
  refine ⟨h.blk.kp hk fun e => ?_, fun j hj => ⟨(h.done j hj).1.kp hk (fun a ha e => ?_) fun a ha e => ?_, (h.done j hj).2⟩, h.one.app h.size.2 hk hr he fun a ha => (h.before i hi a ha).2, fun j h1 h2 => Row.kpA (h.todo j h1 h2) hk fun a ha e => ?_, h.far, h.before, hs, Nat.le_trans h.size.2 hk.size⟩
  · obtain ⟨cs, hb⟩ := h.one.row.blkOf e
    exact typ_ilO (blk_ne hb h.blk)
  · rcases key _ e with ⟨b, hb, eb⟩ | h1
    · exact h.far i j hi (by omega) (by omega) b a hb ha eb
    · have := (h.before j (by omega) a ha).1
      omega
  · rcases key _ e with ⟨b, hb, eb⟩ | h1
    · rcases ((h.done j hj).1.lies ha).1 with ⟨c, hc, ec⟩ | h2
      · exact h.far i j hi (by omega) (by omega) b c hb hc (eb.trans ec.symm)
      · have := (h.before i hi b hb).1
        omega
    · have := (h.done j hj).2 a ha
      omega
  · rcases key _ e with ⟨b, hb, eb⟩ | h2'
    · exact h.far i j hi h2 (by omega) b a hb ha eb
    · have := (h.before j h2 a ha).1
      omega
theorem GrowOne.all {w : World} {M : Nat → Prop} {ga : Nat} {vs : Nat → SlZ} {C Y : Nat → List Int} {gs : Nat → SlZ} {i s0 s1 : Nat} {l : SlZ} {ys : List Int} (h : GrowOne w M ga vs C Y gs i s0 s1 l ys) (hY : Y i = ys) : GrowAll w M ga vs C Y (updF gs i l) (i + 1) s0 := by
  refine ⟨h.blk, fun j hj => ?_, fun j h1 h2 => h.todo j (by omega) h2, h.far, h.before⟩
  unfold updF
  by_cases e : j = i
  · subst e
    rw [if_pos rfl, hY]
    exact h.one.less h.size.1
  · rw [if_neg e]
    exact (h.done j (by omega)).1
end Go.Proofs.YtomeebimmmfmbaaGreat

/- The law of one's own memory: what the loops over the four lists know. -/
namespace Go.Proofs.YtomeebimmmfmbaaGreat
open Go.RowKit
set_option linter.unusedVariables false
theorem elem_listsO : ElemT Tryz.prog 62 29 1 24 (.slice none 0 0) := ⟨by kernel_rfl, by kernel_rfl, rfl, by decide⟩
def four {α : Type} (a b c d : α) : Nat → α := fun i => if i = 0 then a else if i = 1 then b else if i = 2 then c else d
theorem all_four {w5 w6 w7 w8 w9 : World} {v1 v2 v3 v4 : SlZ} {x1 x2 x3 x4 : List Int} (k6 : Ext w5 w6) (k7 : Ext w6 w7) (k8 : Ext w7 w8) (k9 : Ext w8 w9)
    (r1 : Row w6 3 1 (slV v1) v1.2.1 (ints x1) (New w5)) (r2 : Row w7 3 1 (slV v2) v2.2.1 (ints x2) (New w6)) (r3 : Row w8 3 1 (slV v3) v3.2.1 (ints x3) (New w7)) (r4 : Row w9 3 1 (slV v4) v4.2.1 (ints x4) (New w8)) :
    AllW (w9.alloc (.cells #[slV v1, slV v2, slV v3, slV v4] 29)) (fun k => w5.heap.size ≤ k ∧ k < w9.heap.size) w9.heap.size (four v1 v2 v3 v4) (four x1 x2 x3 x4) := by
  have s6 := k6.size
  have s7 := k7.size
  have s8 := k8.size
  have s9 := k9.size
  have up : ∀ {w w' : World} {v : SlZ} {xs : List Int} {n : Nat}, Row w' 3 1 (slV v) n (ints xs) (New w) → w5.heap.size ≤ w.heap.size → Ext w' w9 → Row (w9.alloc (.cells #[slV v1, slV v2, slV v3, slV v4] 29)) 3 1 (slV v) n (ints xs) (fun k => w5.heap.size ≤ k ∧ k < w9.heap.size) := fun hr h1 hk => by
    refine Row.alloc (Row.ext ?_ hk) _
    obtain ⟨h2, h3 | ⟨g, cap, rest, a, b, c, d⟩⟩ := hr
    · exact ⟨h2, .inl h3⟩
    · exact ⟨h2, .inr ⟨g, cap, rest, a, ⟨Nat.le_trans h1 b, Nat.lt_of_lt_of_le c.lt hk.size⟩, c, d⟩⟩
  have b1 : ∀ a, v1.1 = some a → a.block < w6.heap.size ∧ w5.heap.size ≤ a.block := fun a ha => row_addr (ao := v1.1) r1 ha
  have b2 : ∀ a, v2.1 = some a → a.block < w7.heap.size ∧ w6.heap.size ≤ a.block := fun a ha => row_addr (ao := v2.1) r2 ha
  have b3 : ∀ a, v3.1 = some a → a.block < w8.heap.size ∧ w7.heap.size ≤ a.block := fun a ha => row_addr (ao := v3.1) r3 ha
  have b4 : ∀ a, v4.1 = some a → a.block < w9.heap.size ∧ w8.heap.size ≤ a.block := fun a ha => row_addr (ao := v4.1) r4 ha
  refine ⟨Blk.new w9 _ _, fun i hi => ?_, fun i j hi hj hne a b ha hb => ?_⟩
  · rcases (show i = 0 ∨ i = 1 ∨ i = 2 ∨ i = 3 by omega) with rfl | rfl | rfl | rfl
    · exact up r1 (Nat.le_refl _) (k7.trans (k8.trans k9))
    · exact up r2 s6 (k8.trans k9)
    · exact up r3 (by omega) k9
    · exact up r4 (by omega) (Kp.refl _)
  · rcases (show i = 0 ∨ i = 1 ∨ i = 2 ∨ i = 3 by omega) with rfl | rfl | rfl | rfl <;> rcases (show j = 0 ∨ j = 1 ∨ j = 2 ∨ j = 3 by omega) with rfl | rfl | rfl | rfl
    all_goals first
      | exact absurd rfl hne
      | (have q1 := b1 _ ha; have q2 := b2 _ hb; omega)
      | (have q1 := b1 _ ha; have q2 := b3 _ hb; omega)
      | (have q1 := b1 _ ha; have q2 := b4 _ hb; omega)
      | (have q1 := b2 _ ha; have q2 := b1 _ hb; omega)
      | (have q1 := b2 _ ha; have q2 := b3 _ hb; omega)
      | (have q1 := b2 _ ha; have q2 := b4 _ hb; omega)
      | (have q1 := b3 _ ha; have q2 := b1 _ hb; omega)
      | (have q1 := b3 _ ha; have q2 := b2 _ hb; omega)
      | (have q1 := b3 _ ha; have q2 := b4 _ hb; omega)
      | (have q1 := b4 _ ha; have q2 := b1 _ hb; omega)
      | (have q1 := b4 _ ha; have q2 := b2 _ hb; omega)
      | (have q1 := b4 _ ha; have q2 := b3 _ hb; omega)
def fillC (C : Nat → List Int) (i : Nat) : Nat → List Int := fun j => if j < i then List.replicate (C j).length (-5000 - (j : Int)) else C j
theorem fillC_len (C : Nat → List Int) (i j : Nat) : (fillC C i j).length = (C j).length := by unfold fillC; split <;> simp
theorem fillC_zero (C : Nat → List Int) : fillC C 0 = C := by funext j; unfold fillC; rw [if_neg (by omega)]
def partF (l : List Int) (k : Nat) (z : Int) : List Int := List.replicate k z ++ l.drop k
theorem partF_len {l : List Int} {k : Nat} {z : Int} (h : k ≤ l.length) : (partF l k z).length = l.length := by unfold partF; simp; omega
theorem partF_next {l : List Int} {k : Nat} {z : Int} (h : k < l.length) : (partF l k z).set k z = partF l (k + 1) z := by
  unfold partF
  rw [List.set_append_right _ _ (by simp), List.length_replicate, Nat.sub_self, List.drop_eq_getElem_cons h, List.set_cons_zero, List.replicate_succ', List.append_assoc]
  rfl
theorem partF_zero (l : List Int) (z : Int) : partF l 0 z = l := by unfold partF; simp
theorem partF_all {l : List Int} {k : Nat} {z : Int} (h : l.length = k) : partF l k z = List.replicate k z := by unfold partF; rw [← h]; simp
theorem updC_at (C : Nat → List Int) (i : Nat) (xs : List Int) : updC C i xs i = xs := if_pos rfl
theorem updC_twice (C : Nat → List Int) (i : Nat) (xs ys : List Int) : updC (updC C i xs) i ys = updC C i ys := by
  funext j; unfold updC; split <;> rfl
theorem updC_self (C : Nat → List Int) (i : Nat) : updC C i (C i) = C := by
  funext j; unfold updC; split
  · subst j; rfl
  · rfl
theorem fillC_next {C : Nat → List Int} {i n : Nat} (h : (C i).length = n) : updC (fillC C i) i (partF (fillC C i i) n (-5000 - (i : Int))) = fillC C (i + 1) := by
  rw [partF_all (by rw [fillC_len]; exact h), ← h]
  funext j
  unfold updC fillC
  by_cases e : j = i
  · subst e; rw [if_pos rfl, if_pos (by omega)]
  · rw [if_neg e]
    by_cases e2 : j < i
    · rw [if_pos e2, if_pos (by omega)]
    · rw [if_neg e2, if_neg (by omega)]
def FillToO (w12 : World) (M : Nat → Prop) (ga : Nat) (vs : Nat → SlZ) (C : Nat → List Int) (iv : Value) (w : World) : Prop := ∃ i : Nat, i ≤ 4 ∧ iv = .int .i64 i ∧ Hid (AllW w M ga vs (fillC C i)) ∧ Hid (Kp M w12 w)
def FillInO (w12 : World) (M : Nat → Prop) (ga : Nat) (vs : Nat → SlZ) (D : Nat → List Int) (i n : Nat) (kv : Value) (w : World) : Prop := ∃ k : Nat, k ≤ n ∧ kv = .int .i64 k ∧ Hid (AllW w M ga vs (updC D i (partF (D i) k (-5000 - (i : Int))))) ∧ Hid (Kp M w12 w)
theorem GrowAll.kp {w w' : World} {M F : Nat → Prop} {ga : Nat} {vs : Nat → SlZ} {C Y : Nat → List Int} {gs : Nat → SlZ} {i s0 : Nat} (h : GrowAll w M ga vs C Y gs i s0) (hk : Kp F w w') (h0 : ¬ F ga) (h1 : ∀ j, j < 4 → ∀ a, (vs j).1 = some a → ¬ F a.block) (h2 : ∀ j, j < i → ∀ a, (gs j).1 = some a → ¬ F a.block) (hi : i ≤ 4) : GrowAll w' M ga vs C Y gs i s0 :=
  ⟨h.blk.kp hk h0, fun j hj => (h.done j hj).kp hk (h1 j (by omega)) (h2 j hj), fun j a b => Row.kpA (h.todo j a b) hk (h1 j b), h.far, h.before⟩
theorem GrowAll.ext {w w' : World} {M : Nat → Prop} {ga : Nat} {vs : Nat → SlZ} {C Y : Nat → List Int} {gs : Nat → SlZ} {i s0 : Nat} (h : GrowAll w M ga vs C Y gs i s0) (hk : Ext w w') (hi : i ≤ 4) : GrowAll w' M ga vs C Y gs i s0 := h.kp hk id (fun _ _ _ _ => id) (fun _ _ _ _ => id) hi
def GrownRow (w : World) (s0 : Nat) (g : SlZ) (i : Nat) (gs : Nat → SlZ) : Prop := Row w 29 1 (slV g) i ((List.range i).map fun j => slV (gs j)) (fun k => s0 ≤ k)
theorem GrowAll.outer {w w' : World} {M : Nat → Prop} {ga : Nat} {vs : Nat → SlZ} {C Y : Nat → List Int} {gs : Nat → SlZ} {i s0 n : Nat} {xs : List Value} (h : GrowAll w M ga vs C Y gs i s0) {g : SlZ} (hg : Row w 29 1 (slV g) n xs (fun k => s0 ≤ k)) (hs : ga < s0) (hk : Kp (fun k => (slV g).ownBlock = some k) w w') (hi : i ≤ 4) : GrowAll w' M ga vs C Y gs i s0 := by
  have key : ∀ {v : SlZ} {n : Nat} {xs : List Value} {M' : Nat → Prop}, Row w 3 1 (slV v) n xs M' → ∀ a, v.1 = some a → ¬ (slV g).ownBlock = some a.block := fun hr a ha e => by
    obtain ⟨cs1, hb1⟩ := row_addrE hr ha
    obtain ⟨cs2, hb2⟩ := hg.blkOf e
    exact typ_ilO (blk_ne hb1 hb2)
  refine h.kp hk (fun e => ?_) (fun j hj a ha => ?_) (fun j hj a ha => key (h.done j hj).row a ha) hi
  · have := hg.block _ e
    omega
  · by_cases hij : i ≤ j
    · exact key (h.todo j hij hj) a ha
    · intro e
      have := hg.block _ e
      have := (h.before j hj a ha).1
      omega
def GrowToO (w12 : World) (M : Nat → Prop) (ga : Nat) (vs : Nat → SlZ) (C Y : Nat → List Int) (s0 : Nat) (iv gv : Value) (w : World) : Prop := ∃ i : Nat, i ≤ 4 ∧ iv = .int .i64 i ∧ ∃ (gs : Nat → SlZ) (ga' : Option Addr) (gc : Nat), gv = .slice ga' i gc ∧ Hid (GrowAll w M ga vs C Y gs i s0 ∧ GrownRow w s0 (ga', i, gc) i gs ∧ ∀ j, j < i → (gs j).2.1 = (C j).length + 12) ∧ Hid (Kp M w12 w)
def grownY : Nat → List Int := fun i => List.replicate 12 (-600000 - (i : Int))
def GrowInO (w12 : World) (M : Nat → Prop) (ga : Nat) (vs : Nat → SlZ) (C Y : Nat → List Int) (s0 s1 : Nat) (gs : Nat → SlZ) (g : SlZ) (i : Nat) (kv lv : Value) (w : World) : Prop := ∃ k : Nat, k ≤ 12 ∧ kv = .int .i64 k ∧ ∃ (la : Option Addr) (lc : Nat), lv = .slice la ((C i).length + k) lc ∧ Hid (GrowOne w M ga vs C Y gs i s0 s1 (la, (C i).length + k, lc) (List.replicate k (-600000 - (i : Int))) ∧ GrownRow w s0 g i gs) ∧ Hid (Kp M w12 w)
theorem GrowOne.step {wx w w1 : World} {M : Nat → Prop} {ga : Nat} {vs : Nat → SlZ} {C Y : Nat → List Int} {gs : Nat → SlZ} {i s0 s1 : Nat} {l g q : SlZ} {ys : List Int} {z : Int} (h : GrowOne w M ga vs C Y gs i s0 s1 l ys) (hg : GrownRow w s0 g i gs) (hK : Kp M wx w) (hs1 : wx.heap.size = s1) (hM : ∀ a, (vs i).1 = some a → M a.block) (hi : i < 4)
    (hk : Kp (fun g => (slV l).ownBlock = some g) w w1) (hr : Row w1 3 1 (slV q) q.2.1 (ints (C i ++ ys) ++ [.int .i64 z]) (fun g => (slV l).ownBlock = some g ∨ w.heap.size ≤ g)) (he : (slV q).ownBlock = (slV l).ownBlock ∨ Ext w w1) :
    GrowOne w1 M ga vs C Y gs i s0 s1 q (ys ++ [z]) ∧ GrownRow w1 s0 g i gs ∧ Kp M wx w1 := by
  refine ⟨h.app hi hk hr he, Row.kpA hg hk fun a ha e => ?_, hK.trans' hk fun k h1 h2 => ?_⟩
  · obtain ⟨cs1, hb1⟩ := h.one.row.blkOf e
    obtain ⟨cs2, hb2⟩ := row_addrE hg ha
    exact typ_ilO (blk_ne hb1 hb2)
  · obtain ⟨a, ha, e⟩ := own_addr h2
    subst e
    rcases (h.one.lies ha).1 with ⟨b, hb, eb⟩ | h3
    · rw [← eb]; exact hM b hb
    · omega
theorem grown_next (gs : Nat → SlZ) (i : Nat) (l : SlZ) : ((List.range (i + 1)).map fun j => slV (updF gs i l j)) = ((List.range i).map fun j => slV (gs j)) ++ [slV l] := by
  rw [List.range_succ, List.map_append, List.map_singleton]
  congr 1
  · refine List.map_congr_left fun j hj => ?_
    have := List.mem_range.1 hj
    unfold updF; rw [if_neg (by omega)]
  · unfold updF; rw [if_pos rfl]
theorem GrowAll.seen {w : World} {M : Nat → Prop} {ga : Nat} {vs : Nat → SlZ} {D : Nat → List Int} {gs : Nat → SlZ} {s0 : Nat} (h : GrowAll w M ga vs D grownY gs 4 s0) (hD : ∀ i, i < 4 → D i = List.replicate (vs i).2.1 (-5000 - (i : Int))) {j : Nat} (hj : j < 4) :
    (∀ k, k < (vs j).2.1 → ∃ g, (vs j).1 = some ⟨g, 0, none⟩ ∧ w.cell? ⟨g, k, none⟩ = some (.int .i64 (-5000 - (j : Int)))) ∧
    ∀ k, k < (vs j).2.1 + 12 → ∃ g, (gs j).1 = some ⟨g, 0, none⟩ ∧ w.cell? ⟨g, k, none⟩ = some (.int .i64 (if k < (vs j).2.1 then -5000 - (j : Int) else -600000 - (j : Int))) := by
  have hg := h.done j hj
  refine ⟨fun k hk => ?_, fun k hk => ?_⟩
  · obtain ⟨b, off, e, hc⟩ := hg.old k (.int .i64 (-5000 - (j : Int))) (by rw [hD j hj]; simp [ints, hk])
    have h2 := (h.before j hj _ e).2
    have h3 : off = 0 := by injection h2
    subst h3
    rw [Nat.zero_add] at hc
    exact ⟨b, e, hc⟩
  · have hlen : 0 < (gs j).2.1 := by
      have h1 := hg.row.1
      rw [ints_len, List.length_append, hD j hj, List.length_replicate] at h1
      have h2 : (grownY j).length = 12 := List.length_replicate ..
      omega
    obtain ⟨g, e, -, -, -⟩ := Row.lies (ao := (gs j).1) hg.row hlen
    refine ⟨g, e, ?_⟩
    have hr := hg.row
    unfold slV at hr
    rw [e] at hr
    refine (Row.cellR hr ?_).1
    rw [hD j hj]
    unfold grownY ints
    rw [List.map_append, List.map_replicate, List.map_replicate]
    by_cases h1 : k < (vs j).2.1
    · rw [if_pos h1, List.getElem?_append_left (by rw [List.length_replicate]; exact h1), List.getElem?_replicate_of_lt h1]
    · rw [if_neg h1, List.getElem?_append_right (by rw [List.length_replicate]; omega), List.length_replicate, List.getElem?_replicate_of_lt (by omega)]
theorem GrowAll.seenA {w : World} {M : Nat → Prop} {ga : Nat} {vs : Nat → SlZ} {C Y : Nat → List Int} {gs : Nat → SlZ} {i s0 : Nat} (h : GrowAll w M ga vs C Y gs i s0) {j : Nat} (hj : j < 4) : w.cell? ⟨ga, j, none⟩ = some (slV (vs j)) := by
  rw [h.blk.cell']
  rcases (show j = 0 ∨ j = 1 ∨ j = 2 ∨ j = 3 by omega) with rfl | rfl | rfl | rfl <;> rfl
theorem GrownRow.seen {w : World} {s0 i : Nat} {g : SlZ} {gs : Nat → SlZ} (h : GrownRow w s0 g i gs) {j : Nat} (hj : j < i) : ∃ b, g.1 = some ⟨b, 0, none⟩ ∧ w.cell? ⟨b, j, none⟩ = some (slV (gs j)) := by
  obtain ⟨b, e, -, -, -⟩ := Row.lies (ao := g.1) h (by omega)
  refine ⟨b, e, ?_⟩
  unfold GrownRow slV at h
  rw [e] at h
  exact (Row.cellR h (by rw [List.getElem?_map, List.getElem?_range hj]; rfl)).1
theorem bestE_few {r : RuleZ} {S : List StatZ} (h : ¬ 6 < r.2.1.length) : (bestE r S).1.length ≤ 6 ∧ ((bestE r S).2.2 = 0 → ordE r (bestE r S).1 = 0) ∧ (greedyE r S).1.length ≤ 6 := by
  by_cases he : errR r S = 0
  · obtain ⟨l, c, B⟩ := best_p he (by omega)
    obtain ⟨m, d, G⟩ := greed_p (S := S) he
    rw [B.ok, G.ok]
    have h1 := B.len
    have h2 := G.len
    exact ⟨by show l.length ≤ 6; omega, fun _ => ordE_some (by rw [errR0]; exact (errR_zero he).1) B.ord, by show m.length ≤ 6; omega⟩
  · unfold bestE greedyE
    rw [if_neg he, if_neg he]
    exact ⟨by simp, fun h => absurd h he, by simp⟩
end Go.Proofs.YtomeebimmmfmbaaGreat

/- Relations that came in: how they lie. -/
namespace Go.Proofs.YtomeebimmmfmbaaGreat
open Go.ChangeShapes Go.WideShapes Go.ChangeAt Go.RowKit
set_option linter.unusedVariables false
noncomputable def shT : Shp Tryz.prog ByteArray := shStr 9 Tryz.underlying9 (by kernel_rfl)
noncomputable def shTs : Shp Tryz.prog (List ByteArray) := shSlice 76 shT Tryz.underlying76 (by kernel_rfl) (by decide)
noncomputable def shTss : Shp Tryz.prog (List (List ByteArray)) := shSlice 69 shTs Tryz.underlying69 (by kernel_rfl) (by decide)
noncomputable def shRel : Shp Tryz.prog RelZ := shStruct 71 (fdCons shT (fdCons (shInt 3 .i64 Tryz.underlying3 (by kernel_rfl)) (fdCons shTss fdNil))) (fs := _) Tryz.underlying71 ⟨_, _, rfl, rfl, rfl, _, _, rfl, rfl, rfl, _, _, rfl, rfl, rfl, rfl⟩ (by kernel_rfl)
theorem list_choose {α β : Type} {P : Nat → α → β → Prop} : ∀ (L : List α), (∀ i x, L[i]? = some x → ∃ y, P i x y) → ∃ ys : List β, ys.length = L.length ∧ ∀ (i : Nat) (x : α) (y : β), L[i]? = some x → ys[i]? = some y → P i x y := by
  intro L
  induction L generalizing P with
  | nil => exact fun _ => ⟨[], rfl, fun i x y h => by simp at h⟩
  | cons a L ih =>
    intro h
    obtain ⟨y0, h0⟩ := h 0 a rfl
    obtain ⟨ys, h1, h2⟩ := ih (P := fun i x y => P (i + 1) x y) fun i x hx => h (i + 1) x (by simpa using hx)
    refine ⟨y0 :: ys, by simp [h1], fun i x y hx hy => ?_⟩
    cases i with
    | zero => simp at hx hy; subst hx; subst hy; exact h0
    | succ i => exact h2 i x y (by simpa using hx) (by simpa using hy)
theorem elems_rows {w : World} {G : Nat → Prop} {ao : Option Addr} {LL : List (List ByteArray)} (h : ElemsAt shTs w G ao LL) (hl : ∀ ss ∈ LL, ss.length ≤ 8796093021952) : RowsIn (fun _ => True) w ao LL := by
  have h1 : ∀ (i : Nat) (ss : List ByteArray), LL[i]? = some ss → ∃ p : Option Addr × Nat × Nat, ∃ b off, ao = some ⟨b, off, none⟩ ∧ w.cell? ⟨b, off + i, none⟩ = some (.slice p.1 p.2.1 p.2.2) ∧ p.2.1 = ss.length ∧ CellsAt w p.1 (strs ss) := fun i ss hi => by
    obtain ⟨b, off, es, e, _, _, ⟨a1, c1, ee, hl, _, hc⟩, hcell⟩ := h i ss hi
    refine ⟨(a1, ss.length, c1), b, off, e, ?_, rfl, elems_strs (hu := Tryz.underlying9) (hc := by kernel_rfl) hc⟩
    have := hcell 0 (.slice a1 ss.length c1) (by rw [ee]; rfl)
    rw [show shTs.n = 1 from rfl, Nat.mul_one, Nat.add_zero] at this
    exact this
  obtain ⟨qs, hq, hP⟩ := list_choose LL h1
  have hz : ∀ p ∈ qs.zip LL, ReadsAs w p.1 p.2 ∧ p.2.length ≤ 8796093021952 ∧ ∀ a, p.1.1 = some a → True := fun p hp => by
    obtain ⟨i, hi, e⟩ := List.getElem_of_mem hp
    have h2 : (qs.zip LL)[i]? = some p := by rw [List.getElem?_eq_getElem hi, e]
    obtain ⟨h3, h4⟩ := List.getElem?_zip_eq_some.1 h2
    obtain ⟨b, off, _, _, h5, h6⟩ := hP i _ _ h4 h3
    exact ⟨⟨h5, h6⟩, hl _ (List.mem_of_getElem? h4), fun _ _ => trivial⟩
  refine ⟨qs.zip LL, ?_, fun i u hu => ?_, fun _ _ => trivial, hz⟩
  · rw [List.map_snd_zip (by omega)]
  · cases hp : (qs.zip LL)[i]? with
    | none => rw [show (rowVs (qs.zip LL))[i]? = ((qs.zip LL)[i]?).map _ from List.getElem?_map .., hp] at hu; cases hu
    | some p =>
      rw [rowVs_get _ _ _ hp] at hu
      cases hu
      obtain ⟨h3, h4⟩ := List.getElem?_zip_eq_some.1 hp
      obtain ⟨b, off, e, hc, _⟩ := hP i _ _ h4 h3
      exact ⟨b, off, e, hc⟩
theorem elems_rels {w : World} {G : Nat → Prop} {ao : Option Addr} {L : List RelZ} (h : ElemsAt shRel w G ao L) (hl : ∀ q ∈ L, ∀ ss ∈ q.2.2.1, ss.length ≤ 8796093021952) : RelsIn (fun _ => True) w ao L := fun i q hq => by
  obtain ⟨b, off, es, e, _, _, hat, hcell⟩ := h i q hq
  obtain ⟨x1, y1, e1, ⟨ex1, _⟩, x2, y2, e2, ⟨ex2, _⟩, x3, y3, e3, ⟨ra, rcap, ex3, r1, r2, r3⟩, e4⟩ := hat
  have e4' : y3 = [] := e4
  have ee : es = [.string q.1, .int .i64 q.2.1, .slice ra q.2.2.1.length rcap] := by
    rw [e1, ex1, e2, ex2, e3, ex3, e4']; rfl
  have hc : ∀ c u, es[c]? = some u → w.cell? ⟨b, off + i * 3 + c, none⟩ = some u := fun c u hu => by
    have := hcell c u hu
    rw [show shRel.n = 3 from rfl, ← Nat.add_assoc] at this
    exact this
  exact ⟨b, off, ra, rcap, e, trivial, hc 0 _ (by rw [ee]; rfl), hc 1 _ (by rw [ee]; rfl), hc 2 _ (by rw [ee]; rfl), r1, r2, elems_rows r3 (hl q (List.mem_of_getElem? hq))⟩
theorem rel_bulk {L : List RelZ} {N : Nat} (h : bulkL shRel.bulk L ≤ N) : L.length ≤ N ∧ ∀ q ∈ L, q.2.2.1.length ≤ N ∧ ∀ ss ∈ q.2.2.1, ss.length ≤ N := by
  refine ⟨Nat.le_trans (bulkL_len shRel.bulk (fun x => by show 1 ≤ _ + 1; omega) L) h, fun q hq => ?_⟩
  have h1 : shRel.bulk q ≤ N := Nat.le_trans (bulkL_mem shRel.bulk hq) h
  have h2 : shT.bulk q.1 + (1 + ((bulkL shTs.bulk q.2.2.1 + 1) + 0)) + 1 ≤ N := h1
  have h3 := bulkL_len shTs.bulk (fun x => by show 1 ≤ _ + 1; omega) q.2.2.1
  refine ⟨by omega, fun ss hs => ?_⟩
  have h4 : shTs.bulk ss ≤ _ := bulkL_mem shTs.bulk hs
  have h5 : bulkL shT.bulk ss + 1 ≤ bulkL shTs.bulk q.2.2.1 := h4
  have h6 := bulkL_len shT.bulk (fun x => by show 1 ≤ _ + 1; omega) ss
  omega
end Go.Proofs.YtomeebimmmfmbaaGreat
