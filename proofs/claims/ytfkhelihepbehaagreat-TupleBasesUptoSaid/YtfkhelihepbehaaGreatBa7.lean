/- Texts joined for a claim (Places, OwnRun, GotE, Stock, StockSt, StockOps, ToldRound, Spoil, ShelfTold, SwapInt, InsInt, SymLInt, SymInt, SymGInt, SortInt, BinInt, CompactInt, GenInt, SetInt, NewInt, InsertInt, SetOpsInt, Known, Turned, KeptList, ShelfDo). -/
import Derived.Test.YtfkhelihepbehaaGreatBa6
import Derived.Deep.RegionLaw
import Derived.Deep.OwnRows
import Derived.Laws.OwnMore
import Derived.Test.YtfkhelihepbehaaGreatProg
import Derived.BigRegion
import Derived.StillTailTactics
import Derived.Deep.QuietTactic
import Derived.BigQuiet
import Derived.Deep.DeepCutAuto
import Derived.Deep.RegionWith
/- The shelf of TupleBases: a base of the program's beside the document's: what both tell. -/
namespace Go.Proofs.YtfkhelihepbehaaGreat
open Go.RowKit
set_option linter.unusedVariables false

def nilV : Value → Bool
  | .pointer none => true
  | _ => false
/-- The program's base, and what is its own. -/
inductive BaseO (S : Nat → Prop) (w : World) : Value → List Ent → (Nat → Prop) → Prop
  | nil : BaseO S w (.pointer none) [] (fun _ => False)
  | zero (bb : Nat) : Blk w bb [.map none, .int .i64 0] 65 → (∀ k, S k → k < w.heap.size) → ¬ S bb → BaseO S w (.pointer (some ⟨bb, 0, none⟩)) [] (fun k => k = bb)
  | full (bb r : Nat) (E : List Ent) : BaseAt S w bb r E → BaseO S w (.pointer (some ⟨bb, 0, none⟩)) E (OwnB bb r E)
/-- The document's. -/
inductive RefO (S : Nat → Prop) (w : World) : Value → List REnt → (Nat → Prop) → Prop
  | nil : RefO S w (.pointer none) [] (fun _ => False)
  | full (cb : Nat) (G : List REnt) : RefB S w cb G → RefOk G → RefO S w (.pointer (some ⟨cb, 0, none⟩)) G (OwnG cb G)
structure Place where
  bv : Value
  E : List Ent
  ow : Nat → Prop
  mv : Value
  G : List REnt
  mw : Nat → Prop
structure PlaceAt (S : Nat → Prop) (w : World) (p : Place) : Prop where
  b : BaseO S w p.bv p.E p.ow
  m : RefO S w p.mv p.G p.mw
  both : nilV p.bv = nilV p.mv
  same : SameC (cntE p.E) (cntR p.G)
  few : p.E.length ≤ 1048576
section
variable {S S' : Nat → Prop} {w w' : World} {v mv : Value} {E : List Ent} {G : List REnt} {ow mw : Nat → Prop} {p q : Place}
theorem BaseO.toV (h : BaseO S w v E ow) : BaseV S w v E := by
  cases h with
  | nil => exact .nil
  | zero bb hb hi hs => exact .zero bb hb hi hs
  | full bb r E h => exact .full bb r E h
theorem BaseO.ok (h : BaseO S w v E ow) : BaseOk (cntE E) := h.toV.ok
theorem BaseO.lt (h : BaseO S w v E ow) : ∀ k, ow k → k < w.heap.size := by
  cases h with
  | nil => exact fun k h => h.elim
  | zero bb hb hi hs => exact fun k e => by rw [e]; exact hb.lt
  | full bb r E h => exact h.ownLt
theorem BaseO.notS (h : BaseO S w v E ow) : ∀ k, ow k → ¬ S k := by
  cases h with
  | nil => exact fun k h => h.elim
  | zero bb hb hi hs => exact fun k e => by rw [e]; exact hs
  | full bb r E h => exact h.notOwn
theorem BaseO.kp {F : Nat → Prop} (h : BaseO S w v E ow) (hk : Kp F w w') (hF : ∀ k, F k → ¬ ow k) (hS : ∀ k, F k → ¬ S k) : BaseO S w' v E ow := by
  cases h with
  | nil => exact .nil
  | zero bb hb hi hs => exact .zero bb (hb.kp hk fun f => hF _ f rfl) (fun k hk' => Nat.lt_of_lt_of_le (hi k hk') hk.size) hs
  | full bb r E h => exact .full bb r E (h.kp hk hF hS)
theorem BaseO.ext (h : BaseO S w v E ow) (hk : Ext w w') : BaseO S w' v E ow := h.kp hk (fun _ x => x.elim) (fun _ x => x.elim)
theorem BaseO.wide (h : BaseO S w v E ow) (hs : ∀ k, S k → S' k) (hl : ∀ k, S' k → k < w.heap.size) (hn : ∀ k, ow k → ¬ S' k) : BaseO S' w v E ow := by
  cases h with
  | nil => exact .nil
  | zero bb hb hi hs' => exact .zero bb hb hl (hn bb rfl)
  | full bb r E h => exact .full bb r E (h.wide hs hl hn)
theorem BaseO.m {a : Addr} (h : BaseO S w (.pointer (some a)) E ow) : ∃ bb mv, a = ⟨bb, 0, none⟩ ∧ BaseM S w bb mv E ∧ ¬ S bb ∧ ow bb ∧ E.Pairwise apartE ∧ (∀ e ∈ E, ∀ k, e.own k → k ≠ bb ∧ ow k) := by
  cases h with
  | zero bb hb hi hs => exact ⟨bb, _, rfl, BaseM.zero hb hi, hs, rfl, List.Pairwise.nil, fun e he => by simp at he⟩
  | full bb r E h => exact ⟨bb, _, rfl, h.m, h.notS.1, .inl rfl, h.apart, fun e he k ho => ⟨(h.off e he k ho).1, .inr (.inr ⟨e, he, ho⟩)⟩⟩
theorem RefB.wide {cb : Nat} (h : RefB S w cb G) (hs : ∀ k, S k → S' k) (hl : ∀ k, S' k → k < w.heap.size) (hn : ∀ k, OwnG cb G k → ¬ S' k) : RefB S' w cb G := by
  obtain ⟨na, nc, aa, ac, h1, h2, h3, h4, h5, h6⟩ := h.blk
  exact ⟨⟨na, nc, aa, ac, h1, h2, h3, fun a e => hs _ (h4 a e), fun a e => hs _ (h5 a e), h6⟩, fun g hg => (h.rows g hg).wide hs (hn _ (.inr ⟨g, hg, rfl⟩)) hl, h.apart, hn _ (.inl rfl), h.off, hl, h.len⟩
theorem RefB.ownLt {cb : Nat} (h : RefB S w cb G) : ∀ k, OwnG cb G k → k < w.heap.size := by
  rintro k (rfl | ⟨g, hg, rfl⟩)
  · obtain ⟨na, nc, aa, ac, h1, _⟩ := h.blk
    exact h1.lt
  · exact (h.rows g hg).lt
theorem RefB.ownNot {cb : Nat} (h : RefB S w cb G) : ∀ k, OwnG cb G k → ¬ S k := by
  rintro k (rfl | ⟨g, hg, rfl⟩)
  · exact h.notS
  · exact (h.rows g hg).notS
theorem RefO.lt (h : RefO S w mv G mw) : ∀ k, mw k → k < w.heap.size := by
  cases h with
  | nil => exact fun k h => h.elim
  | full cb G h ho => exact h.ownLt
theorem RefO.notS (h : RefO S w mv G mw) : ∀ k, mw k → ¬ S k := by
  cases h with
  | nil => exact fun k h => h.elim
  | full cb G h ho => exact h.ownNot
theorem RefO.kp {F : Nat → Prop} (h : RefO S w mv G mw) (hk : Kp F w w') (hF : ∀ k, F k → ¬ mw k) (hS : ∀ k, F k → ¬ S k) : RefO S w' mv G mw := by
  cases h with
  | nil => exact .nil
  | full cb G h ho => exact .full cb G (h.kp hk hF hS) ho
theorem RefO.ext (h : RefO S w mv G mw) (hk : Ext w w') : RefO S w' mv G mw := h.kp hk (fun _ x => x.elim) (fun _ x => x.elim)
theorem RefO.wide (h : RefO S w mv G mw) (hs : ∀ k, S k → S' k) (hl : ∀ k, S' k → k < w.heap.size) (hn : ∀ k, mw k → ¬ S' k) : RefO S' w mv G mw := by
  cases h with
  | nil => exact .nil
  | full cb G h ho => exact .full cb G (h.wide hs hl hn) ho
theorem RefO.ok (h : RefO S w mv G mw) : RefOk G := by
  cases h with
  | nil => exact ⟨ok_nil, List.Pairwise.nil⟩
  | full cb G h ho => exact ho
theorem PlaceAt.ext (h : PlaceAt S w p) (hk : Ext w w') : PlaceAt S w' p := ⟨h.b.ext hk, h.m.ext hk, h.both, h.same, h.few⟩
theorem PlaceAt.rels (h : PlaceAt S w p) : relsC (cntR p.G) = relsC (cntE p.E) := (rels_same h.b.ok.nodup h.m.ok.ok.nodup h.same).symm
theorem PlaceAt.glen (h : PlaceAt S w p) : p.G.length = p.E.length := by
  have := same_lenC h.b.ok.nodup h.m.ok.ok.nodup h.same
  rw [cntR_len] at this
  rw [← this]; unfold cntE; simp
theorem PlaceAt.total (h : PlaceAt S w p) : totalC (cntR p.G) = totalC (cntE p.E) := (same_total h.b.ok h.m.ok.ok h.same).symm
/-- Relations, by the document's. -/
theorem PlaceAt.mrels (h : PlaceAt S w p) : Calls Tryz.prog 74 #[p.mv] w (RetN w fun w' v => RelsV w.heap.size w' v (relsC (cntE p.E))) := by
  have hr := h.rels
  have hl := h.glen
  have hf := h.few
  rw [← hr]
  have hm := h.m
  generalize p.mv = mv at *
  generalize p.G = G at *
  generalize p.mw = mw at *
  cases hm with
  | nil =>
    refine (refBRels_nil w).mono ?_
    rintro e w' ⟨rfl, rfl⟩
    have e0 : relsC (cntR []) = [] := by simp [relsC, namesC, cntR]
    rw [e0]
    exact RetN.mk (Kp.refl w) ⟨none, 0, rfl, Nat.le_refl _, by decide, fun i q hq => by simp at hq⟩
  | full cb G h ho => exact refBRels_any h ho (by omega)
/-- Relations, by the program's. -/
theorem PlaceAt.brels (h : PlaceAt S w p) : Calls Tryz.prog 25 #[p.bv] w (RetN w fun w' v => RelsOwn w.heap.size w' v (relsC (cntE p.E))) := by
  have hf := h.few
  have hb := h.b
  generalize p.bv = bv at *
  generalize p.E = E at *
  generalize p.ow = ow at *
  cases hb with
  | nil =>
    refine (baseRels_nil w).mono ?_
    rintro e w' ⟨rfl, rfl⟩
    exact RetN.mk (Kp.refl w) (by have := RelsOwn.nil w.heap.size w; simpa [relsC, namesC, cntE] using this)
  | zero bb hb hi hs =>
    refine (baseRels_zero hb).mono ?_
    rintro e w' ⟨v, rfl, hk, rfl⟩
    exact RetN.mk hk (by have := RelsOwn.nil w.heap.size w'; simpa [relsC, namesC, cntE] using this)
  | full bb r E h => exact baseRels_own h hf
theorem PlaceAt.blen (h : PlaceAt S w p) : Calls Tryz.prog 29 #[p.bv] w (Ret (.int .i64 (totalC (cntE p.E) : Nat)) w) := by
  have hb := h.b
  generalize p.bv = bv at *
  generalize p.E = E at *
  generalize p.ow = ow at *
  cases hb with
  | nil => exact baseLen_nil w
  | zero bb hb hi hs => exact baseLenM_any hb
  | full bb r E h => exact baseLenM_any h.blk
theorem PlaceAt.mlen (h : PlaceAt S w p) : Calls Tryz.prog 75 #[p.mv] w (RetN w fun w' v => v = .int .i64 (totalC (cntE p.E) : Nat)) := by
  have ht := h.total
  rw [← ht]
  have hm := h.m
  generalize p.mv = mv at *
  generalize p.G = G at *
  generalize p.mw = mw at *
  cases hm with
  | nil =>
    refine (refBLen_nil w).mono ?_
    rintro e w' ⟨rfl, rfl⟩
    exact RetN.mk (Kp.refl w) rfl
  | full cb G h ho => exact refBLen_any h (by have := ho.ok.few; omega)
theorem PlaceAt.nilb (h : PlaceAt S w p) : (nilV p.bv = true ∧ p.bv = .pointer none ∧ p.mv = .pointer none) ∨ ∃ a c, p.bv = .pointer (some a) ∧ p.mv = .pointer (some ⟨c, 0, none⟩) ∧ RefB S w c p.G := by
  obtain ⟨hb, hm, hn, _, _⟩ := h
  generalize p.bv = bv at *
  generalize p.E = E at *
  generalize p.ow = ow at *
  generalize p.mv = mv at *
  generalize p.G = G at *
  generalize p.mw = mw at *
  cases hb with
  | nil =>
    cases hm with
    | nil => exact .inl ⟨rfl, rfl, rfl⟩
    | full => cases hn
  | zero bb =>
    cases hm with
    | nil => cases hn
    | full cb G h ho => exact .inr ⟨_, _, rfl, rfl, h⟩
  | full bb r E =>
    cases hm with
    | nil => cases hn
    | full cb G h ho => exact .inr ⟨_, _, rfl, rfl, h⟩
theorem optLL_rows (E : List Ent) (s : ByteArray) : optLL (findE E s) = rowsC (cntE E) s := by
  unfold rowsC
  rw [cntE_get]
  cases findE E s <;> rfl
theorem BaseO.own (h : BaseO S w v E ow) : ∀ e ∈ E, ∀ k, e.own k → ow k := by
  cases h with
  | nil => exact fun e he => by simp at he
  | zero => exact fun e he => by simp at he
  | full bb r E h => exact fun e he k hk => .inr (.inr ⟨e, he, hk⟩)
theorem PlaceAt.bhas (h : PlaceAt S w p) (s : ByteArray) {x : RowZ} {ss : List ByteArray} (hx : RowIn w x ss) (ho : RowOff x p.ow) :
    Calls Tryz.prog 76 #[p.bv, .string s, .slice x.1 x.2.1 x.2.2] w (RetN w fun w' v => v = .bool (isIn cmpRow (rowsC (cntE p.E) s) ss)) := by
  have := baseHas_any h.b.toV s hx fun e he a ea hk => ho a ea (h.b.own e he _ hk)
  rwa [optLL_rows] at this
theorem PlaceAt.mhas (h : PlaceAt S w p) (s : ByteArray) {xo : Option Addr} {m xc : Nat} {ss : List ByteArray} (hm : m = ss.length) (hx : CellsAt w xo (strs ss)) (hss : ss.length ≤ 8796093021952) :
    Calls Tryz.prog 77 #[p.mv, .string s, .slice xo m xc] w (RetN w fun w' v => v = .bool (isIn cmpRow (rowsC (cntE p.E) s) ss)) := by
  rw [same_rows h.same]
  have hr := h.m
  generalize p.mv = mv at *
  generalize p.G = G at *
  generalize p.mw = mw at *
  cases hr with
  | nil =>
    refine (refBHas_nil s w).mono ?_
    rintro e w' ⟨rfl, rfl⟩
    exact RetN.mk (Kp.refl w) rfl
  | full cb G h ho => exact refBHas_any h ho.ok s hm hx hss
theorem PlaceAt.bnames (h : PlaceAt S w p) : Calls Tryz.prog 58 #[p.bv] w (RetN w fun w' v => Row w' 9 1 v p.E.length (strs (namesC (cntE p.E))) (New w)) := by
  have hf := h.few
  have hb := h.b
  generalize p.bv = bv at *
  generalize p.E = E at *
  generalize p.ow = ow at *
  cases hb with
  | nil =>
    refine (baseNames_nil w).mono ?_
    rintro e w' ⟨rfl, rfl⟩
    exact RetN.mk (Kp.refl w) (by have := Row.nil w 9 1 (New w); simpa [namesC, cntE, strs] using this)
  | zero bb hb hi hs =>
    refine (names_zero hb).mono ?_
    rintro e w' ⟨v, rfl, hk, rfl⟩
    exact RetN.mk hk (by have := Row.nil w' 9 1 (New w); simpa [namesC, cntE, strs] using this)
  | full bb r E h => exact names_any h hf
/-- What the document's Names are. -/
theorem PlaceAt.mnames (h : PlaceAt S w p) : p.G.map REnt.name = namesC (cntE p.E) := by
  rw [names_same h.b.ok.nodup h.m.ok.ok.nodup h.same, names_sorted (by rw [cntR_names]; exact h.m.ok.names), cntR_names]
def optArR : Option REnt → Nat
  | some g => g.ar
  | none => 0
def optLR : Option REnt → List (List ByteArray)
  | some g => g.LL
  | none => []
theorem PlaceAt.opt (h : PlaceAt S w p) (s : ByteArray) : optAr (findE p.E s) = optArR (findR2 p.G s) ∧ optLL (findE p.E s) = optLR (findR2 p.G s) ∧ (findE p.E s).isSome = (findR2 p.G s).isSome := by
  have hs := h.same s
  rw [cntE_get, findR2_get] at hs
  cases he : findE p.E s with
  | none =>
    cases hg : findR2 p.G s with
    | none => exact ⟨rfl, rfl, rfl⟩
    | some g => rw [he, hg] at hs; cases hs
  | some e =>
    cases hg : findR2 p.G s with
    | none => rw [he, hg] at hs; cases hs
    | some g =>
      rw [he, hg] at hs
      injection hs with hs
      injection hs with h1 h2
      exact ⟨h1, h2, rfl⟩
theorem PlaceAt.mrows (h : PlaceAt S w p) (s : ByteArray) : Calls Tryz.prog 79 #[p.mv, .string s] w (RetN w fun w' v => v = optPtrR (findR2 p.G s)) := by
  have hr := h.m
  generalize p.mv = mv at *
  generalize p.G = G at *
  generalize p.mw = mw at *
  cases hr with
  | nil =>
    refine (refBRows_nil (.string s) w).mono ?_
    rintro e w' ⟨rfl, rfl⟩
    exact RetN.mk (Kp.refl w) rfl
  | full cb G h ho => exact refBRows_any h s
/-- The document's rows, or none. -/
def OptR (S : Nat → Prop) (w : World) (o : Option REnt) : Prop := ∀ g, o = some g → RefRows S w g.c g.ar g.LL ∧ g.LL.length ≤ 65536
theorem PlaceAt.optR (h : PlaceAt S w p) (s : ByteArray) : OptR S w (findR2 p.G s) := fun g hg => by
  have hm := (findR2_some hg).1
  have hr := h.m
  generalize p.mv = mv at *
  generalize p.G = G at *
  generalize p.mw = mw at *
  cases hr with
  | nil => simp at hm
  | full cb G h ho => exact ⟨h.rows g hm, (ho.ok.all g.cnt (List.mem_map.2 ⟨g, hm, rfl⟩)).few⟩
theorem OptR.arity {o : Option REnt} (h : OptR S w o) : Calls Tryz.prog 83 #[optPtrR o] w (Ret (.int .i64 (optArR o : Nat)) w) := by
  cases o with
  | none => exact refArity_nil w
  | some g => exact refArity_any (h g rfl).1
theorem OptR.all {o : Option REnt} (h : OptR S w o) : Calls Tryz.prog 85 #[optPtrR o] w (RetN w fun w' v => OwnRows w.heap.size w' v (optLR o)) := by
  cases o with
  | none =>
    refine (refAll_nil w).mono ?_
    rintro e w' ⟨rfl, rfl⟩
    exact RetN.mk (Kp.refl w) (OwnRows.nil _ _)
  | some g => exact refAll_any (h g rfl).1
end
end Go.Proofs.YtfkhelihepbehaaGreat

/- The append of a row to own rows, as a run; a builtin whose run is known as a step of a drawn region. -/
namespace Go.Proofs.YtfkhelihepbehaaGreat
open Go.RowKit
set_option linter.unusedVariables false

section
variable {S S1 S2 S' : Nat → Prop} {w w' : World} {c c1 c2 n n1 n2 : Nat} {LL L1 L2 : List (List ByteArray)} {v : Value} {lo : Nat}
/-- The append of a row to own rows, as a run. -/
theorem OwnRows.run {W X1 : World} {ao : Option Addr} {m cap : Nat} {x : RowZ} {ss : List ByteArray} (h : OwnRows lo W (.slice ao m cap) LL) (hk : Ext W X1) (hlo : lo ≤ W.heap.size) (hx : Row X1 9 1 (.slice x.1 x.2.1 x.2.2) ss.length (strs ss) (New W)) (hss : ss.length ≤ 8796093021952)
    (hll : LL.length ≤ 1048576 * 1048576) : ∃ ao3 n3 cap3 w3, (Builtin.append_ #[22, 22] 22 #[.slice ao m cap, .slice (some ⟨X1.heap.size, 0, none⟩) 1 1]).run Tryz.prog (X1.alloc (.cells #[.slice x.1 x.2.1 x.2.2] 29)) = .ok (.slice ao3 n3 cap3) w3 ∧
      OwnRows lo w3 (.slice ao3 n3 cap3) (LL ++ [ss]) ∧ Kp (fun g => (Value.slice ao m cap).ownBlock = some g) (X1.alloc (.cells #[.slice x.1 x.2.1 x.2.2] 29)) w3 := by
  obtain ⟨ps, rfl, r2, r3, r4⟩ := h
  have hex : Ext W (X1.alloc (.cells #[.slice x.1 x.2.1 x.2.2] 29)) := hk.alloc _
  have r2' := r2.ext hex
  rw [List.length_map] at hll
  obtain ⟨v3, w3, hrun, hr3, hk3, _⟩ := run_app (P := Tryz.prog) elemRow 22 r2' (m := 1) (c := 1) rfl (CellsAt.one X1 _ _) (by simp; rfl) (by omega) (by unfold maxLen; omega)
  obtain ⟨ao3, cap3, ev, _, _⟩ := hr3.shape
  subst ev
  refine ⟨ao3, _, cap3, w3, hrun, ?_, hk3⟩
  exact OwnRows.push r2' (fun p hp => ⟨(r3 p hp).1.ext hex, (r3 p hp).2⟩) r4 (B := W.heap.size) (fun p hp g hg => (r3 p hp).1.lt g hg) hlo (hx.alloc _) hss
    (hr3.mono fun g hg => by rcases hg with hg | hg; exact r2.block g hg; exact Nat.le_trans hlo (Nat.le_trans hex.size hg)) hk3
end
end Go.Proofs.YtfkhelihepbehaaGreat

/- A range over rows of one's own that writes them over and keeps copies; rows written over. No program in sight. -/
namespace Go.Proofs.YtfkhelihepbehaaGreat
open Go.RowKit Go.Shelf
set_option linter.unusedVariables false

theorem KeepsOthers.of_own {w w' : World} {e : TypeId} {k n : Nat} {v : Value} {xs : List Value} {M : Nat → Prop} (h : Row w e k v n xs M) (hk : Kp (fun g => v.ownBlock = some g) w w') : KeepsOthers w w' :=
  ⟨hk.size, fun k o hk' ho => (hk.block k (lt_of_block hk') (fun hg => by
    obtain ⟨cs, hb, _⟩ := h.has hg
    unfold Blk at hb
    rw [hb] at hk'; cases hk'; cases ho)).trans hk'⟩
/-- A copy of a row is appended to what is gathered in a box. -/
theorem gotE_app {w0 X : World} {B : Nat} {ao : Option Addr} {n cap : Nat} {LL : List (List ByteArray)} {ax : Option Addr} {cx : Nat} {ss : List ByteArray} (hz : w0.heap.size ≤ X.heap.size) (hBlt : B < w0.heap.size) (hll : LL.length ≤ 1048576 * 1048576)
    (hB : Blk X B [.slice ao n cap] 22) (hr : OwnRows w0.heap.size X (.slice ao n cap) LL) (hx : CellsAt X ax (strs ss)) (hss : ss.length ≤ 8796093021952) :
    ∃ a1 n1 c1 w1, (Builtin.append_ #[29, 29] 29 #[.slice (some ⟨X.heap.size, 0, none⟩) 0 0, .slice ax ss.length cx]).run Tryz.prog (X.drew.alloc (.cells #[] 9)) = .ok (.slice a1 n1 c1) w1 ∧
    ∃ ao3 n3 cap3 w3, (Builtin.append_ #[22, 22] 22 #[.slice ao n cap, .slice (some ⟨w1.heap.size, 0, none⟩) 1 1]).run Tryz.prog (w1.alloc (.cells #[.slice a1 n1 c1] 29)) = .ok (.slice ao3 n3 cap3) w3 ∧
      w1.cell? ⟨B, 0, none⟩ = some (.slice ao n cap) ∧ (X.drew.alloc (.cells #[] 9)).cell? ⟨B, 0, none⟩ = some (.slice ao n cap) ∧ (w1.alloc (.cells #[.slice a1 n1 c1] 29)).cell? ⟨B, 0, none⟩ = some (.slice ao n cap) ∧ w3.frozen? ⟨B, 0, none⟩ = false ∧ w3.cell? ⟨B, 0, none⟩ = some (.slice ao n cap) ∧
      KeepsOthers X (w3.setCell ⟨B, 0, none⟩ (.slice ao3 n3 cap3)) ∧ Kp (fun g => g = B ∨ w0.heap.size ≤ g) X (w3.setCell ⟨B, 0, none⟩ (.slice ao3 n3 cap3)) ∧ Blk (w3.setCell ⟨B, 0, none⟩ (.slice ao3 n3 cap3)) B [.slice ao3 n3 cap3] 22 ∧
      OwnRows w0.heap.size (w3.setCell ⟨B, 0, none⟩ (.slice ao3 n3 cap3)) (.slice ao3 n3 cap3) (LL ++ [ss]) := by
  have kd : Ext X (X.drew.alloc (.cells #[] 9)) := (Kp.refl X).drew.alloc _
  have re : Row (X.drew.alloc (.cells #[] 9)) 9 1 (.slice (some ⟨X.heap.size, 0, none⟩) 0 0) 0 [] (New X) := Row.empty X.drew 9 1 (New X) (Nat.le_refl _)
  obtain ⟨v1, w1, hrun1, hr1, hk1, _⟩ := run_app (P := Tryz.prog) elem_str 29 re (m := ss.length) (c := cx) (by simp [strs]) (hx.ext kd) (strs_one ss) (by omega) (by unfold maxLen; omega)
  obtain ⟨a1, c1, e1, _, _⟩ := hr1.shape
  subst e1
  have ko1 := KeepsOthers.of_own re hk1
  have k1 : Ext X w1 := kd.trans' hk1 fun i hi hg => by cases hg; simp at hi
  have row1 : Row w1 9 1 (.slice a1 ss.length c1) ss.length (strs ss) (New X) := by
    have h : Row w1 9 1 (.slice a1 (0 + ss.length) c1) (0 + ss.length) ([] ++ strs ss) (New X) := Row.mono hr1 fun g hg => by
      rcases hg with hg | hg
      · cases hg; exact Nat.le_refl _
      · exact Nat.le_trans kd.size hg
    simpa using h
  rw [Nat.zero_add] at hrun1
  refine ⟨a1, _, c1, w1, hrun1, ?_⟩
  obtain ⟨ao3, n3, cap3, w3, hrun3, hown3, hk3⟩ : ∃ ao3 n3 cap3 w3, (Builtin.append_ #[22, 22] 22 #[.slice ao n cap, .slice (some ⟨w1.heap.size, 0, none⟩) 1 1]).run Tryz.prog (w1.alloc (.cells #[.slice a1 ss.length c1] 29)) = .ok (.slice ao3 n3 cap3) w3 ∧
      OwnRows w0.heap.size w3 (.slice ao3 n3 cap3) (LL ++ [ss]) ∧ Kp (fun g => (Value.slice ao n cap).ownBlock = some g) (w1.alloc (.cells #[.slice a1 ss.length c1] 29)) w3 := OwnRows.run (x := (a1, ss.length, c1)) hr k1 hz row1 hss hll
  have k2 : Ext X (w1.alloc (.cells #[.slice a1 ss.length c1] 29)) := k1.alloc _
  have hlt := hr.lt
  have hB1 := hB.ext k1
  have hB2 := hB.ext k2
  have hB3 : Blk w3 B [.slice ao n cap] 22 := hB2.kp hk3 fun h => by have := (hlt _ h).1; omega
  have ko3 : KeepsOthers (w1.alloc (.cells #[.slice a1 ss.length c1] 29)) w3 := by
    obtain ⟨ps, e, h2, _⟩ := hr
    exact KeepsOthers.of_own (h2.ext k2) hk3
  have k3 : Kp (fun g => g = B ∨ w0.heap.size ≤ g) X w3 := (Ext.kp k2).trans (hk3.mono fun g _ hg => .inr (hlt g hg).1)
  refine ⟨ao3, n3, cap3, w3, hrun3, by rw [hB1.cell']; rfl, by rw [(hB.ext kd).cell']; rfl, by rw [hB2.cell']; rfl, hB3.free 0, by rw [hB3.cell']; rfl, ?_, k3.setCell (fun _ => .inl rfl) _, hB3.set 0 _, ?_⟩
  · exact (((((KeepsOthers.of_ext kd).trans ko1).trans (KeepsOthers.alloc _ _)).trans ko3).trans (KeepsOthers.setCell _ _ _))
  · exact hown3.kp (Kp.setCell (F := fun g => g = B) (Kp.refl _) (fun _ => rfl) _) fun g hg e => by omega

/-- One of a row's texts is written over. -/
theorem Row.put {w : World} {x : RowZ} {ss : List ByteArray} {M : Nat → Prop} (h : Row w 9 1 (.slice x.1 x.2.1 x.2.2) ss.length (strs ss) M) (i : Nat) (hi : i < ss.length) (s : ByteArray) :
    ∃ g, x.1 = some ⟨g, 0, none⟩ ∧ M g ∧ (∃ u, w.cell? ⟨g, i, none⟩ = some u) ∧ w.frozen? ⟨g, i, none⟩ = false ∧ Row (w.setCell ⟨g, i, none⟩ (.string s)) 9 1 (.slice x.1 x.2.1 x.2.2) (ss.set i s).length (strs (ss.set i s)) M := by
  obtain ⟨hx, ⟨_, h0⟩ | ⟨g, cap, rest, e, hM, hB, hl, hc, hm⟩⟩ := h
  · omega
  · obtain ⟨x1, x2, x3⟩ := x
    simp only [Value.slice.injEq] at e
    obtain ⟨rfl, rfl, rfl⟩ := e
    have hs : (strs ss ++ rest).set i (.string s) = strs (ss.set i s) ++ rest := by
      rw [List.set_append_left _ _ (by simp [strs]; exact hi)]
      simp [strs, List.map_set]
    refine ⟨g, rfl, hM, ⟨_, hB.cell i (by simp [strs]; omega)⟩, hB.free i, by simp [strs], .inr ⟨g, _, rest, by simp, hM, ?_, by rw [← hs]; simpa using hl, by simpa using hc, hm⟩⟩
    rw [← hs]; exact hB.set i _
theorem pair_or {α : Type} {R : α → α → Prop} {l : List α} (h : l.Pairwise R) {x y : α} (hx : x ∈ l) (hy : y ∈ l) : x = y ∨ R x y ∨ R y x := by
  obtain ⟨i, hi, rfl⟩ := List.mem_iff_getElem.1 hx
  obtain ⟨j, hj, rfl⟩ := List.mem_iff_getElem.1 hy
  have hp := List.pairwise_iff_getElem.1 h
  rcases Nat.lt_trichotomy i j with h | h | h
  · exact .inr (.inl (hp i j hi hj h))
  · subst h; exact .inl rfl
  · exact .inr (.inr (hp j i hj hi h))
theorem pair_at {α : Type} {R : α → α → Prop} {l : List α} (h : l.Pairwise R) {i j : Nat} {x y : α} (hx : l[i]? = some x) (hy : l[j]? = some y) (hij : i < j) : R x y := by
  obtain ⟨hi, rfl⟩ := List.getElem?_eq_some_iff.1 hx
  obtain ⟨hj, rfl⟩ := List.getElem?_eq_some_iff.1 hy
  exact List.pairwise_iff_getElem.1 h i j hi hj hij

theorem prefix_at {α : Type} {l ps : List α} {p : α} (h : l ++ [p] <+: ps) {n : Nat} (hn : n = l.length) : ps[n]? = some p := by
  obtain ⟨t, rfl⟩ := h
  rw [List.append_assoc, List.getElem?_append_right (by omega), hn]
  simp
/-- A row's value. -/
abbrev rowOf (p : RowP) : Value := .slice p.1.1 p.1.2.1 p.1.2.2
/-- Between two rounds: a box with copies of what went by; the rows to come as they were, if those that went by were the first ones. -/
def GotE (z : Nat) (SB : Nat → Prop) (w0 : World) (B : Nat) (ps : List RowP) (pre : List { p : RowP // p ∈ ps }) (W : World) : Prop :=
  pre.length ≤ ps.length ∧ Kp (fun g => z ≤ g ∧ ¬ SB g) w0 W ∧
  (∃ v LL', LL'.length = pre.length ∧ Blk W B [v] 22 ∧ OwnRows w0.heap.size W v LL' ∧ (pre.map Subtype.val <+: ps → LL' = (pre.map Subtype.val).map Prod.snd)) ∧
  (∀ p ∈ ps, ∃ ss, ss.length = p.2.length ∧ Row W 9 1 (rowOf p) ss.length (strs ss) (fun g => z ≤ g ∧ g < B ∧ ¬ SB g)) ∧
  (pre.map Subtype.val <+: ps → ∀ (i : Nat) p, pre.length ≤ i → ps[i]? = some p → Row W 9 1 (rowOf p) p.2.length (strs p.2) (fun g => z ≤ g ∧ g < B ∧ ¬ SB g))
theorem OwnRows.grown' {lo : Nat} {W W' : World} {v : Value} {LL : List (List ByteArray)} {row : Option Nat} (h : OwnRows lo W v LL) (hg : W.grownBy W' row) (hr : ∀ r, row = some r → ∃ o : Obj, W.heap[r]? = some o ∧ o.isCells = false) : OwnRows lo W' v LL := by
  obtain ⟨ps, h1, h2, h3, h4⟩ := h
  exact ⟨ps, h1, h2.grown hg hr, fun p hp => ⟨(h3 p hp).1.grown hg hr, (h3 p hp).2⟩, h4⟩
theorem GotE.own {z : Nat} {SB : Nat → Prop} {w0 : World} {B B' : Nat} {ps : List RowP} (hB : w0.heap.size ≤ B') : OwnFrom B' (GotE z SB w0 B ps) := fun pre W W' row hs hg hr => by
  obtain ⟨h1, h2, ⟨v, LL', h3, h4, h5, h6⟩, h7, h8⟩ := hs
  have hr2 : ∀ r, row = some r → ∃ o : Obj, W.heap[r]? = some o ∧ o.isCells = false := fun r e => (hr r e).2
  refine ⟨h1, h2.grown hg fun k e hk => ?_, ⟨v, LL', h3, h4.grown hg hr2, h5.grown' hg hr2, h6⟩, fun p hp => ?_, fun hp i p hi he => (h8 hp i p hi he).grown hg hr2⟩
  · have := (hr k e).1; omega
  · obtain ⟨ss, q1, q2⟩ := h7 p hp
    exact ⟨ss, q1, q2.grown hg hr2⟩
/-- What is known of the row of a round. -/
theorem GotE.row {z : Nat} {SB : Nat → Prop} {w0 W : World} {B : Nat} {ps : List RowP} {pre : List { p : RowP // p ∈ ps }} (h : GotE z SB w0 B ps pre W) (p : RowP) (hp : p ∈ ps) :
    ∃ ss, ss.length = p.2.length ∧ Row W 9 1 (rowOf p) ss.length (strs ss) (fun g => z ≤ g ∧ g < B ∧ ¬ SB g) ∧ (pre.map Subtype.val ++ [p] <+: ps → ss = p.2) := by
  by_cases hc : pre.map Subtype.val ++ [p] <+: ps
  · have hpre : pre.map Subtype.val <+: ps := (List.prefix_append _ _).trans hc
    have hat : ps[pre.length]? = some p := prefix_at hc (by simp)
    exact ⟨p.2, rfl, h.2.2.2.2 hpre _ p (Nat.le_refl _) hat, fun _ => rfl⟩
  · obtain ⟨ss, h1, h2⟩ := h.2.2.2.1 p hp
    exact ⟨ss, h1, h2, fun h => absurd h hc⟩
theorem GotE.next {z : Nat} {SB : Nat → Prop} {w0 X Xn W : World} {B : Nat} {ps : List RowP} {pre : List { p : RowP // p ∈ ps }} (h : GotE z SB w0 B ps pre X) {p : RowP} (hp : p ∈ ps) (hlen : pre.length < ps.length)
    (hap : ps.Pairwise fun p q => ∀ g, (rowOf p).ownBlock = some g → (rowOf q).ownBlock ≠ some g) (hBw : B < w0.heap.size) (hzB : z ≤ B) (hSB : ∀ k, SB k → k < B) {v' : Value} {LL' : List (List ByteArray)} {ss ss2 : List ByteArray}
    (K1 : Kp (fun g => g = B ∨ w0.heap.size ≤ g) X Xn) (hBn : Blk Xn B [v'] 22) (hown : OwnRows w0.heap.size Xn v' (LL' ++ [ss])) (hLL : LL'.length = pre.length) (hLc : pre.map Subtype.val <+: ps → LL' = (pre.map Subtype.val).map Prod.snd)
    (hsc : pre.map Subtype.val ++ [p] <+: ps → ss = p.2) (K2 : Kp (fun g => (rowOf p).ownBlock = some g) Xn W) (hl2 : ss2.length = p.2.length) (hx2 : Row W 9 1 (rowOf p) ss2.length (strs ss2) (fun g => z ≤ g ∧ g < B ∧ ¬ SB g)) :
    SameOn SB X W ∧ GotE z SB w0 B ps (pre ++ [⟨p, hp⟩]) W := by
  have hxb : ∀ g, (rowOf p).ownBlock = some g → z ≤ g ∧ g < B ∧ ¬ SB g := hx2.block
  have KW : Kp (fun g => z ≤ g ∧ ¬ SB g) X W := (K1.mono fun g _ hg => by
    rcases hg with rfl | hg
    · exact ⟨hzB, fun hs => by have := hSB _ hs; omega⟩
    · exact ⟨by omega, fun hs => by have := hSB _ hs; omega⟩).trans (K2.mono fun g _ hg => ⟨(hxb g hg).1, (hxb g hg).2.2⟩)
  have hzX := h.2.1.size
  have move : ∀ {q : RowP} {xs : List Value} {m : Nat}, q ∈ ps → (∀ g, (rowOf p).ownBlock = some g → (rowOf q).ownBlock ≠ some g) → Row X 9 1 (rowOf q) m xs (fun g => z ≤ g ∧ g < B ∧ ¬ SB g) → Row W 9 1 (rowOf q) m xs (fun g => z ≤ g ∧ g < B ∧ ¬ SB g) := fun hq hne hr =>
    (hr.kp K1 fun g hg hf => by rcases hf with hf | hf <;> omega).kp' K2 fun g hg _ hf => hne g hf hg
  refine ⟨SameOn.of_kp KW (fun k hk => by have := hSB k hk; omega) (fun k hk hf => hf.2 hk), by rw [List.length_append]; simp; omega, h.2.1.trans KW, ⟨v', _, by rw [List.length_append, List.length_append, hLL]; rfl, hBn.kp K2 (fun hg => by have := hxb _ hg; omega), hown.kp K2 (fun g hg hf => by have := hxb _ hf; omega), fun hpre => ?_⟩, fun q hq => ?_, fun hpre i q hi he => ?_⟩
  · rw [List.map_append, List.map_singleton] at hpre ⊢
    rw [List.map_append, hLc ((List.prefix_append _ _).trans hpre), hsc hpre]; rfl
  · by_cases e : q = p
    · subst e; exact ⟨ss2, hl2, hx2⟩
    · obtain ⟨sq, q1, q2⟩ := h.2.2.2.1 q hq
      refine ⟨sq, q1, move hq (fun g hg hg' => ?_) q2⟩
      rcases pair_or hap hq hp with h | h | h
      · exact e h
      · exact h g hg' hg
      · exact h g hg hg'
  · rw [List.map_append, List.map_singleton] at hpre
    rw [List.length_append, List.length_singleton] at hi
    have hat : ps[pre.length]? = some p := prefix_at hpre (by simp)
    exact move (List.mem_of_getElem? he) (pair_at hap hat he (by omega)) (h.2.2.2.2 ((List.prefix_append _ _).trans hpre) i q (by omega) he)
/-- A row of a round, written over so far. -/
def SpoilX (w0 : World) (p : RowP) (m : Nat) (M : Nat → Prop) (kv : Value) (W : World) : Prop :=
  ∃ i : Nat, i ≤ m ∧ kv = .int .i64 i ∧ Kp (fun g => (rowOf p).ownBlock = some g) w0 W ∧ ∃ ss, ss.length = m ∧ Row W 9 1 (rowOf p) ss.length (strs ss) M

section
variable {W W' : World}
theorem CellsAt.sameOn {SB : Nat → Prop} {ao : Option Addr} {vs : List Value} (h : CellsAt W ao vs) (hs : SameOn SB W W') (ha : ∀ a, ao = some a → SB a.block) : CellsAt W' ao vs := fun i u hu => by
  obtain ⟨b, o, e, c⟩ := h i u hu
  exact ⟨b, o, e, (hs.cell (ha _ e)).trans c⟩
end
/-- A row's cells, whatever is in them: nil, or from the head of a block of F on. -/
def RoomRow (F : Nat → Prop) (w : World) (x : RowZ) (n : Nat) : Prop := n = 0 ∨ ∃ g cap cs, x = (some ⟨g, 0, none⟩, n, cap) ∧ F g ∧ Blk w g cs 9 ∧ n ≤ cs.length
theorem RoomRow.of_row {w : World} {x : RowZ} {n : Nat} {xs : List Value} {M : Nat → Prop} (h : Row w 9 1 (.slice x.1 x.2.1 x.2.2) n xs M) : RoomRow M w x n := by
  obtain ⟨hx, ⟨_, h0⟩ | ⟨g, cap, rest, e, hM, hB, hl, hc, _⟩⟩ := h
  · exact .inl h0
  · obtain ⟨x1, x2, x3⟩ := x
    simp only [Value.slice.injEq] at e
    obtain ⟨rfl, rfl, rfl⟩ := e
    exact .inr ⟨g, _, _, rfl, hM, hB, by simp at hl ⊢; omega⟩
theorem RoomRow.kp {F G : Nat → Prop} {w w' : World} {x : RowZ} {n : Nat} (h : RoomRow F w x n) (hk : Kp G w w') (hG : ∀ g, F g → ¬ G g) : RoomRow F w' x n := by
  rcases h with h | ⟨g, cap, cs, e, hF, hB, hl⟩
  · exact .inl h
  · exact .inr ⟨g, cap, cs, e, hF, hB.kp hk (hG g hF), hl⟩
theorem RoomRow.set {F : Nat → Prop} {w : World} {x : RowZ} {n : Nat} (h : RoomRow F w x n) (g' i : Nat) (v : Value) : RoomRow F (w.setCell ⟨g', i, none⟩ v) x n := by
  rcases h with h | ⟨g, cap, cs, e, hF, hB, hl⟩
  · exact .inl h
  · by_cases hg : g = g'
    · subst hg
      exact .inr ⟨g, cap, _, e, hF, hB.set i v, by simpa using hl⟩
    · exact .inr ⟨g, cap, cs, e, hF, hB.other (fun e => hg e) v, hl⟩
end Go.Proofs.YtfkhelihepbehaaGreat

/- The shelf of TupleBases: three places in memory; Same of two. -/
namespace Go.Proofs.YtfkhelihepbehaaGreat
open Go.RowKit Go.Shelf
set_option linter.unusedVariables false

structure ShelfAt (S : Nat → Prop) (w : World) (sd : Nat) (D : Nat → Place) : Prop where
  blk : Blk w sd [(D 0).bv, (D 1).bv, (D 2).bv, (D 0).mv, (D 1).mv, (D 2).mv] 60
  place : ∀ k, k < 3 → PlaceAt S w (D k)
  bb : ∀ i j, i < 3 → j < 3 → i ≠ j → ∀ g, (D i).ow g → ¬ (D j).ow g
  bm : ∀ i j, i < 3 → j < 3 → ∀ g, (D i).ow g → ¬ (D j).mw g
  mm : ∀ i j, i < 3 → j < 3 → i ≠ j → ∀ g, (D i).mw g → ¬ (D j).mw g
  off : ∀ k, k < 3 → ¬ (D k).ow sd ∧ ¬ (D k).mw sd
  offS : ¬ S sd
  inS : ∀ k, S k → k < w.heap.size
section
variable {S S' : Nat → Prop} {w w' : World} {sd : Nat} {D : Nat → Place}
theorem ShelfAt.ext (h : ShelfAt S w sd D) (hk : Ext w w') : ShelfAt S w' sd D :=
  ⟨h.blk.ext hk, fun k hk' => (h.place k hk').ext hk, h.bb, h.bm, h.mm, h.off, h.offS, fun k hk' => Nat.lt_of_lt_of_le (h.inS k hk') hk.size⟩
theorem ShelfAt.cb (h : ShelfAt S w sd D) {k : Nat} (hk : k < 3) : w.cell? ⟨sd, k, none⟩ = some (D k).bv := by
  rw [h.blk.cell']
  match k, hk with
  | 0, _ => rfl
  | 1, _ => rfl
  | 2, _ => rfl
theorem ShelfAt.cm (h : ShelfAt S w sd D) {k : Nat} (hk : k < 3) : w.cell? ⟨sd, 3 + k, none⟩ = some (D k).mv := by
  rw [h.blk.cell']
  match k, hk with
  | 0, _ => rfl
  | 1, _ => rfl
  | 2, _ => rfl
theorem sameE_iff {E1 E2 : List Ent} (h1 : BaseOk (cntE E1)) (h2 : BaseOk (cntE E2)) : sameE E1 E2 = true ↔ SameC (cntE E1) (cntE E2) := by
  unfold sameE
  rw [Bool.and_eq_true, decide_eq_true_iff, List.all_eq_true]
  have hlen : ∀ E : List Ent, (cntE E).length = E.length := fun E => by unfold cntE; simp
  constructor
  · rintro ⟨hl, ha⟩ s
    have key : ∀ t v, getC (cntE E1) t = some v → getC (cntE E2) t = some v := fun t v hv => by
      rw [cntE_get] at hv
      cases he : findE E1 t with
      | none => rw [he] at hv; cases hv
      | some e =>
        rw [he] at hv
        have hm := ha e (findE_some he).1
        unfold matchE at hm
        rw [(findE_some he).2] at hm
        rw [cntE_get]
        cases hf : findE E2 t with
        | none => rw [hf] at hm; cases hm
        | some f =>
          rw [hf] at hm
          have h3 := of_decide_eq_true hm
          injection hv with hv
          show some (f.ar, f.LL) = some v
          rw [← h3.1, ← h3.2]
          exact congrArg some hv
    cases hc : getC (cntE E1) s with
    | some v => exact (key s v hc).symm
    | none =>
      cases hd : getC (cntE E2) s with
      | none => rfl
      | some v =>
        exfalso
        -- all names of the first are names of the second, and one more is: the lengths differ
        have hsub : ∀ t ∈ s :: (cntE E1).map (·.1), t ∈ (cntE E2).map (·.1) := fun t ht => by
          rcases List.mem_cons.1 ht with rfl | ht
          · exact List.mem_map.2 ⟨(t, v), (getC_mem h2.nodup).1 hd, rfl⟩
          · cases hg : getC (cntE E1) t with
            | some v => exact List.mem_map.2 ⟨(t, v), (getC_mem h2.nodup).1 (key t v hg), rfl⟩
            | none => exact absurd ht (getC_none.1 hg)
        have h8 := nodup_len (List.nodup_cons.2 ⟨getC_none.1 hc, h1.nodup⟩) hsub
        rw [List.length_cons, List.length_map, List.length_map, hlen, hlen] at h8
        omega
  · intro hs
    refine ⟨?_, fun e he => ?_⟩
    · have := same_lenC h1.nodup h2.nodup hs
      rwa [hlen, hlen] at this
    · have h3 := hs e.name
      rw [cntE_get, cntE_get, nodup_findC h1 he] at h3
      unfold matchE
      cases hf : findE E2 e.name with
      | none => rw [hf] at h3; cases h3
      | some f =>
        rw [hf] at h3
        injection h3 with h3
        injection h3 with h4 h5
        exact decide_eq_true ⟨h4, h5⟩
theorem sameG_iff {G1 G2 : List REnt} (h1 : RefOk G1) (h2 : RefOk G2) : sameG G1 G2 = true ↔ SameC (cntR G1) (cntR G2) := by
  unfold sameG
  rw [decide_eq_true_iff]
  constructor
  · intro h; rw [h]; exact SameC.refl _
  · intro h
    have e1 := rels_sorted (C := cntR G1) (by rw [cntR_names]; exact h1.names)
    have e2 := rels_sorted (C := cntR G2) (by rw [cntR_names]; exact h2.names)
    have e3 := rels_same h1.ok.nodup h2.ok.nodup h
    rw [e1, e2] at e3
    have inj : ∀ C D : List CntZ, C.map (fun p => ((p.1, (p.2.1 : Int), p.2.2, ()) : RelZ)) = D.map (fun p => (p.1, (p.2.1 : Int), p.2.2, ())) → C = D := fun C => by
      induction C with
      | nil => intro D hD; cases D with
        | nil => rfl
        | cons => cases hD
      | cons p C ih => intro D hD; cases D with
        | nil => cases hD
        | cons q D =>
          rw [List.map_cons, List.map_cons] at hD
          injection hD with a b
          have hpq : p = q := by
            have a1 := congrArg (fun x : RelZ => x.1) a
            have a2 := congrArg (fun x : RelZ => x.2.1) a
            have a3 := congrArg (fun x : RelZ => x.2.2.1) a
            simp only at a1 a2 a3
            obtain ⟨p1, p2, p3⟩ := p
            obtain ⟨q1, q2, q3⟩ := q
            simp only at a1 a2 a3
            have a2' : p2 = q2 := by omega
            rw [a1, a2', a3]
          rw [hpq, ih D b]
    exact inj _ _ e3
/-- What Same of two places answers. -/
def sameB (p q : Place) : Bool := !nilV p.bv && !nilV q.bv && sameG p.G q.G
theorem ShelfAt.same (h : ShelfAt S w sd D) {i j : Nat} (hi : i < 3) (hj : j < 3) : Calls Tryz.prog 26 #[(D i).bv, (D j).bv] w (RetN w fun w' v => v = .bool (sameB (D i) (D j))) ∧ Calls Tryz.prog 88 #[(D i).mv, (D j).mv] w (RetN w fun w' v => v = .bool (sameB (D i) (D j))) := by
  have hp := h.place i hi
  have hq := h.place j hj
  have hap : ∀ e ∈ (D i).E, ∀ f ∈ (D j).E, e.name = f.name → e = f ∨ ∀ k, e.own k → ¬ f.own k := fun e he f hf hn => by
    by_cases hij : i = j
    · subst hij
      have h1 := nodup_findC hp.b.ok he
      have h2 := nodup_findC hp.b.ok hf
      rw [hn, h2] at h1
      injection h1 with h1
      exact .inl h1.symm
    · exact .inr fun k h1 h2 => h.bb i j hi hj hij k (hp.b.own e he k h1) (hq.b.own f hf k h2)
  unfold sameB
  rcases hp.nilb with ⟨_, e1, e2⟩ | ⟨a, c, e1, e2, hR1⟩
  · rw [e1, e2]
    constructor
    · refine (baseSame_nil1 _ w).mono ?_
      rintro e w' ⟨rfl, n, rfl⟩
      exact RetN.mk ((Kp.refl w).drewN n) rfl
    · refine (refBSame_nil1 _ w).mono ?_
      rintro e w' ⟨rfl, n, rfl⟩
      exact RetN.mk ((Kp.refl w).drewN n) rfl
  · rcases hq.nilb with ⟨_, f1, f2⟩ | ⟨b, d, f1, f2, hR2⟩
    · rw [e1, e2, f1, f2]
      constructor
      · refine (baseSame_nil2 _ w).mono ?_
        rintro e w' ⟨rfl, n, rfl⟩
        exact RetN.mk ((Kp.refl w).drewN n) rfl
      · refine (refBSame_nil2 _ w).mono ?_
        rintro e w' ⟨rfl, n, rfl⟩
        exact RetN.mk ((Kp.refl w).drewN n) rfl
    · have hb1 := hp.b
      have hb2 := hq.b
      have hsm : sameE (D i).E (D j).E = sameG (D i).G (D j).G := by
        rw [Bool.eq_iff_iff, sameE_iff hb1.ok hb2.ok, sameG_iff hp.m.ok hq.m.ok]
        exact ⟨fun h => (hp.same.symm.trans h).trans hq.same, fun h => (hp.same.trans h).trans hq.same.symm⟩
      rw [e1] at hb1
      rw [f1] at hb2
      obtain ⟨bb1, m1, ea, hm1, _⟩ := hb1.m
      obtain ⟨bb2, m2, eb, hm2, _⟩ := hb2.m
      subst ea eb
      rw [e1, e2, f1, f2]
      constructor
      · refine (baseSameM_any hm1 hm2 hap hp.few hq.few).mono ?_
        rintro e w' ⟨v, rfl, hk, rfl⟩
        exact RetN.mk hk (by rw [hsm]; rfl)
      · exact refBSame_any hR1 hR2
theorem CopyV.ext {lo : Nat} {o : Option Ent} {v : Value} (h : CopyV S lo w o v) (hk : Ext w w') : CopyV S lo w' o v := by
  rcases h with h | ⟨b', iv', h1, h2, h3, h4, h5⟩
  · exact .inl h
  · exact .inr ⟨b', iv', h1, h2, h3, h4, h5.ext hk⟩
set_option maxRecDepth 100000 in
theorem CopyV.all {lo : Nat} {o : Option Ent} {v : Value} (h : CopyV S lo w o v) : Calls Tryz.prog 59 #[v] w (RetN w fun w' r => OwnRows w.heap.size w' r (optLL o)) := by
  rcases h with ⟨rfl, rfl⟩ | ⟨b', iv', h1, rfl, h3, h4, h5⟩
  · exact rowsAll_nil w
  · refine (rowsAll_q (z := False) h5.q).mono ?_
    rintro e w' ⟨v, rfl, hk, _, hv⟩
    exact RetN.mk (Kp.fq hk) hv
theorem CopyV.arity {lo : Nat} {o : Option Ent} {v : Value} (h : CopyV S lo w o v) : Calls Tryz.prog 86 #[v] w (Ret (.int .i64 (optAr o : Nat)) w) := by
  rcases h with ⟨rfl, rfl⟩ | ⟨b', iv', h1, rfl, h3, h4, h5⟩
  · exact rowsArity_nil w
  · exact rowsArity_q (z := False) h5.q
set_option maxRecDepth 100000 in
theorem CopyV.isNil {lo : Nat} {o : Option Ent} {v : Value} (h : CopyV S lo w o v) : ∀ W : World, (binOp .eql 94 v (.pointer none)).run Tryz.prog W = .ok (.bool (!o.isSome)) W := by
  rcases h with ⟨rfl, rfl⟩ | ⟨b', iv', h1, rfl, h3, h4, h5⟩
  · exact fun _ => by kernel_rfl
  · cases o with
    | none => exact absurd rfl h1
    | some e => exact fun _ => by kernel_rfl
set_option maxRecDepth 100000 in
theorem CopyV.add {w0 : World} {lo : Nat} {o : Option Ent} {v : Value} (h0 : CopyV S lo w0 o v) (hk0 : Ext w0 w) (hst : Strict cmpRow (optLL o)) (hl : (optLL o).length ≤ 65536) {x : RowZ} {ss : List ByteArray} (hx : RowIn w x ss) (ho : ∀ a, x.1 = some a → w0.heap.size ≤ a.block) :
    Calls Tryz.prog 87 #[v, .slice x.1 x.2.1 x.2.2] w (RetF (fun k => lo ≤ k ∧ k < w0.heap.size) w fun w' r => True) := by
  rcases h0 with ⟨rfl, rfl⟩ | ⟨b', iv', h1, rfl, h3, h4, h5⟩
  · refine (rowsAdd_nil _ w).mono ?_
    rintro e w' ⟨rfl, rfl⟩
    exact RetF.mk (Kp.refl w) trivial
  · have hlt : ∀ k, Owns b' iv' k → k < w0.heap.size := RowsQ.ownLt (z := True) h5.q
    refine (rowsAdd_any (h5.ext hk0) hst hx (fun a e ho' => by have := hlt _ ho'; have := ho a e; omega) (by omega)).mono ?_
    rintro e w' ⟨v, rfl, hk, _⟩
    refine RetF.mk (hk.mono fun k _ ho => ⟨?_, hlt k ho⟩) trivial
    rcases ho with ho | ho
    · rw [ho]; exact h3
    · exact h4 k ho
set_option maxRecDepth 100000 in
theorem optR_nil (o : Option REnt) : (∀ W : World, (binOp .eql 116 (optPtrR o) (.pointer none)).run Tryz.prog W = .ok (.bool (!o.isSome)) W) ∧ ∀ W : World, (binOp .neq 116 (optPtrR o) (.pointer none)).run Tryz.prog W = .ok (.bool o.isSome) W := by
  cases o with
  | none => exact ⟨fun _ => by kernel_rfl, fun _ => by kernel_rfl⟩
  | some g => exact ⟨fun _ => by kernel_rfl, fun _ => by kernel_rfl⟩
theorem CopyV.ptr {lo : Nat} {o : Option Ent} {v : Value} (h : CopyV S lo w o v) : ∃ p, v = .pointer p := by
  rcases h with ⟨_, rfl⟩ | ⟨b', iv', h1, rfl, _⟩
  · exact ⟨_, rfl⟩
  · exact ⟨_, rfl⟩
theorem optPtrR_ptr (o : Option REnt) : ∃ p, optPtrR o = .pointer p := by
  cases o with
  | none => exact ⟨_, rfl⟩
  | some g => exact ⟨_, rfl⟩
end
end Go.Proofs.YtfkhelihepbehaaGreat

/- shelf.step: what holds between its lines. -/
namespace Go.Proofs.YtfkhelihepbehaaGreat
open Go.RowKit Go.Shelf
set_option linter.unusedVariables false

/-- What a call on a base leaves. -/
def BaseTo (S : Nat → Prop) (w : World) (v : Value) (ow : Nat → Prop) (C' : List CntZ) (w' : World) : Prop :=
  ∃ S' E' ow', Grows w S S' ∧ BaseO S' w' v E' ow' ∧ SameC (cntE E') C' ∧ ∀ k, ow' k → ow k ∨ w.heap.size ≤ k
def RefTo (S : Nat → Prop) (w : World) (mv : Value) (mw : Nat → Prop) (C' : List CntZ) (w' : World) : Prop :=
  ∃ S' G' mw', Grows w S S' ∧ RefO S' w' mv G' mw' ∧ SameC (cntR G') C' ∧ ∀ k, mw' k → mw k ∨ w.heap.size ≤ k
def updP (D : Nat → Place) (i : Nat) (p : Place) : Nat → Place := fun k => if k = i then p else D k
theorem updP_same (D : Nat → Place) (i : Nat) (p : Place) : updP D i p i = p := if_pos rfl
theorem updP_other {D : Nat → Place} {i k : Nat} {p : Place} (h : k ≠ i) : updP D i p k = D k := if_neg h
/-- A block that is no part of a shelf. -/
def OffS (S : Nat → Prop) (D : Nat → Place) (sd g : Nat) : Prop := ¬ S g ∧ g ≠ sd ∧ ∀ k, k < 3 → ¬ (D k).ow g ∧ ¬ (D k).mw g
/-- All of a shelf came since lo. -/
def ShelfLo (lo : Nat) (D : Nat → Place) (sd : Nat) : Prop := lo ≤ sd ∧ ∀ k, k < 3 → (∀ g, (D k).ow g → lo ≤ g) ∧ ∀ g, (D k).mw g → lo ≤ g
/-- The shelf; beside it the row that was lent (gi) and the operation's box (ob). -/
structure StS (lo : Nat) (w0 : World) (sd gi ob : Nat) (cg co : List Value) (NM : List ByteArray) (S : Nat → Prop) (D : Nat → Place) (W : World) : Prop where
  b : ShelfAt S W sd D
  l : ShelfLo lo D sd
  kp : Kp (fun g => lo ≤ g) w0 W
  gB : Blk W gi cg 9
  gO : OffS S D sd gi
  gL : lo ≤ gi
  oB : Blk W ob co 68
  oO : OffS S D sd ob
  lw : lo ≤ w0.heap.size
  nm : ∀ k, k < 3 → ∀ e ∈ (D k).E, e.name ∈ NM
section
variable {S S' S1 S2 : Nat → Prop} {w W W1 W2 W3 w0 : World} {v mv : Value} {E : List Ent} {G : List REnt} {ow mw : Nat → Prop} {lo sd gi ob : Nat} {cg co : List Value} {NM : List ByteArray} {D : Nat → Place} {i : Nat} {p : Place}
theorem BaseO.trim (h : BaseO S w v E ow) : BaseO (fun k => S k ∧ k < w.heap.size) w v E ow := by
  cases h with
  | nil => exact .nil
  | zero bb hb hi hs => exact .zero bb hb (fun k hk => hk.2) (fun hk => hs hk.1)
  | full bb r E h => exact .full bb r E (h.wide (fun k hk => ⟨hk, h.inS k hk⟩) (fun k hk => hk.2) fun k ho hk => h.notOwn k ho hk.1)
theorem RefO.trim (h : RefO S w mv G mw) : RefO (fun k => S k ∧ k < w.heap.size) w mv G mw := by
  cases h with
  | nil => exact .nil
  | full cb G h ho => exact .full cb G (h.wide (fun k hk => ⟨hk, h.inS k hk⟩) (fun k hk => hk.2) fun k ho hk => h.ownNot k ho hk.1) ho
theorem names_len {NM : List ByteArray} (hN : NM.length ≤ 1048576) (hok : BaseOk (cntE E)) (hn : ∀ e ∈ E, e.name ∈ NM) : E.length ≤ 1048576 := by
  have h1 : (E.map (·.name)).Nodup := by
    have := hok.nodup
    have e : (cntE E).map (·.1) = E.map (·.name) := by unfold cntE; rw [List.map_map]; rfl
    rwa [e] at this
  have h2 := nodup_len h1 (U := NM) (fun x hx => by
    obtain ⟨e, he, rfl⟩ := List.mem_map.1 hx
    exact hn e he)
  rw [List.length_map] at h2
  omega
/-- A place takes on another base. -/
theorem ShelfAt.turn {z : Nat} (h : ShelfAt S W sd D) (hz : ∀ k, k < 3 → (∀ g, (D k).ow g → g < z) ∧ ∀ g, (D k).mw g → g < z) (sz : sd < z) (hi : i < 3) (hk : Kp (fun g => (D i).ow g ∨ (D i).mw g ∨ g = sd) W W1)
    (hB : Blk W1 sd [(updP D i p 0).bv, (updP D i p 1).bv, (updP D i p 2).bv, (updP D i p 0).mv, (updP D i p 1).mv, (updP D i p 2).mv] 60)
    (hS : (∀ k, S k → S' k) ∧ ∀ k, S' k → S k ∨ z ≤ k) (hSW : ∀ k, S' k → k < W1.heap.size) (hp : PlaceAt S' W1 p) (hbo : ∀ g, p.ow g → (D i).ow g ∨ z ≤ g) (hmo : ∀ g, p.mw g → (D i).mw g ∨ z ≤ g) (hbm : ∀ g, p.ow g → ¬ p.mw g) : ShelfAt S' W1 sd (updP D i p) := by
  have nS : ∀ k, k < 3 → ∀ g, ((D k).ow g ∨ (D k).mw g) → ¬ S' g := fun k hk' g hg hs => by
    have hlt : g < z := hg.elim (fun h => (hz k hk').1 g h) fun h => (hz k hk').2 g h
    rcases hS.2 g hs with hs | hs
    · exact hg.elim (fun h1 => (h.place k hk').b.notS g h1 hs) fun h1 => (h.place k hk').m.notS g h1 hs
    · omega
  have offF : ∀ k, k < 3 → k ≠ i → ∀ g, ((D i).ow g ∨ (D i).mw g ∨ g = sd) → ¬ (D k).ow g ∧ ¬ (D k).mw g := fun k hk' hne g hg => by
    rcases hg with hg | hg | rfl
    · exact ⟨fun h1 => h.bb k i hk' hi hne g h1 hg, fun h1 => h.bm i k hi hk' g hg h1⟩
    · exact ⟨fun h1 => h.bm k i hk' hi g h1 hg, fun h1 => h.mm k i hk' hi hne g h1 hg⟩
    · exact h.off k hk'
  have offS : ∀ g, ((D i).ow g ∨ (D i).mw g ∨ g = sd) → ¬ S g := fun g hg hs => by
    rcases hg with hg | hg | rfl
    · exact (h.place i hi).b.notS g hg hs
    · exact (h.place i hi).m.notS g hg hs
    · exact h.offS hs
  have nz : ∀ k, k < 3 → k ≠ i → ∀ g, p.ow g → ¬ (D k).ow g ∧ ¬ (D k).mw g := fun k hk' hne g hg => by
    rcases hbo g hg with h1 | h1
    · exact offF k hk' hne g (.inl h1)
    · exact ⟨fun h2 => by have := (hz k hk').1 g h2; omega, fun h2 => by have := (hz k hk').2 g h2; omega⟩
  have nzm : ∀ k, k < 3 → k ≠ i → ∀ g, p.mw g → ¬ (D k).ow g ∧ ¬ (D k).mw g := fun k hk' hne g hg => by
    rcases hmo g hg with h1 | h1
    · exact offF k hk' hne g (.inr (.inl h1))
    · exact ⟨fun h2 => by have := (hz k hk').1 g h2; omega, fun h2 => by have := (hz k hk').2 g h2; omega⟩
  refine ⟨hB, fun k hk' => ?_, fun a b ha hb hne g => ?_, fun a b ha hb g => ?_, fun a b ha hb hne g => ?_, fun k hk' => ?_, fun hs => ?_, hSW⟩
  · by_cases e : k = i
    · subst e; rw [updP_same]; exact hp
    · rw [updP_other e]
      have hq := h.place k hk'
      exact ⟨(hq.b.kp hk (fun g hg => (offF k hk' e g hg).1) offS).wide hS.1 hSW fun g hg => nS k hk' g (.inl hg), (hq.m.kp hk (fun g hg => (offF k hk' e g hg).2) offS).wide hS.1 hSW fun g hg => nS k hk' g (.inr hg), hq.both, hq.same, hq.few⟩
  · by_cases ea : a = i
    · subst ea
      rw [updP_same, updP_other (fun e => hne e.symm)]
      exact fun h1 => (nz b hb (fun e => hne e.symm) g h1).1
    · rw [updP_other ea]
      by_cases eb : b = i
      · subst eb; rw [updP_same]; exact fun h1 h2 => (nz a ha ea g h2).1 h1
      · rw [updP_other eb]; exact h.bb a b ha hb hne g
  · by_cases ea : a = i
    · subst ea
      rw [updP_same]
      by_cases eb : b = a
      · subst eb; rw [updP_same]; exact hbm g
      · rw [updP_other eb]; exact fun h1 => (nz b hb eb g h1).2
    · rw [updP_other ea]
      by_cases eb : b = i
      · subst eb; rw [updP_same]; exact fun h1 h2 => (nzm a ha ea g h2).1 h1
      · rw [updP_other eb]; exact h.bm a b ha hb g
  · by_cases ea : a = i
    · subst ea
      rw [updP_same, updP_other (fun e => hne e.symm)]
      exact fun h1 => (nzm b hb (fun e => hne e.symm) g h1).2
    · rw [updP_other ea]
      by_cases eb : b = i
      · subst eb; rw [updP_same]; exact fun h1 h2 => (nzm a ha ea g h2).2 h1
      · rw [updP_other eb]; exact h.mm a b ha hb hne g
  · by_cases e : k = i
    · subst e
      rw [updP_same]
      exact ⟨fun h1 => (hbo sd h1).elim (h.off k hk').1 fun h2 => by omega, fun h1 => (hmo sd h1).elim (h.off k hk').2 fun h2 => by omega⟩
    · rw [updP_other e]; exact h.off k hk'
  · rcases hS.2 sd hs with hs | hs
    · exact h.offS hs
    · omega
theorem StS.ext (h : StS lo w0 sd gi ob cg co NM S D W) (hk : Ext W W1) : StS lo w0 sd gi ob cg co NM S D W1 :=
  ⟨h.b.ext hk, h.l, h.kp.ext hk, h.gB.ext hk, h.gO, h.gL, h.oB.ext hk, h.oO, h.lw, h.nm⟩
theorem StS.below (h : StS lo w0 sd gi ob cg co NM S D W) : ∀ k, k < 3 → (∀ g, (D k).ow g → g < W.heap.size) ∧ ∀ g, (D k).mw g → g < W.heap.size :=
  fun k hk => ⟨(h.b.place k hk).b.lt, (h.b.place k hk).m.lt⟩
theorem StS.turn {z : Nat} (h : StS lo w0 sd gi ob cg co NM S D W) (hz : ∀ k, k < 3 → (∀ g, (D k).ow g → g < z) ∧ ∀ g, (D k).mw g → g < z) (sz : sd < z) (gz : gi < z) (oz : ob < z) (lz : lo ≤ z) (hi : i < 3) (hk : Kp (fun g => (D i).ow g ∨ (D i).mw g ∨ g = sd) W W1)
    (hB : Blk W1 sd [(updP D i p 0).bv, (updP D i p 1).bv, (updP D i p 2).bv, (updP D i p 0).mv, (updP D i p 1).mv, (updP D i p 2).mv] 60)
    (hS : (∀ k, S k → S' k) ∧ ∀ k, S' k → S k ∨ z ≤ k) (hSW : ∀ k, S' k → k < W1.heap.size) (hp : PlaceAt S' W1 p) (hbo : ∀ g, p.ow g → (D i).ow g ∨ z ≤ g) (hmo : ∀ g, p.mw g → (D i).mw g ∨ z ≤ g) (hbm : ∀ g, p.ow g → ¬ p.mw g) (hn : ∀ e ∈ p.E, e.name ∈ NM) : StS lo w0 sd gi ob cg co NM S' (updP D i p) W1 := by
  have off : ∀ g, g < z → OffS S D sd g → OffS S' (updP D i p) sd g := fun g hgz ho => by
    refine ⟨fun hs => ?_, ho.2.1, fun k hk' => ?_⟩
    · rcases hS.2 g hs with hs | hs
      · exact ho.1 hs
      · omega
    · by_cases e : k = i
      · subst e
        rw [updP_same]
        exact ⟨fun h1 => (hbo g h1).elim (ho.2.2 k hk').1 fun h2 => by omega, fun h1 => (hmo g h1).elim (ho.2.2 k hk').2 fun h2 => by omega⟩
      · rw [updP_other e]; exact ho.2.2 k hk'
  have nF : ∀ g, OffS S D sd g → ¬ ((D i).ow g ∨ (D i).mw g ∨ g = sd) := fun g ho hf => by
    rcases hf with hf | hf | hf
    · exact (ho.2.2 i hi).1 hf
    · exact (ho.2.2 i hi).2 hf
    · exact ho.2.1 hf
  refine ⟨h.b.turn hz sz hi hk hB hS hSW hp hbo hmo hbm, ⟨h.l.1, fun k hk' => ?_⟩, h.kp.trans (hk.mono fun g _ hg => ?_), h.gB.kp hk (nF _ h.gO), off _ gz h.gO, h.gL, h.oB.kp hk (nF _ h.oO), off _ oz h.oO, h.lw, fun k hk' => ?_⟩
  · by_cases e : k = i
    · subst e
      rw [updP_same]
      exact ⟨fun g hg => (hbo g hg).elim (fun h1 => (h.l.2 k hk').1 g h1) fun h1 => by omega, fun g hg => (hmo g hg).elim (fun h1 => (h.l.2 k hk').2 g h1) fun h1 => by omega⟩
    · rw [updP_other e]; exact h.l.2 k hk'
  · rcases hg with hg | hg | rfl
    · exact (h.l.2 i hi).1 g hg
    · exact (h.l.2 i hi).2 g hg
    · exact h.l.1
  · by_cases e : k = i
    · subst e; rw [updP_same]; exact hn
    · rw [updP_other e]; exact h.nm k hk'
theorem names_of {C : List CntZ} (hs : SameC (cntE E) C) (hok : BaseOk (cntE E)) (hn : ∀ t v, getC C t = some v → t ∈ NM) : ∀ e ∈ E, e.name ∈ NM := fun e he => by
  have h1 := (getC_mem hok.nodup).2 (List.mem_map.2 ⟨e, he, rfl⟩ : (e.name, (e.ar, e.LL)) ∈ cntE E)
  rw [hs] at h1
  exact hn _ _ h1
/-- An operation on a place, by the program and by the document. -/
theorem StS.both {C1 C2 : List CntZ} (h : StS lo w0 sd gi ob cg co NM S D W) (hN : NM.length ≤ 1048576) (hi : i < 3) (hk1 : Kp (D i).ow W W1) (h1 : BaseTo S W (D i).bv (D i).ow C1 W1) (hk2 : Kp (D i).mw W1 W2) (h2 : RefTo S W1 (D i).mv (D i).mw C2 W2) (hs : SameC C1 C2)
    (hn : ∀ t v, getC C1 t = some v → t ∈ NM) : ∃ S' D', StS lo w0 sd gi ob cg co NM S' D' W2 := by
  obtain ⟨S1, E1, ow1, hS1, hb1, hc1, ho1⟩ := h1
  obtain ⟨S2, G2, mw2, hS2, hm2, hc2, ho2⟩ := h2
  have hz1 := hk1.size
  have hz2 := hk2.size
  have bl := h.below
  have hb' := hb1.trim
  have hm' := hm2.trim
  have mlt : ∀ g, (D i).mw g → g < W.heap.size := (bl i hi).2
  have nm : ∀ g, (D i).mw g → ¬ ow1 g := fun g hg ho => by
    rcases ho1 g ho with ho | ho
    · exact h.b.bm i i hi hi g ho hg
    · have := mlt g hg; omega
  have nS1 : ∀ g, (D i).mw g → ¬ S1 g := fun g hg hs => by
    rcases hS1.2 g hs with hs | hs
    · exact (h.b.place i hi).m.notS g hg hs
    · have := mlt g hg; omega
  have hb2 := hb'.kp hk2 (fun g hg => nm g hg) fun g hg hs => nS1 g hg hs.1
  have lo1 := h.lw
  have lo2 := h.kp.size
  have hn1 := names_of hc1 hb1.ok hn
  have e1 : ∀ k, (updP D i ⟨(D i).bv, E1, ow1, (D i).mv, G2, mw2⟩ k).bv = (D k).bv ∧ (updP D i ⟨(D i).bv, E1, ow1, (D i).mv, G2, mw2⟩ k).mv = (D k).mv := fun k => by
    by_cases e : k = i
    · subst e; rw [updP_same]; exact ⟨rfl, rfl⟩
    · rw [updP_other e]; exact ⟨rfl, rfl⟩
  have own1 := hb1.lt
  have inS := h.b.inS
  refine ⟨fun k => (S1 k ∧ k < W1.heap.size) ∨ (S2 k ∧ k < W2.heap.size), updP D i ⟨(D i).bv, E1, ow1, (D i).mv, G2, mw2⟩, h.turn (z := W.heap.size) bl h.b.blk.lt h.gB.lt h.oB.lt (by omega) hi ((hk1.mono fun g _ hg => .inl hg).trans (hk2.mono fun g _ hg => .inr (.inl hg))) ?_ ⟨fun k hk => .inl ⟨hS1.1 k hk, by have := inS k hk; omega⟩, fun k hk => ?_⟩ (fun k hk => ?_)
    ⟨hb2.wide (fun k hk => .inl hk) (fun k hk => ?_) (fun g ho hs => ?_), hm'.wide (fun k hk => .inr hk) (fun k hk => ?_) (fun g ho hs => ?_), (h.b.place i hi).both, hc1.trans (hs.trans hc2.symm), names_len hN hb1.ok hn1⟩ ho1 (fun g hg => (ho2 g hg).imp id fun h => by omega) (fun g hg hm => ?_) hn1⟩
  · rw [(e1 0).1, (e1 1).1, (e1 2).1, (e1 0).2, (e1 1).2, (e1 2).2]
    exact (h.b.blk.kp hk1 fun ho => (h.b.off i hi).1 ho).kp hk2 fun ho => (h.b.off i hi).2 ho
  · rcases hk with hk | hk
    · exact hS1.2 k hk.1
    · exact (hS2.2 k hk.1).imp id fun h => by omega
  · rcases hk with hk | hk <;> omega
  · rcases hk with hk | hk <;> omega
  · rcases hs with hs | hs
    · exact hb1.notS g ho hs.1
    · rcases hS2.2 g hs.1 with hs' | hs'
      · exact hb1.notS g ho (hS1.1 g hs')
      · have := own1 g ho; omega
  · rcases hk with hk | hk <;> omega
  · rcases hs with hs | hs
    · rcases ho2 g ho with ho | ho
      · exact nS1 g ho hs.1
      · omega
    · exact hm2.notS g ho hs.1
  · rcases ho2 g hm with ho | ho
    · exact nm g ho hg
    · have := own1 g hg; omega
/-- New bases of both go to a place. -/
theorem StS.put (h0 : StS lo w0 sd gi ob cg co NM S D W) (h : StS lo w0 sd gi ob cg co NM S D W2) (hN : NM.length ≤ 1048576) (hi : i < 3) (hW : W.heap.size ≤ W2.heap.size) (hS : Grows W S S') (hSW : ∀ k, S' k → k < W2.heap.size) (hb : BaseO S' W2 v E ow) (hm : RefO S' W2 mv G mw) (hrn : ∀ g, ow g → W.heap.size ≤ g) (hmn : ∀ g, mw g → W.heap.size ≤ g)
    (hrm : ∀ g, ow g → ¬ mw g) (hnl : nilV v = nilV mv) (hs : SameC (cntE E) (cntR G)) (hn : ∀ e ∈ E, e.name ∈ NM)
    (h3 : W3 = (W2.setCell ⟨sd, i, none⟩ v).setCell ⟨sd, 3 + i, none⟩ mv ∨ W3 = (W2.setCell ⟨sd, 3 + i, none⟩ mv).setCell ⟨sd, i, none⟩ v) : ∃ S' D', StS lo w0 sd gi ob cg co NM S' D' W3 := by
  have hk : Kp (fun g => g = sd) W2 W3 := by
    rcases h3 with rfl | rfl
    · exact Kp.setCell (F := fun g => g = sd) (Kp.setCell (F := fun g => g = sd) (Kp.refl _) (fun _ => rfl) _) (fun _ => rfl) _
    · exact Kp.setCell (F := fun g => g = sd) (Kp.setCell (F := fun g => g = sd) (Kp.refl _) (fun _ => rfl) _) (fun _ => rfl) _
  have hB : Blk W3 sd [(updP D i ⟨v, E, ow, mv, G, mw⟩ 0).bv, (updP D i ⟨v, E, ow, mv, G, mw⟩ 1).bv, (updP D i ⟨v, E, ow, mv, G, mw⟩ 2).bv, (updP D i ⟨v, E, ow, mv, G, mw⟩ 0).mv, (updP D i ⟨v, E, ow, mv, G, mw⟩ 1).mv, (updP D i ⟨v, E, ow, mv, G, mw⟩ 2).mv] 60 := by
    have hb0 := h.b.blk
    rcases h3 with rfl | rfl
    all_goals
      match i, hi with
      | 0, _ => exact (hb0.set _ _).set _ _
      | 1, _ => exact (hb0.set _ _).set _ _
      | 2, _ => exact (hb0.set _ _).set _ _
  have bz := h0.b.blk.lt
  have nsd : ∀ g, g = sd → ¬ S' g := fun g e hs' => by
    subst e
    rcases hS.2 _ hs' with hs' | hs'
    · exact h.b.offS hs'
    · omega
  have lo1 := h0.lw
  have lo2 := h0.kp.size
  have hz3 := hk.size
  exact ⟨S', updP D i ⟨v, E, ow, mv, G, mw⟩, h.turn (z := W.heap.size) h0.below bz h0.gB.lt h0.oB.lt (by omega) hi (hk.mono fun g _ e => .inr (.inr e)) hB hS (fun k hk' => by have := hSW k hk'; omega)
    ⟨hb.kp hk (fun g e ho => by have := hrn g ho; omega) nsd, hm.kp hk (fun g e ho => by have := hmn g ho; omega) nsd, hnl, hs, names_len hN hb.ok hn⟩ (fun g hg => .inr (hrn g hg)) (fun g hg => .inr (hmn g hg)) hrm hn⟩
end
end Go.Proofs.YtfkhelihepbehaaGreat

/- The calls of shelf.step on a base that may be nil. -/
namespace Go.Proofs.YtfkhelihepbehaaGreat
open Go.RowKit Go.Shelf
set_option linter.unusedVariables false

def codeN (v : Value) (n : Nat) : Nat := if nilV v then 1 else n
def codeP (v : Value) (r : Bool × Nat) : Bool × Nat := if nilV v then (false, 1) else r
def listN (v : Value) (C C' : List CntZ) : List CntZ := if nilV v then C else C'
section
variable {S : Nat → Prop} {w w' : World} {v u mv : Value} {E F : List Ent} {G K : List REnt} {ow mw ow2 mw2 : Nat → Prop}
theorem BaseTo.same (h : BaseO S w v E ow) (hk : Ext w w') {C : List CntZ} (hc : C = cntE E) : BaseTo S w v ow C w' :=
  ⟨S, E, ow, Grows.refl _ _, h.ext hk, by rw [hc]; exact fun _ => rfl, fun k hk => .inl hk⟩
theorem RefTo.same (h : RefO S w mv G mw) (hk : Ext w w') {C : List CntZ} (hc : C = cntR G) : RefTo S w mv mw C w' :=
  ⟨S, G, mw, Grows.refl _ _, h.ext hk, by rw [hc]; exact fun _ => rfl, fun k hk => .inl hk⟩
theorem BaseO.decl (h : BaseO S w v E ow) (s : ByteArray) (a : Int) :
    Calls Tryz.prog 56 #[v, .string s, .int .i64 a] w (RetF ow w fun w' u => u = .int .i64 ((codeN v (declR (cntE E) s a) : Nat) : Int) ∧ BaseTo S w v ow (listN v (cntE E) (declC (cntE E) s a)) w') := by
  cases h with
  | nil =>
    refine (baseDecl_nil _ _ w).mono ?_
    rintro e w' ⟨rfl, rfl⟩
    exact RetF.mk (Kp.refl w) ⟨rfl, BaseTo.same .nil (Kp.refl w) rfl⟩
  | zero bb hb hi hs =>
    refine (baseDecl_zero hb hi hs s a).mono ?_
    rintro e w' ⟨u, rfl, hk, rfl, hor⟩
    refine RetF.mk hk ⟨rfl, ?_⟩
    rcases hor with ⟨hc, hx⟩ | ⟨r, E', hB, hC, ho⟩
    · exact BaseTo.same (.zero bb hb hi hs) hx hc
    · exact ⟨S, E', _, Grows.refl _ _, .full bb r E' hB, by rw [hC]; exact fun _ => rfl, ho⟩
  | full bb r E h =>
    refine (baseDecl_any h s a).mono ?_
    rintro e w' ⟨u, rfl, hk, rfl, E', hB, hC, ho⟩
    exact RetF.mk hk ⟨rfl, S, E', _, Grows.refl _ _, .full bb r E' hB, by rw [hC]; exact fun _ => rfl, ho⟩
theorem BaseO.add (h : BaseO S w v E ow) (s : ByteArray) {ao : Option Addr} {k cap : Nat} {ss : List ByteArray} (hx : RowIn w (ao, k, cap) ss) (ho : RowOff (ao, k, cap) ow) :
    Calls Tryz.prog 40 #[v, .string s, .slice ao k cap] w (RetF ow w fun w' u => u = .tuple #[.bool (codeP v (addR (cntE E) s ss)).1, .int .i64 (((codeP v (addR (cntE E) s ss)).2 : Nat) : Int)] ∧ BaseTo S w v ow (listN v (cntE E) (addC (cntE E) s ss)) w') := by
  cases h with
  | nil =>
    refine (baseAdd_nil _ _ w).mono ?_
    rintro e w' ⟨rfl, rfl⟩
    exact RetF.mk (Kp.refl w) ⟨rfl, BaseTo.same .nil (Kp.refl w) rfl⟩
  | zero bb hb hi hs =>
    refine (baseAdd_zero hb hi hs s hx).mono ?_
    rintro e w' ⟨u, rfl, hk, rfl, hor⟩
    refine RetF.mk hk ⟨rfl, ?_⟩
    rcases hor with ⟨hc, hx⟩ | ⟨r, S', E', h1, h2, hB, hC, ho⟩
    · exact BaseTo.same (.zero bb hb hi hs) hx hc
    · exact ⟨S', E', _, ⟨h1, h2⟩, .full bb r E' hB, by rw [hC]; exact fun _ => rfl, ho⟩
  | full bb r E h =>
    refine (baseAdd_any h s hx ho).mono ?_
    rintro e w' ⟨u, rfl, hk, rfl, S', E', h1, h2, hB, hC, ho⟩
    exact RetF.mk hk ⟨rfl, S', E', _, ⟨h1, h2⟩, .full bb r E' hB, by rw [hC]; exact fun _ => rfl, ho⟩
theorem BaseO.drop (h : BaseO S w v E ow) (s : ByteArray) {ao : Option Addr} {k cap : Nat} {ss : List ByteArray} (hx : RowIn w (ao, k, cap) ss) (ho : RowOff (ao, k, cap) ow) :
    Calls Tryz.prog 65 #[v, .string s, .slice ao k cap] w (RetF ow w fun w' u => u = .tuple #[.bool (codeP v (dropR (cntE E) s ss)).1, .int .i64 (((codeP v (dropR (cntE E) s ss)).2 : Nat) : Int)] ∧ BaseTo S w v ow (listN v (cntE E) (dropC (cntE E) s ss)) w') := by
  cases h with
  | nil =>
    refine (baseDrop_nil _ _ w).mono ?_
    rintro e w' ⟨rfl, rfl⟩
    exact RetF.mk (Kp.refl w) ⟨rfl, BaseTo.same .nil (Kp.refl w) rfl⟩
  | zero bb hb hi hs =>
    refine (baseDrop_zero hb s ss _).mono ?_
    rintro e w' ⟨rfl, rfl⟩
    refine RetF.mk (Kp.refl w) ⟨rfl, BaseTo.same (.zero bb hb hi hs) (Kp.refl w) ?_⟩
    show dropC [] s ss = []
    unfold dropC
    split <;> rfl
  | full bb r E h =>
    refine (baseDrop_any h s hx ho).mono ?_
    rintro e w' ⟨u, rfl, hk, rfl, E', hB, hC, ho⟩
    exact RetF.mk hk ⟨rfl, S, E', _, Grows.refl _ _, .full bb r E' hB, by rw [hC]; exact fun _ => rfl, fun k hk => .inl (ho k hk)⟩
theorem BaseO.merge (h : BaseO S w v E ow) (h2 : BaseO S w u F ow2) (hl1 : E.length ≤ 1048576) (hl2 : F.length ≤ 1048576) :
    Calls Tryz.prog 67 #[v, u] w (RetF ow w fun w' x => x = .int .i64 ((codeN v (codeN u (mergeR (cntE E) (cntE F))) : Nat) : Int) ∧ BaseTo S w v ow (listN v (cntE E) (listN u (cntE E) (if mergeR (cntE E) (cntE F) = 0 then mergeL (cntE E) (cntE F) else cntE E))) w') := by
  have hv : v = .pointer none ∨ ∃ a, v = .pointer (some a) := by cases h <;> simp
  have hu : u = .pointer none ∨ ∃ a, u = .pointer (some a) := by cases h2 <;> simp
  rcases hv with rfl | ⟨a, rfl⟩
  · refine (baseMerge_nil1 _ w).mono ?_
    rintro e w' ⟨rfl, rfl⟩
    exact RetF.mk (Kp.refl w) ⟨rfl, BaseTo.same h (Kp.refl w) rfl⟩
  · rcases hu with rfl | ⟨b, rfl⟩
    · refine (baseMerge_nil2 _ w).mono ?_
      rintro e w' ⟨rfl, rfl⟩
      exact RetF.mk (Kp.refl w) ⟨rfl, BaseTo.same h (Kp.refl w) rfl⟩
    · obtain ⟨bb, m1, rfl, b1, n1, o1, ap, off⟩ := h.m
      obtain ⟨bo, m2, rfl, b2, _, _, _, _⟩ := h2.m
      refine (baseMerge_any b1 b2 n1 ap (fun e he k ho => (off e he k ho).1) hl1 hl2).mono ?_
      rintro e w' ⟨x, rfl, hk, rfl, hne, h0⟩
      refine RetF.mk (hk.mono fun g _ e => by rw [e]; exact o1) ⟨rfl, ?_⟩
      show BaseTo S w _ ow (if mergeR (cntE E) (cntE F) = 0 then mergeL (cntE E) (cntE F) else cntE E) w'
      by_cases hz : mergeR (cntE E) (cntE F) = 0
      · rw [if_pos hz]
        obtain ⟨r', E', hB, hp, ho⟩ := h0 hz
        refine ⟨S, E', _, Grows.refl _ _, .full bb r' E' hB, perm_same hp hB.ok.nodup, fun k hk => ?_⟩
        rcases ho k hk with rfl | ⟨e, he, h3⟩ | h3
        · exact .inl o1
        · exact .inl (off e he k h3).2
        · exact .inr h3
      · rw [if_neg hz]
        exact BaseTo.same h (hne hz) rfl
theorem RefO.decl (h : RefO S w mv G mw) (s : ByteArray) (a : Int) (hl : G.length < 4194304) :
    Calls Tryz.prog 63 #[mv, .string s, .int .i64 a] w (RetF mw w fun w' u => u = .int .i64 ((codeN mv (declR (cntR G) s a) : Nat) : Int) ∧ RefTo S w mv mw (listN mv (cntR G) (declC (cntR G) s a)) w') := by
  cases h with
  | nil =>
    refine (refBDecl_nil _ _ w).mono ?_
    rintro e w' ⟨rfl, rfl⟩
    exact RetF.mk (Kp.refl w) ⟨rfl, RefTo.same .nil (Kp.refl w) rfl⟩
  | full cb G h ok =>
    refine (refBDecl_any h ok s a hl).mono ?_
    rintro e w' ⟨u, rfl, hk, rfl, S', G', hg, hB, ho, hs, _, hown⟩
    exact RetF.mk (hk.mono fun g _ e => .inl e) ⟨rfl, S', G', _, hg, .full cb G' hB ho, hs, hown⟩
theorem RefO.add (h : RefO S w mv G mw) (s : ByteArray) {xo : Option Addr} {m xc : Nat} {ss : List ByteArray} (hm : m = ss.length) (hx : CellsAt w xo (strs ss)) (hss : ss.length ≤ 8796093021952) (hxo : ss ≠ [] → Off mw xo) (hl : G.length < 4194304) :
    Calls Tryz.prog 64 #[mv, .string s, .slice xo m xc] w (RetF mw w fun w' u => u = .tuple #[.bool (codeP mv (addR (cntR G) s ss)).1, .int .i64 (((codeP mv (addR (cntR G) s ss)).2 : Nat) : Int)] ∧ RefTo S w mv mw (listN mv (cntR G) (addC (cntR G) s ss)) w') := by
  cases h with
  | nil =>
    refine (refBAdd_nil _ _ w).mono ?_
    rintro e w' ⟨rfl, rfl⟩
    exact RetF.mk (Kp.refl w) ⟨rfl, RefTo.same .nil (Kp.refl w) rfl⟩
  | full cb G h ok =>
    refine (refBAdd_anyE h ok s hm hx hss (fun e0 a e hc => hxo e0 a e (.inl hc)) hl).mono ?_
    rintro e w' ⟨u, rfl, hk, rfl, S', G', hg, hB, ho, hs, _, hown⟩
    exact RetF.mk hk ⟨rfl, S', G', _, hg, .full cb G' hB ho, hs, hown⟩
theorem RefO.drop (h : RefO S w mv G mw) (s : ByteArray) {xo : Option Addr} {m xc : Nat} {ss : List ByteArray} (hm : m = ss.length) (hx : CellsAt w xo (strs ss)) (hss : ss.length ≤ 8796093021952) :
    Calls Tryz.prog 66 #[mv, .string s, .slice xo m xc] w (RetF mw w fun w' u => u = .tuple #[.bool (codeP mv (dropR (cntR G) s ss)).1, .int .i64 (((codeP mv (dropR (cntR G) s ss)).2 : Nat) : Int)] ∧ RefTo S w mv mw (listN mv (cntR G) (dropC (cntR G) s ss)) w') := by
  cases h with
  | nil =>
    refine (refBDrop_nil _ _ w).mono ?_
    rintro e w' ⟨rfl, rfl⟩
    exact RetF.mk (Kp.refl w) ⟨rfl, RefTo.same .nil (Kp.refl w) rfl⟩
  | full cb G h ok =>
    refine (refBDrop_any h ok s hm hx hss).mono ?_
    rintro e w' ⟨u, rfl, hk, rfl, S', G', hg, hB, ho, hs, _, hown⟩
    exact RetF.mk hk ⟨rfl, S', G', _, hg, .full cb G' hB ho, hs, hown⟩
theorem RefO.merge (h : RefO S w mv G mw) (h2 : RefO S w u K mw2) (hl1 : G.length ≤ 1048576) (hl2 : K.length ≤ 1048576) :
    Calls Tryz.prog 68 #[mv, u] w (RetF mw w fun w' x => x = .int .i64 ((codeN mv (codeN u (mergeR (cntR G) (cntR K))) : Nat) : Int) ∧ RefTo S w mv mw (listN mv (cntR G) (listN u (cntR G) (if mergeR (cntR G) (cntR K) = 0 then mergeL (cntR G) (cntR K) else cntR G))) w') := by
  cases h with
  | nil =>
    refine (refBMerge_nil1 _ w).mono ?_
    rintro e w' ⟨rfl, rfl⟩
    exact RetF.mk (Kp.refl w) ⟨rfl, RefTo.same .nil (Kp.refl w) rfl⟩
  | full c1 G h ok =>
    cases h2 with
    | nil =>
      refine (refBMerge_nil2 _ w).mono ?_
      rintro e w' ⟨rfl, rfl⟩
      exact RetF.mk (Kp.refl w) ⟨rfl, RefTo.same (.full c1 G h ok) (Kp.refl w) rfl⟩
    | full c2 K h2 ok2 =>
      refine (refBMerge_any h h2 ok ok2 hl1 hl2).mono ?_
      rintro e w' ⟨x, rfl, hk, rfl, hne, h0⟩
      refine RetF.mk (hk.mono fun g _ e => .inl e) ⟨rfl, ?_⟩
      show RefTo S w _ (OwnG c1 G) (if mergeR (cntR G) (cntR K) = 0 then mergeL (cntR G) (cntR K) else cntR G) w'
      by_cases hz : mergeR (cntR G) (cntR K) = 0
      · rw [if_pos hz]
        obtain ⟨S', G', hg, hB, ho, hs, hown⟩ := h0 hz
        exact ⟨S', G', _, hg, .full c1 G' hB ho, hs, fun k hk => (hown k hk).imp (fun e => .inl e) id⟩
      · rw [if_neg hz]
        exact RefTo.same (.full c1 G h ok) (hne hz) rfl
end
end Go.Proofs.YtfkhelihepbehaaGreat

/- shelf.told: a round of its loop over names. -/
namespace Go.Proofs.YtfkhelihepbehaaGreat
open Go.RowKit Go.Shelf
set_option linter.unusedVariables false
attribute [local go_sem] Oper.semAt_some

def firstLoop : Code → Option Code
  | .loop c => some c
  | .seq a b => match firstLoop a with
    | some c => some c
    | none => firstLoop b
  | .block _ c => firstLoop c
  | .scope c => firstLoop c
  | .cond _ a b => match firstLoop a with
    | some c => some c
    | none => firstLoop b
  | _ => none
noncomputable def toldBody : Code := ((Tryz.f33.body.bind firstLoop).getD .skip)
theorem list_lit (l : List Value) : ∀ n, l.length = n → l = (List.range n).map fun i => l.getD i undef := fun n h => by
  subst h
  refine List.ext_getElem (by simp) fun i h1 h2 => ?_
  simp [List.getElem_map, List.getD_eq_getElem?_getD, h1]
set_option maxRecDepth 100000 in
theorem lit270 (t : Array Value) (h : t.size = 270) : ∃ u : Nat → Value, t = #[u 0, u 1, u 2, u 3, u 4, u 5, u 6, u 7, u 8, u 9, u 10, u 11, u 12, u 13, u 14, u 15, u 16, u 17, u 18, u 19, u 20, u 21, u 22, u 23, u 24, u 25, u 26, u 27, u 28, u 29, u 30, u 31, u 32, u 33, u 34, u 35, u 36, u 37, u 38, u 39, u 40, u 41, u 42, u 43, u 44, u 45, u 46, u 47, u 48, u 49, u 50, u 51, u 52, u 53, u 54, u 55, u 56, u 57, u 58, u 59, u 60, u 61, u 62, u 63, u 64, u 65, u 66, u 67, u 68, u 69, u 70, u 71, u 72, u 73, u 74, u 75, u 76, u 77, u 78, u 79, u 80, u 81, u 82, u 83, u 84, u 85, u 86, u 87, u 88, u 89, u 90, u 91, u 92, u 93, u 94, u 95, u 96, u 97, u 98, u 99, u 100, u 101, u 102, u 103, u 104, u 105, u 106, u 107, u 108, u 109, u 110, u 111, u 112, u 113, u 114, u 115, u 116, u 117, u 118, u 119, u 120, u 121, u 122, u 123, u 124, u 125, u 126, u 127, u 128, u 129, u 130, u 131, u 132, u 133, u 134, u 135, u 136, u 137, u 138, u 139, u 140, u 141, u 142, u 143, u 144, u 145, u 146, u 147, u 148, u 149, u 150, u 151, u 152, u 153, u 154, u 155, u 156, u 157, u 158, u 159, u 160, u 161, u 162, u 163, u 164, u 165, u 166, u 167, u 168, u 169, u 170, u 171, u 172, u 173, u 174, u 175, u 176, u 177, u 178, u 179, u 180, u 181, u 182, u 183, u 184, u 185, u 186, u 187, u 188, u 189, u 190, u 191, u 192, u 193, u 194, u 195, u 196, u 197, u 198, u 199, u 200, u 201, u 202, u 203, u 204, u 205, u 206, u 207, u 208, u 209, u 210, u 211, u 212, u 213, u 214, u 215, u 216, u 217, u 218, u 219, u 220, u 221, u 222, u 223, u 224, u 225, u 226, u 227, u 228, u 229, u 230, u 231, u 232, u 233, u 234, u 235, u 236, u 237, u 238, u 239, u 240, u 241, u 242, u 243, u 244, u 245, u 246, u 247, u 248, u 249, u 250, u 251, u 252, u 253, u 254, u 255, u 256, u 257, u 258, u 259, u 260, u 261, u 262, u 263, u 264, u 265, u 266, u 267, u 268, u 269] := by
  refine ⟨fun i => t.toList.getD i undef, ?_⟩
  apply Array.ext'
  have := list_lit t.toList 270 (by simpa using h)
  exact this
/-- Between two rounds of the loop over names. -/
def ToldTo (sd : Nat) (w13 : World) (p : Place) (NL : Nat) (L : List RelZ) (aw : Option Addr) (cw : Nat) (aa : Option Addr) (ca : Nat) (ka : Option Addr) (kcap : Nat) (i : Nat) (u0 u9 u10 u11 u12 u15 u16 : Value) (ds : List Deferred) (W : World) : Prop :=
  i ≤ NL ∧ u0 = .pointer (some ⟨sd, 0, none⟩) ∧ u9 = p.bv ∧ u10 = p.mv ∧ u11 = .slice aw L.length cw ∧ u12 = .slice aa L.length ca ∧ u15 = .slice ka NL kcap ∧ u16 = .int .i64 (i : Int) ∧ Hid (Ext w13 W) ∧ Hid (Marks w13.heap.size W ds)
def ToldInv (sd : Nat) (w13 : World) (p : Place) (NL : Nat) (L : List RelZ) (aw : Option Addr) (cw : Nat) (aa : Option Addr) (ca : Nat) (ka : Option Addr) (kcap : Nat) (a' : Act) (w' : World) : Prop :=
  ∃ i : Nat, a'.tmps.size = 270 ∧ ToldTo sd w13 p NL L aw cw aa ca ka kcap i (a'.tmps.getD 0 undef) (a'.tmps.getD 9 undef) (a'.tmps.getD 10 undef) (a'.tmps.getD 11 undef) (a'.tmps.getD 12 undef) (a'.tmps.getD 15 undef) (a'.tmps.getD 16 undef) a'.defers w'
def toldMu (NL : Nat) (a' : Act) (w' : World) : Nat := NL - (intOf (a'.tmps.getD 16 undef)).toNat
def toldQ (sd : Nat) (w13 : World) (p : Place) (NL : Nat) (L : List RelZ) (aw : Option Addr) (cw : Nat) (aa : Option Addr) (ca : Nat) (ka : Option Addr) (kcap : Nat) (e : Exit) (a' : Act) (w' : World) : Prop := match e with
  | .exit n => n = 0 ∧ ToldInv sd w13 p NL L aw cw aa ca ka kcap a' w'
  | _ => False
theorem blk_madeS (w : World) (z : Value) (n : Nat) (e : TypeId) : Blk (w.alloc (.cells (madeCells #[z] n) e)) w.heap.size (List.replicate n z) e := by
  have h := Blk.new w (List.replicate n z) e
  have e1 : madeCells #[z] n = (List.replicate n z).toArray := by
    apply Array.toList_inj.1; rw [toList_madeCells_one]
  rw [e1]; exact h
section
variable {S : Nat → Prop} {w w13 : World} {sd : Nat} {D : Nat → Place} {NL : Nat} {L : List RelZ} {aw : Option Addr} {cw : Nat} {aa : Option Addr} {ca : Nat} {ka : Option Addr} {kcap : Nat} {A : List ByteArray}
set_option maxRecDepth 100000 in
set_option maxHeartbeats 8000000 in
theorem told_round (h : ShelfAt S w sd D) {k : Nat} (hk : k < 3) (hA : NL = A.length) (hNL : NL ≤ 1048580) (hx13 : Ext w w13) (hcs : CellsAt w13 ka (strs A)) (a : Act) (W : World) (hI : ToldInv sd w13 (D k) NL L aw cw aa ca ka kcap a W) :
    Code.wp Tryz.prog toldBody (Exit.then (fun a' w' => ToldInv sd w13 (D k) NL L aw cw aa ca ka kcap a' w' ∧ toldMu NL a' w' < toldMu NL a W) (toldQ sd w13 (D k) NL L aw cw aa ca ka kcap)) a W := by
  have H := Lib.hid (And.intro h hk)
  have HP := Lib.hid (fun W (hW : Ext w W) => (h.ext hW).place k hk)
  have HA := Lib.hid hA
  have HNL := Lib.hid hNL
  have HW13 := Lib.hid (And.intro hx13 hcs)
  clear h hk hA hx13 hcs hNL
  obtain ⟨i, hsz, hrel⟩ := hI
  obtain ⟨tm, ds⟩ := a
  obtain ⟨u, rfl⟩ := lit270 tm hsz
  obtain ⟨hi, e0, e9, e10, e11, e12, e15, e16, hex, hmk⟩ := hrel
  replace e0 : u 0 = _ := e0
  replace e9 : u 9 = _ := e9
  replace e10 : u 10 = _ := e10
  replace e11 : u 11 = _ := e11
  replace e12 : u 12 = _ := e12
  replace e15 : u 15 = _ := e15
  replace e16 : u 16 = _ := e16
  rw [e0, e9, e10, e11, e12, e15, e16]
  clear e0 e9 e10 e11 e12 e15 e16 hsz
  conv => arg 2; whnf
  by_cases hlt : i < NL
  · obtain ⟨x, hx⟩ : ∃ x, A[i]? = some x := ⟨_, List.getElem?_eq_getElem (by rw [← HA.out]; exact hlt)⟩
    obtain ⟨ab, ao, eka, hcx⟩ := HW13.out.2 i (.string x) (by simp [strs, hx])
    subst eka
    have hcW := hex.out.cell hcx id
    have hxW := HW13.out.1.trans hex.out
    have HE := Lib.hid (And.intro hex.out (And.intro hmk.out (And.intro hxW hcx)))
    clear hx hcx hex hmk hxW
    go_wp2_with fail
    refine ((HP.out W HE.out.2.2.1).mrows x).mono ?_
    rintro e W1 ⟨v1, rfl, hk1, rfl⟩
    obtain ⟨o, eo⟩ : ∃ o, findR2 (D k).G x = o := ⟨_, rfl⟩
    obtain ⟨oe, eoe⟩ : ∃ oe, findE (D k).E x = oe := ⟨_, rfl⟩
    have hopt := (H.out.1.place k H.out.2).opt x
    rw [eo, eoe] at hopt
    rw [eo]
    obtain ⟨ro, ero⟩ := optPtrR_ptr o
    rw [ero]
    have HO := Lib.hid (And.intro eo (And.intro eoe hopt))
    have HOR := Lib.hid (fun W (hW : Ext w W) => by have := (HP.out W hW).optR x; rw [eo] at this; exact this)
    have HOV := Lib.hid (fun W (hW : Ext w W) => (HP.out W hW).b.toV)
    obtain ⟨ar, ear⟩ : ∃ ar, optArR o = ar := ⟨_, rfl⟩
    obtain ⟨LL, eLL⟩ : ∃ LL, optLR o = LL := ⟨_, rfl⟩
    obtain ⟨is, eis⟩ : ∃ is, o.isSome = is := ⟨_, rfl⟩
    have HE1 := Lib.hid (And.intro (HE.out.2.2.1.trans hk1) (And.intro (HE.out.1.trans hk1) (And.intro ear (And.intro eLL (And.intro eis ero)))))
    have hc1 := hk1.cell hcW id
    have HZW1 := Lib.hid hk1.size
    have HXW1 := Lib.hid hk1
    clear hk1 hcW eo eoe hopt ear eLL eis ero
    go_wp2_with fail
    have hba := baseArity_any (HOV.out W1 HE1.out.1) x
    rw [HO.out.2.1, HO.out.2.2.1, HO.out.2.2.2.2, HE1.out.2.2.1, HE1.out.2.2.2.2.1] at hba
    refine hba.mono ?_
    rintro e W2 ⟨rfl, rfl⟩
    clear hba
    go_wp2_with fail
    have hbr := baseRows_any (HOV.out W1 HE1.out.1) x
    rw [HO.out.2.1] at hbr
    refine hbr.mono ?_
    rintro e W2 ⟨vg, rfl, hk2, hcp⟩
    obtain ⟨rg, rfl⟩ := hcp.ptr
    have hc2 := hk2.cell hc1 id
    have HXW := Lib.hid (HXW1.out.trans hk2)
    have HE2 := Lib.hid (And.intro (HE1.out.1.trans hk2) (And.intro (HE1.out.2.1.trans hk2) hcp))
    clear hbr hk2 hcp hc1
    go_wp2_with fail
    have hbe := baseEach_any (HOV.out W2 HE2.out.1) x
    rw [HO.out.2.1, HO.out.2.2.2.1, HE1.out.2.2.2.1] at hbe
    refine hbe.mono ?_
    rintro e W3 ⟨ve, rfl, hk3, Bs, ivx, rfl, hBs, hBB, hownx, hln⟩
    have hc3 := hk3.cell hc2 id
    have HE3 := Lib.hid (And.intro (HE2.out.1.trans hk3) (And.intro (HE2.out.2.1.trans hk3) (And.intro hk3 (And.intro hBs (And.intro hBB (And.intro hownx hln))))))
    clear hbe hk3 hc2 hBs hBB hownx hln
    have hqn := (optR_nil o).2
    rw [HE1.out.2.2.2.2.1, HE1.out.2.2.2.2.2] at hqn
    have hqr := (optR_nil o).1
    rw [HE1.out.2.2.2.2.1, HE1.out.2.2.2.2.2] at hqr
    have hqg := CopyV.isNil HE2.out.2.2
    rw [HO.out.2.2.2.2, HE1.out.2.2.2.2.1] at hqg
    have hq0 : ∀ w : World, (binOp .eql 120 (.func (Fn.func 167) #[] #[.pointer (some ⟨Bs, 0, none⟩)]) .nilFunc).run Tryz.prog w = .ok (.bool false) w := fun _ => by kernel_rfl
    have t1 : ((ar : Int) != (ar : Int)) = false := by simp
    have t2 : (is != is) = false := by cases is <;> rfl
    have t3 : ((!is) != (!is)) = false := by cases is <;> rfl
    obtain ⟨ln, eln⟩ : ∃ ln, LL.length = ln := ⟨_, rfl⟩
    have t4 : ((ln : Int) != (ln : Int)) = false := by simp
    have HLn := Lib.hid (show LL.length = ln ∧ ln ≤ 65536 from ⟨eln, by
      rw [← eln, ← HE1.out.2.2.2.1]
      cases ho : o with
      | none => exact Nat.zero_le _
      | some g => exact (HOR.out w (Kp.refl w) g ho).2⟩)
    have HAr := Lib.hid (fun W (hW : Ext w W) => by have := (HOR.out W hW).arity; rw [HE1.out.2.2.1, HE1.out.2.2.2.2.2] at this; exact this)
    have HAll := Lib.hid (fun W (hW : Ext w W) => by have := (HOR.out W hW).all; rw [HE1.out.2.2.2.1, HE1.out.2.2.2.2.2] at this; exact this)
    clear eln
    go_wp2_with fail
    refine (HAr.out W3 HE3.out.1).mono ?_
    rintro e W4 ⟨rfl, rfl⟩
    go_wp2_with fail
    have hbs := baseSize_any (HOV.out W3 HE3.out.1) x
    rw [HO.out.2.1, HO.out.2.2.2.1, HE1.out.2.2.2.1, HLn.out.1] at hbs
    refine hbs.mono ?_
    rintro e W4 ⟨v4, rfl, hk4, rfl⟩
    have HE4 := Lib.hid (And.intro (HE3.out.1.trans hk4) hk4)
    clear hbs hk4
    go_wp2_with fail
    refine (HAll.out W4 HE4.out.1).mono ?_
    rintro e W5 ⟨v5, rfl, hk5, hown5⟩
    obtain ⟨a5, p5, ev, _⟩ := hown5.shape
    rw [HLn.out.1] at ev
    subst ev
    have HE5 := Lib.hid (And.intro (HE4.out.1.trans hk5) (HE4.out.2.trans hk5))
    clear hk5 hown5
    go_wp2_with fail
    have hga := CopyV.all ((HE2.out.2.2.ext HE3.out.2.2.1).ext HE5.out.2)
    rw [HO.out.2.2.2.1, HE1.out.2.2.2.1] at hga
    refine hga.mono ?_
    rintro e W6 ⟨v6, rfl, hk6, hown6⟩
    obtain ⟨a6, p6, ev, hin6⟩ := hown6.shape
    rw [HLn.out.1] at ev
    subst ev
    have HE6 := Lib.hid (And.intro (HE5.out.1.trans hk6) (And.intro (HE5.out.2.trans hk6) hin6))
    clear hga hk6 hown6 hin6
    go_wp2_with fail
    refine (HAll.out W6 HE6.out.1).mono ?_
    rintro e W7 ⟨v7, rfl, hk7, hown7⟩
    obtain ⟨a7, p7, ev, hin7⟩ := hown7.shape
    rw [HLn.out.1] at ev
    subst ev
    have HE7 := Lib.hid (And.intro (HE6.out.1.trans hk7) (And.intro (HE6.out.2.1.trans hk7) (And.intro (HE6.out.2.2.ext hk7) hin7)))
    clear hk7 hown7 hin7
    go_wp2_with fail
    refine (rows_yes a6 a7 ln p6 p7 HLn.out.1.symm HE7.out.2.2.1 HE7.out.2.2.2 (by have := HLn.out.2; omega)).mono ?_
    rintro e W8 ⟨v8, rfl, hk8, rfl⟩
    have HE8 := Lib.hid (And.intro (HE7.out.1.trans hk8) (HE7.out.2.1.trans hk8))
    clear hk8
    go_wp2_with fail
    have hgr := CopyV.arity ((HE2.out.2.2.ext HE3.out.2.2.1).ext HE8.out.2)
    rw [HO.out.2.2.1, HE1.out.2.2.1] at hgr
    refine hgr.mono ?_
    rintro e W9 ⟨rfl, rfl⟩
    clear hgr
    go_wp2_with fail
    refine (HAr.out W8 HE8.out.1).mono ?_
    rintro e W9 ⟨rfl, rfl⟩
    have hBB := HE3.out.2.2.2.2.1.ext HE8.out.2
    have hownx0 := HE3.out.2.2.2.2.2.1.ext HE8.out.2
    have hln : ln ≤ 1048576 * 1048576 := by have := HLn.out.2; omega
    have HZW8 := Lib.hid (show W2.heap.size ≤ W8.heap.size from Nat.le_trans HE3.out.2.2.1.size HE8.out.2.size)
    obtain ⟨aox, capx, ev, _⟩ := hownx0.shape
    rw [HLn.out.1] at ev
    subst ev
    have hownx := hownx0
    clear hownx0
    obtain ⟨ps2, hL2, x2, x3, x4⟩ := hownx
    have hp2 : ps2.length = ln := by rw [← HLn.out.1, hL2]; simp
    have hBsw := hBB.lt
    obtain ⟨SB, eSB⟩ : ∃ SB : Nat → Prop, SB = fun g => g = Bs ∨ (Value.slice aox ln capx).ownBlock = some g := ⟨_, rfl⟩
    have hSlt : ∀ g, SB g → g < W8.heap.size := fun g hg => by
      rw [eSB] at hg
      rcases hg with rfl | hg
      · exact hBsw
      · exact x2.lt g hg
    have x3' : ∀ p ∈ ps2, Row W8 9 1 (rowOf p) p.2.length (strs p.2) (fun g => W2.heap.size ≤ g ∧ g < W8.heap.size ∧ ¬ SB g) := fun p hp => by
      obtain ⟨h1, _⟩ := x3 p hp
      have hb := h1.block
      have hl := h1.lt
      have hne := fun g hg => h1.sort_ne x2 (by decide) (g := g) hg
      have hbs : ∀ g, (rowOf p).ownBlock = some g → g ≠ Bs := fun g hg e => by
        subst e
        obtain ⟨cs, hb1, _⟩ := h1.has hg
        unfold Blk at hb1 hBB
        rw [hb1] at hBB
        simp only [Option.some.injEq, Obj.cells.injEq] at hBB
        exact absurd hBB.2.1 (by decide)
      refine Row.mono h1.own fun g hg => ⟨hb g hg, hl g hg, fun hs => ?_⟩
      rw [eSB] at hs
      rcases hs with hs | hs
      · exact hbs g hg hs
      · exact hne g hg hs
    have hseq : ∀ Wb, SameOn SB W8 Wb → SeqStopsK Fence.wide 3 Tryz.prog 167 #[.pointer (some ⟨Bs, 0, none⟩)] (fun x : { p : RowP // p ∈ ps2 } => #[.slice x.1.1.1 x.1.1.2.1 x.1.1.2.2]) (SameOn SB) (fun ys => ys = ps2.attach) (fun pre => pre <+: ps2.attach) ps2.attach.length Wb := fun Wb hWb => by
      have hSBs : SB Bs := by rw [eSB]; exact .inl rfl
      have hSBa : ∀ a, aox = some a → SB a.block := fun a e => by rw [eSB]; subst e; exact .inr rfl
      have hc0 : W8.cell? ⟨Bs, 0, none⟩ = some (.slice aox ln capx) := by rw [hBB.cell']; rfl
      have hc1 := (hWb.cell (o := 0) hSBs).trans hc0
      have hcs : CellsAt W8 aox (ps2.attach.map fun x => rowOf x.1) := by
        obtain ⟨ao, cap, e, hc, _⟩ := x2.shape
        simp only [Value.slice.injEq] at e
        obtain ⟨rfl, _, _⟩ := e
        have e : (ps2.attach.map fun x : { p : RowP // p ∈ ps2 } => rowOf x.1) = rowVs ps2 := by
          have h : (ps2.attach.map fun x : { p : RowP // p ∈ ps2 } => rowOf x.1) = (ps2.attach.map Subtype.val).map rowOf := by rw [List.map_map]; rfl
          rw [h, List.attach_map_subtype_val]; rfl
        rw [e]; exact hc
      have hcs1 := hcs.sameOn hWb hSBa
      exact fun l J Jx W hW _ _ hY h0 => values1VRow_in (fun x : { p : RowP // p ∈ ps2 } => .slice x.1.1.1 x.1.1.2.1 x.1.1.2.2) Fence.wide 3 trivial rfl (by omega) SB l Bs aox ln capx ps2.attach (by rw [List.length_attach]; exact hp2.symm) hln J Jx hY W hSBs hSBa ((Kp.of_below hW).cell hc1 id) (hcs1.ext (Kp.of_below hW)) h0
    have HQ := Lib.hid hseq
    have HX := Lib.hid (And.intro x3' (And.intro x4 (And.intro hSlt (And.intro hL2 (And.intro hp2 (show ∀ p ∈ ps2, p.2.length ≤ 8796093021952 from fun p hp => (x3 p hp).2))))))
    clear hseq x2 x3 x3' x4 hSlt eSB hBB hL2 hp2
    go_wp2_with fail
    clear hq0 hqn hqr hqg t1 t2 t3 t4
    have xa : Ext W8 (W8.alloc (.cells #[.slice none 0 0] 22)) := (Kp.refl W8).alloc _
    have hba : Blk (W8.alloc (.cells #[.slice none 0 0] 22)) W8.heap.size [.slice none 0 0] 22 := Blk.new W8 [_] _
    have hsza : W8.heap.size < (W8.alloc (.cells #[.slice none 0 0] 22)).heap.size := hba.lt
    obtain ⟨W11, e11⟩ : ∃ W, W = W8.alloc (.cells #[.slice none 0 0] 22) := ⟨_, rfl⟩
    rw [← e11] at xa hba hsza ⊢
    have E11 := Lib.hid e11
    clear e11
    refine' wpIn_wide.1 (wpIn_rangeFunc_ownG (F := Fence.wide) (n := 4) (w0 := W8) rfl (by omega) (gf := 167) (lb := #[.pointer (some ⟨Bs, 0, none⟩)]) rfl trivial (enters_of Tryz.func167 (by kernel_rfl) rfl)
      (HQ.out W8 (SameOn.refl _ _)) SameOn.trans (SameOn.put (fun k h => Nat.lt_trans (HX.out.2.2.1 k h) hsza)) xa.below (fun _ => rfl) (GotE W2.heap.size SB W11 W8.heap.size ps2) (fun _ _ _ => False) (GotE.own (Nat.le_refl _)) (fun _ _ _ _ _ h _ _ => h)
      ⟨by simp, Kp.refl _, ⟨_, [], rfl, hba, OwnRows.nil _ _, fun _ => rfl⟩, fun p hp => ⟨p.2, rfl, (HX.out.1 p hp).ext xa⟩, fun _ i p _ he => (HX.out.1 p (List.mem_of_getElem? he)).ext xa⟩ _ ?assign ?body ?done ?stop)
    case assign =>
      intro l x W K hK
      gi_wp2
      exact hK
    case stop =>
      rintro D c pre W _ _ h _
      exact h.elim
    case body =>
      rintro l pre ⟨⟨⟨ax, mx, cx⟩, sp⟩, hp⟩ X hgot hlen
      rw [List.length_attach] at hlen
      obtain ⟨ss, hls, hrow, hsc⟩ := hgot.row _ hp
      have hmx : mx = ss.length := (Row.readsAs hrow).1.1
      have hcx : CellsAt X ax (strs ss) := (Row.readsAs hrow).1.2
      subst hmx
      have hgl : pre.length ≤ ps2.length := hgot.1
      obtain ⟨v, LL', hLL, hBx, hox, hLc⟩ := hgot.2.2.1
      obtain ⟨ao1, n1, cap1, ev, _⟩ : ∃ ao n cap, v = .slice ao n cap ∧ True := by obtain ⟨ao, cap, e, _⟩ := hox.shape; exact ⟨_, _, _, e, trivial⟩
      subst ev
      have hzX := hgot.2.1.size
      have hsl : ss.length ≤ 8796093021952 := by rw [hls]; exact HX.out.2.2.2.2.2 _ hp
      have hll : LL'.length ≤ 1048576 * 1048576 := by have := HX.out.2.2.2.2.1; omega
      have hcB : X.cell? ⟨W8.heap.size, 0, none⟩ = some (.slice ao1 n1 cap1) := by rw [hBx.cell']; rfl
      obtain ⟨a1, m1, c1, y1, hrun1, ao3, n3, cap3, y3, hrun2, d1, d0, d2, f3, d3, ko, kX, hB3, ho3⟩ := gotE_app (cx := cx) hzX hsza hll hBx hox hcx hsl
      have d00 : (X.alloc (.cells #[] 9)).cell? ⟨W8.heap.size, 0, none⟩ = some (.slice ao1 n1 cap1) := by rw [(hBx.alloc _).cell']; rfl
      have HR := Lib.hid (And.intro hgot (And.intro hsc (And.intro hLL (And.intro hLc (And.intro hls hrow)))))
      have hrown := hrow.kp kX fun g hg hf => by rcases hf with hf | hf <;> omega
      have HN := Lib.hid (And.intro ko (And.intro kX (And.intro hB3 (And.intro ho3 hrown))))
      clear hgot hsc hLL hLc hls hrow ko kX hB3 ho3 hBx hox hcx hrown
      gi_wp2
      refine wpIn_region_any (by kernel_rfl) ?_
      change wpAnyIn _ _ _ _ _ _ _ _ _ (World.drew _)
      refine wpAnyIn_ready (rs := [0, 1, 2]) (by kernel_rfl) (by simp) (AllReadyIn.cons rfl (fun K hK => ?_) (AllReadyIn.cons rfl (fun K hK => ?_) (AllReadyIn.cons rfl (fun K hK => ?_) AllReadyIn.nil)))
      · go_simp
        refine hK _ _ ?_
        clear hK K
        refine wpAnyIn_ready (rs := [1, 2]) (by kernel_rfl) (by simp) (AllReadyIn.cons rfl (fun K hK => ?_) (AllReadyIn.cons rfl (fun K hK => ?_) AllReadyIn.nil))
        · go_simp
          refine hK _ _ ?_
          clear hK K
          refine wpAnyIn_ready (rs := [2]) (by kernel_rfl) (by simp) (AllReadyIn.cons rfl (fun K hK => ?_) AllReadyIn.nil)
          go_simp
          refine hK _ _ ?_
          clear hK K
          refine wpAnyIn_ready (rs := [3]) (by kernel_rfl) (by simp) (AllReadyIn.cons rfl (fun K hK => ?_) AllReadyIn.nil)
          refine stepIn_app (.tmp 183) (.tmp 184) rfl rfl rfl rfl hrun1 ?_
          refine hK _ _ ?_
          clear hK K
          refine wpAnyIn_ready (rs := [4]) (by kernel_rfl) (by simp) (AllReadyIn.cons rfl (fun K hK => ?_) AllReadyIn.nil)
          go_simp
          refine hK _ _ ?_
          clear hK K
          refine wpAnyIn_ready (rs := [5]) (by kernel_rfl) (by simp) (AllReadyIn.cons rfl (fun K hK => ?_) AllReadyIn.nil)
          refine stepIn_app (.tmp 182) (.tmp 186) rfl rfl rfl rfl hrun2 ?_
          refine hK _ _ ?_
          clear hK K
          refine wpAnyIn_ready (rs := [6]) (by kernel_rfl) (by simp) (AllReadyIn.cons rfl (fun K hK => ?_) AllReadyIn.nil)
          go_simp
          refine hK _ _ ?_
          clear hK K
          refine wpAnyIn_done (by kernel_rfl) ?_ _
          gi_wp2
          gi_loopw [24] (SpoilX (y3.setCell ⟨W8.heap.size, 0, none⟩ (.slice ao3 n3 cap3)) ((ax, ss.length, cx), sp) ss.length (fun g => W2.heap.size ≤ g ∧ g < W8.heap.size ∧ ¬ SB g)) (fun kv _ => ss.length - (intOf kv).toNat)
          case atStart => exact ⟨0, Nat.zero_le _, rfl, Kp.refl _, ss, rfl, HN.out.2.2.2.2⟩
          case round =>
            obtain ⟨i2, hi2, rfl, hk9, ss9, hl9, hr9⟩ := hrel
            by_cases hlt : i2 < ss.length
            · obtain ⟨g9, e9, hM9, ⟨u9, c8⟩, c9, hr9'⟩ := Row.put hr9 i2 (by omega) ⟨#[115, 112, 111, 105, 108, 116]⟩
              simp only at e9
              subst e9
              have b1 : (i2 : Int) < (ss.length : Int) := by omega
              have HR9 := Lib.hid (And.intro hr9' hk9)
              clear hr9 hr9' hM9 hk9
              gi_wp2
              go_roundw
              case rel => exact ⟨i2 + 1, by omega, by go_num, HR9.out.2.setCell (p := ⟨g9, i2, none⟩) (fun _ => rfl) _, _, by simp [hl9], HR9.out.1⟩
              case measure => first | (simp [intOf]; done) | (simp [intOf]; omega)
            · have hsub := hi2
              gi_wp2
              obtain ⟨hgot, hsc, hLL, hLc, hls, _⟩ := HR.out
              obtain ⟨ko, kX, hB3, ho3, hrown⟩ := HN.out
              have hnx := GotE.next hgot hp hlen HX.out.2.1 hsza HZW8.out HX.out.2.2.1 kX hB3 ho3 hLL hLc hsc hk9 (ss2 := ss9) (hl9.trans hls) hr9
              exact ⟨(ko.trans (KeepsOthers.of_own hrown hk9)).from _, hnx.1, hnx.2⟩
        · go_simp
          refine hK _ _ ?_
          clear hK K
          refine wpAnyIn_ready (rs := [1]) (by kernel_rfl) (by simp) (AllReadyIn.cons rfl (fun K hK => ?_) AllReadyIn.nil)
          go_simp
          refine hK _ _ ?_
          clear hK K
          refine wpAnyIn_ready (rs := [3]) (by kernel_rfl) (by simp) (AllReadyIn.cons rfl (fun K hK => ?_) AllReadyIn.nil)
          refine stepIn_app (.tmp 183) (.tmp 184) rfl rfl rfl rfl hrun1 ?_
          refine hK _ _ ?_
          clear hK K
          refine wpAnyIn_ready (rs := [4]) (by kernel_rfl) (by simp) (AllReadyIn.cons rfl (fun K hK => ?_) AllReadyIn.nil)
          go_simp
          refine hK _ _ ?_
          clear hK K
          refine wpAnyIn_ready (rs := [5]) (by kernel_rfl) (by simp) (AllReadyIn.cons rfl (fun K hK => ?_) AllReadyIn.nil)
          refine stepIn_app (.tmp 182) (.tmp 186) rfl rfl rfl rfl hrun2 ?_
          refine hK _ _ ?_
          clear hK K
          refine wpAnyIn_ready (rs := [6]) (by kernel_rfl) (by simp) (AllReadyIn.cons rfl (fun K hK => ?_) AllReadyIn.nil)
          go_simp
          refine hK _ _ ?_
          clear hK K
          refine wpAnyIn_done (by kernel_rfl) ?_ _
          gi_wp2
          gi_loopw [24] (SpoilX (y3.setCell ⟨W8.heap.size, 0, none⟩ (.slice ao3 n3 cap3)) ((ax, ss.length, cx), sp) ss.length (fun g => W2.heap.size ≤ g ∧ g < W8.heap.size ∧ ¬ SB g)) (fun kv _ => ss.length - (intOf kv).toNat)
          case atStart => exact ⟨0, Nat.zero_le _, rfl, Kp.refl _, ss, rfl, HN.out.2.2.2.2⟩
          case round =>
            obtain ⟨i2, hi2, rfl, hk9, ss9, hl9, hr9⟩ := hrel
            by_cases hlt : i2 < ss.length
            · obtain ⟨g9, e9, hM9, ⟨u9, c8⟩, c9, hr9'⟩ := Row.put hr9 i2 (by omega) ⟨#[115, 112, 111, 105, 108, 116]⟩
              simp only at e9
              subst e9
              have b1 : (i2 : Int) < (ss.length : Int) := by omega
              have HR9 := Lib.hid (And.intro hr9' hk9)
              clear hr9 hr9' hM9 hk9
              gi_wp2
              go_roundw
              case rel => exact ⟨i2 + 1, by omega, by go_num, HR9.out.2.setCell (p := ⟨g9, i2, none⟩) (fun _ => rfl) _, _, by simp [hl9], HR9.out.1⟩
              case measure => first | (simp [intOf]; done) | (simp [intOf]; omega)
            · have hsub := hi2
              gi_wp2
              obtain ⟨hgot, hsc, hLL, hLc, hls, _⟩ := HR.out
              obtain ⟨ko, kX, hB3, ho3, hrown⟩ := HN.out
              have hnx := GotE.next hgot hp hlen HX.out.2.1 hsza HZW8.out HX.out.2.2.1 kX hB3 ho3 hLL hLc hsc hk9 (ss2 := ss9) (hl9.trans hls) hr9
              exact ⟨(ko.trans (KeepsOthers.of_own hrown hk9)).from _, hnx.1, hnx.2⟩
      · go_simp
        refine hK _ _ ?_
        clear hK K
        refine wpAnyIn_ready (rs := [0, 2]) (by kernel_rfl) (by simp) (AllReadyIn.cons rfl (fun K hK => ?_) (AllReadyIn.cons rfl (fun K hK => ?_) AllReadyIn.nil))
        · go_simp
          refine hK _ _ ?_
          clear hK K
          refine wpAnyIn_ready (rs := [2]) (by kernel_rfl) (by simp) (AllReadyIn.cons rfl (fun K hK => ?_) AllReadyIn.nil)
          go_simp
          refine hK _ _ ?_
          clear hK K
          refine wpAnyIn_ready (rs := [3]) (by kernel_rfl) (by simp) (AllReadyIn.cons rfl (fun K hK => ?_) AllReadyIn.nil)
          refine stepIn_app (.tmp 183) (.tmp 184) rfl rfl rfl rfl hrun1 ?_
          refine hK _ _ ?_
          clear hK K
          refine wpAnyIn_ready (rs := [4]) (by kernel_rfl) (by simp) (AllReadyIn.cons rfl (fun K hK => ?_) AllReadyIn.nil)
          go_simp
          refine hK _ _ ?_
          clear hK K
          refine wpAnyIn_ready (rs := [5]) (by kernel_rfl) (by simp) (AllReadyIn.cons rfl (fun K hK => ?_) AllReadyIn.nil)
          refine stepIn_app (.tmp 182) (.tmp 186) rfl rfl rfl rfl hrun2 ?_
          refine hK _ _ ?_
          clear hK K
          refine wpAnyIn_ready (rs := [6]) (by kernel_rfl) (by simp) (AllReadyIn.cons rfl (fun K hK => ?_) AllReadyIn.nil)
          go_simp
          refine hK _ _ ?_
          clear hK K
          refine wpAnyIn_done (by kernel_rfl) ?_ _
          gi_wp2
          gi_loopw [24] (SpoilX (y3.setCell ⟨W8.heap.size, 0, none⟩ (.slice ao3 n3 cap3)) ((ax, ss.length, cx), sp) ss.length (fun g => W2.heap.size ≤ g ∧ g < W8.heap.size ∧ ¬ SB g)) (fun kv _ => ss.length - (intOf kv).toNat)
          case atStart => exact ⟨0, Nat.zero_le _, rfl, Kp.refl _, ss, rfl, HN.out.2.2.2.2⟩
          case round =>
            obtain ⟨i2, hi2, rfl, hk9, ss9, hl9, hr9⟩ := hrel
            by_cases hlt : i2 < ss.length
            · obtain ⟨g9, e9, hM9, ⟨u9, c8⟩, c9, hr9'⟩ := Row.put hr9 i2 (by omega) ⟨#[115, 112, 111, 105, 108, 116]⟩
              simp only at e9
              subst e9
              have b1 : (i2 : Int) < (ss.length : Int) := by omega
              have HR9 := Lib.hid (And.intro hr9' hk9)
              clear hr9 hr9' hM9 hk9
              gi_wp2
              go_roundw
              case rel => exact ⟨i2 + 1, by omega, by go_num, HR9.out.2.setCell (p := ⟨g9, i2, none⟩) (fun _ => rfl) _, _, by simp [hl9], HR9.out.1⟩
              case measure => first | (simp [intOf]; done) | (simp [intOf]; omega)
            · have hsub := hi2
              gi_wp2
              obtain ⟨hgot, hsc, hLL, hLc, hls, _⟩ := HR.out
              obtain ⟨ko, kX, hB3, ho3, hrown⟩ := HN.out
              have hnx := GotE.next hgot hp hlen HX.out.2.1 hsza HZW8.out HX.out.2.2.1 kX hB3 ho3 hLL hLc hsc hk9 (ss2 := ss9) (hl9.trans hls) hr9
              exact ⟨(ko.trans (KeepsOthers.of_own hrown hk9)).from _, hnx.1, hnx.2⟩
        · go_simp
          refine hK _ _ ?_
          clear hK K
          refine wpAnyIn_ready (rs := [0, 3]) (by kernel_rfl) (by simp) (AllReadyIn.cons rfl (fun K hK => ?_) (AllReadyIn.cons rfl (fun K hK => ?_) AllReadyIn.nil))
          · go_simp
            refine hK _ _ ?_
            clear hK K
            refine wpAnyIn_ready (rs := [3]) (by kernel_rfl) (by simp) (AllReadyIn.cons rfl (fun K hK => ?_) AllReadyIn.nil)
            refine stepIn_app (.tmp 183) (.tmp 184) rfl rfl rfl rfl hrun1 ?_
            refine hK _ _ ?_
            clear hK K
            refine wpAnyIn_ready (rs := [4]) (by kernel_rfl) (by simp) (AllReadyIn.cons rfl (fun K hK => ?_) AllReadyIn.nil)
            go_simp
            refine hK _ _ ?_
            clear hK K
            refine wpAnyIn_ready (rs := [5]) (by kernel_rfl) (by simp) (AllReadyIn.cons rfl (fun K hK => ?_) AllReadyIn.nil)
            refine stepIn_app (.tmp 182) (.tmp 186) rfl rfl rfl rfl hrun2 ?_
            refine hK _ _ ?_
            clear hK K
            refine wpAnyIn_ready (rs := [6]) (by kernel_rfl) (by simp) (AllReadyIn.cons rfl (fun K hK => ?_) AllReadyIn.nil)
            go_simp
            refine hK _ _ ?_
            clear hK K
            refine wpAnyIn_done (by kernel_rfl) ?_ _
            gi_wp2
            gi_loopw [24] (SpoilX (y3.setCell ⟨W8.heap.size, 0, none⟩ (.slice ao3 n3 cap3)) ((ax, ss.length, cx), sp) ss.length (fun g => W2.heap.size ≤ g ∧ g < W8.heap.size ∧ ¬ SB g)) (fun kv _ => ss.length - (intOf kv).toNat)
            case atStart => exact ⟨0, Nat.zero_le _, rfl, Kp.refl _, ss, rfl, HN.out.2.2.2.2⟩
            case round =>
              obtain ⟨i2, hi2, rfl, hk9, ss9, hl9, hr9⟩ := hrel
              by_cases hlt : i2 < ss.length
              · obtain ⟨g9, e9, hM9, ⟨u9, c8⟩, c9, hr9'⟩ := Row.put hr9 i2 (by omega) ⟨#[115, 112, 111, 105, 108, 116]⟩
                simp only at e9
                subst e9
                have b1 : (i2 : Int) < (ss.length : Int) := by omega
                have HR9 := Lib.hid (And.intro hr9' hk9)
                clear hr9 hr9' hM9 hk9
                gi_wp2
                go_roundw
                case rel => exact ⟨i2 + 1, by omega, by go_num, HR9.out.2.setCell (p := ⟨g9, i2, none⟩) (fun _ => rfl) _, _, by simp [hl9], HR9.out.1⟩
                case measure => first | (simp [intOf]; done) | (simp [intOf]; omega)
              · have hsub := hi2
                gi_wp2
                obtain ⟨hgot, hsc, hLL, hLc, hls, _⟩ := HR.out
                obtain ⟨ko, kX, hB3, ho3, hrown⟩ := HN.out
                have hnx := GotE.next hgot hp hlen HX.out.2.1 hsza HZW8.out HX.out.2.2.1 kX hB3 ho3 hLL hLc hsc hk9 (ss2 := ss9) (hl9.trans hls) hr9
                exact ⟨(ko.trans (KeepsOthers.of_own hrown hk9)).from _, hnx.1, hnx.2⟩
          · refine stepIn_app (.tmp 183) (.tmp 184) rfl rfl rfl rfl hrun1 ?_
            refine hK _ _ ?_
            clear hK K
            refine wpAnyIn_ready (rs := [0, 4]) (by kernel_rfl) (by simp) (AllReadyIn.cons rfl (fun K hK => ?_) (AllReadyIn.cons rfl (fun K hK => ?_) AllReadyIn.nil))
            · go_simp
              refine hK _ _ ?_
              clear hK K
              refine wpAnyIn_ready (rs := [4]) (by kernel_rfl) (by simp) (AllReadyIn.cons rfl (fun K hK => ?_) AllReadyIn.nil)
              go_simp
              refine hK _ _ ?_
              clear hK K
              refine wpAnyIn_ready (rs := [5]) (by kernel_rfl) (by simp) (AllReadyIn.cons rfl (fun K hK => ?_) AllReadyIn.nil)
              refine stepIn_app (.tmp 182) (.tmp 186) rfl rfl rfl rfl hrun2 ?_
              refine hK _ _ ?_
              clear hK K
              refine wpAnyIn_ready (rs := [6]) (by kernel_rfl) (by simp) (AllReadyIn.cons rfl (fun K hK => ?_) AllReadyIn.nil)
              go_simp
              refine hK _ _ ?_
              clear hK K
              refine wpAnyIn_done (by kernel_rfl) ?_ _
              gi_wp2
              gi_loopw [24] (SpoilX (y3.setCell ⟨W8.heap.size, 0, none⟩ (.slice ao3 n3 cap3)) ((ax, ss.length, cx), sp) ss.length (fun g => W2.heap.size ≤ g ∧ g < W8.heap.size ∧ ¬ SB g)) (fun kv _ => ss.length - (intOf kv).toNat)
              case atStart => exact ⟨0, Nat.zero_le _, rfl, Kp.refl _, ss, rfl, HN.out.2.2.2.2⟩
              case round =>
                obtain ⟨i2, hi2, rfl, hk9, ss9, hl9, hr9⟩ := hrel
                by_cases hlt : i2 < ss.length
                · obtain ⟨g9, e9, hM9, ⟨u9, c8⟩, c9, hr9'⟩ := Row.put hr9 i2 (by omega) ⟨#[115, 112, 111, 105, 108, 116]⟩
                  simp only at e9
                  subst e9
                  have b1 : (i2 : Int) < (ss.length : Int) := by omega
                  have HR9 := Lib.hid (And.intro hr9' hk9)
                  clear hr9 hr9' hM9 hk9
                  gi_wp2
                  go_roundw
                  case rel => exact ⟨i2 + 1, by omega, by go_num, HR9.out.2.setCell (p := ⟨g9, i2, none⟩) (fun _ => rfl) _, _, by simp [hl9], HR9.out.1⟩
                  case measure => first | (simp [intOf]; done) | (simp [intOf]; omega)
                · have hsub := hi2
                  gi_wp2
                  obtain ⟨hgot, hsc, hLL, hLc, hls, _⟩ := HR.out
                  obtain ⟨ko, kX, hB3, ho3, hrown⟩ := HN.out
                  have hnx := GotE.next hgot hp hlen HX.out.2.1 hsza HZW8.out HX.out.2.2.1 kX hB3 ho3 hLL hLc hsc hk9 (ss2 := ss9) (hl9.trans hls) hr9
                  exact ⟨(ko.trans (KeepsOthers.of_own hrown hk9)).from _, hnx.1, hnx.2⟩
            · go_simp
              refine hK _ _ ?_
              clear hK K
              refine wpAnyIn_ready (rs := [0]) (by kernel_rfl) (by simp) (AllReadyIn.cons rfl (fun K hK => ?_) AllReadyIn.nil)
              go_simp
              refine hK _ _ ?_
              clear hK K
              refine wpAnyIn_ready (rs := [5]) (by kernel_rfl) (by simp) (AllReadyIn.cons rfl (fun K hK => ?_) AllReadyIn.nil)
              refine stepIn_app (.tmp 182) (.tmp 186) rfl rfl rfl rfl hrun2 ?_
              refine hK _ _ ?_
              clear hK K
              refine wpAnyIn_ready (rs := [6]) (by kernel_rfl) (by simp) (AllReadyIn.cons rfl (fun K hK => ?_) AllReadyIn.nil)
              go_simp
              refine hK _ _ ?_
              clear hK K
              refine wpAnyIn_done (by kernel_rfl) ?_ _
              gi_wp2
              gi_loopw [24] (SpoilX (y3.setCell ⟨W8.heap.size, 0, none⟩ (.slice ao3 n3 cap3)) ((ax, ss.length, cx), sp) ss.length (fun g => W2.heap.size ≤ g ∧ g < W8.heap.size ∧ ¬ SB g)) (fun kv _ => ss.length - (intOf kv).toNat)
              case atStart => exact ⟨0, Nat.zero_le _, rfl, Kp.refl _, ss, rfl, HN.out.2.2.2.2⟩
              case round =>
                obtain ⟨i2, hi2, rfl, hk9, ss9, hl9, hr9⟩ := hrel
                by_cases hlt : i2 < ss.length
                · obtain ⟨g9, e9, hM9, ⟨u9, c8⟩, c9, hr9'⟩ := Row.put hr9 i2 (by omega) ⟨#[115, 112, 111, 105, 108, 116]⟩
                  simp only at e9
                  subst e9
                  have b1 : (i2 : Int) < (ss.length : Int) := by omega
                  have HR9 := Lib.hid (And.intro hr9' hk9)
                  clear hr9 hr9' hM9 hk9
                  gi_wp2
                  go_roundw
                  case rel => exact ⟨i2 + 1, by omega, by go_num, HR9.out.2.setCell (p := ⟨g9, i2, none⟩) (fun _ => rfl) _, _, by simp [hl9], HR9.out.1⟩
                  case measure => first | (simp [intOf]; done) | (simp [intOf]; omega)
                · have hsub := hi2
                  gi_wp2
                  obtain ⟨hgot, hsc, hLL, hLc, hls, _⟩ := HR.out
                  obtain ⟨ko, kX, hB3, ho3, hrown⟩ := HN.out
                  have hnx := GotE.next hgot hp hlen HX.out.2.1 hsza HZW8.out HX.out.2.2.1 kX hB3 ho3 hLL hLc hsc hk9 (ss2 := ss9) (hl9.trans hls) hr9
                  exact ⟨(ko.trans (KeepsOthers.of_own hrown hk9)).from _, hnx.1, hnx.2⟩
      · go_simp
        refine hK _ _ ?_
        clear hK K
        refine wpAnyIn_ready (rs := [0, 1]) (by kernel_rfl) (by simp) (AllReadyIn.cons rfl (fun K hK => ?_) (AllReadyIn.cons rfl (fun K hK => ?_) AllReadyIn.nil))
        · go_simp
          refine hK _ _ ?_
          clear hK K
          refine wpAnyIn_ready (rs := [1]) (by kernel_rfl) (by simp) (AllReadyIn.cons rfl (fun K hK => ?_) AllReadyIn.nil)
          go_simp
          refine hK _ _ ?_
          clear hK K
          refine wpAnyIn_ready (rs := [3]) (by kernel_rfl) (by simp) (AllReadyIn.cons rfl (fun K hK => ?_) AllReadyIn.nil)
          refine stepIn_app (.tmp 183) (.tmp 184) rfl rfl rfl rfl hrun1 ?_
          refine hK _ _ ?_
          clear hK K
          refine wpAnyIn_ready (rs := [4]) (by kernel_rfl) (by simp) (AllReadyIn.cons rfl (fun K hK => ?_) AllReadyIn.nil)
          go_simp
          refine hK _ _ ?_
          clear hK K
          refine wpAnyIn_ready (rs := [5]) (by kernel_rfl) (by simp) (AllReadyIn.cons rfl (fun K hK => ?_) AllReadyIn.nil)
          refine stepIn_app (.tmp 182) (.tmp 186) rfl rfl rfl rfl hrun2 ?_
          refine hK _ _ ?_
          clear hK K
          refine wpAnyIn_ready (rs := [6]) (by kernel_rfl) (by simp) (AllReadyIn.cons rfl (fun K hK => ?_) AllReadyIn.nil)
          go_simp
          refine hK _ _ ?_
          clear hK K
          refine wpAnyIn_done (by kernel_rfl) ?_ _
          gi_wp2
          gi_loopw [24] (SpoilX (y3.setCell ⟨W8.heap.size, 0, none⟩ (.slice ao3 n3 cap3)) ((ax, ss.length, cx), sp) ss.length (fun g => W2.heap.size ≤ g ∧ g < W8.heap.size ∧ ¬ SB g)) (fun kv _ => ss.length - (intOf kv).toNat)
          case atStart => exact ⟨0, Nat.zero_le _, rfl, Kp.refl _, ss, rfl, HN.out.2.2.2.2⟩
          case round =>
            obtain ⟨i2, hi2, rfl, hk9, ss9, hl9, hr9⟩ := hrel
            by_cases hlt : i2 < ss.length
            · obtain ⟨g9, e9, hM9, ⟨u9, c8⟩, c9, hr9'⟩ := Row.put hr9 i2 (by omega) ⟨#[115, 112, 111, 105, 108, 116]⟩
              simp only at e9
              subst e9
              have b1 : (i2 : Int) < (ss.length : Int) := by omega
              have HR9 := Lib.hid (And.intro hr9' hk9)
              clear hr9 hr9' hM9 hk9
              gi_wp2
              go_roundw
              case rel => exact ⟨i2 + 1, by omega, by go_num, HR9.out.2.setCell (p := ⟨g9, i2, none⟩) (fun _ => rfl) _, _, by simp [hl9], HR9.out.1⟩
              case measure => first | (simp [intOf]; done) | (simp [intOf]; omega)
            · have hsub := hi2
              gi_wp2
              obtain ⟨hgot, hsc, hLL, hLc, hls, _⟩ := HR.out
              obtain ⟨ko, kX, hB3, ho3, hrown⟩ := HN.out
              have hnx := GotE.next hgot hp hlen HX.out.2.1 hsza HZW8.out HX.out.2.2.1 kX hB3 ho3 hLL hLc hsc hk9 (ss2 := ss9) (hl9.trans hls) hr9
              exact ⟨(ko.trans (KeepsOthers.of_own hrown hk9)).from _, hnx.1, hnx.2⟩
        · go_simp
          refine hK _ _ ?_
          clear hK K
          refine wpAnyIn_ready (rs := [0, 3]) (by kernel_rfl) (by simp) (AllReadyIn.cons rfl (fun K hK => ?_) (AllReadyIn.cons rfl (fun K hK => ?_) AllReadyIn.nil))
          · go_simp
            refine hK _ _ ?_
            clear hK K
            refine wpAnyIn_ready (rs := [3]) (by kernel_rfl) (by simp) (AllReadyIn.cons rfl (fun K hK => ?_) AllReadyIn.nil)
            refine stepIn_app (.tmp 183) (.tmp 184) rfl rfl rfl rfl hrun1 ?_
            refine hK _ _ ?_
            clear hK K
            refine wpAnyIn_ready (rs := [4]) (by kernel_rfl) (by simp) (AllReadyIn.cons rfl (fun K hK => ?_) AllReadyIn.nil)
            go_simp
            refine hK _ _ ?_
            clear hK K
            refine wpAnyIn_ready (rs := [5]) (by kernel_rfl) (by simp) (AllReadyIn.cons rfl (fun K hK => ?_) AllReadyIn.nil)
            refine stepIn_app (.tmp 182) (.tmp 186) rfl rfl rfl rfl hrun2 ?_
            refine hK _ _ ?_
            clear hK K
            refine wpAnyIn_ready (rs := [6]) (by kernel_rfl) (by simp) (AllReadyIn.cons rfl (fun K hK => ?_) AllReadyIn.nil)
            go_simp
            refine hK _ _ ?_
            clear hK K
            refine wpAnyIn_done (by kernel_rfl) ?_ _
            gi_wp2
            gi_loopw [24] (SpoilX (y3.setCell ⟨W8.heap.size, 0, none⟩ (.slice ao3 n3 cap3)) ((ax, ss.length, cx), sp) ss.length (fun g => W2.heap.size ≤ g ∧ g < W8.heap.size ∧ ¬ SB g)) (fun kv _ => ss.length - (intOf kv).toNat)
            case atStart => exact ⟨0, Nat.zero_le _, rfl, Kp.refl _, ss, rfl, HN.out.2.2.2.2⟩
            case round =>
              obtain ⟨i2, hi2, rfl, hk9, ss9, hl9, hr9⟩ := hrel
              by_cases hlt : i2 < ss.length
              · obtain ⟨g9, e9, hM9, ⟨u9, c8⟩, c9, hr9'⟩ := Row.put hr9 i2 (by omega) ⟨#[115, 112, 111, 105, 108, 116]⟩
                simp only at e9
                subst e9
                have b1 : (i2 : Int) < (ss.length : Int) := by omega
                have HR9 := Lib.hid (And.intro hr9' hk9)
                clear hr9 hr9' hM9 hk9
                gi_wp2
                go_roundw
                case rel => exact ⟨i2 + 1, by omega, by go_num, HR9.out.2.setCell (p := ⟨g9, i2, none⟩) (fun _ => rfl) _, _, by simp [hl9], HR9.out.1⟩
                case measure => first | (simp [intOf]; done) | (simp [intOf]; omega)
              · have hsub := hi2
                gi_wp2
                obtain ⟨hgot, hsc, hLL, hLc, hls, _⟩ := HR.out
                obtain ⟨ko, kX, hB3, ho3, hrown⟩ := HN.out
                have hnx := GotE.next hgot hp hlen HX.out.2.1 hsza HZW8.out HX.out.2.2.1 kX hB3 ho3 hLL hLc hsc hk9 (ss2 := ss9) (hl9.trans hls) hr9
                exact ⟨(ko.trans (KeepsOthers.of_own hrown hk9)).from _, hnx.1, hnx.2⟩
          · refine stepIn_app (.tmp 183) (.tmp 184) rfl rfl rfl rfl hrun1 ?_
            refine hK _ _ ?_
            clear hK K
            refine wpAnyIn_ready (rs := [0, 4]) (by kernel_rfl) (by simp) (AllReadyIn.cons rfl (fun K hK => ?_) (AllReadyIn.cons rfl (fun K hK => ?_) AllReadyIn.nil))
            · go_simp
              refine hK _ _ ?_
              clear hK K
              refine wpAnyIn_ready (rs := [4]) (by kernel_rfl) (by simp) (AllReadyIn.cons rfl (fun K hK => ?_) AllReadyIn.nil)
              go_simp
              refine hK _ _ ?_
              clear hK K
              refine wpAnyIn_ready (rs := [5]) (by kernel_rfl) (by simp) (AllReadyIn.cons rfl (fun K hK => ?_) AllReadyIn.nil)
              refine stepIn_app (.tmp 182) (.tmp 186) rfl rfl rfl rfl hrun2 ?_
              refine hK _ _ ?_
              clear hK K
              refine wpAnyIn_ready (rs := [6]) (by kernel_rfl) (by simp) (AllReadyIn.cons rfl (fun K hK => ?_) AllReadyIn.nil)
              go_simp
              refine hK _ _ ?_
              clear hK K
              refine wpAnyIn_done (by kernel_rfl) ?_ _
              gi_wp2
              gi_loopw [24] (SpoilX (y3.setCell ⟨W8.heap.size, 0, none⟩ (.slice ao3 n3 cap3)) ((ax, ss.length, cx), sp) ss.length (fun g => W2.heap.size ≤ g ∧ g < W8.heap.size ∧ ¬ SB g)) (fun kv _ => ss.length - (intOf kv).toNat)
              case atStart => exact ⟨0, Nat.zero_le _, rfl, Kp.refl _, ss, rfl, HN.out.2.2.2.2⟩
              case round =>
                obtain ⟨i2, hi2, rfl, hk9, ss9, hl9, hr9⟩ := hrel
                by_cases hlt : i2 < ss.length
                · obtain ⟨g9, e9, hM9, ⟨u9, c8⟩, c9, hr9'⟩ := Row.put hr9 i2 (by omega) ⟨#[115, 112, 111, 105, 108, 116]⟩
                  simp only at e9
                  subst e9
                  have b1 : (i2 : Int) < (ss.length : Int) := by omega
                  have HR9 := Lib.hid (And.intro hr9' hk9)
                  clear hr9 hr9' hM9 hk9
                  gi_wp2
                  go_roundw
                  case rel => exact ⟨i2 + 1, by omega, by go_num, HR9.out.2.setCell (p := ⟨g9, i2, none⟩) (fun _ => rfl) _, _, by simp [hl9], HR9.out.1⟩
                  case measure => first | (simp [intOf]; done) | (simp [intOf]; omega)
                · have hsub := hi2
                  gi_wp2
                  obtain ⟨hgot, hsc, hLL, hLc, hls, _⟩ := HR.out
                  obtain ⟨ko, kX, hB3, ho3, hrown⟩ := HN.out
                  have hnx := GotE.next hgot hp hlen HX.out.2.1 hsza HZW8.out HX.out.2.2.1 kX hB3 ho3 hLL hLc hsc hk9 (ss2 := ss9) (hl9.trans hls) hr9
                  exact ⟨(ko.trans (KeepsOthers.of_own hrown hk9)).from _, hnx.1, hnx.2⟩
            · go_simp
              refine hK _ _ ?_
              clear hK K
              refine wpAnyIn_ready (rs := [0]) (by kernel_rfl) (by simp) (AllReadyIn.cons rfl (fun K hK => ?_) AllReadyIn.nil)
              go_simp
              refine hK _ _ ?_
              clear hK K
              refine wpAnyIn_ready (rs := [5]) (by kernel_rfl) (by simp) (AllReadyIn.cons rfl (fun K hK => ?_) AllReadyIn.nil)
              refine stepIn_app (.tmp 182) (.tmp 186) rfl rfl rfl rfl hrun2 ?_
              refine hK _ _ ?_
              clear hK K
              refine wpAnyIn_ready (rs := [6]) (by kernel_rfl) (by simp) (AllReadyIn.cons rfl (fun K hK => ?_) AllReadyIn.nil)
              go_simp
              refine hK _ _ ?_
              clear hK K
              refine wpAnyIn_done (by kernel_rfl) ?_ _
              gi_wp2
              gi_loopw [24] (SpoilX (y3.setCell ⟨W8.heap.size, 0, none⟩ (.slice ao3 n3 cap3)) ((ax, ss.length, cx), sp) ss.length (fun g => W2.heap.size ≤ g ∧ g < W8.heap.size ∧ ¬ SB g)) (fun kv _ => ss.length - (intOf kv).toNat)
              case atStart => exact ⟨0, Nat.zero_le _, rfl, Kp.refl _, ss, rfl, HN.out.2.2.2.2⟩
              case round =>
                obtain ⟨i2, hi2, rfl, hk9, ss9, hl9, hr9⟩ := hrel
                by_cases hlt : i2 < ss.length
                · obtain ⟨g9, e9, hM9, ⟨u9, c8⟩, c9, hr9'⟩ := Row.put hr9 i2 (by omega) ⟨#[115, 112, 111, 105, 108, 116]⟩
                  simp only at e9
                  subst e9
                  have b1 : (i2 : Int) < (ss.length : Int) := by omega
                  have HR9 := Lib.hid (And.intro hr9' hk9)
                  clear hr9 hr9' hM9 hk9
                  gi_wp2
                  go_roundw
                  case rel => exact ⟨i2 + 1, by omega, by go_num, HR9.out.2.setCell (p := ⟨g9, i2, none⟩) (fun _ => rfl) _, _, by simp [hl9], HR9.out.1⟩
                  case measure => first | (simp [intOf]; done) | (simp [intOf]; omega)
                · have hsub := hi2
                  gi_wp2
                  obtain ⟨hgot, hsc, hLL, hLc, hls, _⟩ := HR.out
                  obtain ⟨ko, kX, hB3, ho3, hrown⟩ := HN.out
                  have hnx := GotE.next hgot hp hlen HX.out.2.1 hsza HZW8.out HX.out.2.2.1 kX hB3 ho3 hLL hLc hsc hk9 (ss2 := ss9) (hl9.trans hls) hr9
                  exact ⟨(ko.trans (KeepsOthers.of_own hrown hk9)).from _, hnx.1, hnx.2⟩
    case done =>
      rintro D1 ys X2 hD hys hgot hd
      have hys' := hys.symm; subst hys'; clear hys
      obtain ⟨_, kg, ⟨v, LL', hLL, hBd, hrd, hLc⟩, _, _⟩ := hgot
      have hat : (ps2.attach.map Subtype.val) = ps2 := List.attach_map_subtype_val ps2
      have eLL : LL' = LL := by rw [hLc (by rw [hat]; exact List.prefix_refl _), hat, HX.out.2.2.2.1]
      subst eLL
      have hxX : Ext W2 X2 := ((HE3.out.2.2.1.trans HE8.out.2).trans xa).trans' kg fun i hi h => by have := h.1; omega
      obtain ⟨aog, capg, ev, hing⟩ := hrd.shape
      rw [HLn.out.1] at ev
      subst ev
      have cg := hBd.cell 0 (by simp)
      simp only [List.getElem_cons_zero] at cg
      have HXX := Lib.hid (And.intro hxX (And.intro (HE2.out.1.trans hxX) (And.intro hing (And.intro hd hD))))
      have HCg := Lib.hid (fun W (hW : Ext X2 W) => hW.cell cg id)
      clear hxX hing hrd hBd kg hLc hd hD hLL hat
      obtain ⟨bx, ebx⟩ : ∃ bx, W8.heap.size = bx := ⟨_, rfl⟩
      rw [ebx] at HCg ⊢
      have HBx := Lib.hid ebx
      clear ebx cg
      have hcg0 := HCg.out X2 (Kp.refl X2)
      go_wp2
      refine draw_begin (fun w' : World => w'.cell? ⟨bx, 0, none⟩ = some (.slice aog ln capg)) [] (by kernel_rfl) (HCg.out _ (Kp.refl X2).drew) (fun hHeld => ?_)
      (refine draw_in (i := 0) (v := ?_) rfl ?_ ?_; rotate_left; (intro w hSw; (try dsimp only at hSw); go_simp; try with_reducible rfl)); (try simp only [Act.put, List.setIfInBounds_toArray, List.set_cons_zero, List.set_cons_succ])
      (refine draw_free (i := 1) (v := ?_) rfl ?_ ?_; rotate_left; (intro w; go_simp; try with_reducible rfl)); (try simp only [Act.put, List.setIfInBounds_toArray, List.set_cons_zero, List.set_cons_succ])
      refine draw_one (i := 2) ?_
      refine comes_turn (i := 2) rfl (fun K hK => ?_)
      go_simp
      (refine (HAll.out X2.drew HXX.out.2.1.drew).mono ?_; rintro e X3 ⟨v3, rfl, hk3, hown3⟩; obtain ⟨a3, p3, ev, hin3⟩ := hown3.shape; rw [HLn.out.1] at ev; subst ev; have HX3 := Lib.hid (And.intro (show Ext X2 X3 from (Kp.refl X2).drew.trans hk3) hin3); clear hk3 hown3 hin3)
      go_wp2_with fail
      refine hK.out _ _ ?_ (fun hHeld => ?_)
      · (try dsimp only); (exact HCg.out _ HX3.out.1)
      clear hK K; (try simp only [Act.put, List.setIfInBounds_toArray, List.set_cons_zero, List.set_cons_succ])
      refine draw_one (i := 3) ?_
      refine comes_turn (i := 3) rfl (fun K hK => ?_)
      go_simp
      (refine (rows_yes aog a3 ln capg p3 HLn.out.1.symm (HXX.out.2.2.1.ext HX3.out.1) HX3.out.2 (by have := HLn.out.2; omega)).mono ?_; rintro e X4 ⟨v4, rfl, hk4, rfl⟩; have HX4 := Lib.hid (And.intro (HX3.out.1.trans hk4) True.intro); clear hk4)
      go_wp2_with fail
      refine hK.out _ _ ?_ (fun hHeld => ?_)
      · (try dsimp only); (exact HCg.out _ HX4.out.1)
      clear hK K; (try simp only [Act.put, List.setIfInBounds_toArray, List.set_cons_zero, List.set_cons_succ])
      (refine draw_free (i := 4) (v := ?_) rfl ?_ ?_; rotate_left; (intro w; go_simp; try with_reducible rfl)); (try simp only [Act.put, List.setIfInBounds_toArray, List.set_cons_zero, List.set_cons_succ])
      refine wpAnyD_done (by kernel_rfl) ?_ _
      clear hHeld hcg0
      have har : ar ≤ 64 := by
        rw [← HE1.out.2.2.1]
        cases ho : o with
        | none => exact Nat.zero_le _
        | some g =>
          have h1 := HO.out.1
          rw [ho] at h1
          exact ((H.out.1.place k H.out.2).m.ok.ok.all g.cnt (List.mem_map.2 ⟨g, (findR2_some h1).1, rfl⟩)).ar
      have hmk := run_make_row' (P := Tryz.prog) 29 9 (.string ⟨#[]⟩) 16 Tryz.underlying29 (by kernel_rfl) rfl .i64 .i64 ar (by omega) (by omega)
      have HAr2 := Lib.hid har
      clear har
      go_wp2_with fail
      obtain ⟨g, eg⟩ : ∃ g, X4.heap.size = g := ⟨_, rfl⟩
      obtain ⟨Y, eY⟩ : ∃ Y, X4.alloc (.cells (madeCells #[.string ⟨#[]⟩] ar) 9) = Y := ⟨_, rfl⟩
      have hBg : Blk Y g (List.replicate ar (.string ⟨#[]⟩)) 9 := by rw [← eY, ← eg]; exact blk_madeS X4 _ _ _
      have hxY : Ext X2 Y := by rw [← eY]; exact HX4.out.1.alloc _
      rw [eY, eg]
      clear hmk eY
      have hrd : ReadsAs Y (some ⟨g, 0, none⟩, ar, ar) (List.replicate ar ⟨#[]⟩) := ⟨by simp, by
        have e : strs (List.replicate ar ⟨#[]⟩) = List.replicate ar (.string ⟨#[]⟩) := by simp [strs]
        rw [e]; exact CellsAt.pre (rest := []) (by rw [List.append_nil]; exact hBg)⟩
      have hadd := CopyV.add HE2.out.2.2 (HXX.out.1.trans hxY) (by
          rw [HO.out.2.2.2.1]
          cases ho : o with
          | none => exact strict_nil
          | some g =>
            have h1 := HO.out.1
            rw [ho] at h1
            exact ((H.out.1.place k H.out.2).m.ok.ok.all g.cnt (List.mem_map.2 ⟨g, (findR2_some h1).1, rfl⟩)).strict) (by rw [HO.out.2.2.2.1, HE1.out.2.2.2.1, HLn.out.1]; exact HLn.out.2) (x := (some ⟨g, 0, none⟩, ar, ar)) (ss := List.replicate ar ⟨#[]⟩) ⟨hrd, by rw [List.length_replicate]; have := HAr2.out; omega, fun a e => by cases e; exact hBg.lt⟩ (fun a e => by
            cases e
            show W2.heap.size ≤ g
            have h1 := HXX.out.1.size
            have h2 := HX4.out.1.size
            omega)
      refine hadd.mono ?_
      rintro e Z ⟨vz, rfl, hkz, _⟩
      have HFin := Lib.hid (show Ext w13 Z ∧ Marks w13.heap.size Z ({ target := .collected D1, args := #[] } :: ds) from by
        have hW1 := HE1.out.2.1.size
        have hW12 := HE2.out.2.1
        have hWW1 : W.heap.size ≤ W1.heap.size := HZW1.out
        have hxz : Ext W Z := ((HXW.out.trans HXX.out.1).trans hxY).trans' hkz fun j hj h => by have := h.1; omega
        have hD := HXX.out.2.2.2.2
        have hD1 := lt_of_block HXX.out.2.2.2.1
        have hz13 := HE.out.1.size
        have hz8 := HZW8.out
        have hz2 := HXW.out.size
        refine ⟨HE.out.1.trans hxz, Marks.push HE.out.2.1 (fun j o h _ => (hxz.block j (lt_of_block h) id).trans h) (by omega) (by omega) ?_⟩
        have e1 : Y.heap[D1]? = some (.deferred (some [])) := (hxY.block D1 hD1 id).trans HXX.out.2.2.2.1
        exact (hkz.block D1 (lt_of_block e1) (fun h => by have := h.2; omega)).trans e1)
      clear hadd hkz hrd hBg hxY
      have hi8 : i < 1048580 := by have := HNL.out; omega
      go_wp2
      refine ⟨⟨i + 1, rfl, by omega, rfl, rfl, rfl, rfl, rfl, rfl, by first | rfl | (congr 1; done) | (congr 1; omega), Lib.hid HFin.out.1, Lib.hid HFin.out.2⟩, ?_⟩
      show NL - (intOf (.int .i64 _)).toNat < NL - (intOf (.int .i64 _)).toNat
      simp [intOf]; omega
  · obtain rfl : i = NL := by omega
    go_wp2
    exact ⟨rfl, i, rfl, hi, rfl, rfl, rfl, rfl, rfl, rfl, rfl, hex, hmk⟩
end
end Go.Proofs.YtfkhelihepbehaaGreat

/- Relations of one's own, written over text by text. -/
namespace Go.Proofs.YtfkhelihepbehaaGreat
open Go.RowKit Go.Shelf
set_option linter.unusedVariables false

/-- The room of relations, whatever is in their rows; P: their rows. -/
def RelRoom (lo : Nat) (w : World) (va : Value) (Z : List (RelZ × (Option Addr × Nat))) (P : Nat → List RowP) : Prop :=
  Row w 52 3 va Z.length (Z.flatMap relCells) (fun g => lo ≤ g) ∧ ∀ (i : Nat) (x : RelZ × (Option Addr × Nat)), Z[i]? = some x → (P i).length = x.1.2.2.1.length ∧ Row w 29 1 (.slice x.2.1 (P i).length x.2.2) (P i).length (rowVs (P i)) (fun g => lo ≤ g) ∧ ∀ p ∈ P i, RoomRow (fun g => lo ≤ g) w p.1 p.2.length ∧ p.1.2.1 = p.2.length ∧ p.2.length ≤ 8796093021952
theorem RelRoom.of_own {lo : Nat} {w : World} {va : Value} {L : List RelZ} (h : RelsOwn lo w va L) : ∃ Z P, Z.length = L.length ∧ RelRoom lo w va Z P ∧ ∀ (i : Nat) (x : RelZ × (Option Addr × Nat)), Z[i]? = some x → x.1 ∈ L := by
  obtain ⟨vs, h1, h2, h3⟩ := h
  have hl : (L.zip vs).length = L.length := by rw [List.length_zip, h1]; simp
  have hex : ∀ i : Nat, ∃ ps : List RowP, ∀ x, (L.zip vs)[i]? = some x → ps.length = x.1.2.2.1.length ∧ Row w 29 1 (.slice x.2.1 ps.length x.2.2) ps.length (rowVs ps) (fun g => lo ≤ g) ∧ ∀ p ∈ ps, RoomRow (fun g => lo ≤ g) w p.1 p.2.length ∧ p.1.2.1 = p.2.length ∧ p.2.length ≤ 8796093021952 := fun i => by
    cases hx : (L.zip vs)[i]? with
    | none => exact ⟨[], fun x e => by cases e⟩
    | some x =>
      obtain ⟨ps, e, r2, r3, _⟩ := h3 x (List.mem_of_getElem? hx)
      have hpl : ps.length = x.1.2.2.1.length := by rw [e]; simp
      refine ⟨ps, fun y ey => ?_⟩
      cases ey
      exact ⟨hpl, by rw [hpl]; rw [hpl] at r2; exact r2, fun p hp => ⟨RoomRow.of_row (r3 p hp).1, (Row.readsAs (r3 p hp).1).1.1, (r3 p hp).2⟩⟩
  obtain ⟨P, hP⟩ := Classical.axiomOfChoice hex
  exact ⟨L.zip vs, P, hl, ⟨by rw [hl]; exact h2, hP⟩, fun i x hx => (List.of_mem_zip (List.mem_of_getElem? hx)).1⟩
theorem RelRoom.kp {F : Nat → Prop} {lo : Nat} {w w' : World} {va : Value} {Z : List (RelZ × (Option Addr × Nat))} {P : Nat → List RowP} (h : RelRoom lo w va Z P) (hk : Kp F w w') (hF : ∀ k, F k → ¬ lo ≤ k) : RelRoom lo w' va Z P :=
  ⟨h.1.kp hk fun g hg hf => hF g hf hg, fun i x hx => by
    obtain ⟨h1, h2, h3⟩ := h.2 i x hx
    exact ⟨h1, h2.kp hk fun g hg hf => hF g hf hg, fun p hp => ⟨(h3 p hp).1.kp hk fun g hg hf => hF g hf hg, (h3 p hp).2⟩⟩⟩
theorem RelRoom.set {lo : Nat} {w : World} {va : Value} {Z : List (RelZ × (Option Addr × Nat))} {P : Nat → List RowP} (h : RelRoom lo w va Z P) {g : Nat} {cs : List Value} (hB : Blk w g cs 9) (i : Nat) (v : Value) : RelRoom lo (w.setCell ⟨g, i, none⟩ v) va Z P := by
  have hk : Kp (fun k => k = g) w (w.setCell ⟨g, i, none⟩ v) := Kp.setCell (F := fun k => k = g) (p := ⟨g, i, none⟩) (Kp.refl w) (fun _ => rfl) v
  refine ⟨h.1.kp' hk fun g' hg' _ e => ?_, fun j x hx => ?_⟩
  · subst e
    obtain ⟨cs', hb'⟩ := h.1.blkOf hg'
    exact absurd (blk_ne hb' hB) (by decide)
  · obtain ⟨h1, h2, h3⟩ := h.2 j x hx
    refine ⟨h1, h2.kp' hk fun g' hg' _ e => ?_, fun p hp => ⟨(h3 p hp).1.set g i v, (h3 p hp).2⟩⟩
    subst e
    obtain ⟨cs', hb'⟩ := h2.blkOf hg'
    exact absurd (blk_ne hb' hB) (by decide)
/-- Between two rounds. -/
def SpoilTo (lo : Nat) (w0 : World) (va : Value) (Z : List (RelZ × (Option Addr × Nat))) (P : Nat → List RowP) (n : Nat) (iv : Value) (W : World) : Prop := ∃ i : Nat, i ≤ n ∧ iv = .int .i64 i ∧ Hid (Kp (fun g => lo ≤ g) w0 W ∧ RelRoom lo W va Z P ∧ KeepsOthers w0 W)
/-- The cells of the i-th relation. -/
theorem RelRoom.cell {lo : Nat} {w : World} {va : Value} {Z : List (RelZ × (Option Addr × Nat))} {P : Nat → List RowP} (h : RelRoom lo w va Z P) {i : Nat} {x : RelZ × (Option Addr × Nat)} (hx : Z[i]? = some x) : ∃ rb cap, va = .slice (some ⟨rb, 0, none⟩) Z.length cap ∧ w.cell? ⟨rb, i * 3 + 2, none⟩ = some (.slice x.2.1 (P i).length x.2.2) := by
  have hlt := (List.getElem?_eq_some_iff.1 hx).1
  obtain ⟨hxl, ⟨rfl, h0⟩ | ⟨g, cap, rest, rfl, _, hB, _⟩⟩ := h.1
  · omega
  · refine ⟨g, cap, rfl, ?_⟩
    have h1 := flat_get relCells 3 relCells_len Z i x 2 hx (by omega)
    have hl2 : i * 3 + 2 < (Z.flatMap relCells).length := (List.getElem?_eq_some_iff.1 (h1.trans rfl)).1
    rw [hB.cell', List.getElem?_append_left hl2, h1, (h.2 i x hx).1]
    rfl
theorem RelRoom.cell' {lo : Nat} {w : World} {rb n cap : Nat} {Z : List (RelZ × (Option Addr × Nat))} {P : Nat → List RowP} (h : RelRoom lo w (.slice (some ⟨rb, 0, none⟩) n cap) Z P) {i : Nat} {x : RelZ × (Option Addr × Nat)} (hx : Z[i]? = some x) : w.cell? ⟨rb, i * 3 + 2, none⟩ = some (.slice x.2.1 (P i).length x.2.2) := by
  obtain ⟨rb', cap', e, hc⟩ := h.cell hx
  simp only [Value.slice.injEq, Option.some.injEq, Addr.mk.injEq] at e
  obtain ⟨⟨rfl, _, _⟩, _, _⟩ := e
  exact hc
theorem RelRoom.rowCell {lo : Nat} {w : World} {va : Value} {Z : List (RelZ × (Option Addr × Nat))} {P : Nat → List RowP} (h : RelRoom lo w va Z P) {i j : Nat} {x : RelZ × (Option Addr × Nat)} (hx : Z[i]? = some x) {p : RowP} (hp : (P i)[j]? = some p) : ∃ g o, x.2.1 = some ⟨g, o, none⟩ ∧ w.cell? ⟨g, o + j, none⟩ = some (.slice p.1.1 p.1.2.1 p.1.2.2) := by
  obtain ⟨_, h2, _⟩ := h.2 i x hx
  obtain ⟨ao, cap, e, hc, _⟩ := h2.shape
  simp only [Value.slice.injEq] at e
  rw [← e.1] at hc
  exact hc j _ (rowVs_get _ j _ hp)
end Go.Proofs.YtfkhelihepbehaaGreat

/- shelf.told: what the bases tell is what the document's tell. -/
namespace Go.Proofs.YtfkhelihepbehaaGreat
open Go.RowKit Go.Shelf
set_option linter.unusedVariables false
attribute [local go_sem] Oper.semAt_some

theorem RefO.nil0 {S : Nat → Prop} {w : World} {v : Value} {G : List REnt} {mw : Nat → Prop} (h : RefO S w v G mw) (hv : v = .pointer none) : G = [] := by
  cases h with
  | nil => rfl
  | full => cases hv
theorem ShelfAt.same' {S : Nat → Prop} {w : World} {sd : Nat} {D : Nat → Place} (h : ShelfAt S w sd D) {i j : Nat} (hi : i < 3) (hj : j < 3) {v : Value} (hv : (D i).bv = v) : Calls Tryz.prog 26 #[v, (D j).bv] w (RetN w fun w' v => v = .bool (sameB (D i) (D j))) ∧ Calls Tryz.prog 88 #[(D i).mv, (D j).mv] w (RetN w fun w' v => v = .bool (sameB (D i) (D j))) := by
  subst hv; exact h.same hi hj
theorem PlaceAt.ptrs {S : Nat → Prop} {w : World} {p : Place} (h : PlaceAt S w p) : ∃ x y, p.bv = .pointer x ∧ p.mv = .pointer y := by
  rcases h.nilb with ⟨_, e1, e2⟩ | ⟨a, c, e1, e2, _⟩
  · exact ⟨_, _, e1, e2⟩
  · exact ⟨_, _, e1, e2⟩
def SameTo (w0 : World) (iv : Value) (W : World) : Prop := ∃ i : Nat, i ≤ 3 ∧ iv = .int .i64 i ∧ Hid (Ext w0 W)
theorem shelfTold_ret {w W : World} {lo : Nat} {tmps : Array Value} {ds : List Deferred} (hm : Marks lo W ds) (hlo : w.heap.size ≤ lo) (hx : Ext w W) (ht : tmps.getD 8 undef = .bool true) :
    bodyPostM Fence.wide 4 Tryz.prog Tryz.f33 (RetN w fun w' v => v = .bool true) .ret { tmps := tmps, defers := ds } W := by
  refine leaves_marks hm fun w' e1 e2 e3 e4 e5 e6 => ?_
  refine ⟨.bool true, ?_, RetN.mk ⟨e1.trans hx.os, e2.trans hx.tape, e3.trans hx.output, by rw [e4]; exact hx.size, fun k hk _ => (e5 k (by omega)).trans (hx.block k hk id)⟩ rfl⟩
  have ht' : tmps[8]?.getD undef = .bool true := by simpa using ht
  simp [results, Tryz.f33, go_sem, ht']
section
variable {S : Nat → Prop} {w : World} {sd : Nat} {D : Nat → Place}
set_option maxRecDepth 100000 in
set_option maxHeartbeats 8000000 in
theorem shelfTold_any (h : ShelfAt S w sd D) {k : Nat} (hk : k < 3) (s : ByteArray) {xo : Option Addr} {m xc : Nat} {ss : List ByteArray} (hm : m = ss.length) (hx : CellsAt w xo (strs ss)) (hss : ss.length ≤ 1048576) (hsz : ∀ t ∈ ss, t.size ≤ 1048576) :
    Calls Tryz.prog 33 #[.pointer (some ⟨sd, 0, none⟩), .int .i64 (k : Int), .string s, .slice xo m xc] w (RetN w fun w' v => v = .bool true) := by
  refine callsIn_wide.1 (callsIn_of_wp_marks (n := 4) Tryz.func33 rfl trivial ?_ rfl)
  refine wpIn_wide.2 ?_
  obtain ⟨Q, eQ⟩ : ∃ Q, Q = bodyPostM Fence.wide 4 Tryz.prog Tryz.f33 (RetN w fun w' v => v = .bool true) := ⟨_, rfl⟩
  rw [← eQ]
  have EQ := Lib.hid eQ; clear eQ
  have c1 := h.cb hk
  have c2 := h.cm hk
  have hp := h.place k hk
  have k0 : (k : Int) < 3 := by omega
  obtain ⟨p, ep⟩ : ∃ p, (D k).bv = .pointer p := by
    rcases hp.nilb with ⟨_, e, _⟩ | ⟨a, c, e, _⟩
    · exact ⟨_, e⟩
    · exact ⟨_, e⟩
  obtain ⟨q, eq⟩ : ∃ q, (D k).mv = .pointer q := by
    rcases hp.nilb with ⟨_, _, e⟩ | ⟨a, c, _, e, _⟩
    · exact ⟨_, e⟩
    · exact ⟨_, e⟩
  obtain ⟨r, hq1, hq2, hr⟩ : ∃ r : Bool, (∀ w : World, (binOp .eql 41 (.pointer p) (.pointer none)).run Tryz.prog w = .ok (.bool r) w) ∧ (∀ w : World, (binOp .eql 57 (.pointer q) (.pointer none)).run Tryz.prog w = .ok (.bool r) w) ∧ ((r = true ∧ q = none ∧ (D k).E.length = 0) ∨ (r = false ∧ ∃ c, q = some ⟨c, 0, none⟩ ∧ RefB S w c (D k).G)) := by
    rcases hp.nilb with ⟨_, e1, e2⟩ | ⟨a, c, e1, e2, hR⟩
    · rw [ep] at e1
      rw [eq] at e2
      cases e1
      cases e2
      exact ⟨true, fun _ => by kernel_rfl, fun _ => by kernel_rfl, .inl ⟨rfl, rfl, by rw [← hp.glen, hp.m.nil0 eq]; rfl⟩⟩
    · rw [ep] at e1
      rw [eq] at e2
      cases e1
      cases e2
      exact ⟨false, fun _ => by kernel_rfl, fun _ => by kernel_rfl, .inr ⟨rfl, c, rfl, hR⟩⟩
  have t0 : (r != r) = false := by cases r <;> rfl
  obtain ⟨L, eL⟩ : ∃ L, relsC (cntE (D k).E) = L := ⟨_, rfl⟩
  obtain ⟨NS, eNS⟩ : ∃ NS, namesC (cntE (D k).E) = NS := ⟨_, rfl⟩
  obtain ⟨n, en⟩ : ∃ n, (D k).E.length = n := ⟨_, rfl⟩
  rw [en] at hr
  obtain ⟨tot, etot⟩ : ∃ tot, totalC (cntE (D k).E) = tot := ⟨_, rfl⟩
  have hnl : n ≤ 1048576 := by rw [← en]; exact hp.few
  have hNl : NS.length = n := by rw [← eNS, (names_perm _).length_eq, List.length_map, ← en]; unfold cntE; simp
  have hLl : L.length = n := by rw [← eL]; unfold relsC; rw [List.length_map, eNS, hNl]
  have hLr : ∀ q ∈ L, q.2.2.1.length ≤ 65536 := fun q hq => by
    rw [← eL] at hq
    obtain ⟨v, hv, _, e⟩ := rels_mem hq
    rw [e]
    exact (hp.b.ok.all _ ((getC_mem hp.b.ok.nodup).1 hv)).few
  have H := Lib.hid (And.intro h (And.intro hk (And.intro ep eq)))
  have HP := Lib.hid (fun W (hW : Ext w W) => (h.ext hW).place k hk)
  have HX := Lib.hid (And.intro hx (And.intro hss hsz))
  have HL := Lib.hid (And.intro eL (And.intro eNS (And.intro hNl (And.intro hLl (And.intro hLr etot)))))
  have HR := Lib.hid hr
  have HMR := Lib.hid (fun W (hW : Ext w W) => by have := (HP.out W hW).mrels; rw [eq, eL] at this; exact this)
  have HBR := Lib.hid (fun W (hW : Ext w W) => by have := (HP.out W hW).brels; rw [ep, eL] at this; exact this)
  have HBL := Lib.hid (fun W (hW : Ext w W) => by have := (HP.out W hW).blen; rw [ep, etot] at this; exact this)
  have HML := Lib.hid (fun W (hW : Ext w W) => by have := (HP.out W hW).mlen; rw [eq, etot] at this; exact this)
  have HBN := Lib.hid (fun W (hW : Ext w W) => by have := (HP.out W hW).bnames; rw [ep, eNS, en] at this; exact this)
  rw [ep] at c1
  rw [eq] at c2
  subst hm
  have HB8 := Lib.hid (And.intro hss hnl)
  clear h hk hp ep eq hx hss hsz eL eNS en etot hNl hLl hLr hr hnl
  simp only [Tryz.ntmps33, List.size_toArray, List.length_cons, List.length_nil, Nat.reduceAdd, Nat.reduceSub, Array.replicate_succ, Array.replicate_zero, List.push_toArray, List.append_toArray, List.nil_append, List.cons_append]
  go_wp2_with fail
  go_quiet (fail)
  go_wp2_with fail
  have hxd : Ext w (w.drewN nq) := (Kp.refl w).drewN nq
  refine (HMR.out _ hxd).mono ?_
  rintro e w1 ⟨vw, rfl, hk1, aw, cw, rfl, hcw1, hcw2, hwant⟩
  have hx1 := hxd.trans hk1
  have HW1 := Lib.hid (And.intro hx1 (show RelsIn (fun g => w.heap.size ≤ g ∧ g < w1.heap.size) w1 aw L from hwant))
  rw [HL.out.2.2.2.1]
  clear hxd hk1 hx1 hwant c1 c2 hcw1 hcw2 k0
  go_wp2_with fail
  refine (HBR.out _ HW1.out.1).mono ?_
  rintro e w2 ⟨va, rfl, hk2, hown⟩
  obtain ⟨aa, ca, eva, hca, _, hall⟩ := hown.rels
  rw [HL.out.2.2.2.1] at eva
  subst eva
  have HW2 := Lib.hid (And.intro (HW1.out.1.trans hk2) (And.intro hown (And.intro hall hk2)))
  clear hk2 hown hall hca
  go_wp2_with fail
  refine (lent_any ss xo xc w2 (HX.out.1.ext HW2.out.1) (by have := HB8.out; omega)).mono ?_
  rintro e w3 ⟨vi, rfl, hk3, gi, icap, irest, rfl, hgi, hBi, hil, him⟩
  have hx3 := HW2.out.1.trans hk3
  have hgi0 : w.heap.size ≤ gi := by have := HW2.out.1.size; omega
  have HW3 := Lib.hid (And.intro hx3 (And.intro hk3 (And.intro hgi (And.intro hBi (And.intro hil (And.intro him hgi0))))))
  clear hx3 hk3 hgi hBi hil him hgi0
  go_wp2_with fail
  refine (HBL.out _ HW3.out.1).mono ?_
  rintro e w4 ⟨rfl, rfl⟩
  go_wp2_with fail
  refine (HML.out _ HW3.out.1).mono ?_
  rintro e w5 ⟨v5, rfl, hk5, rfl⟩
  have HW5 := Lib.hid (And.intro (HW3.out.1.trans hk5) hk5)
  clear hk5
  have t1 : ((tot : Int) != (tot : Int)) = false := by simp
  go_wp2_with fail
  refine (relations_yes aa aw n ca cw HL.out.2.2.2.1.symm (((HW2.out.2.2.1).ext HW3.out.2.1).ext HW5.out.2) ((((HW1.out.2).ext HW2.out.2.2.2).ext HW3.out.2.1).ext HW5.out.2) (by have := HB8.out; omega) (fun q hq => by have := HL.out.2.2.2.2.1 q hq; omega)).mono ?_
  rintro e w6 ⟨v6, rfl, hk6, rfl⟩
  have HW6 := Lib.hid (And.intro (HW5.out.1.trans hk6) (HW5.out.2.trans hk6))
  clear hk6
  obtain ⟨hb, ehb⟩ : ∃ hb, isIn cmpRow (rowsC (cntE (D k).E) s) ss = hb := ⟨_, rfl⟩
  have HHB := Lib.hid (fun W (hW : Ext w W) (hW3 : Ext w3 W) => by
    have hBi := HW3.out.2.2.2.1.ext hW3
    have hrd : ReadsAs W (some ⟨gi, 0, none⟩, ss.length, icap) ss := ⟨rfl, by rw [strs_snoc2, List.append_assoc] at hBi; exact CellsAt.pre hBi⟩
    have := (HP.out W hW).bhas s (x := (some ⟨gi, 0, none⟩, ss.length, icap)) (ss := ss) ⟨hrd, by have := HB8.out; omega, fun a e => by cases e; exact hBi.lt⟩ (fun a e ho => by
      cases e
      have h1 := (H.out.1.place k H.out.2.1).b.lt _ ho
      have := HW3.out.2.2.2.2.2.2
      simp only at h1
      omega)
    rw [H.out.2.2.1, ehb] at this
    exact this)
  have HHM := Lib.hid (fun W (hW : Ext w W) => by
    have := (HP.out W hW).mhas s (xo := xo) (m := ss.length) (xc := xc) (ss := ss) rfl (HX.out.1.ext hW) (by have := HB8.out; omega)
    rw [H.out.2.2.2, ehb] at this
    exact this)
  clear ehb
  go_wp2_with fail
  refine (HHB.out w6 HW6.out.1 HW6.out.2).mono ?_
  rintro e w7 ⟨v7, rfl, hk7, rfl⟩
  have HW7 := Lib.hid (And.intro (HW6.out.1.trans hk7) (HW6.out.2.trans hk7))
  clear hk7
  go_wp2_with fail
  refine (HHM.out w7 HW7.out.1).mono ?_
  rintro e w8 ⟨v8, rfl, hk8, rfl⟩
  have HW8 := Lib.hid (And.intro (HW7.out.1.trans hk8) (HW7.out.2.trans hk8))
  clear hk8
  have t2 : (hb != hb) = false := by cases hb <;> rfl
  go_wp2_with fail
  refine (kept_any ss gi icap xo xc irest w8 (HW3.out.2.2.2.1.ext HW8.out.2) (by have := HW3.out.2.2.2.2.1; omega) (HX.out.1.ext HW8.out.1) (by have := HB8.out; omega) (fun t ht => by have := HX.out.2.2 t ht; omega)).mono ?_
  rintro e w9 ⟨v9, rfl, hk9, rfl⟩
  have HW9 := Lib.hid (show Ext w w9 ∧ Ext w2 w9 from ⟨HW8.out.1.trans' hk9 fun i hi e => by have := HW3.out.2.2.2.2.2.2; omega, (HW3.out.2.1.trans HW8.out.2).trans' hk9 fun i hi e => by have := HW3.out.2.2.1; omega⟩)
  clear hk9 t1 t2 t0 HHB HHM
  have hq3 : ∀ w : World, (binOp .neq 57 (.pointer q) (.pointer none)).run Tryz.prog w = .ok (.bool (!r)) w := by
    rcases HR.out with ⟨rfl, rfl, _⟩ | ⟨rfl, c, rfl, _⟩
    · exact fun _ => by kernel_rfl
    · exact fun _ => by kernel_rfl
  have hnm : ∃ n2 xa xcap, n2 = NS.length ∧ CellsAt w xa (strs NS) ∧ ((r = true ∧ q = none ∧ n2 = 0 ∧ xa = none ∧ xcap = 0) ∨ (r = false ∧ ∃ c, q = some ⟨c, 0, none⟩ ∧ w.cell? ⟨c, 0, none⟩ = some (.slice xa n2 xcap))) := by
    have hp := H.out.1.place k H.out.2.1
    rcases HR.out with ⟨h1, h2, h3⟩ | ⟨h1, c, h2, hB⟩
    · have hNS : NS = [] := List.eq_nil_of_length_eq_zero (by rw [HL.out.2.2.1]; exact h3)
      exact ⟨0, none, 0, by rw [hNS]; rfl, by rw [hNS]; exact CellsAt.nil _ _, .inl ⟨h1, h2, rfl, rfl, rfl⟩⟩
    · obtain ⟨na, nc, aa', ac', hBl, hN, _⟩ := hB.blk
      rw [hp.mnames, HL.out.2.1] at hN
      have hg : (D k).G.length = n := by
        have h5 := congrArg List.length hp.mnames
        rw [List.length_map, HL.out.2.1, HL.out.2.2.1] at h5
        exact h5
      rw [hg] at hBl
      exact ⟨n, na, nc, HL.out.2.2.1.symm, hN, .inr ⟨h1, c, h2, by rw [hBl.cell']; rfl⟩⟩
  obtain ⟨n2, xa, xcap, hn2, hxa, hway⟩ := hnm
  have HXA := Lib.hid hxa
  have HN2 := Lib.hid (show n2 = NS.length ∧ n2 ≤ 1048576 from ⟨hn2, by rw [hn2, HL.out.2.2.1]; exact HB8.out.2⟩)
  have HSame := Lib.hid (show ∀ (na : Option Addr) (ncap : Nat) (W : World), CellsAt W na (strs NS) → Ext w W → Calls Tryz.prog 78 #[.slice na n ncap, .slice xa n2 xcap] W (RetD (.bool true) W) from fun na ncap W hc hw => by
    have h1 : ∀ p q : Nat, p = NS.length → q = NS.length → Calls Tryz.prog 78 #[.slice na p ncap, .slice xa q xcap] W (RetD (.bool true) W) := fun p q hp hq => by
      subst hp
      subst hq
      exact same_yes NS na xa ncap xcap W hc (HXA.out.ext hw) (by rw [HL.out.2.2.1]; have := HB8.out; unfold maxLen; omega)
    exact h1 n n2 HL.out.2.2.1.symm HN2.out.1)
  clear hxa hn2
  obtain ⟨A, eA⟩ : ∃ A, A = NS ++ [s, ⟨#[]⟩] := ⟨_, rfl⟩
  obtain ⟨NL, eNL⟩ : ∃ NL, NL = A.length := ⟨_, rfl⟩
  have HA := Lib.hid (And.intro eA eNL)
  clear eA eNL
  rcases hway with ⟨rfl, rfl, rfl, rfl, rfl⟩ | ⟨rfl, c, rfl, hcell⟩
  rotate_left
  have hcell9 := HW9.out.1.cell hcell id
  clear hcell
  all_goals
    go_wp2_with fail
    refine (HBN.out w9 HW9.out.1).mono ?_
    rintro e w10 ⟨v10, rfl, hk10, hrn⟩
    obtain ⟨na, ncap, rfl, hnc, hncc⟩ := hrn.shape
    clear hncc
    have HW10 := Lib.hid (And.intro (HW9.out.1.trans hk10) (And.intro (HW9.out.2.trans hk10) hnc))
    clear hk10 hrn hnc
    go_wp2_with fail
    refine (HSame.out na ncap w10 HW10.out.2.2 HW10.out.1).mono ?_
    rintro e w11 ⟨rfl, n11, rfl⟩
    have HW11 := Lib.hid (show Ext w (w10.drewN n11) ∧ Ext w2 (w10.drewN n11) from ⟨HW10.out.1.drewN n11, HW10.out.2.1.drewN n11⟩)
    go_wp2_with (first | (at_builtin; refine Halted.out ?_))
    have hke : Ext (w10.drewN n11) ((w10.drewN n11).alloc (.cells #[] 9)) := (Kp.refl _).alloc _
    have hre : Row ((w10.drewN n11).alloc (.cells #[] 9)) 9 1 (.slice (some ⟨(w10.drewN n11).heap.size, 0, none⟩) 0 0) 0 [] (New (w10.drewN n11)) := Row.empty (w10.drewN n11) 9 1 (New _) (Nat.le_refl _)
    refine Halted.mk (wp_appN elem_str rfl _ _ rfl hke rfl hre rfl ((HXA.out.ext HW11.out.1).ext hke) (by simp [strs, HN2.out.1]) (strs_one _) (by have := HN2.out.2; omega) (by have := HN2.out.2; unfold maxLen; omega) ?_)
    intro v1 w12 hr1 hk12 _ _
    have HR12 := Lib.hid (And.intro hr1 hk12)
    clear hr1 hk12 hke hre
    go_wp2_with (first | (at_builtin; refine Halted.out ?_))
    refine Halted.mk (wp_appN elem_str rfl _ _ rfl (HR12.out.2.alloc (.cells #[.string s, .string ⟨#[]⟩] 9)) rfl (HR12.out.1.alloc _) rfl (CellsAt.two w12 (.string s) (.string ⟨#[]⟩) 9) (by rfl) (by simp [Value.oneCell']) (by have := HN2.out.2; omega) (by have := HN2.out.2; unfold maxLen; omega) ?_)
    intro v2 w13 hr2 hk13 _ _
    have hr2' := hr2.cast' (n' := NL) (xs' := strs A) (by rw [HA.out.2, HA.out.1, List.length_append, ← HN2.out.1]; simp) (by rw [HA.out.1]; simp [strs])
    obtain ⟨ka, kcap, rfl, hkc, hkcc⟩ := hr2'.shape
    have HW13 := Lib.hid (show Ext w w13 ∧ Ext w2 w13 ∧ CellsAt w13 ka (strs A) from ⟨HW11.out.1.trans hk13, HW11.out.2.trans hk13, hkc⟩)
    clear hr2 hr2' hk13 HR12 hkc hkcc HW10 HW11 HW9 HW8 HW7 HW6 HW5 HXA HBN HMR HBL HML HSame hq1 hq2 hq3
    go_wp2
    have hNL : NL ≤ 1048580 := by rw [HA.out.2, HA.out.1, List.length_append, HL.out.2.2.1]; have := HB8.out.2; simp; omega
    refine Code.wp_mono ?_ (wp_loop (Q := toldQ sd w13 (D k) NL L aw cw aa ca ka kcap) (ToldInv sd w13 (D k) NL L aw cw aa ca ka kcap) (toldMu NL) ?start (fun a W hI => told_round H.out.1 H.out.2.1 HA.out.2 hNL HW13.out.1 HW13.out.2.2 a W hI))
    case start => exact ⟨0, rfl, Nat.zero_le _, rfl, H.out.2.2.1.symm, H.out.2.2.2.symm, by rw [HL.out.2.2.2.1]; rfl, by rw [HL.out.2.2.2.1]; rfl, rfl, rfl, Lib.hid (Kp.refl _), Lib.hid (Marks.nil _ _)⟩
    clear hNL
    rintro e ⟨tm, ds⟩ W hq
    cases e with
    | exit nn =>
      obtain ⟨rfl, i, hsz, hrel⟩ := hq
      obtain ⟨u, rfl⟩ := lit270 tm hsz
      obtain ⟨hi, e0, e9, e10, e11, e12, e15, e16, hex, hmk⟩ := hrel
      replace e0 : u 0 = _ := e0
      replace e9 : u 9 = _ := e9
      replace e10 : u 10 = _ := e10
      replace e11 : u 11 = _ := e11
      replace e12 : u 12 = _ := e12
      replace e15 : u 15 = _ := e15
      replace e16 : u 16 = _ := e16
      rw [e0, e9.trans H.out.2.2.1, e10.trans H.out.2.2.2, e11, e12, e15, e16]
      clear e0 e9 e10 e11 e12 e15 e16 hsz hi
      obtain ⟨Z, P, hZl, hroom, hZL⟩ := RelRoom.of_own HW2.out.2.1
      have HZL := Lib.hid hZL
      clear hZL
      replace hroom := hroom.kp (HW13.out.2.1.trans hex.out) (fun _ h => h.elim)
      rw [HL.out.2.2.2.1] at hZl ⊢
      have HS := Lib.hid (And.intro (show Ext w W ∧ Marks w13.heap.size W ds from ⟨HW13.out.1.trans hex.out, hmk.out⟩) (And.intro hroom hZl))
      have HZ0 := Lib.hid (show w.heap.size ≤ w1.heap.size ∧ w1.heap.size ≤ w13.heap.size from ⟨HW1.out.1.size, Nat.le_trans HW2.out.2.2.2.size HW13.out.2.1.size⟩)
      have HEX := hex
      have HN8 := Lib.hid (show n ≤ 1048576 from HB8.out.2)
      clear hroom hZl hex hmk
      go_wp2_with fail
      go_loopw [25] (SpoilTo w1.heap.size W (.slice aa n ca) Z P n) (fun kv _ => n - (intOf kv).toNat)
      case atStart => exact ⟨0, Nat.zero_le _, rfl, Lib.hid ⟨Kp.refl _, HS.out.2.1, KeepsOthers.refl _⟩⟩
      case round =>
        obtain ⟨i, hi, rfl, hst⟩ := hrel
        generalize hw5 : wr = W1 at *; clear hw5
        by_cases hlt : i < n
        · obtain ⟨⟨qr, aq, cq⟩, hz⟩ : ∃ x, Z[i]? = some x := ⟨_, List.getElem?_eq_getElem (by rw [HS.out.2.2]; exact hlt)⟩
          obtain ⟨rb, cap, ev, c3⟩ := RelRoom.cell hst.out.2.1 hz
          simp only [Value.slice.injEq] at ev
          obtain ⟨rfl, -, rfl⟩ := ev
          obtain ⟨ps, eps⟩ : ∃ ps, P i = ps := ⟨_, rfl⟩
          have hpl : ps.length ≤ 65536 := by
            rw [← eps, (hst.out.2.1.2 i _ hz).1]
            exact HL.out.2.2.2.2.1 _ (HZL.out i _ hz)
          have HI := Lib.hid (And.intro hz (And.intro eps hpl))
          have i1 : (i : Int) < (n : Int) := by omega
          clear hz hlt c3 eps hpl
          go_wp2_with fail
          go_loopw [26] (SpoilTo w1.heap.size W (.slice (some ⟨rb, 0, none⟩) n ca) Z P ps.length) (fun kv _ => ps.length - (intOf kv).toNat)
          case atStart => exact ⟨0, Nat.zero_le _, rfl, hst⟩
          case round =>
            clear hst
            obtain ⟨j, hj, rfl, hst⟩ := hrel
            generalize hw5 : wr = W2 at *; clear hw5
            have c3 := RelRoom.cell' hst.out.2.1 HI.out.1
            rw [HI.out.2.1] at c3
            by_cases hlt2 : j < ps.length
            · obtain ⟨⟨⟨ax, mx, cx⟩, tt⟩, hp⟩ : ∃ p, ps[j]? = some p := ⟨_, List.getElem?_eq_getElem hlt2⟩
              obtain ⟨gr, ro, eaq, c4⟩ := RelRoom.rowCell hst.out.2.1 HI.out.1 (by rw [HI.out.2.1]; exact hp)
              simp only at eaq
              subst eaq
              obtain ⟨_, hmx, htl⟩ := (hst.out.2.1.2 i _ HI.out.1).2.2 _ (by rw [HI.out.2.1]; exact List.mem_of_getElem? hp)
              simp only at hmx htl
              subst hmx
              have HJ := Lib.hid (And.intro hp htl)
              have j1 : (j : Int) < (ps.length : Int) := by omega
              have hpl := HI.out.2.2
              clear hp htl hlt2
              go_wp2_with fail
              go_loopw [27] (SpoilTo w1.heap.size W (.slice (some ⟨rb, 0, none⟩) n ca) Z P tt.length) (fun kv _ => tt.length - (intOf kv).toNat)
              case atStart => exact ⟨0, Nat.zero_le _, rfl, hst⟩
              case round =>
                clear c3 c4 hst
                obtain ⟨t, ht, rfl, hst⟩ := hrel
                generalize hw5 : wr = W3 at *; clear hw5
                have c3 := RelRoom.cell' hst.out.2.1 HI.out.1
                rw [HI.out.2.1] at c3
                obtain ⟨gr', ro', eaq, c4⟩ := RelRoom.rowCell hst.out.2.1 HI.out.1 (by rw [HI.out.2.1]; exact HJ.out.1)
                simp only [Option.some.injEq, Addr.mk.injEq] at eaq
                obtain ⟨rfl, rfl, _⟩ := eaq
                by_cases hlt3 : t < tt.length
                · obtain h0 | ⟨g9, cap9, cs9, e9, hg9, hB9, hl9⟩ := ((hst.out.2.1.2 i _ HI.out.1).2.2 _ (by rw [HI.out.2.1]; exact List.mem_of_getElem? HJ.out.1)).1
                  · have h0 : tt.length = 0 := h0
                    omega
                  · cases e9
                    have hl9 : tt.length ≤ cs9.length := hl9
                    obtain ⟨v8, c8⟩ : ∃ v8, W3.cell? ⟨g9, t, none⟩ = some v8 := ⟨_, hB9.cell t (by omega)⟩
                    have c9 := hB9.free t
                    have b1 : (t : Int) < (tt.length : Int) := by omega
                    have HB9 := Lib.hid (show Kp (fun g => w1.heap.size ≤ g) W (W3.setCell ⟨g9, t, none⟩ (.string ⟨#[115, 112, 111, 105, 108, 116]⟩)) ∧ RelRoom w1.heap.size (W3.setCell ⟨g9, t, none⟩ (.string ⟨#[115, 112, 111, 105, 108, 116]⟩)) (.slice (some ⟨rb, 0, none⟩) n ca) Z P ∧ KeepsOthers W (W3.setCell ⟨g9, t, none⟩ (.string ⟨#[115, 112, 111, 105, 108, 116]⟩)) from ⟨hst.out.1.setCell (fun _ => hg9) _, hst.out.2.1.set hB9 t _, hst.out.2.2.trans (KeepsOthers.setCell _ _ _)⟩)
                    have htl := HJ.out.2
                    clear hB9 hst hg9 hl9 hlt3
                    go_wp2
                    go_roundw
                    case rel => exact ⟨t + 1, by omega, by go_num, HB9⟩
                    case measure => first | (simp [intOf]; done) | (simp [intOf]; omega)
                · obtain rfl : t = tt.length := by omega
                  go_wp2
                  go_roundw
                  case rel => exact ⟨j + 1, by omega, by first | rfl | (congr 1; done) | (congr 1; omega), hst⟩
                  case measure => first | (simp [intOf]; done) | (simp [intOf]; omega)
            · obtain rfl : j = ps.length := by omega
              have hn8 := HN8.out
              have hpl := HI.out.2.2
              go_wp2
              go_roundw
              case rel => exact ⟨i + 1, by omega, by first | rfl | (congr 1; done) | (congr 1; omega), hst⟩
              case measure => first | (simp [intOf]; done) | (simp [intOf]; omega)
        · obtain rfl : n = i := by omega
          have HW1' := Lib.hid (show Ext w W1 ∧ Marks w13.heap.size W1 ds ∧ RelsIn (fun g => w.heap.size ≤ g ∧ g < w1.heap.size) W1 aw L from ⟨HS.out.1.1.trans' hst.out.1 fun g hg h => by have := HZ0.out.1; omega, HS.out.1.2.others hst.out.2.2, (HW1.out.2.ext ((HW2.out.2.2.2.trans HW13.out.2.1).trans HEX.out)).kp hst.out.1 fun g hg h => by omega⟩)
          clear hst hlt hi
          go_wp2_with fail
          go_loopw [28] (SameTo W1) (fun kv _ => 3 - (intOf kv).toNat)
          case atStart => exact ⟨0, Nat.zero_le _, rfl, Lib.hid (Kp.refl _)⟩
          case round =>
            obtain ⟨m, hm, rfl, hex5⟩ := hrel
            generalize hw5 : wr = W5 at *; clear hw5
            by_cases hlt : m < 3
            · obtain ⟨pi, qi, epi, eqi⟩ := (H.out.1.place m hlt).ptrs
              obtain ⟨bs, ebs⟩ : ∃ bs, sameB (D k) (D m) = bs := ⟨_, rfl⟩
              have tb : (bs != bs) = false := by cases bs <;> rfl
              have HE5 := Lib.hid (show Ext w W5 from HW1'.out.1.trans hex5.out)
              have HCi := Lib.hid (show ∀ W, Ext w W → W.cell? ⟨sd, m, none⟩ = some (.pointer pi) ∧ W.cell? ⟨sd, 3 + m, none⟩ = some (.pointer qi) from fun W hW => by
                have d1 := H.out.1.cb hlt
                have d2 := H.out.1.cm hlt
                rw [epi] at d1
                rw [eqi] at d2
                exact ⟨hW.cell d1 id, hW.cell d2 id⟩)
              have HSM := Lib.hid (show ∀ (W : World), Ext w W → Calls Tryz.prog 26 #[.pointer p, .pointer pi] W (RetN W fun w' v => v = .bool bs) from fun W hW => by
                rw [← epi, ← ebs]
                exact (ShelfAt.same' (H.out.1.ext hW) H.out.2.1 hlt H.out.2.2.1).1)
              have HMM := Lib.hid (show ∀ (W : World), Ext w W → Calls Tryz.prog 88 #[(D k).mv, .pointer qi] W (RetN W fun w' v => v = .bool bs) from fun W hW => by
                rw [← eqi, ← ebs]
                exact (ShelfAt.same' (H.out.1.ext hW) H.out.2.1 hlt H.out.2.2.1).2)
              rw [H.out.2.2.2] at HMM
              have i1 : (m : Int) < 3 := by omega
              have i2 : (0 : Int) ≤ (m : Int) := by omega
              have HE6 := Lib.hid hex5.out
              clear epi eqi ebs hex5
              go_wp2
              refine wp_nopanic ?_
              refine draw_begin (fun w' : World => w'.cell? ⟨sd, m, none⟩ = some (.pointer pi) ∧ w'.cell? ⟨sd, 3 + m, none⟩ = some (.pointer qi)) [] (by kernel_rfl) (HCi.out _ HE5.out.drew) (fun hHeld => ?_)
              (refine draw_free (i := 0) (v := ?_) rfl ?_ ?_; rotate_left; (intro w; go_simp; try with_reducible rfl)); (try simp only [Act.put, List.setIfInBounds_toArray, List.set_cons_zero, List.set_cons_succ])
              (refine draw_free (i := 1) (v := ?_) rfl ?_ ?_; rotate_left; (intro w; go_simp; try with_reducible rfl)); (try simp only [Act.put, List.setIfInBounds_toArray, List.set_cons_zero, List.set_cons_succ])
              (refine draw_free (i := 2) (v := ?_) rfl ?_ ?_; rotate_left; (intro w; go_simp; try with_reducible rfl)); (try simp only [Act.put, List.setIfInBounds_toArray, List.set_cons_zero, List.set_cons_succ])
              (refine draw_free (i := 3) (v := ?_) rfl ?_ ?_; rotate_left; (intro w; go_simp; try with_reducible rfl)); (try simp only [Act.put, List.setIfInBounds_toArray, List.set_cons_zero, List.set_cons_succ])
              (refine draw_free (i := 4) (v := ?_) rfl ?_ ?_; rotate_left; (intro w; go_simp; try with_reducible rfl)); (try simp only [Act.put, List.setIfInBounds_toArray, List.set_cons_zero, List.set_cons_succ])
              (refine draw_in (i := 5) (v := ?_) rfl ?_ ?_; rotate_left; (intro w hSw; (try dsimp only at hSw); go_simp; try with_reducible rfl)); (try simp only [Act.put, List.setIfInBounds_toArray, List.set_cons_zero, List.set_cons_succ])
              (refine draw_in (i := 6) (v := ?_) rfl ?_ ?_; rotate_left; (intro w hSw; (try dsimp only at hSw); go_simp; try with_reducible rfl)); (try simp only [Act.put, List.setIfInBounds_toArray, List.set_cons_zero, List.set_cons_succ])
              (refine draw_free (i := 8) (v := ?_) rfl ?_ ?_; rotate_left; (intro w; go_simp; try with_reducible rfl)); (try simp only [Act.put, List.setIfInBounds_toArray, List.set_cons_zero, List.set_cons_succ])
              (refine draw_free (i := 9) (v := ?_) rfl ?_ ?_; rotate_left; (intro w; go_simp; try with_reducible rfl)); (try simp only [Act.put, List.setIfInBounds_toArray, List.set_cons_zero, List.set_cons_succ])
              (refine draw_free (i := 10) (v := ?_) rfl ?_ ?_; rotate_left; (intro w; go_simp; try with_reducible rfl)); (try simp only [Act.put, List.setIfInBounds_toArray, List.set_cons_zero, List.set_cons_succ])
              (refine draw_free (i := 11) (v := ?_) rfl ?_ ?_; rotate_left; (intro w; go_simp; try with_reducible rfl)); (try simp only [Act.put, List.setIfInBounds_toArray, List.set_cons_zero, List.set_cons_succ])
              (refine draw_free (i := 12) (v := ?_) rfl ?_ ?_; rotate_left; (intro w; go_simp; try with_reducible rfl)); (try simp only [Act.put, List.setIfInBounds_toArray, List.set_cons_zero, List.set_cons_succ])
              (refine draw_in (i := 13) (v := ?_) rfl ?_ ?_; rotate_left; (intro w hSw; (try dsimp only at hSw); go_simp; try with_reducible rfl)); (try simp only [Act.put, List.setIfInBounds_toArray, List.set_cons_zero, List.set_cons_succ])
              (refine draw_in (i := 14) (v := ?_) rfl ?_ ?_; rotate_left; (intro w hSw; (try dsimp only at hSw); go_simp; try with_reducible rfl)); (try simp only [Act.put, List.setIfInBounds_toArray, List.set_cons_zero, List.set_cons_succ])
              refine draw_one (i := 7) ?_
              refine comes_turn (i := 7) rfl (fun K hK => ?_)
              go_simp
              (refine (HSM.out W5.drew HE5.out.drew).mono ?_; rintro e X6 ⟨v6, rfl, hk6, rfl⟩; have HX6 := Lib.hid (And.intro (HE5.out.drew.trans hk6) (HE6.out.drew.trans hk6)); clear hk6)
              go_wp2_with fail
              refine hK.out _ _ ?_ (fun hHeld => ?_)
              · (try dsimp only); (exact HCi.out _ HX6.out.1)
              clear hK K; (try simp only [Act.put, List.setIfInBounds_toArray, List.set_cons_zero, List.set_cons_succ])
              refine draw_one (i := 15) ?_
              refine comes_turn (i := 15) rfl (fun K hK => ?_)
              go_simp
              (refine (HMM.out X6 HX6.out.1).mono ?_; rintro e X7 ⟨v7, rfl, hk7, rfl⟩; have HX7 := Lib.hid (And.intro (HX6.out.1.trans hk7) (HX6.out.2.trans hk7)); clear hk7)
              go_wp2_with fail
              refine hK.out _ _ ?_ (fun hHeld => ?_)
              · (try dsimp only); (exact HCi.out _ HX7.out.1)
              clear hK K; (try simp only [Act.put, List.setIfInBounds_toArray, List.set_cons_zero, List.set_cons_succ])
              (refine draw_free (i := 16) (v := ?_) rfl ?_ ?_; rotate_left; (intro w; go_simp; try with_reducible rfl)); (try simp only [Act.put, List.setIfInBounds_toArray, List.set_cons_zero, List.set_cons_succ])
              refine wpAnyD_done (by kernel_rfl) ?_ _
              refine nopanic_normal ?_
              clear hHeld
              go_wp2
              go_roundw
              case rel => exact ⟨m + 1, by omega, by first | rfl | (congr 1; done) | (congr 1; omega), Lib.hid HX7.out.2⟩
              case measure => first | (simp [intOf]; done) | (simp [intOf]; omega)
            · obtain rfl : m = 3 := by omega
              have HE5 := Lib.hid (show Ext w W5 ∧ Marks w13.heap.size W5 ds ∧ RelsIn (fun g => w.heap.size ≤ g ∧ g < w1.heap.size) W5 aw L from ⟨HW1'.out.1.trans hex5.out, HW1'.out.2.1.kp hex5.out fun _ h => h.elim, HW1'.out.2.2.ext hex5.out⟩)
              clear hlt hm hex5
              go_wp2_with fail
              refine (HBR.out _ HE5.out.1).mono ?_
              rintro e w15 ⟨va, rfl, hk15, hown⟩
              obtain ⟨ab, cb, eva, -, -, hall⟩ := hown.rels
              rw [HL.out.2.2.2.1] at eva
              subst eva
              have HW15 := Lib.hid (And.intro hk15 hall)
              clear hk15 hown hall
              go_wp2_with fail
              refine (relations_yes ab aw n cb cw HL.out.2.2.2.1.symm HW15.out.2 (HE5.out.2.2.ext HW15.out.1) (by have := HB8.out; omega) (fun q hq => by have := HL.out.2.2.2.2.1 q hq; omega)).mono ?_
              rintro e w16 ⟨v16, rfl, hk16, rfl⟩
              have HW16 := Lib.hid (HW15.out.1.trans hk16)
              clear hk16
              go_wp2
              rw [EQ.out]
              exact shelfTold_ret (HE5.out.2.1.kp HW16.out fun _ h => h.elim) (Nat.le_trans HZ0.out.1 HZ0.out.2) (HE5.out.1.trans HW16.out) rfl
    | _ => exact hq.elim
end
end Go.Proofs.YtfkhelihepbehaaGreat

/- slices at int: swapRangeCmpFunc and rotateCmpFunc: what they do to a row of cells. -/
namespace Go.Proofs.YtfkhelihepbehaaGreat
open Go.RowKit
set_option linter.unusedVariables false

end Go.Proofs.YtfkhelihepbehaaGreat

/- slices.insertionSortCmpFunc at int. -/
namespace Go.Proofs.YtfkhelihepbehaaGreat
open Go.RowKit
set_option linter.unusedVariables false

end Go.Proofs.YtfkhelihepbehaaGreat

/- slices.symMergeCmpFunc at int, the right part of one element. -/
namespace Go.Proofs.YtfkhelihepbehaaGreat
open Go.RowKit
set_option linter.unusedVariables false

end Go.Proofs.YtfkhelihepbehaaGreat

/- slices.symMergeCmpFunc at int. -/
namespace Go.Proofs.YtfkhelihepbehaaGreat
open Go.RowKit
set_option linter.unusedVariables false

end Go.Proofs.YtfkhelihepbehaaGreat

/- slices.symMergeCmpFunc at int, the great case. -/
namespace Go.Proofs.YtfkhelihepbehaaGreat
open Go.RowKit
set_option linter.unusedVariables false

end Go.Proofs.YtfkhelihepbehaaGreat

/- slices.stableCmpFunc and slices.SortStableFunc at int. -/
namespace Go.Proofs.YtfkhelihepbehaaGreat
open Go.RowKit
set_option linter.unusedVariables false

end Go.Proofs.YtfkhelihepbehaaGreat

/- slices.BinarySearchFunc at int, slices.Clone, slices.EqualFunc. -/
namespace Go.Proofs.YtfkhelihepbehaaGreat
open Go.RowKit
set_option linter.unusedVariables false

end Go.Proofs.YtfkhelihepbehaaGreat

/- slices.CompactFunc at int. -/
namespace Go.Proofs.YtfkhelihepbehaaGreat
open Go.RowKit
set_option linter.unusedVariables false

end Go.Proofs.YtfkhelihepbehaaGreat

/- slices.Clone, EqualFunc, Grow, Concat at int. -/
namespace Go.Proofs.YtfkhelihepbehaaGreat
open Go.RowKit
set_option linter.unusedVariables false

end Go.Proofs.YtfkhelihepbehaaGreat

/- tuple.Set at int: what a set is in memory; cmp, alike, Len, Items, find. -/
namespace Go.Proofs.YtfkhelihepbehaaGreat
open Go.RowKit
set_option linter.unusedVariables false

/-- A value that a set may have for its order: nil where all are alike, or a function that holds two of D against each other, in every world in which the blocks of S are as they were. -/
def OrdVInt (P : Program) (S : Nat → Prop) (w0 : World) (ov : Value) (D : Int → Prop) (c : Int → Int → Int) : Prop :=
  (ov = .nilFunc ∧ ∀ x y, D x → D y → c x y = 0) ∨ ∃ f first cap, ov = .func (Fn.func f) first cap ∧ (∀ args w, (callFunc f args).run P w = .ok (Next.enter f args) w) ∧
    ∀ w, Same S w0 w → ∀ x y, D x → D y → Calls P f (first ++ (#[(Value.int .i64 (x)), (Value.int .i64 (y))] ++ cap)) w fun e w' => e = .returned (.int .i64 (c x y)) ∧ Ext w w'

/-- A set in memory: its order, its row, what lies behind them in the same struct. -/
structure SetAtInt (P : Program) (S : Nat → Prop) (w : World) (b : Nat) (ov iv : Value) (tail : List Value) (te : TypeId) (D : Int → Prop) (c : Int → Int → Int) (zs : List (Int)) : Prop where
  blk : Blk w b (ov :: iv :: tail) te
  row : Row w 3 1 iv zs.length (zs.map fun x => (Value.int .i64 (x))) (fun k => iv.ownBlock = some k)
  apart : iv.ownBlock ≠ some b
  inS : ∀ k, S k → k < w.heap.size
  notS : ∀ k, Owns b iv k → ¬ S k
  ord : OrdVInt P S w ov D c
  all : ∀ x ∈ zs, D x
  len : zs.length ≤ 1048576 * 1048576

section
variable {P : Program} {S : Nat → Prop} {w w' : World} {b : Nat} {ov iv : Value} {tail : List Value} {te : TypeId} {D : Int → Prop} {c : Int → Int → Int} {zs : List (Int)}
end

end Go.Proofs.YtfkhelihepbehaaGreat

/- tuple.NewSet at int. -/
namespace Go.Proofs.YtfkhelihepbehaaGreat
open Go.RowKit
set_option linter.unusedVariables false

end Go.Proofs.YtfkhelihepbehaaGreat

/- slices.Insert of one element at int. -/
namespace Go.Proofs.YtfkhelihepbehaaGreat
open Go.RowKit
set_option linter.unusedVariables false

end Go.Proofs.YtfkhelihepbehaaGreat

/- tuple.Set at int: Has, Below, At, Add, Drop, Copy. -/
namespace Go.Proofs.YtfkhelihepbehaaGreat
open Go.RowKit
set_option linter.unusedVariables false

section
variable {S : Nat → Prop} {w : World} {b : Nat} {ov iv : Value} {tail : List Value} {te : TypeId} {D : Int → Prop} {c : Int → Int → Int} {zs : List (Int)}

end
end Go.Proofs.YtfkhelihepbehaaGreat

/- The statements' known(): a set and a base that the document names. -/
namespace Go.Proofs.YtfkhelihepbehaaGreat
open Go.RowKit
set_option linter.unusedVariables false

section
variable {w w' : World} {bb r b : Nat} {n : Int} {S : Nat → Prop} {iv : Value} {arity : Nat} {LL : List (List ByteArray)}
end

end Go.Proofs.YtfkhelihepbehaaGreat

namespace Go.Proofs.YtfkhelihepbehaaGreat
open Go.RowKit
set_option linter.unusedVariables false
theorem num_any (x : Int) (w : World) : Calls Tryz.prog 24 #[.int .i64 x] w (Ret (.int .i64 x) w) := by
  go_enter Tryz.func24, Tryz.ntmps24
  go_wp2
  go_ret
  exact Ret.mk rfl

end Go.Proofs.YtfkhelihepbehaaGreat

/- TupleTurned: the walk. -/
namespace Go.Proofs.YtfkhelihepbehaaGreat
open Go.RowKit
set_option linter.unusedVariables false

theorem LentV.reads {lo : Nat} {w : World} {v : Value} {L : List RelZ} (h : LentV lo w v L) : ∃ a c, v = .slice a L.length c ∧ RelsIn (fun k => lo ≤ k ∧ k < w.heap.size) w a L := by
  obtain ⟨g, cap, rest, vs, rfl, hg, hvs, hB, hl, hn, hc, hx, hp⟩ := h
  refine ⟨_, cap, rfl, fun i q hq => ?_⟩
  obtain ⟨hi, hqe⟩ := List.getElem?_eq_some_iff.1 hq
  obtain ⟨e, he⟩ : ∃ e, vs[i]? = some e := ⟨_, List.getElem?_eq_getElem (by omega)⟩
  have hz : (L.zip vs)[i]? = some (q, e) := by rw [List.getElem?_zip_eq_some]; exact ⟨hq, he⟩
  obtain ⟨hA, hlo, hhi⟩ := hx _ (List.mem_of_getElem? hz)
  obtain ⟨ps, mg, rest2, h1, h2, h3, h4, h5, h6, _, _, _, h10, _⟩ := hA
  have hc' : ∀ c v, c < 3 → (lentCells (q, e))[c]? = some v → w.cell? ⟨g, 0 + i * 3 + c, none⟩ = some v := fun c v hc hv => by
    rw [hB.cell', Nat.zero_add, List.getElem?_append_left (by rw [flat_len lentCells 3 lentCells_len, List.length_zip, hvs, Nat.min_self]; exact Nat.lt_of_lt_of_le (show i * 3 + c < (i + 1) * 3 by omega) (Nat.mul_le_mul_right 3 hi)), flat_get lentCells 3 lentCells_len _ i _ c hz hc]
    exact hv
  refine ⟨g, 0, some ⟨e.1, 0, none⟩, e.2.1, rfl, ⟨hg, hB.lt⟩, hc' 0 _ (by omega) rfl, hc' 1 _ (by omega) rfl, hc' 2 _ (by omega) rfl, by have h5' : q.2.2.1.length + 1 + rest2.length = e.2.1 := h5; omega, h6, ps, h1, CellsAt.pre h4, fun a ha => by cases ha; exact ⟨Nat.le_trans hlo h2, h4.lt⟩, fun p hp => ?_⟩
  obtain ⟨g2, cap2, rs, e2, q1, q2, q3, q4⟩ := (h10 p hp).own hlo
  rw [e2]
  exact ⟨⟨rfl, CellsAt.pre q2⟩, q3, fun a ha => by cases ha; exact ⟨q1, q2.lt⟩⟩

end Go.Proofs.YtfkhelihepbehaaGreat

/- The walk of the statements' helper keptList. -/
namespace Go.Proofs.YtfkhelihepbehaaGreat
open Go.RowKit
set_option linter.unusedVariables false

/-- Rows, relations that stay readable while what came since lo is written (a list without items may lie anywhere). -/
def RowsSt (lo : Nat) (w : World) (ao : Option Addr) (LL : List (List ByteArray)) : Prop := ∀ (F : Nat → Prop) (w' : World), Kp F w w' → (∀ k, F k → lo ≤ k) → RowsIn (fun _ => True) w' ao LL
def RelsSt (lo : Nat) (w : World) (ao : Option Addr) (L : List RelZ) : Prop := ∀ (i : Nat) (q : RelZ), L[i]? = some q → ∃ b off ra rcap, ao = some ⟨b, off, none⟩ ∧ b < lo ∧ w.cell? ⟨b, off + i * 3, none⟩ = some (.string q.1) ∧ w.cell? ⟨b, off + i * 3 + 1, none⟩ = some (.int .i64 q.2.1) ∧ w.cell? ⟨b, off + i * 3 + 2, none⟩ = some (.slice ra q.2.2.1.length rcap) ∧ q.2.2.1.length ≤ rcap ∧ rcap ≤ maxLen ∧ RowsSt lo w ra q.2.2.1
theorem RelsSt.toIn {lo : Nat} {w : World} {ao : Option Addr} {L : List RelZ} (h : RelsSt lo w ao L) : RelsIn (fun _ => True) w ao L := fun i q hq => by
  obtain ⟨b, off, ra, rcap, e, hb, c0, c1, c2, h1, h2, h3⟩ := h i q hq
  exact ⟨b, off, ra, rcap, e, trivial, c0, c1, c2, h1, h2, h3 (fun _ => False) w (Kp.refl w) fun _ x => x.elim⟩
theorem RelsSt.kp {lo : Nat} {F : Nat → Prop} {w w' : World} {ao : Option Addr} {L : List RelZ} (h : RelsSt lo w ao L) (hk : Kp F w w') (hF : ∀ k, F k → lo ≤ k) : RelsSt lo w' ao L := fun i q hq => by
  obtain ⟨b, off, ra, rcap, e, hb, c0, c1, c2, h1, h2, h3⟩ := h i q hq
  have nb : ¬ F b := fun f => by have := hF b f; omega
  exact ⟨b, off, ra, rcap, e, hb, hk.cell c0 nb, hk.cell c1 nb, hk.cell c2 nb, h1, h2, fun F' w2 hk2 hF' => h3 (fun k => F k ∨ F' k) w2 ((hk.mono fun _ _ x => .inl x).trans (hk2.mono fun _ _ x => .inr x)) fun k hk => hk.elim (hF k) (hF' k)⟩
theorem RelsSt.up {lo lo' : Nat} {w : World} {ao : Option Addr} {L : List RelZ} (h : RelsSt lo w ao L) (hl : lo ≤ lo') : RelsSt lo' w ao L := fun i q hq => by
  obtain ⟨b, off, ra, rcap, e, hb, c0, c1, c2, h1, h2, h3⟩ := h i q hq
  exact ⟨b, off, ra, rcap, e, by omega, c0, c1, c2, h1, h2, fun F w2 hk2 hF => h3 F w2 hk2 fun k hk => by have := hF k hk; omega⟩
section
variable {F : Nat → Prop} {lo hi g cap : Nat} {w w' : World} {LL : List (List ByteArray)}
end
/-- Blocks of texts of the relations ahead of i. -/
def KeptF (Z : List (RelZ × LentP)) (w0 : World) (i k : Nat) : Prop := ∃ (j : Nat) (x : RelZ × LentP), j < i ∧ Z[j]? = some x ∧ x.2.2.2.1 ≤ k ∧ k < x.2.2.2.2 ∧ ∃ cs, Blk w0 k cs 9
theorem KeptF.apart {Z : List (RelZ × LentP)} {w0 : World} (hp : Z.Pairwise fun x y => x.2.2.2.2 ≤ y.2.2.2.1) {i k : Nat} {x : RelZ × LentP} (hx : Z[i]? = some x) (h : KeptF Z w0 i k) : ¬ (x.2.2.2.1 ≤ k ∧ k < x.2.2.2.2) := by
  obtain ⟨j, y, hj, hy, h1, h2, _⟩ := h
  have hle : y.2.2.2.2 ≤ x.2.2.2.1 := by
    obtain ⟨l1, e1⟩ := List.getElem?_eq_some_iff.1 hx
    obtain ⟨l2, e2⟩ := List.getElem?_eq_some_iff.1 hy
    have := (List.pairwise_iff_getElem.1 hp) j i l2 l1 hj
    rw [e1, e2] at this
    exact this
  omega
theorem KeptF.up {Z : List (RelZ × LentP)} {w0 : World} {i k : Nat} (h : KeptF Z w0 i k) : KeptF Z w0 (i + 1) k := by
  obtain ⟨j, x, hj, h⟩ := h
  exact ⟨j, x, by omega, h⟩
/-- What the helper knows of the relations that were lent. -/
structure KeptAt (lo hi : Nat) (w : World) (g n cap : Nat) (L : List RelZ) (Z : List (RelZ × LentP)) (rest : List Value) : Prop where
  len : Z.length = n
  at_ : ∀ (i : Nat) (x : RelZ × LentP), Z[i]? = some x → L[i]? = some x.1
  blk : Blk w g (Z.flatMap lentCells ++ .string mark3 :: .int .i64 0 :: .slice none 0 0 :: rest) 52
  room : n + 1 ≤ cap
  cap : cap ≤ maxLen
  rows : ∀ (i : Nat) (x : RelZ × LentP), Z[i]? = some x → LentAt w x ∧ lo ≤ x.2.2.2.1 ∧ x.2.2.2.2 ≤ hi
  apart : Z.Pairwise fun x y => x.2.2.2.2 ≤ y.2.2.2.1
theorem typ_sR : 52 ≠ 9 := by decide
section
variable {lo hi : Nat} {w W : World} {g n cap : Nat} {L : List RelZ} {Z : List (RelZ × LentP)} {rest : List Value} {F : Nat → Prop}
theorem KeptAt.blkAt (h : KeptAt lo hi w g n cap L Z rest) (hk : Kp F w W) (hF : ∀ k, F k → ∃ cs, Blk w k cs 9) : Blk W g (Z.flatMap lentCells ++ .string mark3 :: .int .i64 0 :: .slice none 0 0 :: rest) 52 :=
  h.blk.kp hk fun f => by
    obtain ⟨cs, hb⟩ := hF g f
    exact typ_sR (blk_ne h.blk hb)
theorem KeptAt.mark (h : KeptAt lo hi w g n cap L Z rest) (hk : Kp F w W) (hF : ∀ k, F k → ∃ cs, Blk w k cs 9) : W.cell? ⟨g, n * 3, none⟩ = some (.string mark3) := by
  have hl : (Z.flatMap lentCells).length = n * 3 := by rw [flat_len lentCells 3 lentCells_len, h.len]
  rw [(h.blkAt hk hF).cell', List.getElem?_append_right (by omega), hl, Nat.sub_self]
  rfl
theorem KeptAt.cell (h : KeptAt lo hi w g n cap L Z rest) (hk : Kp F w W) (hF : ∀ k, F k → ∃ cs, Blk w k cs 9) {i : Nat} {x : RelZ × LentP} (hx : Z[i]? = some x) : W.cell? ⟨g, i * 3 + 2, none⟩ = some (.slice (some ⟨x.2.1, 0, none⟩) x.1.2.2.1.length x.2.2.1) := by
  have hi := (List.getElem?_eq_some_iff.1 hx).1
  rw [(h.blkAt hk hF).cell', List.getElem?_append_left (by rw [flat_len lentCells 3 lentCells_len]; omega), flat_get lentCells 3 lentCells_len _ i x 2 hx (by omega)]
  rfl
end
/-- Between two rounds of the outer loop, and of the inner. -/
def KeptO (lo hi : Nat) (w0 : World) (Z : List (RelZ × LentP)) (n : Nat) (iv : Value) (W : World) : Prop := ∃ i : Nat, i ≤ n ∧ iv = .int .i64 i ∧ Hid (Kp (KeptF Z w0 i) w0 W)
def KeptI (w0 : World) (Z : List (RelZ × LentP)) (i : Nat) (ps : List RowP) (m : Nat) (kv : Value) (W : World) : Prop := ∃ k : Nat, k ≤ m ∧ kv = .int .i64 k ∧ Hid (Kp (fun b => KeptF Z w0 i b ∨ ∃ (j : Nat) (p : RowP), j < k ∧ ps[j]? = some p ∧ p.1.1 = some ⟨b, 0, none⟩) w0 W)
theorem KeptF.str {Z : List (RelZ × LentP)} {w0 : World} {i k : Nat} (h : KeptF Z w0 i k) : ∃ cs, Blk w0 k cs 9 := by
  obtain ⟨_, _, _, _, _, _, h⟩ := h
  exact h
theorem LentV.keptAt {lo : Nat} {wl w : World} {v : Value} {L : List RelZ} (h : LentV lo wl v L) (hw : Ext wl w) : ∃ g cap rest Z, v = .slice (some ⟨g, 0, none⟩) L.length cap ∧ KeptAt lo wl.heap.size w g L.length cap L Z rest := by
  obtain ⟨g, cap, rest, vs, rfl, hg, hvs, hB, hlen, hcn, hcm, hx, hp⟩ := h
  have hz : ∀ (i : Nat) (x : RelZ × LentP), (L.zip vs)[i]? = some x → L[i]? = some x.1 := fun i x hx => (List.getElem?_zip_eq_some.1 hx).1
  exact ⟨g, cap, rest, L.zip vs, rfl, by rw [List.length_zip, hvs]; exact Nat.min_self _, hz, hB.ext hw, hcn, hcm, fun i x h => ⟨(hx x (List.mem_of_getElem? h)).1.ext hw, (hx x (List.mem_of_getElem? h)).2⟩, hp⟩

set_option maxRecDepth 100000 in
set_option maxHeartbeats 8000000 in
theorem keptList_any {L : List RelZ} {v : Value} {lo : Nat} {wl w : World} {la : Option Addr} {n lcap : Nat} (hv : LentV lo wl v L) (hw : Ext wl w) (hn : n = L.length) (hL : RelsSt lo w la L) (hl : n ≤ 1048576) (hr : ∀ q ∈ L, q.2.2.1.length ≤ 1048576) (hs : ∀ q ∈ L, ∀ s ∈ q.2.2.1, s.length ≤ 1048576 ∧ ∀ t ∈ s, t.size ≤ 1048576) :
    Calls Tryz.prog 72 #[v, .slice la n lcap] w (RetF (fun k => lo ≤ k ∧ k < wl.heap.size) w fun _ u => u = .bool true) := by
  obtain ⟨ga, ca, ev, hread⟩ := (hv.ext hw).reads
  obtain ⟨g, cap, rest, Z, rfl, hK⟩ := hv.keptAt hw
  simp only [Value.slice.injEq] at ev
  obtain ⟨rfl, -, rfl⟩ := ev
  rw [← hn] at hK ⊢
  have hroom := hK.room
  have hcapm := hK.cap
  have HK := Lib.hid (And.intro hK (And.intro hroom hcapm))
  have HL := Lib.hid hL
  have HN := Lib.hid (And.intro hn (And.intro hl (And.intro hr hs)))
  have HR := Lib.hid hread
  clear hv hw hn hL hl hr hs hread hK hroom hcapm
  go_enter Tryz.func72, Tryz.ntmps72
  go_wp2_with fail
  refine (relations_yes _ la n cap lcap HN.out.1 HR.out HL.out.toIn (by have := HN.out.2.1; omega) HN.out.2.2.1).mono ?_
  rintro e w1 ⟨v1, rfl, hk1, rfl⟩
  have hn8 := HN.out.2.1
  have hroom := HK.out.2.1
  have hcapm := HK.out.2.2
  unfold maxLen at hcapm
  have c0 : w1.cell? ⟨g, n * 3, none⟩ = some (.string ⟨#[60, 109, 97, 114, 107, 62]⟩) := HK.out.1.mark (Ext.kp (F := fun _ => False) hk1) (fun k f => f.elim)
  have HX1 := Lib.hid hk1
  clear hk1
  go_wp2_with fail
  clear c0
  go_loopw [6] (KeptO lo wl.heap.size w Z n) (fun iv _ => n - (intOf iv).toNat)
  case atStart => exact ⟨0, Nat.zero_le _, rfl, Lib.hid (Ext.kp HX1.out)⟩
  case round =>
    obtain ⟨i, hi, rfl, hex⟩ := hrel
    generalize hw5 : wr = W at *; clear hw5
    by_cases hlt : i < n
    · obtain ⟨⟨q, pp⟩, hz⟩ : ∃ x, Z[i]? = some x := ⟨_, List.getElem?_eq_getElem (by rw [HK.out.1.len]; exact hlt)⟩
      have hq := HK.out.1.at_ i _ hz
      simp only at hq
      have HZ := Lib.hid (And.intro hz hq)
      obtain ⟨b, off, ra, rcap, rfl, hb, -, -, d2, -, -, hrows⟩ := HL.out i q hq
      obtain ⟨pg, pc, p3, p4⟩ := pp
      obtain ⟨hLA, hlo3, hhi4⟩ := HK.out.1.rows i _ hz
      have hLR : LentRows p3 p4 w pg pc q.2.2.1 := hLA
      have hlo3' : lo ≤ p3 := hlo3
      have hhi4' : p4 ≤ wl.heap.size := hhi4
      obtain ⟨ps, mg, rest2, e1, r1, r2, hB2, hl2, hc2, m1, m2, hBm, hrow, hpw⟩ := hLR
      obtain ⟨m, em⟩ : ∃ m, q.2.2.1.length = m := ⟨_, rfl⟩
      have hpm : ps.length = m := by rw [← em, e1]; simp
      have hq1 := HN.out.2.2.1 q (List.mem_of_getElem? hq)
      rw [em] at d2 hl2 hq1
      have hF0 : ∀ k, KeptF Z w i k → (∃ cs, Blk w k cs 9) ∧ lo ≤ k ∧ ¬ (p3 ≤ k ∧ k < p4) := fun k hk => ⟨hk.str, by
        obtain ⟨j, x, _, hx, h1, _⟩ := hk
        have h2 := (HK.out.1.rows j x hx).2.1
        omega, hk.apart HK.out.1.apart hz⟩
      have HC := Lib.hid (show ∀ (F : Nat → Prop) W', Kp F w W' → (∀ k, F k → (∃ cs, Blk w k cs 9) ∧ lo ≤ k) → W'.cell? ⟨g, i * 3 + 2, none⟩ = some (.slice (some ⟨pg, 0, none⟩) m pc) ∧ W'.cell? ⟨b, off + i * 3 + 2, none⟩ = some (.slice ra m rcap) ∧ Blk W' pg (rowVs ps ++ .slice (some ⟨mg, 0, none⟩) 1 1 :: rest2) 29 ∧ RowsIn (fun _ => True) W' ra q.2.2.1 from fun F W' hk hF => by
        have h1 := HK.out.1.cell hk (fun k f => (hF k f).1) hz
        simp only at h1
        rw [em] at h1
        exact ⟨h1, hk.cell d2 (fun f => by have := (hF b f).2; omega), hB2.kp hk (fun f => by
          obtain ⟨cs, hb⟩ := (hF pg f).1
          exact typ_ls (blk_ne hB2 hb)), hrows F W' hk fun k f => (hF k f).2⟩)
      obtain ⟨c1, d2', hBW, hrW⟩ := HC.out _ W hex.out fun k f => ⟨(hF0 k f).1, (hF0 k f).2.1⟩
      have hBm' : Blk W mg [.string mark3] 9 := hBm.kp hex.out fun f => (hF0 mg f).2.2 ⟨m1, m2⟩
      have c3 : W.cell? ⟨pg, m, none⟩ = some (.slice (some ⟨mg, 0, none⟩) 1 1) := by
        rw [hBW.cell', List.getElem?_append_right (by rw [rowVs_len, hpm]; exact Nat.le_refl _), rowVs_len, hpm, Nat.sub_self]
        rfl
      have hcm : m + 1 ≤ pc := by omega
      have hc3 : pc ≤ 2 ^ 63 - 1 := by unfold maxLen at hc2; omega
      have HW := Lib.hid (And.intro hex.out (And.intro hF0 (And.intro hpw (And.intro hBm' (And.intro em (And.intro hrow (And.intro e1 (And.intro hpm (And.intro hlo3' hhi4')))))))))
      have HM8 := Lib.hid hq1
      have i1 : (i : Int) < (n : Int) := by omega
      clear hex hrows hBm hBm' em hB2 hl2 hc2 e1 hpm hb hz hq hlt hi hF0 hBW hrW hpw hrow hlo3 hhi4 hlo3' hhi4' hLA d2 r1 r2 m1 m2
      go_wp2_with fail
      have hxa : Ext W (W.alloc (.cells #[.string ⟨#[60, 109, 97, 114, 107, 62]⟩] 9)) := (Kp.refl W).alloc _
      refine (same_yes [⟨#[60, 109, 97, 114, 107, 62]⟩] (some ⟨mg, 0, none⟩) (some ⟨W.heap.size, 0, none⟩) 1 1 _ (CellsAt.pre (rest := []) (by rw [List.append_nil]; exact HW.out.2.2.2.1.ext hxa)) (CellsAt.pre (rest := []) (by rw [List.append_nil]; exact Blk.new W _ _)) (by decide)).mono ?_
      rintro e w' ⟨rfl, n5, rfl⟩
      have hx5 := hxa.drewN n5
      obtain ⟨W5, eW5⟩ : ∃ W5, (W.alloc (.cells #[.string ⟨#[60, 109, 97, 114, 107, 62]⟩] 9)).drewN n5 = W5 := ⟨_, rfl⟩
      rw [eW5] at hx5 ⊢
      have HX5 := Lib.hid (HW.out.1.ext hx5)
      clear hxa eW5 hx5 c1 d2' c3
      go_wp2_with fail
      go_loopw [8] (KeptI w Z i ps m) (fun kv _ => m - (intOf kv).toNat)
      case atStart => exact ⟨0, Nat.zero_le _, rfl, Lib.hid (HX5.out.mono fun k _ h => .inl h)⟩
      case round =>
        obtain ⟨k, hk, rfl, hex⟩ := hrel
        generalize hw5 : wr = W6 at *; clear hw5
        have hFK : ∀ b, (KeptF Z w i b ∨ ∃ (j : Nat) (p : RowP), j < k ∧ ps[j]? = some p ∧ p.1.1 = some ⟨b, 0, none⟩) → (∃ cs, Blk w b cs 9) ∧ lo ≤ b := fun b hb => by
          rcases hb with hb | ⟨j, p, _, hp, e⟩
          · exact ⟨(HW.out.2.1 b hb).1, (HW.out.2.1 b hb).2.1⟩
          · obtain ⟨g2, c2, r2, e2, l1, l2, hB, _⟩ := HW.out.2.2.2.2.2.1 p (List.mem_of_getElem? hp)
            rw [e2] at e
            cases e
            exact ⟨⟨_, hB⟩, by have := HW.out.2.2.2.2.2.2.2.2.1; omega⟩
        have HFK := Lib.hid hFK
        by_cases hlt : k < m
        · obtain ⟨p, hp⟩ : ∃ p, ps[k]? = some p := ⟨_, List.getElem?_eq_getElem (by rw [HW.out.2.2.2.2.2.2.2.1]; exact hlt)⟩
          obtain ⟨gk, ck, rk, e2, l1, l2, hBk, hlk, hck, hsk⟩ := HW.out.2.2.2.2.2.1 p (List.mem_of_getElem? hp)
          obtain ⟨px, ss⟩ := p
          simp only at e2 hlk hsk hBk
          subst e2
          have hBk' : Blk W6 gk (strs (ss ++ [mark1, mark2]) ++ rk) 9 := hBk.kp hex.out fun f => by
            rcases f with f | ⟨j, p, hj, hpj, e⟩
            · exact (HW.out.2.1 gk f).2.2 ⟨l1, l2⟩
            · obtain ⟨a1, b1⟩ := List.getElem?_eq_some_iff.1 hp
              obtain ⟨a2, b2⟩ := List.getElem?_eq_some_iff.1 hpj
              have := (List.pairwise_iff_getElem.1 HW.out.2.2.1) j k a2 a1 hj
              rw [b1, b2] at this
              exact this e
          obtain ⟨c1, d2, hBW, ⟨ps', e1', hcr, _, hrd⟩⟩ := HC.out _ W6 hex.out hFK
          have c3 := hBW.cell' k
          rw [List.getElem?_append_left (by rw [rowVs_len, HW.out.2.2.2.2.2.2.2.1]; exact hlt), rowVs_get ps k _ hp] at c3
          have hmm : ps'.map Prod.snd = ps.map Prod.snd := by rw [← e1', HW.out.2.2.2.2.2.2.1]
          obtain ⟨p', hp'⟩ : ∃ p', ps'[k]? = some p' := ⟨_, List.getElem?_eq_getElem (by have := congrArg List.length hmm; simp at this; rw [this, HW.out.2.2.2.2.2.2.2.1]; exact hlt)⟩
          have hss : p'.2 = ss := by
            have h1 := congrArg (fun l => l[k]?) hmm
            simp only [List.getElem?_map, hp, hp', Option.map_some] at h1
            injection h1
          obtain ⟨⟨xa, xn, xc⟩, ss'⟩ := p'
          simp only at hss
          subst hss
          obtain ⟨⟨hxn, hxs⟩, _, _⟩ := hrd _ (List.mem_of_getElem? hp')
          simp only at hxn hxs
          subst hxn
          obtain ⟨rb, ro, rfl, c4⟩ := hcr k _ (rowVs_get ps' k _ hp')
          have hsm := HN.out.2.2.2 q (List.mem_of_getElem? HZ.out.2) ss' (by rw [e1']; exact List.mem_map.2 ⟨_, List.mem_of_getElem? hp', rfl⟩)
          have HCall := Lib.hid (kept_any ss' gk ck xa xc rk W6.drew (hBk'.ext (Kp.refl W6).drew) (by omega) (hxs.ext (Kp.refl W6).drew) (by have := hsm.1; omega) (fun t ht => by have := hsm.2 t ht; omega))
          have HGo := Lib.hid (show KeptI w Z i ps m (.int .i64 ((k : Int) + 1)) W6.drew ∧ ∀ W7, Kp (fun b => b = gk) W6.drew W7 → KeptI w Z i ps m (.int .i64 ((k : Int) + 1)) W7 from by
            have h1 : Kp (fun b => KeptF Z w i b ∨ ∃ (j : Nat) (p : RowP), j < k + 1 ∧ ps[j]? = some p ∧ p.1.1 = some ⟨b, 0, none⟩) w W6.drew := (hex.out.mono fun b _ h => h.imp id fun ⟨j, p, hj, h⟩ => ⟨j, p, by omega, h⟩).drew
            exact ⟨⟨k + 1, by omega, by simp, Lib.hid h1⟩, fun W7 h7 => ⟨k + 1, by omega, by simp, Lib.hid (h1.trans (h7.mono fun b _ e => .inr ⟨k, _, by omega, hp, by rw [e]⟩))⟩⟩)
          have j1 : (k : Int) < (m : Int) := by omega
          have HCs := Lib.hid (And.intro c1 (And.intro c3 (And.intro d2 c4)))
          have hm8 := HM8.out
          clear hBk hBk' hlk hck hsk hBW e1' hcr hrd hmm hp hp' hxs hex hlt hk hsm c1 c3 d2 c4 l1 l2
          go_wp2
          refine wp_nopanic ?_
          refine draw_begin (fun w' : World => w'.cell? ⟨g, i * 3 + 2, none⟩ = some (.slice (some ⟨pg, 0, none⟩) m pc) ∧ w'.cell? ⟨pg, k, none⟩ = some (.slice (some ⟨gk, 0, none⟩) ss'.length ck) ∧ w'.cell? ⟨b, off + i * 3 + 2, none⟩ = some (.slice (some ⟨rb, ro, none⟩) m rcap) ∧ w'.cell? ⟨rb, ro + k, none⟩ = some (.slice xa ss'.length xc)) [16, 17] (by kernel_rfl) HCs.out (fun hHeld => ?_)
          (refine draw_free (i := 0) (v := ?_) rfl ?_ ?_; rotate_left; (intro w; go_simp; try with_reducible rfl)); (try simp only [Act.put, List.setIfInBounds_toArray, List.set_cons_zero, List.set_cons_succ])
          (refine draw_free (i := 1) (v := ?_) rfl ?_ ?_; rotate_left; (intro w; go_simp; try with_reducible rfl)); (try simp only [Act.put, List.setIfInBounds_toArray, List.set_cons_zero, List.set_cons_succ])
          (refine draw_in (i := 2) (v := ?_) rfl ?_ ?_; rotate_left; (intro w hSw; (try dsimp only at hSw); go_simp; try with_reducible rfl)); (try simp only [Act.put, List.setIfInBounds_toArray, List.set_cons_zero, List.set_cons_succ])
          (refine draw_free (i := 3) (v := ?_) rfl ?_ ?_; rotate_left; (intro w; go_simp; try with_reducible rfl)); (try simp only [Act.put, List.setIfInBounds_toArray, List.set_cons_zero, List.set_cons_succ])
          (refine draw_in (i := 4) (v := ?_) rfl ?_ ?_; rotate_left; (intro w hSw; (try dsimp only at hSw); go_simp; try with_reducible rfl)); (try simp only [Act.put, List.setIfInBounds_toArray, List.set_cons_zero, List.set_cons_succ])
          (refine draw_free (i := 5) (v := ?_) rfl ?_ ?_; rotate_left; (intro w; go_simp; try with_reducible rfl)); (try simp only [Act.put, List.setIfInBounds_toArray, List.set_cons_zero, List.set_cons_succ])
          (refine draw_in (i := 6) (v := ?_) rfl ?_ ?_; rotate_left; (intro w hSw; (try dsimp only at hSw); go_simp; try with_reducible rfl)); (try simp only [Act.put, List.setIfInBounds_toArray, List.set_cons_zero, List.set_cons_succ])
          (refine draw_in (i := 7) (v := ?_) rfl ?_ ?_; rotate_left; (intro w hSw; (try dsimp only at hSw); go_simp; try with_reducible rfl)); (try simp only [Act.put, List.setIfInBounds_toArray, List.set_cons_zero, List.set_cons_succ])
          (refine draw_free (i := 8) (v := ?_) rfl ?_ ?_; rotate_left; (intro w; go_simp; try with_reducible rfl)); (try simp only [Act.put, List.setIfInBounds_toArray, List.set_cons_zero, List.set_cons_succ])
          (refine draw_free (i := 9) (v := ?_) rfl ?_ ?_; rotate_left; (intro w; go_simp; try with_reducible rfl)); (try simp only [Act.put, List.setIfInBounds_toArray, List.set_cons_zero, List.set_cons_succ])
          (refine draw_in (i := 10) (v := ?_) rfl ?_ ?_; rotate_left; (intro w hSw; (try dsimp only at hSw); go_simp; try with_reducible rfl)); (try simp only [Act.put, List.setIfInBounds_toArray, List.set_cons_zero, List.set_cons_succ])
          (refine draw_free (i := 11) (v := ?_) rfl ?_ ?_; rotate_left; (intro w; go_simp; try with_reducible rfl)); (try simp only [Act.put, List.setIfInBounds_toArray, List.set_cons_zero, List.set_cons_succ])
          (refine draw_in (i := 12) (v := ?_) rfl ?_ ?_; rotate_left; (intro w hSw; (try dsimp only at hSw); go_simp; try with_reducible rfl)); (try simp only [Act.put, List.setIfInBounds_toArray, List.set_cons_zero, List.set_cons_succ])
          (refine draw_free (i := 13) (v := ?_) rfl ?_ ?_; rotate_left; (intro w; go_simp; try with_reducible rfl)); (try simp only [Act.put, List.setIfInBounds_toArray, List.set_cons_zero, List.set_cons_succ])
          (refine draw_in (i := 14) (v := ?_) rfl ?_ ?_; rotate_left; (intro w hSw; (try dsimp only at hSw); go_simp; try with_reducible rfl)); (try simp only [Act.put, List.setIfInBounds_toArray, List.set_cons_zero, List.set_cons_succ])
          (refine draw_in (i := 15) (v := ?_) rfl ?_ ?_; rotate_left; (intro w hSw; (try dsimp only at hSw); go_simp; try with_reducible rfl)); (try simp only [Act.put, List.setIfInBounds_toArray, List.set_cons_zero, List.set_cons_succ])
          refine draw_one (i := 16) ?_
          refine comes_late (i := 16) rfl (by kernel_rfl) (fun K hK => ?_)
          go_simp
          (refine HCall.out.mono ?_; rintro e W7 ⟨v7, rfl, hk7, rfl⟩; have HI7 := Lib.hid (HGo.out.2 _ hk7); clear hk7)
          go_wp2_with fail
          refine hK.out _ _ ?_
          clear hK K; (try simp only [Act.put, List.setIfInBounds_toArray, List.set_cons_zero, List.set_cons_succ])
          refine draw_one (i := 17) ?_
          refine comes_late (i := 17) rfl (by kernel_rfl) (fun K hK => ?_)
          go_simp
          refine hK.out _ _ ?_
          clear hK K; (try simp only [Act.put, List.setIfInBounds_toArray, List.set_cons_zero, List.set_cons_succ])
          refine wpAnyD_done (by kernel_rfl) ?_ _
          refine nopanic_normal ?_
          go_wp2
          go_roundw
          case rel => exact HI7.out
          case measure => first | (simp [intOf]; done) | (simp [intOf]; omega)
        · obtain rfl : m = k := by omega
          have HEnd := Lib.hid (show Kp (KeptF Z w (i + 1)) w W6 from hex.out.mono fun b _ hb => by
            rcases hb with hb | ⟨j, p, _, hp, e⟩
            · exact hb.up
            · obtain ⟨g2, c2, r2, e2, l1, l2, hB, _⟩ := HW.out.2.2.2.2.2.1 p (List.mem_of_getElem? hp)
              rw [e2] at e
              cases e
              exact ⟨i, _, by omega, HZ.out.1, l1, l2, _, hB⟩)
          have hn8 := HN.out.2.1
          clear hex hFK
          go_wp2
          go_roundw
          case rel => exact ⟨i + 1, by omega, by first | rfl | (congr 1; done) | (congr 1; omega), HEnd⟩
          case measure => first | (simp [intOf]; done) | (simp [intOf]; omega)
    · obtain rfl : n = i := by omega
      go_wp2
      go_ret
      exact RetF.mk (hex.out.mono fun k _ ⟨j, x, _, hx, h1, h2, _⟩ => ⟨Nat.le_trans (HK.out.1.rows j x hx).2.1 h1, Nat.lt_of_lt_of_le h2 (HK.out.1.rows j x hx).2.2⟩) rfl
end Go.Proofs.YtfkhelihepbehaaGreat

/- shelf.step: what a step is handed and what it leaves. -/
namespace Go.Proofs.YtfkhelihepbehaaGreat
open Go.RowKit Go.Shelf
set_option linter.unusedVariables false

/-- What a step leaves. -/
def StepPostS (lo sd : Nat) (NM : List ByteArray) (w' : World) (v : Value) : Prop := v = .bool true ∧ ∃ S D, ShelfAt S w' sd D ∧ ShelfLo lo D sd ∧ ∀ k, k < 3 → ∀ e ∈ (D k).E, e.name ∈ NM
/-- What a step is handed. -/
structure StepInS (lo sd : Nat) (NM : List ByteArray) (S : Nat → Prop) (D : Nat → Place) (name : ByteArray) (ao : Option Addr) (ss : List ByteArray) (la : Option Addr) (L : List RelZ) (w : World) : Prop where
  b : ShelfAt S w sd D
  l : ShelfLo lo D sd
  lw : lo ≤ w.heap.size
  nm : ∀ k, k < 3 → ∀ e ∈ (D k).E, e.name ∈ NM
  few : NM.length ≤ 1048576
  row : CellsAt w ao (strs ss)
  rlo : ss = [] ∨ ∀ a, ao = some a → a.block < lo
  len : ss.length ≤ 1048576
  size : ∀ s ∈ ss, s.size ≤ 1048576
  nin : name ∈ NM
  rel : RelsSt lo w la L
  rln : L.length ≤ 1048576
  rrn : ∀ q ∈ L, q.2.2.1.length ≤ 1048576
  rss : ∀ q ∈ L, ∀ s ∈ q.2.2.1, s.length ≤ 1048576 ∧ ∀ t ∈ s, t.size ≤ 1048576
  rnm : ∀ q ∈ L, q.1 ∈ NM
theorem StS.inRow {lo sd gi ob : Nat} {w0 W : World} {ss : List ByteArray} {rest co : List Value} {NM : List ByteArray} {S : Nat → Prop} {D : Nat → Place} {cap : Nat} (h : StS lo w0 sd gi ob (strs (ss ++ [mark1, mark2]) ++ rest) co NM S D W) (hl : ss.length ≤ 1048576) :
    RowIn W (some ⟨gi, 0, none⟩, ss.length, cap) ss ∧ ∀ k, k < 3 → RowOff (some ⟨gi, 0, none⟩, ss.length, cap) (D k).ow := by
  have hB := h.gB
  rw [strs_snoc2, List.append_assoc] at hB
  exact ⟨⟨⟨rfl, CellsAt.pre hB⟩, by omega, fun a e => by cases e; exact hB.lt⟩, fun k hk a e ho => by cases e; exact (h.gO.2.2 k hk).1 ho⟩
/-- Behind what was kept. -/
theorem StS.spent {lo sd gi ob : Nat} {w0 W W1 : World} {cg co : List Value} {NM : List ByteArray} {S : Nat → Prop} {D : Nat → Place} (h : StS lo w0 sd gi ob cg co NM S D W) (hk : Kp (fun g => g = gi) W W1) (hob : ob ≠ gi) :
    ShelfAt S W1 sd D ∧ Blk W1 ob co 68 ∧ Kp (fun g => lo ≤ g) w0 W1 := by
  have nO := h.gO
  refine ⟨⟨h.b.blk.kp hk fun e => nO.2.1 e.symm, fun k hk' => ?_, h.b.bb, h.b.bm, h.b.mm, h.b.off, h.b.offS, fun k hk' => Nat.lt_of_lt_of_le (h.b.inS k hk') hk.size⟩, h.oB.kp hk hob, h.kp.trans (hk.mono fun g _ e => by rw [e]; exact h.gL)⟩
  have hp := h.b.place k hk'
  exact ⟨hp.b.kp hk (fun g e ho => by subst e; exact (nO.2.2 k hk').1 ho) (fun g e hs => by subst e; exact nO.1 hs), hp.m.kp hk (fun g e ho => by subst e; exact (nO.2.2 k hk').2 ho) (fun g e hs => by subst e; exact nO.1 hs), hp.both, hp.same, hp.few⟩
theorem StS.next4 {lo sd gi ob : Nat} {w0 W : World} {cg co : List Value} {NM : List ByteArray} {S : Nat → Prop} {D : Nat → Place} (h : StS lo w0 sd gi ob cg co NM S D W) {nx : Nat} (hn : nx < 3) (v : Value) : (W.setCell ⟨sd, nx, none⟩ v).cell? ⟨sd, 3 + nx, none⟩ = some (D nx).mv := by
  have hb := h.b.blk.set nx v
  rw [hb.cell']
  match nx, hn with
  | 0, _ => rfl
  | 1, _ => rfl
  | 2, _ => rfl
theorem newB_any (S : Nat → Prop) (w : World) (hS : ∀ k, S k → k < w.heap.size) : Calls Tryz.prog 30 #[] w (RetN w fun w' v => ∃ nb r, v = .pointer (some ⟨nb, 0, none⟩) ∧ BaseAt S w' nb r [] ∧ ∀ k, OwnB nb r [] k → w.heap.size ≤ k) := by
  refine (newBase_any w).mono ?_
  rintro e w' ⟨v, rfl, hk, rfl, hB, hM⟩
  refine RetN.mk hk ⟨_, _, rfl, ⟨hB, hM, fun e he => by simp at he, List.Pairwise.nil, fun k hk' => Nat.lt_of_lt_of_le (hS k hk') hk.size, ⟨fun h => by have := hS _ h; omega, fun h => by have := hS _ h; omega⟩, by omega, fun e he => by simp at he, ok_nil⟩, ?_⟩
  rintro k (rfl | rfl | ⟨e, he, _⟩)
  · omega
  · omega
  · simp at he
theorem refNew_any' (S : Nat → Prop) (w : World) (hS : ∀ k, S k → k < w.heap.size) : Calls Tryz.prog 31 #[] w (RetN w fun w' v => ∃ c, v = .pointer (some ⟨c, 0, none⟩) ∧ RefB S w' c [] ∧ w.heap.size ≤ c) := by
  refine (refBNew_any S w hS).mono ?_
  rintro e w' ⟨v, rfl, hk, rfl, hB⟩
  exact RetN.mk hk ⟨_, rfl, hB, Nat.le_refl _⟩
theorem RefOk.copy {G G' : List REnt} (h : RefOk G) (e : cntR G' = cntR G) : RefOk G' :=
  ⟨by rw [e]; exact h.ok, by rw [← cntR_names, e, cntR_names]; exact h.names⟩
theorem nilV_codeN {v u : Value} (h : nilV v = nilV u) (n : Nat) : codeN u n = codeN v n := by unfold codeN; rw [h]
theorem nilV_codeP {v u : Value} (h : nilV v = nilV u) (r : Bool × Nat) : codeP u r = codeP v r := by unfold codeP; rw [h]
section
variable {S : Nat → Prop} {w : World} {p q : Place} {NM : List ByteArray} {s : ByteArray} {ss : List ByteArray} {a : Int}
theorem PlaceAt.codeDecl (h : PlaceAt S w p) (s : ByteArray) (a : Int) : codeN p.mv (declR (cntR p.G) s a) = codeN p.bv (declR (cntE p.E) s a) := by rw [nilV_codeN h.both, same_declR h.same]
theorem PlaceAt.codeAdd (h : PlaceAt S w p) (s : ByteArray) (ss : List ByteArray) : codeP p.mv (addR (cntR p.G) s ss) = codeP p.bv (addR (cntE p.E) s ss) := by rw [nilV_codeP h.both, same_addR h.b.ok h.m.ok.ok h.same]
theorem PlaceAt.codeDrop (h : PlaceAt S w p) (s : ByteArray) (ss : List ByteArray) : codeP p.mv (dropR (cntR p.G) s ss) = codeP p.bv (dropR (cntE p.E) s ss) := by rw [nilV_codeP h.both, same_dropR h.same]
theorem PlaceAt.codeMerge (h : PlaceAt S w p) (h2 : PlaceAt S w q) : codeN p.mv (codeN q.mv (mergeR (cntR p.G) (cntR q.G))) = codeN p.bv (codeN q.bv (mergeR (cntE p.E) (cntE q.E))) := by rw [nilV_codeN h.both, nilV_codeN h2.both, same_mergeR h.b.ok h.m.ok.ok h2.b.ok h2.m.ok.ok h.same h2.same]
theorem listN_same {C C1 D D1 : List CntZ} {v u : Value} (h : nilV v = nilV u) (h1 : SameC C D) (h2 : SameC C1 D1) : SameC (listN v C C1) (listN u D D1) := by
  unfold listN
  rw [h]
  split
  · exact h1
  · exact h2
theorem listN_names {C C1 : List CntZ} {v : Value} (h1 : ∀ t x, getC C t = some x → t ∈ NM) (h2 : ∀ t x, getC C1 t = some x → t ∈ NM) : ∀ t x, getC (listN v C C1) t = some x → t ∈ NM := by
  unfold listN
  split
  · exact h1
  · exact h2
theorem PlaceAt.inNames (h : PlaceAt S w p) (hn : ∀ e ∈ p.E, e.name ∈ NM) : ∀ t x, getC (cntE p.E) t = some x → t ∈ NM := fun t x hx => by
  obtain ⟨e, he, e1⟩ := List.mem_map.1 ((getC_mem h.b.ok.nodup).1 hx)
  have := hn e he
  have e2 : e.name = t := congrArg Prod.fst e1
  rwa [e2] at this
theorem PlaceAt.nDecl (h : PlaceAt S w p) (hn : ∀ e ∈ p.E, e.name ∈ NM) (hs : s ∈ NM) : ∀ t x, getC (listN p.bv (cntE p.E) (declC (cntE p.E) s a)) t = some x → t ∈ NM :=
  listN_names (h.inNames hn) fun t x hx => (names_declC hx).elim (fun e => e ▸ hs) fun ⟨u, hu⟩ => h.inNames hn t u hu
theorem PlaceAt.nAdd (h : PlaceAt S w p) (hn : ∀ e ∈ p.E, e.name ∈ NM) (hs : s ∈ NM) : ∀ t x, getC (listN p.bv (cntE p.E) (addC (cntE p.E) s ss)) t = some x → t ∈ NM :=
  listN_names (h.inNames hn) fun t x hx => (names_addC hx).elim (fun e => e ▸ hs) fun ⟨u, hu⟩ => h.inNames hn t u hu
theorem PlaceAt.nDrop (h : PlaceAt S w p) (hn : ∀ e ∈ p.E, e.name ∈ NM) (hs : s ∈ NM) : ∀ t x, getC (listN p.bv (cntE p.E) (dropC (cntE p.E) s ss)) t = some x → t ∈ NM :=
  listN_names (h.inNames hn) fun t x hx => (names_dropC hx).elim (fun e => e ▸ hs) fun ⟨u, hu⟩ => h.inNames hn t u hu
theorem PlaceAt.nMerge (h : PlaceAt S w p) (h2 : PlaceAt S w q) (hn : ∀ e ∈ p.E, e.name ∈ NM) (hn2 : ∀ e ∈ q.E, e.name ∈ NM) : ∀ t x, getC (listN p.bv (cntE p.E) (listN q.bv (cntE p.E) (if mergeR (cntE p.E) (cntE q.E) = 0 then mergeL (cntE p.E) (cntE q.E) else cntE p.E))) t = some x → t ∈ NM := by
  refine listN_names (h.inNames hn) (listN_names (h.inNames hn) ?_)
  split
  · exact fun t x hx => (names_mergeL h.b.ok.nodup h2.b.ok.nodup hx).elim (fun ⟨u, hu⟩ => h.inNames hn t u hu) fun ⟨u, hu⟩ => h2.inNames hn2 t u hu
  · exact h.inNames hn
theorem PlaceAt.cMerge (h : PlaceAt S w p) (h2 : PlaceAt S w q) : SameC (listN p.bv (cntE p.E) (listN q.bv (cntE p.E) (if mergeR (cntE p.E) (cntE q.E) = 0 then mergeL (cntE p.E) (cntE q.E) else cntE p.E))) (listN p.mv (cntR p.G) (listN q.mv (cntR p.G) (if mergeR (cntR p.G) (cntR q.G) = 0 then mergeL (cntR p.G) (cntR q.G) else cntR p.G))) := by
  refine listN_same h.both h.same (listN_same h2.both h.same ?_)
  rw [same_mergeR h.b.ok h.m.ok.ok h2.b.ok h2.m.ok.ok h.same h2.same]
  split
  · exact same_mergeL h.b.ok h.m.ok.ok h2.b.ok h2.m.ok.ok h.same h2.same
  · exact h.same
end
end Go.Proofs.YtfkhelihepbehaaGreat
