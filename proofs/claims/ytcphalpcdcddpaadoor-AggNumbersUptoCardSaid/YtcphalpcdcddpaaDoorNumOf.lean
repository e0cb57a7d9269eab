/- AggNumbers: Of, the program's and the document's: the first aggregate of a head. -/
import Derived.Test.YtcphalpcdcddpaaDoorNumR
import Derived.Test.YtcphalpcdcddpaaDoorArg
namespace Go.Proofs.YtcphalpcdcddpaaDoor
open Go.RowKit
set_option linter.unusedVariables false

/-- A term: its kind, its text. -/
abbrev TermZ := Int × ByteArray × Unit
noncomputable def shTerm : Shp Tryd.prog TermZ := shStruct 39 (fdCons (shInt 3 .i64 Tryd.underlying3 (by kernel_rfl)) (fdCons (shStr 9 Tryd.underlying9 (by kernel_rfl)) fdNil)) (fs := _) Tryd.underlying39 ⟨_, _, rfl, rfl, rfl, _, _, rfl, rfl, rfl, rfl⟩ (by kernel_rfl)

/-- One term of a list. -/
theorem term_at {w : World} {G : Nat → Prop} {ao : Option Addr} {ts : List TermZ} (h : ElemsAt shTerm w G ao ts) {i : Nat} {t : TermZ} (hi : ts[i]? = some t) :
    ∃ b off, ao = some ⟨b, off, none⟩ ∧ w.cell? ⟨b, off + i * 2, none⟩ = some (.int .i64 t.1) ∧ w.cell? ⟨b, off + i * 2 + 1, none⟩ = some (.string t.2.1) ∧ (Lit.int .i64 t.1).wf = true := by
  obtain ⟨b, off, es, e, _, _, ⟨a1, b1, e1, ⟨e2, hw⟩, ⟨a3, b3, e3, ⟨e4, _⟩, e5⟩⟩, hcell⟩ := h i t hi
  subst e2
  rw [e4, e5] at e3
  rw [e3] at e1
  have h0 := hcell 0 (.int .i64 t.1) (by rw [e1]; rfl)
  have h1 := hcell 1 (.string t.2.1) (by rw [e1]; rfl)
  rw [show shTerm.n = 2 from rfl] at h0 h1
  exact ⟨b, off, e, by simpa using h0, by rw [Nat.add_assoc]; exact h1, hw⟩

/-- An aggregate? -/
def isAgg (t : TermZ) : Bool := decide (4 ≤ t.1 ∧ t.1 ≤ 7)
/-- The first aggregate. -/
def FirstAgg (ts : List TermZ) (i : Nat) (b : Bool) : Prop := (b = true ∧ ∃ t, ts[i]? = some t ∧ isAgg t = true ∧ ∀ (j : Nat) u, j < i → ts[j]? = some u → isAgg u = false) ∨ (b = false ∧ i = 0 ∧ ∀ t ∈ ts, isAgg t = false)
theorem FirstAgg.unique {ts : List TermZ} {i j : Nat} {b c : Bool} (h : FirstAgg ts i b) (h' : FirstAgg ts j c) : i = j ∧ b = c := by
  rcases h with ⟨rfl, t, h1, h2, h3⟩ | ⟨rfl, rfl, h1⟩ <;> rcases h' with ⟨rfl, u, g1, g2, g3⟩ | ⟨rfl, rfl, g1⟩
  · refine ⟨?_, rfl⟩
    rcases Nat.lt_trichotomy i j with h | h | h
    · have := g3 i t h h1; rw [h2] at this; cases this
    · exact h
    · have := h3 j u h g1; rw [g2] at this; cases this
  · have := g1 t (List.mem_of_getElem? h1); rw [h2] at this; cases this
  · have := h1 u (List.mem_of_getElem? g1); rw [g2] at this; cases this
  · exact ⟨rfl, rfl⟩

theorem ofFn_any (k : Int) (s : ByteArray) (w : World) : Calls Tryd.prog 12 #[.agg #[.int .i64 k, .string s]] w (RetN w fun w' v => v = .bool (decide (4 ≤ k ∧ k ≤ 7))) := by
  by_cases h1 : 4 ≤ k
  · by_cases h2 : k ≤ 7
    · go_enter Tryd.func12, Tryd.ntmps12
      go_wp2
      go_ret
      exact RetN.mk ((Kp.refl w).alloc _) (by simp [h1, h2])
    · go_enter Tryd.func12, Tryd.ntmps12
      go_wp2
      go_ret
      exact RetN.mk ((Kp.refl w).alloc _) (by simp [h1, h2])
  · go_enter Tryd.func12, Tryd.ntmps12
    go_wp2
    go_ret
    exact RetN.mk ((Kp.refl w).alloc _) (by simp; omega)

/-- Between two rounds: none so far. -/
def NoAgg (w0 : World) (ts : List TermZ) (n : Nat) (iv : Value) (w : World) : Prop := ∃ i : Nat, i ≤ n ∧ iv = .int .i64 i ∧ Hid (∀ (j : Nat) u, j < i → ts[j]? = some u → isAgg u = false) ∧ Hid (Ext w0 w)
set_option maxRecDepth 100000 in
set_option maxHeartbeats 1000000 in
theorem refOf_any (p : ByteArray) (ts : List TermZ) (ao : Option Addr) (n cap : Nat) (w : World) (G : Nat → Prop) (hn : n = ts.length) (h : ElemsAt shTerm w G ao ts) (hl : n ≤ 1048576) :
    Calls Tryd.prog 7 #[.agg #[.string p, .slice ao n cap]] w (RetN w fun w' v => ∃ i b, v = .tuple #[.int .i64 (i : Nat), .bool b] ∧ FirstAgg ts i b) := by
  have HN := Lib.hid hn; have HE := Lib.hid h; clear hn h
  go_enter Tryd.func7, Tryd.ntmps7
  go_wp2
  obtain ⟨wb, eb⟩ : ∃ wb, w.alloc (.cells #[.string p, .slice ao n cap] 24) = wb := ⟨_, rfl⟩
  rw [eb]
  have hx : Ext w wb := by rw [← eb]; exact (Kp.refl w).alloc _
  have hB : Blk wb w.heap.size [.string p, .slice ao n cap] 24 := by rw [← eb]; exact Blk.new w [Value.string p, .slice ao n cap] _
  have c1 : wb.cell? ⟨w.heap.size, 1, none⟩ = some (.slice ao n cap) := by rw [hB.cell']; rfl
  have HX := Lib.hid hx
  clear hB eb hx
  go_loopw [4] (fun iv wr => wr = wb ∧ NoAgg w ts n iv wb) (fun iv _ => n - (intOf iv).toNat)
  case atStart => exact ⟨rfl, 0, Nat.zero_le _, rfl, fun j u h => by omega, HX.out⟩
  case round =>
    obtain ⟨rfl, i, hi, rfl, hno, hex⟩ := hrel
    by_cases hlt : i < n
    · have hlt' : i < ts.length := by rw [← HN.out]; exact hlt
      obtain ⟨t, ht⟩ : ∃ t, ts[i]? = some t := ⟨_, List.getElem?_eq_getElem hlt'⟩
      obtain ⟨b, off, eao, hc0, hc1, _⟩ := term_at (HE.out.ext hex.out) ht
      subst eao
      obtain ⟨k, ek⟩ : ∃ k, k = t.1 := ⟨_, rfl⟩
      rw [← ek] at hc0
      have HT := Lib.hid (And.intro ht ek)
      clear ht hlt' ek
      by_cases h4 : 4 ≤ k
      · by_cases h7 : k ≤ 7
        · have HA := Lib.hid (show isAgg t = true by unfold isAgg; rw [← HT.out.2]; simp [h4, h7])
          go_wp2
          go_ret2
          exact RetN.mk HX.out ⟨i, true, rfl, .inl ⟨rfl, t, HT.out.1, HA.out, hno.out⟩⟩
        · have HA := Lib.hid (show isAgg t = false by unfold isAgg; rw [← HT.out.2]; simp [h7])
          go_wp2
          go_roundw
          case rel =>
            refine ⟨by first | rfl | trivial, i + 1, by omega, by first | rfl | (congr 1; done) | (congr 1; omega), fun j u hj hu => ?_, hex⟩
            by_cases e : j = i
            · subst e; rw [HT.out.1] at hu; cases hu; exact HA.out
            · exact hno.out j u (by omega) hu
          case measure => simp [intOf]; omega
      · have HA := Lib.hid (show isAgg t = false by unfold isAgg; rw [← HT.out.2]; simp [h4])
        go_wp2
        go_roundw
        case rel =>
          refine ⟨by first | rfl | trivial, i + 1, by omega, by first | rfl | (congr 1; done) | (congr 1; omega), fun j u hj hu => ?_, hex⟩
          by_cases e : j = i
          · subst e; rw [HT.out.1] at hu; cases hu; exact HA.out
          · exact hno.out j u (by omega) hu
        case measure => simp [intOf]; omega
    · go_wp2
      go_ret2
      refine RetN.mk HX.out ⟨0, false, rfl, .inr ⟨rfl, rfl, fun t ht => ?_⟩⟩
      obtain ⟨j, hj, rfl⟩ := List.mem_iff_getElem.1 ht
      exact hno.out j _ (by have := HN.out; omega) (List.getElem?_eq_getElem hj)
end Go.Proofs.YtcphalpcdcddpaaDoor
