/- Texts joined for a claim (Law1, Law2, Law5, Least, Law3, Law4, Law6). -/
import Derived.Test.YtcphalpcdcddpaaBe5
import Derived.Laws.Externs
import Derived.Laws.StructEq
import Derived.Shelf.Abstract
import Derived.StillTailTactics
/- The law of costs: alike, great, ints, terms. -/
namespace Go.Proofs.Ytcphalpcdcddpaa
open Go.RowKit
set_option linter.unusedVariables false
attribute [local go_sem] run_store_float

theorem bits_run (b : Nat) (w : World) : (callFunc 38 #[.float .f64 b]).run Try.prog w = .ok (.value (.int .u64 b)) w := by
  rw [run_callFunc_extern (e := Extern.MathFloatBits.float64bits) Try.func38 (by kernel_rfl) (by kernel_rfl) (by kernel_rfl) (by kernel_rfl)]
  rfl
theorem frombits_run (b : Nat) (w : World) : (callFunc 22 #[.int .u64 b]).run Try.prog w = .ok (.value (.float .f64 b)) w := by
  rw [run_callFunc_extern (e := Extern.MathFloatBits.float64frombits) Try.func22 (by kernel_rfl) (by kernel_rfl) (by kernel_rfl) (by kernel_rfl)]
  rfl
set_option maxRecDepth 100000 in
theorem alike_any (x : Nat) (w : World) : Calls Try.prog 16 #[.float .f64 x, .float .f64 x] w (RetN w fun w' v => v = .bool true) := by
  have hb := bits_run
  go_enter Try.func16, Try.ntmps16
  go_wp2
  go_ret
  exact RetN.mk (Kp.refl w) (by simp)

/-- Two lists of numbers, the same. -/
def SameTo (w0 : World) (n : Nat) (iv : Value) (w : World) : Prop := ∃ i : Nat, i ≤ n ∧ iv = .int .i64 i ∧ Hid (Ext w0 w)
set_option maxRecDepth 100000 in
set_option maxHeartbeats 1000000 in
theorem ints_any (xs : List Int) (ao bo : Option Addr) (n acap bcap : Nat) (w : World) (hn : n = xs.length) (ha : CellsAt w ao (ints xs)) (hb : CellsAt w bo (ints xs)) (hl : n ≤ 4611686018427387904) :
    Calls Try.prog 18 #[.slice ao n acap, .slice bo n bcap] w (RetN w fun w' v => v = .bool true) := by
  have HN := Lib.hid hn; have HA := Lib.hid ha; have HB := Lib.hid hb
  have q1 : ((n : Int) != (n : Int)) = false := by simp
  clear hn ha hb
  go_enter Try.func18, Try.ntmps18
  go_wp2
  go_loopw [5] (fun iv wr => SameTo w n iv wr) (fun iv _ => n - (intOf iv).toNat)
  case atStart => exact ⟨0, Nat.zero_le _, rfl, Kp.refl w⟩
  case round =>
    obtain ⟨i, hi, rfl, hex⟩ := hrel
    by_cases hlt : i < n
    · have hli : i < xs.length := by rw [← HN.out]; exact hlt
      obtain ⟨g1, o1, e1, d1⟩ := (HA.out.ext hex.out).int hli
      obtain ⟨g2, o2, e2, d2⟩ := (HB.out.ext hex.out).int hli
      subst e1 e2
      generalize xs[i] = x at *
      have q2 : (x != x) = false := by simp
      have q3 : (x == x) = true := by simp
      clear hli
      go_wp2
      go_quiet (fail)
      go_wp2
      go_roundw
      case rel => exact ⟨i + 1, by omega, by first | rfl | (congr 1; done) | (congr 1; omega), hex.out.drewN _⟩
      case measure => simp [intOf]; omega
    · go_wp2
      go_ret
      exact RetN.mk hex.out rfl
set_option maxRecDepth 100000 in
set_option maxHeartbeats 1000000 in
theorem terms_any (ts : List TermZ) (ao bo : Option Addr) (n acap bcap : Nat) (w : World) (G H : Nat → Prop) (hn : n = ts.length) (ha : TermsAt w G ao ts) (hb : TermsAt w H bo ts) (hl : n ≤ 4611686018427387904) :
    Calls Try.prog 69 #[.slice ao n acap, .slice bo n bcap] w (RetN w fun w' v => v = .bool true) := by
  have HN := Lib.hid hn; have HA := Lib.hid ha; have HB := Lib.hid hb
  have q1 : ((n : Int) != (n : Int)) = false := by simp
  clear hn ha hb
  go_enter Try.func69, Try.ntmps69
  go_wp2
  go_loopw [5] (fun iv wr => SameTo w n iv wr) (fun iv _ => n - (intOf iv).toNat)
  case atStart => exact ⟨0, Nat.zero_le _, rfl, Kp.refl w⟩
  case round =>
    obtain ⟨i, hi, rfl, hex⟩ := hrel
    by_cases hlt : i < n
    · obtain ⟨t, ht⟩ : ∃ t, ts[i]? = some t := ⟨_, List.getElem?_eq_getElem (by rw [← HN.out]; exact hlt)⟩
      obtain ⟨g1, o1, e1, c0, c1, _⟩ := term_at (HA.out.ext hex.out) ht
      obtain ⟨g2, o2, e2, d0, d1, _⟩ := term_at (HB.out.ext hex.out) ht
      subst e1 e2
      obtain ⟨k, s, ⟨⟩⟩ := t
      simp only at c0 c1 d0 d1
      have q2 : (k != k) = false := by simp
      have q3 : (k == k) = true := by simp
      have q4 := str_eq s
      clear ht
      go_wp2
      go_quiet (fail)
      go_wp2
      go_roundw
      case rel => exact ⟨i + 1, by omega, by first | rfl | (congr 1; done) | (congr 1; omega), hex.out.drewN _⟩
      case measure => simp [intOf]; omega
    · go_wp2
      go_ret
      exact RetN.mk hex.out rfl

set_option maxRecDepth 100000 in
set_option maxHeartbeats 1000000 in
theorem literal25_any (ts : List TermZ) (k : Int) (p : ByteArray) (ao bo : Option Addr) (n acap bcap : Nat) (op lk : Int) (lt : ByteArray) (rk : Int) (rt : ByteArray) (w : World) (G H : Nat → Prop) (hn : n = ts.length) (ha : TermsAt w G ao ts) (hb : TermsAt w H bo ts) (hl : n ≤ 4611686018427387904) :
    Calls Try.prog 70 #[litV k p ao n acap op lk lt rk rt, litV k p bo n bcap op lk lt rk rt] w (RetN w fun w' v => v = .bool true) := by
  have HT := Lib.hid (fun (W : World) (hW : Ext w W) => terms_any ts ao bo n acap bcap W G H hn (ha.ext hW) (hb.ext hW) hl)
  have q1 : (k == k) = true := by simp
  have q2 : (op == op) = true := by simp
  have q3 : (lk == lk) = true := by simp
  have q4 : (rk == rk) = true := by simp
  have q5 := str_eq p
  have q6 := str_eq lt
  have q7 := str_eq rt
  clear hn ha hb
  go_enter Try.func70, Try.ntmps70
  have HB := Lib.hid (Blk.new w [.int .i64 k, .string p, .slice ao n acap, .int .i64 op, .int .i64 lk, .string lt, .int .i64 rk, .string rt] 70)
  go_wp2_with fail
  refine (HT.out _ (((Kp.refl w).alloc _).alloc _)).mono ?_
  rintro e w1 ⟨v, rfl, hk1, rfl⟩
  have X1 := Lib.hid ((((Kp.refl w).alloc _).alloc _).trans hk1)
  clear hk1
  go_wp2
  go_ret
  exact RetN.mk X1.out rfl

set_option maxRecDepth 100000 in
set_option maxHeartbeats 1000000 in
theorem same25_any (p : ByteArray) (hs : List TermZ) (ls : List LitZ) (ha hb : Option Addr) (hn hac hbc : Nat) (ba bb : Option Addr) (n bac bbc : Nat) (w : World) (G H : Nat → Prop) (hhn : hn = hs.length) (h1 : TermsAt w G ha hs) (h2 : TermsAt w H hb hs) (hhl : hn ≤ 1048576) (hbn : n = ls.length) (l1 : LitsAt w G ba ls) (l2 : LitsAt w H bb ls) (hf : Fit ls) :
    Calls Try.prog 39 #[ruleV p ha hn hac ba n bac, ruleV p hb hn hbc bb n bbc] w (RetN w fun w' v => v = .bool true) := by
  have HN := Lib.hid hbn; have HE := Lib.hid l1; have HE2 := Lib.hid l2; have HF := Lib.hid hf; have hl : n ≤ 1048576 := by have := hf.len; omega
  have HT := Lib.hid (fun (W : World) (hW : Ext w W) => terms_any hs ha hb hn hac hbc W G H hhn (h1.ext hW) (h2.ext hW) (by omega))
  have q1 := str_eq p
  have q2 : ((n : Int) != (n : Int)) = false := by simp
  have q3 : ((n : Int) == (n : Int)) = true := by simp
  clear hhn h1 h2 hbn l1 l2 hf
  go_enter Try.func39, Try.ntmps39
  obtain ⟨wb, eb⟩ : ∃ wb, (w.alloc (.cells #[.string p, .slice ha hn hac, .slice ba n bac] 27)).alloc (.cells #[.string p, .slice hb hn hbc, .slice bb n bbc] 27) = wb := ⟨_, rfl⟩
  have hB1 := (Blk.new w [.string p, .slice ha hn hac, .slice ba n bac] 27).alloc (.cells #[.string p, .slice hb hn hbc, .slice bb n bbc] 27)
  have hB2 := Blk.new (w.alloc (.cells #[.string p, .slice ha hn hac, .slice ba n bac] 27)) [.string p, .slice hb hn hbc, .slice bb n bbc] 27
  rw [alloc_size] at hB2
  have hB1' : Blk wb w.heap.size [.string p, .slice ha hn hac, .slice ba n bac] 27 := by rw [← eb]; exact hB1
  have hB2' : Blk wb (w.heap.size + 1) [.string p, .slice hb hn hbc, .slice bb n bbc] 27 := by rw [← eb]; exact hB2
  have hX : Ext w wb := by rw [← eb]; exact ((Kp.refl w).alloc _).alloc _
  have HB1 := Lib.hid hB1'
  have HB2 := Lib.hid hB2'
  have HX := Lib.hid hX
  have f10 : wb.cell? ⟨w.heap.size, 0, none⟩ = some (.string p) := by rw [hB1'.cell']; rfl
  have f11 : wb.cell? ⟨w.heap.size, 1, none⟩ = some (.slice ha hn hac) := by rw [hB1'.cell']; rfl
  have f12 : wb.cell? ⟨w.heap.size, 2, none⟩ = some (.slice ba n bac) := by rw [hB1'.cell']; rfl
  have f20 : wb.cell? ⟨w.heap.size + 1, 0, none⟩ = some (.string p) := by rw [hB2'.cell']; rfl
  have f21 : wb.cell? ⟨w.heap.size + 1, 1, none⟩ = some (.slice hb hn hbc) := by rw [hB2'.cell']; rfl
  have f22 : wb.cell? ⟨w.heap.size + 1, 2, none⟩ = some (.slice bb n bbc) := by rw [hB2'.cell']; rfl
  clear hB1 hB2 hB1' hB2' hX
  go_wp2_with fail
  refine (HT.out _ HX.out).mono ?_
  rintro e w1 ⟨v, rfl, hk1, rfl⟩
  have X1 := Lib.hid (HX.out.trans hk1)
  have B1 := Lib.hid (HB1.out.ext hk1)
  have B2 := Lib.hid (HB2.out.ext hk1)
  have r1 : w1.cell? ⟨w.heap.size, 2, none⟩ = some (.slice ba n bac) := by rw [B1.out.cell']; rfl
  have r2 : w1.cell? ⟨w.heap.size + 1, 2, none⟩ = some (.slice bb n bbc) := by rw [B2.out.cell']; rfl
  clear hk1 eb f10 f11 f12 f20 f21 f22
  go_wp2
  clear r1 r2
  go_loopw [5] (fun iv wr => SameTo w1 n iv wr) (fun iv _ => n - (intOf iv).toNat)
  case atStart => exact ⟨0, Nat.zero_le _, rfl, Kp.refl _⟩
  case round =>
    obtain ⟨i, hi, rfl, hex⟩ := hrel
    have XR := Lib.hid (X1.out.trans hex.out)
    have r1 : wr.cell? ⟨w.heap.size, 2, none⟩ = some (.slice ba n bac) := by rw [(B1.out.ext hex.out).cell']; rfl
    have r2 : wr.cell? ⟨w.heap.size + 1, 2, none⟩ = some (.slice bb n bbc) := by rw [(B2.out.ext hex.out).cell']; rfl
    by_cases hlt : i < n
    · obtain ⟨l, hli⟩ : ∃ l, ls[i]? = some l := ⟨_, List.getElem?_eq_getElem (by rw [← HN.out]; exact hlt)⟩
      obtain ⟨b, off, a2, cap2, eao, _, _, hL, c0, c1, c2, c3, c4, c5, c6, c7⟩ := lit_at HE.out hli
      obtain ⟨b', off', a3, cap3, eao', _, _, hL', d0, d1, d2, d3, d4, d5, d6, d7⟩ := lit_at HE2.out hli
      subst eao eao'
      replace c0 := XR.out.cell c0 id
      replace c1 := XR.out.cell c1 id
      replace c2 := XR.out.cell c2 id
      replace c3 := XR.out.cell c3 id
      replace c4 := XR.out.cell c4 id
      replace c5 := XR.out.cell c5 id
      replace c6 := XR.out.cell c6 id
      replace c7 := XR.out.cell c7 id
      replace d0 := XR.out.cell d0 id
      replace d1 := XR.out.cell d1 id
      replace d2 := XR.out.cell d2 id
      replace d3 := XR.out.cell d3 id
      replace d4 := XR.out.cell d4 id
      replace d5 := XR.out.cell d5 id
      replace d6 := XR.out.cell d6 id
      replace d7 := XR.out.cell d7 id
      obtain ⟨mm, emm⟩ : ∃ mm, mm = (termsOf l).length := ⟨_, rfl⟩
      rw [← emm] at c2 d2
      have hmm : mm ≤ 1048576 := by rw [emm]; exact HF.out.terms l (List.mem_of_getElem? hli)
      have HLit := Lib.hid (fun (k : Int) (p : ByteArray) (op lk : Int) (lt : ByteArray) (rk : Int) (rt : ByteArray) (W : World) (hW : Ext wr W) => literal25_any (termsOf l) k p a2 a3 mm cap2 cap3 op lk lt rk rt W G H emm (hL.terms.ext (XR.out.trans hW)) (hL'.terms.ext (XR.out.trans hW)) (by omega))
      generalize l.1 = k at *
      generalize predOf l = pl at *
      generalize opOf l = s3 at *
      generalize (leftOf l).1 = s4 at *
      generalize (leftOf l).2.1 = s5 at *
      generalize (rightOf l).1 = s6 at *
      generalize (rightOf l).2.1 = s7 at *
      clear hli hL hL' emm
      go_wp2
      go_still_tail 10, (by kernel_rfl)
      go_wp2_with fail
      refine (HLit.out _ _ _ _ _ _ _ _ (Kp.refl wr).drew).mono ?_
      rintro e w2 ⟨v, rfl, hk2, rfl⟩
      have X2 := Lib.hid (hex.out.drew.trans hk2)
      clear hk2 r1 r2 c0 c1 c2 c3 c4 c5 c6 c7 d0 d1 d2 d3 d4 d5 d6 d7
      go_wp2
      go_roundw
      case rel => exact ⟨i + 1, by omega, by first | rfl | (congr 1; done) | (congr 1; omega), X2⟩
      case measure => simp [intOf]; omega
    · go_wp2
      go_ret
      exact RetN.mk XR.out rfl
end Go.Proofs.Ytcphalpcdcddpaa

/- The law of costs: a rule in memory of its own, with marks behind its lists: what it is; ownTerms, lent. -/
namespace Go.Proofs.Ytcphalpcdcddpaa
open Go.RowKit
set_option linter.unusedVariables false

def termC (t : TermZ) : List Value := [.int .i64 t.1, .string t.2.1]
theorem termC_len (t : TermZ) : (termC t).length = 2 := rfl
def tcells (ts : List TermZ) : List Value := ts.flatMap termC
theorem tcells_len (ts : List TermZ) : (tcells ts).length = ts.length * 2 := flat_len termC 2 termC_len ts
abbrev markT : TermZ := (-7, ⟨#[]⟩, ())
theorem elem_term : ElemT Try.prog 22 68 2 24 (.agg #[.int .i64 0, .string ⟨#[]⟩]) := ⟨by kernel_rfl, by kernel_rfl, rfl, by decide⟩
theorem elem_lit : ElemT Try.prog 25 70 8 104 (.agg #[.int .i64 0, .string ⟨#[]⟩, .slice none 0 0, .int .i64 0, .int .i64 0, .string ⟨#[]⟩, .int .i64 0, .string ⟨#[]⟩]) := ⟨by kernel_rfl, by kernel_rfl, rfl, by decide⟩
theorem elem_int : ElemT Try.prog 28 3 1 8 (.int .i64 0) := ⟨by kernel_rfl, by kernel_rfl, rfl, by decide⟩

/-- Elements by their cells. -/
theorem elems_cells {α : Type} {s : Shp Try.prog α} {f : α → List Value} {w : World} {G : Nat → Prop} {ao : Option Addr} {xs : List α} (hn : 0 < s.n) (hf : ∀ x, (f x).length = s.n) (hat : ∀ es x, s.At w G es x → es = f x) (h : ElemsAt s w G ao xs) : CellsAt w ao (xs.flatMap f) := fun i u hu => by
  have hq := Nat.div_add_mod i s.n
  have hm := Nat.mod_lt i hn
  have hl := (List.getElem?_eq_some_iff.1 hu).1
  rw [flat_len f s.n hf] at hl
  have hi : i / s.n < xs.length := Nat.div_lt_of_lt_mul (by rw [Nat.mul_comm]; exact hl)
  obtain ⟨b, off, es, e, _, _, ha, hc⟩ := h (i / s.n) _ (List.getElem?_eq_getElem hi)
  have hg := flat_get f s.n hf xs (i / s.n) _ (i % s.n) (List.getElem?_eq_getElem hi) hm
  have e1 : i / s.n * s.n + i % s.n = i := by rw [Nat.mul_comm]; exact hq
  rw [e1, hu] at hg
  have := hc (i % s.n) u (by rw [hat es _ ha]; exact hg.symm)
  rw [e1] at this
  exact ⟨b, off, e, this⟩
theorem terms_cells {w : World} {G : Nat → Prop} {ao : Option Addr} {ts : List TermZ} (h : TermsAt w G ao ts) : CellsAt w ao (tcells ts) :=
  elems_cells (s := shTerm) (f := termC) (by decide) (fun x => rfl) (fun es x ha => term_cells ha) h
theorem elems_of {α : Type} {s : Shp Try.prog α} {f : α → List Value} {w : World} {G : Nat → Prop} {g : Nat} {xs : List α} {rest : List Value} {e : TypeId} (hf : ∀ x, (f x).length = s.n) (hat : ∀ (i : Nat) x, xs[i]? = some x → s.At w G (f x) x) (hG : G g) (hB : Blk w g (xs.flatMap f ++ rest) e) : ElemsAt s w G (some ⟨g, 0, none⟩) xs := fun i x hi => by
  refine ⟨g, 0, f x, rfl, hG, hB.lt, hat i x hi, fun c u hu => ?_⟩
  have hc : c < s.n := by rw [← hf x]; exact (List.getElem?_eq_some_iff.1 hu).1
  have hg := flat_get f s.n hf xs i x c hi hc
  rw [hB.cell', Nat.zero_add, List.getElem?_append_left (by
    have := (List.getElem?_eq_some_iff.1 (hg.trans hu)).1
    exact this), hg, hu]
theorem term_mk {w : World} {G : Nat → Prop} {t : TermZ} (h : TermFit t) : shTerm.At w G (termC t) t := ⟨[.int .i64 t.1], [.string t.2.1], rfl, ⟨rfl, h.1⟩, [.string t.2.1], [], rfl, ⟨rfl, h.2⟩, rfl⟩
theorem terms_fit {w : World} {G : Nat → Prop} {ao : Option Addr} {ts : List TermZ} (h : TermsAt w G ao ts) : ∀ t ∈ ts, TermFit t := fun t ht => by
  obtain ⟨i, hi⟩ := List.mem_iff_getElem?.1 ht
  obtain ⟨b, off, es, e, _, _, ha, _⟩ := h i t hi
  exact term_fit ha

/-- Terms in a block of their own, with a mark behind them. -/
def TermsM (w0 w : World) (a : Option Addr) (n cap : Nat) (ts : List TermZ) : Prop := ∃ g rest, a = some ⟨g, 0, none⟩ ∧ n = ts.length ∧ n + 1 ≤ cap ∧ cap ≤ maxLen ∧ w0.heap.size ≤ g ∧ Blk w g (tcells (ts ++ [markT]) ++ rest) 68
theorem tcells_snoc (ts : List TermZ) (t : TermZ) : tcells (ts ++ [t]) = tcells ts ++ termC t := by unfold tcells; rw [List.flatMap_append]; simp
theorem TermsM.at {w0 w : World} {a : Option Addr} {n cap : Nat} {ts : List TermZ} (h : TermsM w0 w a n cap ts) (hf : ∀ t ∈ ts, TermFit t) : TermsAt w (New w0) a ts := by
  obtain ⟨g, rest, rfl, _, _, _, hg, hB⟩ := h
  rw [tcells_snoc, List.append_assoc] at hB
  exact elems_of (s := shTerm) (f := termC) (fun x => rfl) (fun i x hi => term_mk (hf x (List.mem_of_getElem? hi))) hg hB
theorem TermsM.mark {w0 w : World} {a : Option Addr} {n cap : Nat} {ts : List TermZ} (h : TermsM w0 w a n cap ts) : ∃ g, a = some ⟨g, 0, none⟩ ∧ w.cell? ⟨g, n * 2, none⟩ = some (.int .i64 (-7)) := by
  obtain ⟨g, rest, rfl, hn, _, _, hg, hB⟩ := h
  refine ⟨g, rfl, ?_⟩
  rw [tcells_snoc, List.append_assoc] at hB
  rw [hB.cell', hn, ← tcells_len ts, List.getElem?_append_right (Nat.le_refl _), Nat.sub_self]; rfl
theorem TermsM.kp {w0 w w' : World} {F : Nat → Prop} {a : Option Addr} {n cap : Nat} {ts : List TermZ} (h : TermsM w0 w a n cap ts) (hk : Kp F w w') (hF : ∀ k cs, Blk w k cs 68 → ¬ F k) : TermsM w0 w' a n cap ts := by
  obtain ⟨g, rest, e, hn, h1, h2, hg, hB⟩ := h
  exact ⟨g, rest, e, hn, h1, h2, hg, hB.kp hk (hF g _ hB)⟩
theorem TermsM.ext {w0 w w' : World} {a : Option Addr} {n cap : Nat} {ts : List TermZ} (h : TermsM w0 w a n cap ts) (hk : Ext w w') : TermsM w0 w' a n cap ts := h.kp hk fun _ _ _ => id
theorem TermsM.old {w0 w1 w : World} {a : Option Addr} {n cap : Nat} {ts : List TermZ} (h : TermsM w1 w a n cap ts) (hs : w0.heap.size ≤ w1.heap.size) : TermsM w0 w a n cap ts := by
  obtain ⟨g, rest, e, hn, h1, h2, hg, hB⟩ := h
  exact ⟨g, rest, e, hn, h1, h2, Nat.le_trans hs hg, hB⟩
theorem terms_one (x : List Value) : ∀ u ∈ x, (∃ k z, u = .int k z) ∨ (∃ s, u = .string s) → u.oneCell' = true := by
  rintro u _ (⟨k, z, rfl⟩ | ⟨s, rfl⟩) <;> rfl
theorem tcells_one (ts : List TermZ) : ∀ u ∈ tcells ts, u.oneCell' = true := fun u hu => by
  obtain ⟨t, _, h⟩ := List.mem_flatMap.1 hu
  simp [termC] at h
  rcases h with rfl | rfl <;> rfl

set_option maxRecDepth 100000 in
set_option maxHeartbeats 1000000 in
theorem ownTerms_any (ts : List TermZ) (ao : Option Addr) (n cap : Nat) (w : World) (G : Nat → Prop) (hn : n = ts.length) (h : TermsAt w G ao ts) (hl : n ≤ 1048576) :
    Calls Try.prog 29 #[.slice ao n cap] w (RetN w fun w' v => ∃ a c, v = .slice a n c ∧ TermsM w w' a n c ts) := by
  have HN := Lib.hid hn
  have HC := Lib.hid (terms_cells h)
  have HL := Lib.hid (tcells_len ts)
  clear hn h
  go_enter Try.func29, Try.ntmps29
  go_wp2_with (first | (at_builtin; refine Halted.out ?_))
  refine Halted.mk (wp_appN (m := n) (n := 0) elem_term rfl _ _ rfl (Kp.refl (F := fun _ => False) w) rfl (Row.nil _ _ _ _) rfl HC.out (by rw [HL.out, HN.out]) (tcells_one ts) (by omega) (by unfold maxLen; omega) ?_)
  intro v1 w1 hr1 hk1 _ _
  rw [Nat.zero_add, List.nil_append] at hr1
  have HR1 := Lib.hid hr1
  have X1 := Lib.hid hk1
  obtain ⟨a1, c1, e1, _, _⟩ := hr1.shape
  subst e1
  clear hr1 hk1
  go_wp2_with (first | (at_builtin; refine Halted.out ?_))
  refine Halted.mk (wp_appN (m := 1) (n := n) elem_term rfl _ _ rfl (X1.out.alloc _) rfl (HR1.out.alloc _) rfl (CellsAt.two w1 (.int .i64 (-7)) (.string ⟨#[]⟩) 68) (by rfl) (by simp [Value.oneCell']) (by omega) (by unfold maxLen; omega) ?_)
  intro v2 w2 hr2 hk2 _ _
  have HR2 := Lib.hid hr2
  have X2 := Lib.hid hk2
  obtain ⟨h1, ⟨rfl, h0⟩ | ⟨g, cap2, rest, rfl, hM, hB, hlen, hnc, hcm⟩⟩ := hr2
  · omega
  · have hcm2 : cap2 ≤ 9223372036854775807 := hcm
    have i1 : (n : Int) ≤ (cap2 : Int) := by omega
    clear h1 hk2
    go_wp2
    go_ret
    refine RetN.mk X2.out ⟨_, _, rfl, g, rest, rfl, HN.out, hnc, hcm, hM, ?_⟩
    rw [tcells_snoc]; exact hB

/-- Numbers in a block of their own, with a mark behind them. -/
def IntsM (w0 w : World) (g n cap : Nat) (xs : List Int) : Prop := ∃ rest, n = xs.length ∧ n + 1 ≤ cap ∧ cap ≤ maxLen ∧ w0.heap.size ≤ g ∧ Blk w g (ints (xs ++ [-77]) ++ rest) 3 ∧ (ints (xs ++ [-77]) ++ rest).length = cap
theorem IntsM.at {w0 w : World} {g n cap : Nat} {xs : List Int} (h : IntsM w0 w g n cap xs) : CellsAt w (some ⟨g, 0, none⟩) (ints xs) := by
  obtain ⟨rest, _, _, _, _, hB, _⟩ := h
  have e : ints (xs ++ [-77]) ++ rest = ints xs ++ ([.int .i64 (-77)] ++ rest) := by simp [ints]
  rw [e] at hB
  exact CellsAt.pre hB
theorem IntsM.mark {w0 w : World} {g n cap : Nat} {xs : List Int} (h : IntsM w0 w g n cap xs) : w.cell? ⟨g, n, none⟩ = some (.int .i64 (-77)) := by
  obtain ⟨rest, hn, _, _, _, hB, _⟩ := h
  rw [hB.cell']
  simp [ints, hn]
theorem IntsM.kp {w0 w w' : World} {F : Nat → Prop} {g n cap : Nat} {xs : List Int} (h : IntsM w0 w g n cap xs) (hk : Kp F w w') (hF : ¬ F g) : IntsM w0 w' g n cap xs := by
  obtain ⟨rest, hn, h1, h2, hg, hB, hl⟩ := h
  exact ⟨rest, hn, h1, h2, hg, hB.kp hk hF, hl⟩
theorem IntsM.ext {w0 w w' : World} {g n cap : Nat} {xs : List Int} (h : IntsM w0 w g n cap xs) (hk : Ext w w') : IntsM w0 w' g n cap xs := h.kp hk id
theorem ints_one (xs : List Int) : ∀ u ∈ ints xs, u.oneCell' = true := fun u hu => by
  obtain ⟨x, _, rfl⟩ := List.mem_map.1 hu; rfl
set_option maxRecDepth 100000 in
set_option maxHeartbeats 1000000 in
theorem lent_any (xs : List Int) (ao : Option Addr) (n cap : Nat) (w : World) (hn : n = xs.length) (h : CellsAt w ao (ints xs)) (hl : n ≤ 1048576) :
    Calls Try.prog 9 #[.slice ao n cap] w (RetN w fun w' v => ∃ g c, v = .slice (some ⟨g, 0, none⟩) n c ∧ IntsM w w' g n c xs) := by
  have HN := Lib.hid hn
  have HC := Lib.hid h
  clear hn h
  go_enter Try.func9, Try.ntmps9
  go_wp2_with (first | (at_builtin; refine Halted.out ?_))
  refine Halted.mk (wp_appN (m := n) (n := 0) elem_int rfl _ _ rfl (Kp.refl (F := fun _ => False) w) rfl (Row.nil _ _ _ _) rfl HC.out (by rw [ints_len, HN.out, Nat.mul_one]) (ints_one xs) (by omega) (by unfold maxLen; omega) ?_)
  intro v1 w1 hr1 hk1 _ _
  rw [Nat.zero_add, List.nil_append] at hr1
  have HR1 := Lib.hid hr1
  have X1 := Lib.hid hk1
  obtain ⟨a1, c1, e1, _, _⟩ := hr1.shape
  subst e1
  clear hr1 hk1
  go_wp2_with (first | (at_builtin; refine Halted.out ?_))
  refine Halted.mk (wp_appN (m := 1) (n := n) elem_int rfl _ _ rfl (X1.out.alloc _) rfl (HR1.out.alloc _) rfl (CellsAt.one w1 (.int .i64 (-77)) 3) (by rfl) (by simp [Value.oneCell']) (by omega) (by unfold maxLen; omega) ?_)
  intro v2 w2 hr2 hk2 _ _
  have X2 := Lib.hid hk2
  obtain ⟨h1, ⟨rfl, h0⟩ | ⟨g, cap2, rest, rfl, hM, hB, hlen, hnc, hcm⟩⟩ := hr2
  · omega
  · have hcm2 : cap2 ≤ 9223372036854775807 := hcm
    have i1 : (n : Int) ≤ (cap2 : Int) := by omega
    clear h1 hk2
    go_wp2
    go_ret
    have e : ints (xs ++ [-77]) = ints xs ++ [.int .i64 (-77)] := by simp [ints]
    refine RetN.mk X2.out ⟨_, _, rfl, rest, HN.out, hnc, hcm, hM, ?_, ?_⟩
    · rw [e]; exact hB
    · rw [e]; simpa using hlen
end Go.Proofs.Ytcphalpcdcddpaa

/- The law of costs: backward. -/
namespace Go.Proofs.Ytcphalpcdcddpaa
open Go.RowKit
set_option linter.unusedVariables false

def MostTo (w0 : World) (n : Nat) (iv mv : Value) (w : World) : Prop := ∃ i : Nat, ∃ z : Int, i ≤ n ∧ iv = .int .i64 i ∧ mv = .int .i64 z ∧ Hid (Ext w0 w)
def BackTo (w0 : World) (n : Nat) (iv ov : Value) (w : World) : Prop := ∃ i : Nat, i ≤ n ∧ iv = .int .i64 i ∧ Hid (∃ zs : List Int, zs.length = i ∧ Row w 3 1 ov i (ints zs) (New w0)) ∧ Hid (Ext w0 w)

theorem CellsAt.int' {w : World} {ao : Option Addr} {ss : List Int} (h : CellsAt w ao (ints ss)) {k : Nat} (hk : k < ss.length) : ∃ b off y, ao = some ⟨b, off, none⟩ ∧ w.cell? ⟨b, off + k, none⟩ = some (.int .i64 y) := by
  obtain ⟨b, off, e, c⟩ := h.int hk
  exact ⟨b, off, _, e, c⟩
theorem row_snoc {w : World} {e : TypeId} {v : Value} {n : Nat} {zs : List Int} {z : Int} {M : Nat → Prop} (h : Row w e 1 v n (ints zs ++ [.int .i64 z]) M) : Row w e 1 v n (ints (zs ++ [z])) M := by
  have e : ints (zs ++ [z]) = ints zs ++ [.int .i64 z] := by simp [ints]
  rw [e]; exact h
theorem Row.cap {w : World} {e : TypeId} {k : Nat} {v : Value} {n : Nat} {xs : List Value} {M : Nat → Prop} (h : Row w e k v n xs M) : ∃ ao cap, v = .slice ao n cap ∧ CellsAt w ao xs ∧ n ≤ cap ∧ cap ≤ maxLen := by
  obtain ⟨h1, ⟨rfl, rfl⟩ | ⟨g, cap, rest, rfl, b, c, d, e, f⟩⟩ := h
  · have : xs = [] := List.eq_nil_of_length_eq_zero (by simpa using h1)
    subst this
    exact ⟨none, 0, rfl, CellsAt.nil _ _, Nat.le_refl _, by unfold maxLen; omega⟩
  · exact ⟨_, cap, rfl, CellsAt.pre c, e, f⟩

set_option maxRecDepth 100000 in
set_option maxHeartbeats 4000000 in
theorem backward_any (xs : List Int) (ao : Option Addr) (n cap : Nat) (w : World) (hn : n = xs.length) (h : CellsAt w ao (ints xs)) (hl : n ≤ 1048576) :
    Calls Try.prog 20 #[.slice ao n cap] w (RetN w fun w' v => ∃ a c, ∃ zs : List Int, v = .slice a n c ∧ zs.length = n ∧ n ≤ c ∧ c ≤ maxLen ∧ CellsAt w' a (ints zs) ∧ ∀ x, a = some x → w.heap.size ≤ x.block) := by
  have HN := Lib.hid hn
  have HC := Lib.hid h
  clear hn h
  go_enter Try.func20, Try.ntmps20
  go_wp2
  go_loopw [4, 3] (fun iv mv wr => MostTo w n iv mv wr) (fun iv _ _ => n - (intOf iv).toNat)
  case atStart => exact ⟨0, 0, Nat.zero_le _, rfl, rfl, Kp.refl _⟩
  case round =>
    obtain ⟨i, z, hi, rfl, rfl, hex⟩ := hrel
    by_cases hlt : i < n
    · obtain ⟨b, off, x, eao, c0⟩ := HC.out.int' (k := i) (by rw [← HN.out]; exact hlt)
      subst eao
      replace c0 := hex.out.cell c0 id
      go_wp2
      go_roundw
      case rel => exact ⟨i + 1, _, by omega, by first | rfl | (congr 1; done) | (congr 1; omega), rfl, hex⟩
      case measure => simp [intOf]; omega
    · go_wp2
      have XA := hex
      go_loopw [6, 5] (fun iv ov wr => BackTo w n iv ov wr) (fun iv _ _ => n - (intOf iv).toNat)
      case atStart => exact ⟨0, Nat.zero_le _, rfl, ⟨[], rfl, Row.nil _ _ _ _⟩, XA.out⟩
      case round =>
        obtain ⟨j, hj, rfl, hrow, hex2⟩ := hrel
        by_cases hlt2 : j < n
        · obtain ⟨b, off, x, eao, c0⟩ := HC.out.int' (k := j) (by rw [← HN.out]; exact hlt2)
          obtain ⟨b0, off0, y, eao0, c1⟩ := HC.out.int' (k := 0) (by rw [← HN.out]; omega)
          subst eao
          cases eao0
          replace c0 := hex2.out.cell c0 id
          replace c1 := hex2.out.cell c1 id
          rw [Nat.add_zero] at c1
          obtain ⟨zs, hz, hr⟩ := hrow.out
          have HR := Lib.hid hr
          have HZ := Lib.hid hz
          obtain ⟨bo, bc, ebv, _⟩ := hr.shape
          subst ebv
          clear hrow hz hr
          by_cases hone : n = 1
          · have q1 : ((n : Int) == (1 : Int)) = true := by simp [hone]
            have q2 : decide ((n : Int) = 1) = true := by simp [hone]
            clear hone
            go_wp2_with (first | (at_builtin; refine Halted.out ?_))
            all_goals (
              refine Halted.mk (wp_appN (m := 1) (n := j) elem_int rfl _ _ rfl (hex2.out.alloc _) rfl (HR.out.alloc _) rfl (CellsAt.one _ _ 3) (by rfl) (by simp [Value.oneCell']) (by omega) (by unfold maxLen; omega) ?_)
              intro v1 w6 hr1 hk1 hk2 _
              have HR1 := Lib.hid (show ∃ zs' : List Int, zs'.length = j + 1 ∧ Row w6 3 1 v1 (j + 1) (ints zs') (New w) from ⟨zs ++ [_], by rw [List.length_append, HZ.out]; rfl, row_snoc hr1⟩)
              have X1 := Lib.hid hk1
              clear hr1 hk1 hk2
              go_wp2
              go_roundw
              case rel => exact ⟨j + 1, by omega, by first | rfl | (congr 1; done) | (congr 1; omega), HR1.out, X1.out⟩
              case measure => simp [intOf]; omega)
          · have q1 : ((n : Int) == (1 : Int)) = false := by simp; omega
            have q2 : decide ((n : Int) = 1) = false := by simp; omega
            clear hone
            go_wp2_with (first | (at_builtin; refine Halted.out ?_))
            all_goals (
              refine Halted.mk (wp_appN (m := 1) (n := j) elem_int rfl _ _ rfl (hex2.out.alloc _) rfl (HR.out.alloc _) rfl (CellsAt.one _ _ 3) (by rfl) (by simp [Value.oneCell']) (by omega) (by unfold maxLen; omega) ?_)
              intro v1 w6 hr1 hk1 hk2 _
              have HR1 := Lib.hid (show ∃ zs' : List Int, zs'.length = j + 1 ∧ Row w6 3 1 v1 (j + 1) (ints zs') (New w) from ⟨zs ++ [_], by rw [List.length_append, HZ.out]; rfl, row_snoc hr1⟩)
              have X1 := Lib.hid hk1
              clear hr1 hk1 hk2
              go_wp2
              go_roundw
              case rel => exact ⟨j + 1, by omega, by first | rfl | (congr 1; done) | (congr 1; omega), HR1.out, X1.out⟩
              case measure => simp [intOf]; omega)
        · obtain rfl : j = n := by omega
          obtain ⟨zs, hz, hr⟩ := hrow.out
          have HR := Lib.hid hr
          have HZ := Lib.hid hz
          obtain ⟨bo, bc, ebv, h2, h1, h3⟩ := hr.cap
          subst ebv
          have HS := Lib.hid (show CellsAt wr bo (ints zs) ∧ ∀ x, bo = some x → w.heap.size ≤ x.block from ⟨h2, fun x hx => hr.block x.block (by rw [hx]; rfl)⟩)
          clear hrow hz hr
          go_wp2
          go_ret
          exact RetN.mk hex2.out ⟨_, _, zs, rfl, HZ.out, h1, h3, HS.out.1, HS.out.2⟩
end Go.Proofs.Ytcphalpcdcddpaa

/- Plans in memory; the best of several: leastOf. -/
namespace Go.Proofs.Ytcphalpcdcddpaa
open Go.RowKit
set_option linter.unusedVariables false
attribute [local go_sem] run_store_float

/-- A plan in a block of its own. -/
def PlanAt (w : World) (M : Nat → Prop) (b : Nat) (p : Plan) : Prop := ∃ ov, Blk w b [ov, .float .f64 p.2] 95 ∧ Row w 3 1 ov p.1.length (ints p.1) M
def OptAt (w : World) (M : Nat → Prop) (v : Value) : Option Plan → Prop
  | none => v = .pointer none
  | some p => ∃ b, v = .pointer (some ⟨b, 0, none⟩) ∧ PlanAt w M b p
theorem PlanAt.mono {w : World} {M M' : Nat → Prop} {b : Nat} {p : Plan} (h : PlanAt w M b p) (hM : ∀ g, M g → M' g) : PlanAt w M' b p := by
  obtain ⟨ov, h1, h2⟩ := h
  exact ⟨ov, h1, h2.mono hM⟩
theorem OptAt.mono {w : World} {M M' : Nat → Prop} {v : Value} {o : Option Plan} (h : OptAt w M v o) (hM : ∀ g, M g → M' g) : OptAt w M' v o := by
  cases o with
  | none => exact h
  | some p =>
    obtain ⟨b, e, h⟩ := h
    exact ⟨b, e, h.mono hM⟩
/-- Blocks of F are no plans and no numbers. -/
def NoPlan (w : World) (F : Nat → Prop) : Prop := ∀ k cs e, Blk w k cs e → F k → e ≠ 95 ∧ e ≠ 3
theorem PlanAt.kp {F M : Nat → Prop} {w w' : World} {b : Nat} {p : Plan} (h : PlanAt w M b p) (hk : Kp F w w') (hF : NoPlan w F) : PlanAt w' M b p := by
  obtain ⟨ov, h1, h2⟩ := h
  refine ⟨ov, h1.kp hk fun hf => (hF _ _ _ h1 hf).1 rfl, h2.kp' hk fun g hg _ hf => ?_⟩
  obtain ⟨cs, hb⟩ := h2.blkOf hg
  exact (hF _ _ _ hb hf).2 rfl
theorem OptAt.kp {F M : Nat → Prop} {w w' : World} {v : Value} {o : Option Plan} (h : OptAt w M v o) (hk : Kp F w w') (hF : NoPlan w F) : OptAt w' M v o := by
  cases o with
  | none => exact h
  | some p =>
    obtain ⟨b, e, h⟩ := h
    exact ⟨b, e, h.kp hk hF⟩
theorem noPlan_none (w : World) : NoPlan w (fun _ => False) := fun k cs e _ h => h.elim
theorem OptAt.ext {M : Nat → Prop} {w w' : World} {v : Value} {o : Option Plan} (h : OptAt w M v o) (hk : Ext w w') : OptAt w' M v o := h.kp hk (noPlan_none w)
theorem PlanAt.ext {M : Nat → Prop} {w w' : World} {b : Nat} {p : Plan} (h : PlanAt w M b p) (hk : Ext w w') : PlanAt w' M b p := h.kp hk (noPlan_none w)

/-- A function that makes plans of numbers: what it needs of a world stays; blocks of F may have been written. -/
def MadeT (f : FuncId) (first captured : Array Value) (I : World → Prop) (F : Nat → Prop) (n : Nat) (q : Nat → Option Plan) : Prop :=
  (∀ args w, (callFunc f args).run Try.prog w = .ok (Next.enter f args) w) ∧ (∀ w, I w → NoPlan w F) ∧ (∀ w w', I w → Ext w w' → I w') ∧
  ∀ w, I w → ∀ i : Nat, i < n → Calls Try.prog f (first.push (.int .i64 i) ++ captured) w (fun e w' => ∃ v, e = .returned v ∧ I w' ∧ Kp F w w' ∧ OptAt w' (New w) v (q i))
def LeastPTo (q : Nat → Option Plan) (I : World → Prop) (F : Nat → Prop) (w0 : World) (n : Nat) (iv bv : Value) (w : World) : Prop := ∃ (i : Nat) (b0 : Value), i ≤ n ∧ iv = .int .i64 i ∧ b0 = bv ∧ Hid (I w) ∧ Hid (Kp F w0 w) ∧ Hid (OptAt w (New w0) b0 (leastP q i))
theorem OptAt.cases {w : World} {M : Nat → Prop} {v : Value} {o : Option Plan} (h : OptAt w M v o) : (v = .pointer none ∧ o = none) ∨ ∃ p b, o = some p ∧ v = .pointer (some ⟨b, 0, none⟩) ∧ PlanAt w M b p := by
  cases o with
  | none => exact .inl ⟨h, rfl⟩
  | some p =>
    obtain ⟨b, e, h⟩ := h
    exact .inr ⟨p, b, rfl, e, h⟩
theorem PlanAt.cells {w : World} {M : Nat → Prop} {b : Nat} {p : Plan} (h : PlanAt w M b p) : ∃ oa ocap, w.cell? ⟨b, 0, none⟩ = some (.slice oa p.1.length ocap) ∧ w.cell? ⟨b, 1, none⟩ = some (.float .f64 p.2) ∧ CellsAt w oa (ints p.1) ∧ p.1.length ≤ ocap ∧ ocap ≤ maxLen := by
  obtain ⟨ov, h1, h2⟩ := h
  obtain ⟨oa, ocap, rfl, h3, h4, h5⟩ := h2.cap
  exact ⟨oa, ocap, by rw [h1.cell']; rfl, by rw [h1.cell']; rfl, h3, h4, h5⟩

set_option maxRecDepth 100000 in
set_option maxHeartbeats 4000000 in
theorem leastOf_any (f : FuncId) (first captured : Array Value) (I : World → Prop) (F : Nat → Prop) (n : Nat) (q : Nat → Option Plan) (L : Nat) (w : World) (hI : I w) (hM : MadeT f first captured I F n q) (hq : ∀ i p, i < n → q i = some p → p.2 ≤ infW ∧ p.1.length = L) (hL : L ≤ 1048576) (hn : n ≤ 1048576) :
    Calls Try.prog 40 #[.int .i64 n, .func (Fn.func f) first captured, .func (Fn.func 44) #[] #[]] w (fun e w' => ∃ v, e = .returned v ∧ I w' ∧ Kp F w w' ∧ OptAt w' (New w) v (leastP q n)) := by
  have hent := hM.1
  have hentB : ∀ args w, (callFunc 44 args).run Try.prog w = .ok (Next.enter 44 args) w := enters_of Try.func44 (by kernel_rfl) rfl
  have HM := Lib.hid hM.2
  have HQ := Lib.hid hq
  have HI := Lib.hid hI
  clear hM hq hI
  go_enter Try.func40, Try.ntmps40
  go_wp2
  go_loopw [11, 7] (fun iv bv wr => LeastPTo q I F w n iv bv wr) (fun iv _ _ => n - (intOf iv).toNat)
  case atStart => exact ⟨0, _, Nat.zero_le _, rfl, rfl, HI.out, Kp.refl w, rfl⟩
  case round =>
    clear HI
    obtain ⟨i, b0, hi, rfl, rfl, hIr, hkr, hbr⟩ := hrel
    by_cases hlt : i < n
    · have HC := Lib.hid (HM.out.2.2 wr hIr.out i hlt)
      go_wp2_with fail
      refine HC.out.mono ?_
      rintro e w1 ⟨v, rfl, hI1, hk1, ho1⟩
      have I1 := Lib.hid hI1
      have X1 := Lib.hid (hkr.out.trans hk1)
      have HN1 := Lib.hid (HM.out.1 _ hIr.out)
      have HB1 := Lib.hid (hbr.out.kp hk1 HN1.out)
      have HO1 := Lib.hid (show OptAt w1 (New w) v (q i) from ho1.mono fun g hg => Nat.le_trans hkr.out.size hg)
      clear hI1 hk1 ho1 hIr hkr hbr HC
      rcases HO1.out.cases with ⟨rfl, hqi⟩ | ⟨p, b, hqi, rfl, hp⟩
      · have HFin := Lib.hid (show OptAt w1 (New w) b0 (leastP q (i + 1)) by
          show OptAt w1 _ _ (pickP (leastP q i) (q i))
          rw [hqi]
          have e : pickP (leastP q i) none = leastP q i := by cases leastP q i <;> rfl
          rw [e]; exact HB1.out)
        clear hqi
        go_wp2
        go_quiet (fail)
        go_wp2
        go_roundw
        case rel => exact ⟨i + 1, _, by omega, by first | rfl | (congr 1; done) | (congr 1; omega), rfl, HM.out.2.1 _ _ I1.out ((Kp.refl w1).drewN _), X1.out.drewN _, HFin.out.ext ((Kp.refl w1).drewN _)⟩
        case measure => simp [intOf]; omega
      · rcases HB1.out.cases with ⟨rfl, hb0⟩ | ⟨p2, b2, hb0, rfl, hp2⟩
        · have HFin := Lib.hid (show OptAt w1 (New w) (.pointer (some ⟨b, 0, none⟩)) (leastP q (i + 1)) by
            show OptAt w1 _ _ (pickP (leastP q i) (q i))
            rw [hqi, hb0]; exact ⟨b, rfl, hp⟩)
          clear hqi hb0 hp HB1 HO1
          go_wp2
          go_quiet (fail)
          go_wp2
          go_roundw
          case rel => exact ⟨i + 1, _, by omega, by first | rfl | (congr 1; done) | (congr 1; omega), rfl, HM.out.2.1 _ _ I1.out ((Kp.refl w1).drewN _), X1.out.drewN _, HFin.out.ext ((Kp.refl w1).drewN _)⟩
          case measure => simp [intOf]; omega
        · obtain ⟨a1, k1, c1, c2, c3, c4, c5⟩ := hp.cells
          obtain ⟨a2, k2, d1, d2, d3, d4, d5⟩ := hp2.cells
          obtain ⟨j, hj, hqj⟩ := leastP_mem hb0
          have hL1 := HQ.out i p hlt hqi
          have hL2 := HQ.out j p2 (by omega) hqj
          have HCall := Lib.hid (fun (W : World) (hW : Ext w1 W) => better_any p.1 p2.1 p.2 p2.2 a1 a2 L k1 k2 W hL1.2 hL2.2 (c3.ext hW) (d3.ext hW) hL1.1 hL2.1 (by omega))
          have HStep := Lib.hid (show ∀ r, betterP p p2 = r → leastP q (i + 1) = if r = true then some p else some p2 from fun r hr => by
            show pickP (leastP q i) (q i) = _
            rw [hqi, hb0, ← hr]
            rfl)
          have HPs := Lib.hid (And.intro hp hp2)
          rw [hL1.2] at c1
          rw [hL2.2] at d1
          generalize hp2c : p.2 = pc at *
          generalize hp22 : p2.2 = pd at *
          obtain ⟨r, er⟩ : ∃ r, betterP (p.1, pc) (p2.1, pd) = r := ⟨_, rfl⟩
          have ER := Lib.hid (show betterP p p2 = r from by rw [← er, ← hp2c, ← hp22])
          have HCells := Lib.hid (show ∀ w', Ext w1 w' → (fun w' : World => w'.cell? ⟨b, 0, none⟩ = some (.slice a1 L k1) ∧ w'.cell? ⟨b, 1, none⟩ = some (.float .f64 pc) ∧ w'.cell? ⟨b2, 0, none⟩ = some (.slice a2 L k2) ∧ w'.cell? ⟨b2, 1, none⟩ = some (.float .f64 pd)) w' from fun w' hw => ⟨hw.cell c1 id, hw.cell c2 id, hw.cell d1 id, hw.cell d2 id⟩)
          have ER2 := Lib.hid er
          clear hqi hqj hb0 hp hp2 HB1 HO1 hL1 hL2 c3 c4 c5 d3 d4 d5 hp2c hp22 er c1 c2 d1 d2 hj
          go_wp2
          refine draw_begin (fun w' : World => w'.cell? ⟨b, 0, none⟩ = some (.slice a1 L k1) ∧ w'.cell? ⟨b, 1, none⟩ = some (.float .f64 pc) ∧ w'.cell? ⟨b2, 0, none⟩ = some (.slice a2 L k2) ∧ w'.cell? ⟨b2, 1, none⟩ = some (.float .f64 pd)) [13] (by kernel_rfl) (HCells.out _ (Kp.refl w1).drew) (fun hHeld => ?_)
          (refine draw_free (i := 0) (v := ?_) rfl ?_ ?_; rotate_left; (intro w; go_simp; try with_reducible rfl)); (try simp only [Act.put, List.setIfInBounds_toArray, List.set_cons_zero, List.set_cons_succ])
          (refine draw_free (i := 1) (v := ?_) rfl ?_ ?_; rotate_left; (intro w; go_simp; try with_reducible rfl)); (try simp only [Act.put, List.setIfInBounds_toArray, List.set_cons_zero, List.set_cons_succ])
          (refine draw_free (i := 2) (v := ?_) rfl ?_ ?_; rotate_left; (intro w; go_simp; try with_reducible rfl)); (try simp only [Act.put, List.setIfInBounds_toArray, List.set_cons_zero, List.set_cons_succ])
          (first | (refine draw_free (i := 3) (v := ?_) rfl ?_ ?_; rotate_left; (intro w; go_simp; try with_reducible rfl)) | (refine draw_out (i := 3) rfl ?_)); (try simp only [Act.put, List.setIfInBounds_toArray, List.set_cons_zero, List.set_cons_succ])
          (first | (refine draw_free (i := 4) (v := ?_) rfl ?_ ?_; rotate_left; (intro w; go_simp; try with_reducible rfl)) | (refine draw_out (i := 4) rfl ?_)); (try simp only [Act.put, List.setIfInBounds_toArray, List.set_cons_zero, List.set_cons_succ])
          (first | (refine draw_free (i := 5) (v := ?_) rfl ?_ ?_; rotate_left; (intro w; go_simp; try with_reducible rfl)) | (refine draw_out (i := 5) rfl ?_)); (try simp only [Act.put, List.setIfInBounds_toArray, List.set_cons_zero, List.set_cons_succ])
          (first | (refine draw_free (i := 6) (v := ?_) rfl ?_ ?_; rotate_left; (intro w; go_simp; try with_reducible rfl)) | (refine draw_out (i := 6) rfl ?_)); (try simp only [Act.put, List.setIfInBounds_toArray, List.set_cons_zero, List.set_cons_succ])
          (first | (refine draw_free (i := 7) (v := ?_) rfl ?_ ?_; rotate_left; (intro w; go_simp; try with_reducible rfl)) | (refine draw_out (i := 7) rfl ?_)); (try simp only [Act.put, List.setIfInBounds_toArray, List.set_cons_zero, List.set_cons_succ])
          (first | (refine draw_free (i := 8) (v := ?_) rfl ?_ ?_; rotate_left; (intro w; go_simp; try with_reducible rfl)) | (refine draw_out (i := 8) rfl ?_)); (try simp only [Act.put, List.setIfInBounds_toArray, List.set_cons_zero, List.set_cons_succ])
          (first | (refine draw_in (i := 9) (v := ?_) rfl ?_ ?_; rotate_left; (intro w hSw; (try dsimp only at hSw); go_simp; try with_reducible rfl)) | (refine draw_out (i := 9) rfl ?_)); (try simp only [Act.put, List.setIfInBounds_toArray, List.set_cons_zero, List.set_cons_succ])
          (first | (refine draw_free (i := 10) (v := ?_) rfl ?_ ?_; rotate_left; (intro w; go_simp; try with_reducible rfl)) | (refine draw_out (i := 10) rfl ?_)); (try simp only [Act.put, List.setIfInBounds_toArray, List.set_cons_zero, List.set_cons_succ])
          (first | (refine draw_free (i := 11) (v := ?_) rfl ?_ ?_; rotate_left; (intro w; go_simp; try with_reducible rfl)) | (refine draw_out (i := 11) rfl ?_)); (try simp only [Act.put, List.setIfInBounds_toArray, List.set_cons_zero, List.set_cons_succ])
          (first | (refine draw_in (i := 12) (v := ?_) rfl ?_ ?_; rotate_left; (intro w hSw; (try dsimp only at hSw); go_simp; try with_reducible rfl)) | (refine draw_out (i := 12) rfl ?_)); (try simp only [Act.put, List.setIfInBounds_toArray, List.set_cons_zero, List.set_cons_succ])
          refine draw_one (i := 13) ?_
          refine comes_late (i := 13) rfl (by kernel_rfl) (fun K hK => ?_)
          go_simp
          (refine (HCall.out _ (Kp.refl w1).drew).mono ?_; rintro e w2 ⟨v, rfl, hk2, rfl⟩; rw [ER2.out]; have X2 := Lib.hid (show Ext w1 w2 from (Kp.refl w1).drew.trans hk2); clear hk2)
          go_wp2_with fail
          refine hK.out _ _ ?_
          clear hK K; (try simp only [Act.put, List.setIfInBounds_toArray, List.set_cons_zero, List.set_cons_succ])
          (first | (refine draw_free (i := 14) (v := ?_) rfl ?_ ?_; rotate_left; (intro w; go_simp; try with_reducible rfl)) | (refine draw_out (i := 14) rfl ?_)); (try simp only [Act.put, List.setIfInBounds_toArray, List.set_cons_zero, List.set_cons_succ])
          (refine draw_free (i := 15) (v := ?_) rfl ?_ ?_; rotate_left; (intro w; go_simp; try with_reducible rfl)); (try simp only [Act.put, List.setIfInBounds_toArray, List.set_cons_zero, List.set_cons_succ])
          refine wpAnyD_done (by kernel_rfl) ?_ _
          have I2 := Lib.hid (HM.out.2.1 _ _ I1.out X2.out)
          have XX := Lib.hid (X1.out.ext X2.out)
          have P2 := Lib.hid (And.intro (HPs.out.1.ext X2.out) (HPs.out.2.ext X2.out))
          clear hHeld HCells HCall I1 X1 X2 HPs
          cases r
          · have HFin := Lib.hid (show OptAt w2 (New w) (.pointer (some ⟨b2, 0, none⟩)) (leastP q (i + 1)) by
              rw [HStep.out _ ER.out]; exact ⟨b2, rfl, P2.out.2⟩)
            go_wp2
            go_roundw
            case rel => exact ⟨i + 1, _, by omega, by first | rfl | (congr 1; done) | (congr 1; omega), rfl, I2, XX, HFin⟩
            case measure => simp [intOf]; omega
          · have HFin := Lib.hid (show OptAt w2 (New w) (.pointer (some ⟨b, 0, none⟩)) (leastP q (i + 1)) by
              rw [HStep.out _ ER.out]; exact ⟨b, rfl, P2.out.1⟩)
            go_wp2
            go_roundw
            case rel => exact ⟨i + 1, _, by omega, by first | rfl | (congr 1; done) | (congr 1; omega), rfl, I2, XX, HFin⟩
            case measure => simp [intOf]; omega
    · obtain rfl : i = n := by omega
      go_wp2
      go_ret
      exact ⟨_, rfl, hIr.out, hkr.out, hbr.out⟩
end Go.Proofs.Ytcphalpcdcddpaa

/- The law of costs: twin, stays. -/
namespace Go.Proofs.Ytcphalpcdcddpaa
open Go.RowKit
set_option linter.unusedVariables false

def litC (x : LitZ × (Option Addr × Nat)) : List Value := [.int .i64 x.1.1, .string (predOf x.1), .slice x.2.1 (termsOf x.1).length x.2.2, .int .i64 (opOf x.1), .int .i64 (leftOf x.1).1, .string (leftOf x.1).2.1, .int .i64 (rightOf x.1).1, .string (rightOf x.1).2.1]
theorem litC_len (x : LitZ × (Option Addr × Nat)) : (litC x).length = 8 := rfl
def markL : List Value := [.int .i64 (-7), .string ⟨#[]⟩, .slice none 0 0, .int .i64 0, .int .i64 0, .string ⟨#[]⟩, .int .i64 0, .string ⟨#[]⟩]
/-- What a literal is beyond its values. -/
structure LitAll (l : LitZ) : Prop where
  kind : (Lit.int .i64 l.1).wf = true
  pred : (predOf l).size ≤ maxLen
  terms : ∀ t ∈ termsOf l, TermFit t
  op : (Lit.int .i64 (opOf l)).wf = true
  left : TermFit (leftOf l)
  right : TermFit (rightOf l)
theorem lits_all {w : World} {G : Nat → Prop} {ao : Option Addr} {ls : List LitZ} (h : LitsAt w G ao ls) : ∀ l ∈ ls, LitAll l := fun l hl => by
  obtain ⟨i, hi⟩ := List.mem_iff_getElem?.1 hl
  obtain ⟨b, off, es, e, _, _, ha, _⟩ := h i l hi
  obtain ⟨a1, b1, e1, ⟨e2, k2⟩, ⟨a3, b3, e3, h3, ⟨a4, b4, e4, ⟨e5, k5⟩, ⟨a6, b6, e6, h6, ⟨a7, b7, e7, h7, e8⟩⟩⟩⟩⟩ := ha
  obtain ⟨c1, d1, f1, ⟨f2, g2⟩, ⟨c3, d3, f3, ⟨ao', cap, f4, g1, g3, g4⟩, f5⟩⟩ := h3
  exact ⟨k2, g2, terms_fit g4, k5, term_fit h6, term_fit h7⟩
theorem lit_mk {w : World} {G : Nat → Prop} {l : LitZ} (h : LitAll l) {a : Option Addr} {cap : Nat} (ht : TermsAt w G a (termsOf l)) (h1 : (termsOf l).length ≤ cap) (h2 : cap ≤ maxLen) : shLit.At w G (litC (l, (a, cap))) l :=
  ⟨[.int .i64 l.1], _, rfl, ⟨rfl, h.kind⟩, ⟨[.string (predOf l), .slice a (termsOf l).length cap], _, rfl, ⟨[.string (predOf l)], _, rfl, ⟨rfl, h.pred⟩, [.slice a (termsOf l).length cap], [], rfl, ⟨a, cap, rfl, h1, h2, ht⟩, rfl⟩,
    ⟨[.int .i64 (opOf l)], _, rfl, ⟨rfl, h.op⟩, ⟨termC (leftOf l), _, rfl, term_mk h.left, ⟨termC (rightOf l), [], rfl, term_mk h.right, rfl⟩⟩⟩⟩⟩
theorem lits_cells {w : World} {G : Nat → Prop} {g : Nat} {ls : List LitZ} {vs : List (Option Addr × Nat)} {rest : List Value} {e : TypeId} (hl : vs.length = ls.length) (hall : ∀ l ∈ ls, LitAll l) (ht : ∀ x ∈ ls.zip vs, TermsAt w G x.2.1 (termsOf x.1) ∧ (termsOf x.1).length ≤ x.2.2 ∧ x.2.2 ≤ maxLen) (hG : G g) (hB : Blk w g ((ls.zip vs).flatMap litC ++ rest) e) : LitsAt w G (some ⟨g, 0, none⟩) ls := fun i l hi => by
  have hv : i < vs.length := by rw [hl]; exact (List.getElem?_eq_some_iff.1 hi).1
  have hz : (ls.zip vs)[i]? = some (l, vs[i]) := by rw [List.getElem?_zip_eq_some]; exact ⟨hi, List.getElem?_eq_getElem hv⟩
  obtain ⟨t1, t2, t3⟩ := ht _ (List.mem_of_getElem? hz)
  refine ⟨g, 0, litC (l, vs[i]), rfl, hG, hB.lt, lit_mk (hall l (List.mem_of_getElem? hi)) t1 t2 t3, fun c u hu => ?_⟩
  have hc : c < 8 := (List.getElem?_eq_some_iff.1 hu).1
  have hg := flat_get litC 8 litC_len (ls.zip vs) i _ c hz hc
  rw [show shLit.n = 8 from rfl, hB.cell', Nat.zero_add, List.getElem?_append_left (List.getElem?_eq_some_iff.1 (hg.trans hu)).1, hg, hu]

/-- A rule in memory of its own, with marks behind its lists. -/
structure RuleM (w0 w : World) (hs : List TermZ) (ls : List LitZ) (ha : Option Addr) (hn hcap : Nat) (ba : Option Addr) (n bcap : Nat) : Prop where
  head : TermsM w0 w ha hn hcap hs
  body : ∃ g rest vs, ba = some ⟨g, 0, none⟩ ∧ n = ls.length ∧ n + 1 ≤ bcap ∧ bcap ≤ maxLen ∧ w0.heap.size ≤ g ∧ vs.length = ls.length ∧ Blk w g ((ls.zip vs).flatMap litC ++ (markL ++ rest)) 70 ∧ ∀ x ∈ ls.zip vs, TermsM w0 w x.2.1 (termsOf x.1).length x.2.2 (termsOf x.1)
theorem RuleM.kp {w0 w w' : World} {F : Nat → Prop} {hs : List TermZ} {ls : List LitZ} {ha : Option Addr} {hn hcap : Nat} {ba : Option Addr} {n bcap : Nat} (h : RuleM w0 w hs ls ha hn hcap ba n bcap) (hk : Kp F w w') (hF : ∀ k cs, Blk w k cs 68 ∨ Blk w k cs 70 → ¬ F k) : RuleM w0 w' hs ls ha hn hcap ba n bcap := by
  obtain ⟨h1, g, rest, vs, e, a1, a2, a3, a4, a5, hB, hx⟩ := h
  exact ⟨h1.kp hk fun k cs hb => hF k cs (.inl hb), g, rest, vs, e, a1, a2, a3, a4, a5, hB.kp hk (hF g _ (.inr hB)), fun x hxx => (hx x hxx).kp hk fun k cs hb => hF k cs (.inl hb)⟩
theorem RuleM.ext {w0 w w' : World} {hs : List TermZ} {ls : List LitZ} {ha : Option Addr} {hn hcap : Nat} {ba : Option Addr} {n bcap : Nat} (h : RuleM w0 w hs ls ha hn hcap ba n bcap) (hk : Ext w w') : RuleM w0 w' hs ls ha hn hcap ba n bcap := h.kp hk fun _ _ _ => id
theorem RuleM.lits {w0 w : World} {hs : List TermZ} {ls : List LitZ} {ha : Option Addr} {hn hcap : Nat} {ba : Option Addr} {n bcap : Nat} (h : RuleM w0 w hs ls ha hn hcap ba n bcap) (hall : ∀ l ∈ ls, LitAll l) : LitsAt w (New w0) ba ls := by
  obtain ⟨_, g, rest, vs, rfl, a1, a2, a3, a4, a5, hB, hx⟩ := h
  refine lits_cells a5 hall (fun x hxx => ?_) a4 hB
  have hm := hx x hxx
  have hl : x.1 ∈ ls := (List.of_mem_zip (show (x.1, x.2) ∈ ls.zip vs from hxx)).1
  refine ⟨hm.at (hall _ hl).terms, ?_⟩
  obtain ⟨_, _, _, _, q1, q2, _, _⟩ := hm
  exact ⟨by omega, q2⟩

def TwinTo (hs : List TermZ) (w0 : World) (gx : Nat) (p : ByteArray) (ha : Option Addr) (hn hcap : Nat) (ls : List LitZ) (n : Nat) (iv : Value) (w : World) : Prop := ∃ i : Nat, i ≤ n ∧ iv = .int .i64 i ∧ Hid (Ext w0 w) ∧ Hid (∃ bv vs, Blk w gx [.string p, .slice ha hn hcap, bv] 27 ∧ vs.length = i ∧ Row w 70 8 bv i (((ls.take i).zip vs).flatMap litC) (New w0) ∧ ∀ x ∈ (ls.take i).zip vs, TermsM w0 w x.2.1 (termsOf x.1).length x.2.2 (termsOf x.1)) ∧ Hid (TermsM w0 w ha hn hcap hs)
theorem typ_tl : 68 ≠ 70 := by decide
theorem typ_tr : 68 ≠ 27 := by decide
theorem typ_lr : 70 ≠ 27 := by decide
theorem litC_one (x : LitZ × (Option Addr × Nat)) : ∀ u ∈ litC x, u.oneCell' = true := fun u hu => by
  simp [litC] at hu
  rcases hu with rfl | rfl | rfl | rfl | rfl | rfl | rfl | rfl <;> rfl

theorem CellsAt.new (w : World) (xs : List Value) (e : TypeId) : CellsAt (w.alloc (.cells xs.toArray e)) (some ⟨w.heap.size, 0, none⟩) xs := CellsAt.pre (rest := []) (by rw [List.append_nil]; exact Blk.new w xs e)
/-- Zeros at an address that is new since wb, whether it was made before or after the call. -/
structure Zeros (wb w3 : World) (gx : Nat) : Prop where
  blk : Blk w3 gx [.string ⟨#[]⟩, .slice none 0 0, .slice none 0 0] 27
  ext : Ext wb w3
  new : wb.heap.size ≤ gx

set_option maxRecDepth 100000 in
set_option maxHeartbeats 8000000 in
theorem twin_any (p : ByteArray) (hs : List TermZ) (ls : List LitZ) (ha : Option Addr) (hn hcap : Nat) (ba : Option Addr) (n bcap : Nat) (w : World) (G : Nat → Prop) (hhn : hn = hs.length) (hh : TermsAt w G ha hs) (hhl : hn ≤ 1048576) (hbn : n = ls.length) (h : LitsAt w G ba ls) (hf : Fit ls) :
    Calls Try.prog 8 #[ruleV p ha hn hcap ba n bcap] w (RetN w fun w' v => ∃ ha' hcap' ba' bcap', v = ruleV p ha' hn hcap' ba' n bcap' ∧ RuleM w w' hs ls ha' hn hcap' ba' n bcap') := by
  have HN := Lib.hid hbn; have HE := Lib.hid h; have HF := Lib.hid hf; have hl : n ≤ 1048576 := by have := hf.len; omega
  have HOwn := Lib.hid (fun (W : World) (hW : Ext w W) => ownTerms_any hs ha hn hcap W G hhn (hh.ext hW) hhl)
  clear hbn h hf hhn hh
  go_enter Try.func8, Try.ntmps8
  obtain ⟨wb, eb⟩ : ∃ wb, (w.alloc (.cells #[.string p, .slice ha hn hcap, .slice ba n bcap] 27)).alloc (.cells #[.string ⟨#[]⟩, .slice none 0 0, .slice none 0 0] 27) = wb := ⟨_, rfl⟩
  have hB1 := (Blk.new w [.string p, .slice ha hn hcap, .slice ba n bcap] 27).alloc (.cells #[.string ⟨#[]⟩, .slice none 0 0, .slice none 0 0] 27)
  have hB1' : Blk wb w.heap.size [.string p, .slice ha hn hcap, .slice ba n bcap] 27 := by rw [← eb]; exact hB1
  have hB2 := Blk.new (w.alloc (.cells #[.string p, .slice ha hn hcap, .slice ba n bcap] 27)) [.string ⟨#[]⟩, .slice none 0 0, .slice none 0 0] 27
  rw [alloc_size] at hB2
  have hB2' : Blk wb (w.heap.size + 1) [.string ⟨#[]⟩, .slice none 0 0, .slice none 0 0] 27 := by rw [← eb]; exact hB2
  have hX : Ext w wb := by rw [← eb]; exact ((Kp.refl w).alloc _).alloc _
  have r0 : wb.cell? ⟨w.heap.size, 0, none⟩ = some (.string p) := by rw [hB1'.cell']; rfl
  have r1 : wb.cell? ⟨w.heap.size, 1, none⟩ = some (.slice ha hn hcap) := by rw [hB1'.cell']; rfl
  have HB1 := Lib.hid hB1'
  have HB2 := Lib.hid hB2'
  have HX := Lib.hid hX
  clear hB1 hB2 hB1' hB2' hX
  have HCells := Lib.hid (show ∀ w', Ext wb w' → (fun w' : World => w'.cell? ⟨w.heap.size, 0, none⟩ = some (.string p) ∧ w'.cell? ⟨w.heap.size, 1, none⟩ = some (.slice ha hn hcap)) w' from fun w' hw => by
    have h := HB1.out.ext hw
    exact ⟨by rw [h.cell']; rfl, by rw [h.cell']; rfl⟩)
  clear r0 r1
  go_wp2
  clear eb
  refine draw_begin (fun w' : World => w'.cell? ⟨w.heap.size, 0, none⟩ = some (.string p) ∧ w'.cell? ⟨w.heap.size, 1, none⟩ = some (.slice ha hn hcap)) [10] (by kernel_rfl) (HCells.out _ (Kp.refl wb).drew) (fun hHeld => ?_)
  (refine draw_free (i := 0) (v := ?_) rfl ?_ ?_; rotate_left; (intro w; go_simp; try with_reducible rfl)); (try simp only [Act.put, List.setIfInBounds_toArray, List.set_cons_zero, List.set_cons_succ])
  (refine draw_free (i := 1) (v := ?_) rfl ?_ ?_; rotate_left; (intro w; go_simp; try with_reducible rfl)); (try simp only [Act.put, List.setIfInBounds_toArray, List.set_cons_zero, List.set_cons_succ])
  (refine draw_in (i := 2) (v := ?_) rfl ?_ ?_; rotate_left; (intro w hSw; (try dsimp only at hSw); go_simp; try with_reducible rfl)); (try simp only [Act.put, List.setIfInBounds_toArray, List.set_cons_zero, List.set_cons_succ])
  (refine draw_free (i := 3) (v := ?_) rfl ?_ ?_; rotate_left; (intro w; go_simp; try with_reducible rfl)); (try simp only [Act.put, List.setIfInBounds_toArray, List.set_cons_zero, List.set_cons_succ])
  (refine draw_free (i := 4) (v := ?_) rfl ?_ ?_; rotate_left; (intro w; go_simp; try with_reducible rfl)); (try simp only [Act.put, List.setIfInBounds_toArray, List.set_cons_zero, List.set_cons_succ])
  (refine draw_in (i := 5) (v := ?_) rfl ?_ ?_; rotate_left; (intro w hSw; (try dsimp only at hSw); go_simp; try with_reducible rfl)); (try simp only [Act.put, List.setIfInBounds_toArray, List.set_cons_zero, List.set_cons_succ])
  refine draw_two (i := 6) (k := 9) ?_ ?_
  · refine comes_turn (i := 6) rfl (fun K hK => ?_)
    go_simp
    ((with_reducible refine (HOwn.out _ (by first | exact HX.out.drew | exact (HX.out.alloc _).drew)).mono ?_); rintro e w1 ⟨v, rfl, hk1, ha', hcap', rfl, htm⟩; have X1 := Lib.hid (show Ext wb w1 by first | exact ((Kp.refl wb).drew).trans hk1 | exact (((Kp.refl wb).alloc _).drew).trans hk1); have HFirst := Lib.hid hk1; have TM1 := Lib.hid (show TermsM wb w1 ha' hn hcap' hs from htm.old (by first | exact (Kp.refl (F := fun _ => False) wb).drew.size | exact (((Kp.refl (F := fun _ => False) wb).alloc _).drew).size)); clear hk1 htm)
    go_wp2_with fail
    refine hK.out _ _ ?_ (fun hHeld => ?_)
    · (try dsimp only); (exact HCells.out _ (by first | exact ((Kp.refl wb).alloc _).drew | exact X1.out.alloc _ | exact X1.out))
    clear hK K; (try simp only [Act.put, List.setIfInBounds_toArray, List.set_cons_zero, List.set_cons_succ])
    (refine draw_free (i := 7) (v := ?_) rfl ?_ ?_; rotate_left; (intro w; go_simp; try with_reducible rfl)); (try simp only [Act.put, List.setIfInBounds_toArray, List.set_cons_zero, List.set_cons_succ])
    (refine draw_free (i := 8) (v := ?_) rfl ?_ ?_; rotate_left; (intro w; go_simp; try with_reducible rfl)); (try simp only [Act.put, List.setIfInBounds_toArray, List.set_cons_zero, List.set_cons_succ])
    refine draw_one (i := 9) ?_
    refine comes_turn (i := 9) rfl (fun K hK => ?_)
    go_simp
    refine hK.out _ _ ?_ (fun hHeld => ?_)
    · (try dsimp only); (exact HCells.out _ (by first | exact ((Kp.refl wb).alloc _).drew | exact X1.out.alloc _ | exact X1.out))
    clear hK K; (try simp only [Act.put, List.setIfInBounds_toArray, List.set_cons_zero, List.set_cons_succ])
    refine draw_one (i := 10) ?_
    refine comes_late (i := 10) rfl (by kernel_rfl) (fun K hK => ?_)
    ((first | (obtain ⟨w3, e3⟩ : ∃ x, w1.alloc (.cells #[.string ⟨#[]⟩, .slice none 0 0, .slice none 0 0] 27) = x := ⟨_, rfl⟩; rw [e3]; obtain ⟨gx, eg⟩ : ∃ g, g = w1.heap.size := ⟨_, rfl⟩; rw [← eg]; have HZ := Lib.hid (show Zeros wb w3 gx from by rw [← e3, eg]; exact ⟨Blk.new w1 _ _, X1.out.alloc _, X1.out.size⟩); have TM3 := Lib.hid (show TermsM wb w3 ha' hn hcap' hs by rw [← e3]; exact TM1.out.ext ((Kp.refl w1).alloc _)); clear e3 eg) | (obtain ⟨w3, e3⟩ : ∃ x, x = w1 := ⟨_, rfl⟩; subst e3; obtain ⟨gx, eg⟩ : ∃ g, g = wb.heap.size := ⟨_, rfl⟩; rw [← eg]; have HZ := Lib.hid (show Zeros wb w3 gx from by rw [eg]; exact ⟨(Blk.new wb _ _).drew.ext HFirst.out, X1.out, Nat.le_refl _⟩); have TM3 := TM1; clear eg)); have z0 : w3.cell? ⟨gx, 0, none⟩ = some (.string ⟨#[]⟩) := (by rw [HZ.out.blk.cell']; rfl); have z1 : w3.cell? ⟨gx, 1, none⟩ = some (.slice none 0 0) := (by rw [HZ.out.blk.cell']; rfl); have z2 : w3.cell? ⟨gx, 2, none⟩ = some (.slice none 0 0) := (by rw [HZ.out.blk.cell']; rfl); have f0 := HZ.out.blk.free 0; have f1 := HZ.out.blk.free 1; have f2 := HZ.out.blk.free 2)
    go_simp
    refine hK.out _ _ ?_
    clear hK K; (try simp only [Act.put, List.setIfInBounds_toArray, List.set_cons_zero, List.set_cons_succ])
    refine wpAnyD_done (by kernel_rfl) ?_ _
    obtain ⟨w2, ew2⟩ : ∃ x, ((w3.setCell ⟨gx, 0, none⟩ (.string p)).setCell ⟨gx, 1, none⟩ (.slice ha' hn hcap')).setCell ⟨gx, 2, none⟩ (.slice none 0 0) = x := ⟨_, rfl⟩
    rw [ew2]
    have HGX := Lib.hid (show Blk w2 gx [.string p, .slice ha' hn hcap', .slice none 0 0] 27 by rw [← ew2]; exact ((HZ.out.blk.set 0 _).set 1 _).set 2 _)
    have hk32 : Kp (fun k => k = gx) w3 w2 := by rw [← ew2]; exact Kp.setCell (F := fun k => k = gx) (Kp.setCell (F := fun k => k = gx) (Kp.setCell (F := fun k => k = gx) (Kp.refl w3) (fun _ => rfl) _) (fun _ => rfl) _) (fun _ => rfl) _
    have X2 := Lib.hid (show Ext wb w2 from by
      rw [← ew2]
      have hno : ∀ c, (⟨gx, c, none⟩ : Addr).block < wb.heap.size → False := fun c h => by have := HZ.out.new; simp only at h; omega
      exact ((HZ.out.ext.setCell (fun h => hno 0 h) _).setCell (fun h => hno 1 h) _).setCell (fun h => hno 2 h) _)
    have TM2 := Lib.hid (TM3.out.kp hk32 fun k cs hb e => by subst e; exact typ_tr (blk_ne hb HZ.out.blk))
    have HB2x := Lib.hid (HB2.out.ext X2.out)
    have EGX := Lib.hid HZ.out.new
    clear hk32 ew2 hHeld z0 z1 z2 f0 f1 f2 HZ TM3 TM1 X1 HFirst
    go_wp2
    go_loopw [4] (fun iv wr => TwinTo hs wb gx p ha' hn hcap' ls n iv wr) (fun iv _ => n - (intOf iv).toNat)
    case atStart => exact ⟨0, Nat.zero_le _, rfl, X2.out, ⟨.slice none 0 0, [], HGX.out, rfl, Row.nil _ _ _ _, fun x hx => by simp at hx⟩, TM2.out⟩
    case round =>
      obtain ⟨i, hi, rfl, hex, hin, htw⟩ := hrel
      obtain ⟨bv, vs, hB, hvs, hrow, hterms⟩ := hin.out
      have XR := Lib.hid (HX.out.trans hex.out)
      have b2 : wr.cell? ⟨w.heap.size, 2, none⟩ = some (.slice ba n bcap) := by rw [(HB1.out.ext hex.out).cell']; rfl
      by_cases hlt : i < n
      · have hltl : i < ls.length := by rw [← HN.out]; exact hlt
        obtain ⟨l, hli⟩ : ∃ l, ls[i]? = some l := ⟨_, List.getElem?_eq_getElem hltl⟩
        obtain ⟨b, off, a2, cap2, eao, hG, hb, hL, c0, c1, c2, c3, c4, c5, c6, c7⟩ := lit_at HE.out hli
        subst eao
        replace c0 := XR.out.cell c0 id
        replace c1 := XR.out.cell c1 id
        replace c2 := XR.out.cell c2 id
        replace c3 := XR.out.cell c3 id
        replace c4 := XR.out.cell c4 id
        replace c5 := XR.out.cell c5 id
        replace c6 := XR.out.cell c6 id
        replace c7 := XR.out.cell c7 id
        obtain ⟨mm, emm⟩ : ∃ mm, mm = (termsOf l).length := ⟨_, rfl⟩
        rw [← emm] at c2
        have hmm : mm ≤ 1048576 := by rw [emm]; exact HF.out.terms l (List.mem_of_getElem? hli)
        obtain ⟨k, ek⟩ : ∃ k, k = l.1 := ⟨_, rfl⟩
        rw [← ek] at c0
        clear hltl hG hb
        have HOL := Lib.hid (fun (W : World) (hW : Ext w W) => ownTerms_any (termsOf l) a2 mm cap2 W G emm (hL.terms.ext hW) hmm)
        obtain ⟨pl, epl⟩ : ∃ pl, pl = predOf l := ⟨_, rfl⟩
        rw [← epl] at c1
        obtain ⟨s3, e3⟩ : ∃ s3, s3 = opOf l := ⟨_, rfl⟩
        rw [← e3] at c3
        obtain ⟨s4, e4⟩ : ∃ s4, s4 = (leftOf l).1 := ⟨_, rfl⟩
        rw [← e4] at c4
        obtain ⟨s5, e5⟩ : ∃ s5, s5 = (leftOf l).2.1 := ⟨_, rfl⟩
        rw [← e5] at c5
        obtain ⟨s6, e6⟩ : ∃ s6, s6 = (rightOf l).1 := ⟨_, rfl⟩
        rw [← e6] at c6
        obtain ⟨s7, e7⟩ : ∃ s7, s7 = (rightOf l).2.1 := ⟨_, rfl⟩
        rw [← e7] at c7
        have HL := Lib.hid (And.intro hli (show ∀ a c, litC (l, (a, c)) = [.int .i64 k, .string pl, .slice a mm c, .int .i64 s3, .int .i64 s4, .string s5, .int .i64 s6, .string s7] from fun a c => by rw [ek, epl, emm, e3, e4, e5, e6, e7]; rfl))
        have EMM := Lib.hid emm
        obtain ⟨gt, egt⟩ : ∃ gt, gt = wr.heap.size := ⟨_, rfl⟩
        obtain ⟨wx, ewx⟩ : ∃ wx, wr.alloc (.cells #[.int .i64 k, .string pl, .slice a2 mm cap2, .int .i64 s3, .int .i64 s4, .string s5, .int .i64 s6, .string s7] 70) = wx := ⟨_, rfl⟩
        have hgt := Blk.new wr [.int .i64 k, .string pl, .slice a2 mm cap2, .int .i64 s3, .int .i64 s4, .string s5, .int .i64 s6, .string s7] 70
        have ewx' : wr.alloc (.cells [Value.int .i64 k, .string pl, .slice a2 mm cap2, .int .i64 s3, .int .i64 s4, .string s5, .int .i64 s6, .string s7].toArray 70) = wx := ewx
        rw [ewx', ← egt] at hgt
        have hxx : Ext wr wx := by rw [← ewx]; exact (Kp.refl wr).alloc _
        have HXX := Lib.hid hxx
        have HGT := Lib.hid hgt
        have g2 : wx.cell? ⟨gt, 2, none⟩ = some (.slice a2 mm cap2) := by rw [hgt.cell']; rfl
        have g2' : wx.cell? ⟨wr.heap.size, 2, none⟩ = some (.slice a2 mm cap2) := by rw [← egt]; exact g2
        have EGT := Lib.hid egt
        have HIn := Lib.hid (And.intro hB (And.intro hvs (And.intro hrow hterms)))
        clear hli emm ek epl e3 e4 e5 e6 e7 hL hgt ewx' hxx egt hB hvs hrow hterms hin
        go_wp2_with fail
        rw [← EGT.out]
        go_wp2_with fail
        refine (HOL.out _ (XR.out.trans HXX.out)).mono ?_
        rintro e w4 ⟨v, rfl, hk4, a3, c3', rfl, htm⟩
        have HT4 := Lib.hid (htm.old (w0 := wb) (Nat.le_trans hex.out.size HXX.out.size))
        have X4 := Lib.hid (HXX.out.trans hk4)
        have hg4 := HGT.out.ext hk4
        have h2 : w4.cell? ⟨gt, 2, none⟩ = some (.slice a2 mm cap2) := by rw [hg4.cell']; rfl
        have h2f := hg4.free 2
        obtain ⟨w5, ew5⟩ : ∃ w5, w4.setCell ⟨gt, 2, none⟩ (.slice a3 mm c3') = w5 := ⟨_, rfl⟩
        have hg5 : Blk w5 gt [.int .i64 k, .string pl, .slice a3 mm c3', .int .i64 s3, .int .i64 s4, .string s5, .int .i64 s6, .string s7] 70 := by rw [← ew5]; exact hg4.set 2 _
        have hx5 : Ext wr w5 := by
          rw [← ew5]
          exact Kp.setCell (F := fun _ => False) X4.out (fun h => by have := EGT.out; simp only at h; omega) _
        have hk45 : Kp (fun k => k = gt) w4 w5 := by rw [← ew5]; exact Kp.setCell (F := fun k => k = gt) (Kp.refl w4) (fun _ => rfl) _
        have HT5 := Lib.hid (HT4.out.kp hk45 fun k cs hb e => by subst e; exact typ_tl (blk_ne hb hg4))
        obtain ⟨bo, bi, bc, ebv, _, _⟩ : ∃ ao n cap, bv = .slice ao n cap ∧ True ∧ True := by
          obtain ⟨ao, cap, e, _⟩ := HIn.out.2.2.1.shape
          exact ⟨ao, _, cap, e, trivial, trivial⟩
        subst ebv
        have hB5 := HIn.out.1.ext hx5
        have x2 : w5.cell? ⟨gx, 2, none⟩ = some (.slice bo bi bc) := by rw [hB5.cell']; rfl
        have q0 : w5.cell? ⟨gt, 0, none⟩ = some (.int .i64 k) := by rw [hg5.cell']; rfl
        have q1 : w5.cell? ⟨gt, 1, none⟩ = some (.string pl) := by rw [hg5.cell']; rfl
        have q2 : w5.cell? ⟨gt, 2, none⟩ = some (.slice a3 mm c3') := by rw [hg5.cell']; rfl
        have q3 : w5.cell? ⟨gt, 3, none⟩ = some (.int .i64 s3) := by rw [hg5.cell']; rfl
        have q4 : w5.cell? ⟨gt, 4, none⟩ = some (.int .i64 s4) := by rw [hg5.cell']; rfl
        have q5 : w5.cell? ⟨gt, 5, none⟩ = some (.string s5) := by rw [hg5.cell']; rfl
        have q6 : w5.cell? ⟨gt, 6, none⟩ = some (.int .i64 s6) := by rw [hg5.cell']; rfl
        have q7 : w5.cell? ⟨gt, 7, none⟩ = some (.string s7) := by rw [hg5.cell']; rfl
        have X5 := Lib.hid hx5
        have HB5 := Lib.hid hB5
        have HR5 := Lib.hid (HIn.out.2.2.1.ext hx5)
        have hsz : (wb.heap.size : Nat) ≤ w5.heap.size := Nat.le_trans hex.out.size hx5.size
        have hXw5 : Ext wb w5 := hex.out.trans hx5
        clear hk4 htm hg4 hg5 hx5 hk45 hB5 ewx c0 c1 c2 c3 c4 c5 c6 c7 b2 g2 g2'
        go_wp2_with (first | (at_builtin; refine Halted.out ?_))
        refine Halted.mk (wp_appN (m := 1) (n := i) elem_lit rfl _ _ rfl (hXw5.alloc _) rfl (HR5.out.alloc _) rfl (CellsAt.new w5 [.int .i64 k, .string pl, .slice a3 mm c3', .int .i64 s3, .int .i64 s4, .string s5, .int .i64 s6, .string s7] 70) (by rfl) (by rw [← HL.out.2]; exact litC_one _) (by omega) (by unfold maxLen; omega) ?_)
        intro v1 w6 hr1 hk1 hk2 _
        have hB6 : Blk w6 gx [.string p, .slice ha' hn hcap', .slice bo bi bc] 27 := (HB5.out.alloc _).kp hk2 fun e => by
          obtain ⟨cs, hb⟩ := HR5.out.blkOf e
          exact typ_lr (blk_ne hb HB5.out)
        have x6 : w6.cell? ⟨gx, 2, none⟩ = some (.slice bo bi bc) := by rw [hB6.cell']; rfl
        have x6f := hB6.free 2
        obtain ⟨b6, n6, c6', ev6, _⟩ : ∃ ao n cap, v1 = .slice ao n cap ∧ True := by
          obtain ⟨ao, cap, e, _⟩ := hr1.shape
          exact ⟨ao, _, cap, e, trivial⟩
        subst ev6
        have hT6 : ∀ {a : Option Addr} {m c : Nat} {ts : List TermZ}, TermsM wb w5 a m c ts → TermsM wb w6 a m c ts := fun ht => (ht.ext ((Kp.refl w5).alloc _)).kp hk2 fun k cs hb e => by
          obtain ⟨cs', hb'⟩ := (HR5.out.alloc _).blkOf e
          exact typ_tl (blk_ne hb hb')
        obtain ⟨w7, ew7⟩ : ∃ w7, w6.setCell ⟨gx, 2, none⟩ (.slice b6 n6 c6') = w7 := ⟨_, rfl⟩
        have hk67 : Kp (fun k => k = gx) w6 w7 := by rw [← ew7]; exact Kp.setCell (F := fun k => k = gx) (Kp.refl w6) (fun _ => rfl) _
        have hB7 : Blk w7 gx [.string p, .slice ha' hn hcap', .slice b6 n6 c6'] 27 := by rw [← ew7]; exact hB6.set 2 _
        have hx7 : Ext wb w7 := by rw [← ew7]; exact Kp.setCell (F := fun _ => False) hk1 (fun h => by have := EGX.out; simp only at h; omega) _
        have hr7 := hr1.kp' hk67 fun g hg _ e => by
          obtain ⟨cs, hb⟩ := hr1.blkOf hg
          subst e
          exact typ_lr (blk_ne hb hB6)
        have hT7 : ∀ {a : Option Addr} {m c : Nat} {ts : List TermZ}, TermsM wb w5 a m c ts → TermsM wb w7 a m c ts := fun ht => (hT6 ht).kp hk67 fun k cs hb e => by subst e; exact typ_tr (blk_ne hb hB6)
        have HFin := Lib.hid (show ∃ bv vs, Blk w7 gx [.string p, .slice ha' hn hcap', bv] 27 ∧ vs.length = i + 1 ∧ Row w7 70 8 bv (i + 1) (((ls.take (i + 1)).zip vs).flatMap litC) (New wb) ∧ ∀ x ∈ (ls.take (i + 1)).zip vs, TermsM wb w7 x.2.1 (termsOf x.1).length x.2.2 (termsOf x.1) by
          have hlen : (ls.take i).length = vs.length := by rw [List.length_take, HIn.out.2.1]; have := HN.out; omega
          have et : ls.take (i + 1) = ls.take i ++ [l] := by rw [List.take_add_one, HL.out.1]; rfl
          refine ⟨_, vs ++ [(a3, c3')], hB7, by rw [List.length_append, HIn.out.2.1]; rfl, ?_, ?_⟩
          · rw [et, List.zip_append hlen, List.flatMap_append]
            have e2 : (([l].zip [(a3, c3')]).flatMap litC) = [.int .i64 k, .string pl, .slice a3 mm c3', .int .i64 s3, .int .i64 s4, .string s5, .int .i64 s6, .string s7] := by
              show litC (l, (a3, c3')) ++ [] = _
              rw [HL.out.2, List.append_nil]
            rw [e2]; exact hr7
          · intro x hx
            rw [et, List.zip_append hlen, List.mem_append] at hx
            rcases hx with hx | hx
            · exact hT7 ((HIn.out.2.2.2 x hx).ext X5.out)
            · simp at hx; subst hx
              have h := hT7 HT5.out
              rw [EMM.out] at h; exact h)
        have HX7 := Lib.hid hx7
        have HTW7 := Lib.hid (hT7 (htw.out.ext X5.out))
        clear hr1 hk1 hk2 hB6 hT6 hk67 hB7 hx7 hr7 hT7 q0 q1 q2 q3 q4 q5 q6 q7 x2 h2 h2f ew5 hXw5
        go_wp2
        go_roundw
        case rel => exact ⟨i + 1, by omega, by first | rfl | (congr 1; done) | (congr 1; omega), HX7.out, HFin.out, HTW7.out⟩
        case measure => simp [intOf]; omega
      · obtain rfl : i = n := by omega
        have hall : ls.take i = ls := List.take_of_length_le (by have := HN.out; omega)
        rw [hall] at hrow hterms
        obtain ⟨bo, bi, bc, ebv⟩ : ∃ ao n cap, bv = .slice ao n cap := by
          obtain ⟨ao, cap, e, _⟩ := hrow.shape
          exact ⟨ao, _, cap, e⟩
        subst ebv
        have x2 : wr.cell? ⟨gx, 2, none⟩ = some (.slice bo bi bc) := by rw [hB.cell']; rfl
        have HBg := Lib.hid hB
        have HR5 := Lib.hid hrow
        have HTs := Lib.hid (And.intro hvs hterms)
        have hXw := hex.out
        clear hB hrow hterms hvs hall hin
        go_wp2_with (first | (at_builtin; refine Halted.out ?_))
        refine Halted.mk (wp_appN (m := 1) (n := i) elem_lit rfl _ _ rfl (hXw.alloc _) rfl (HR5.out.alloc _) rfl (CellsAt.new wr [.int .i64 (-7), .string ⟨#[]⟩, .slice none 0 0, .int .i64 0, .int .i64 0, .string ⟨#[]⟩, .int .i64 0, .string ⟨#[]⟩] 70) (by rfl) (by intro u hu; simp at hu; rcases hu with rfl | rfl | rfl | rfl | rfl | rfl | rfl | rfl <;> rfl) (by omega) (by unfold maxLen; omega) ?_)
        intro v1 w6 hr1 hk1 hk2 _
        obtain ⟨h1, ⟨rfl, h0⟩ | ⟨gb, cap2, rest, rfl, hM, hBB, hlen, hnc, hcm⟩⟩ := hr1
        · omega
        · have hB6 : Blk w6 gx [.string p, .slice ha' hn hcap', .slice bo bi bc] 27 := (HBg.out.alloc _).kp hk2 fun e => by
            obtain ⟨cs, hb⟩ := HR5.out.blkOf e
            exact typ_lr (blk_ne hb HBg.out)
          have x6 : w6.cell? ⟨gx, 2, none⟩ = some (.slice bo bi bc) := by rw [hB6.cell']; rfl
          have x6f := hB6.free 2
          have hT6 : ∀ {a : Option Addr} {m c : Nat} {ts : List TermZ}, TermsM wb wr a m c ts → TermsM wb w6 a m c ts := fun ht => (ht.ext ((Kp.refl wr).alloc _)).kp hk2 fun k cs hb e => by
            obtain ⟨cs', hb'⟩ := (HR5.out.alloc _).blkOf e
            exact typ_tl (blk_ne hb hb')
          obtain ⟨w7, ew7⟩ : ∃ w7, w6.setCell ⟨gx, 2, none⟩ (.slice (some ⟨gb, 0, none⟩) (i + 1) cap2) = w7 := ⟨_, rfl⟩
          have hk67 : Kp (fun k => k = gx) w6 w7 := by rw [← ew7]; exact Kp.setCell (F := fun k => k = gx) (Kp.refl w6) (fun _ => rfl) _
          have hB7 : Blk w7 gx [.string p, .slice ha' hn hcap', .slice (some ⟨gb, 0, none⟩) (i + 1) cap2] 27 := by rw [← ew7]; exact hB6.set 2 _
          have hx7 : Ext wb w7 := by rw [← ew7]; exact Kp.setCell (F := fun _ => False) hk1 (fun h => by have := EGX.out; simp only at h; omega) _
          obtain ⟨w8, ew8⟩ : ∃ w8, w7.setCell ⟨gx, 2, none⟩ (.slice (some ⟨gb, 0, none⟩) i cap2) = w8 := ⟨_, rfl⟩
          have hk78 : Kp (fun k => k = gx) w7 w8 := by rw [← ew8]; exact Kp.setCell (F := fun k => k = gx) (Kp.refl w7) (fun _ => rfl) _
          have hB8 : Blk w8 gx [.string p, .slice ha' hn hcap', .slice (some ⟨gb, 0, none⟩) i cap2] 27 := by rw [← ew8]; exact hB7.set 2 _
          have hx8 : Ext wb w8 := by rw [← ew8]; exact Kp.setCell (F := fun _ => False) hx7 (fun h => by have := EGX.out; simp only at h; omega) _
          have hk68 : Kp (fun k => k = gx) w6 w8 := hk67.trans hk78
          have hT8 : ∀ {a : Option Addr} {m c : Nat} {ts : List TermZ}, TermsM wb wr a m c ts → TermsM wb w8 a m c ts := fun ht => (hT6 ht).kp hk68 fun k cs hb e => by subst e; exact typ_tr (blk_ne hb hB6)
          have hBB8 := hBB.kp hk68 fun e => by subst e; exact typ_lr (blk_ne hBB hB6)
          have hN1 := HB1.out.ext hx7
          have hN2 := HB2.out.ext hx8
          obtain ⟨w9, ew9⟩ : ∃ x, ((w8.setCell ⟨w.heap.size + 1, 0, none⟩ (.string p)).setCell ⟨w.heap.size + 1, 1, none⟩ (.slice ha' hn hcap')).setCell ⟨w.heap.size + 1, 2, none⟩ (.slice (some ⟨gb, 0, none⟩) i cap2) = x := ⟨_, rfl⟩
          have hk89 : Kp (fun k => k = w.heap.size + 1) w8 w9 := by rw [← ew9]; exact Kp.setCell (F := fun k => k = w.heap.size + 1) (Kp.setCell (F := fun k => k = w.heap.size + 1) (Kp.setCell (F := fun k => k = w.heap.size + 1) (Kp.refl w8) (fun _ => rfl) _) (fun _ => rfl) _) (fun _ => rfl) _
          have hN9 : Blk w9 (w.heap.size + 1) [.string p, .slice ha' hn hcap', .slice (some ⟨gb, 0, none⟩) i cap2] 27 := by rw [← ew9]; exact ((hN2.set 0 _).set 1 _).set 2 _
          have hx9 : Ext w w9 := by
            rw [← ew9]
            exact Kp.setCell (F := fun _ => False) (Kp.setCell (F := fun _ => False) (Kp.setCell (F := fun _ => False) (HX.out.trans hx8) (fun h => by simp only at h; omega) _) (fun h => by simp only at h; omega) _) (fun h => by simp only at h; omega) _
          have hsz := HX.out.size
          have hT9 : ∀ {a : Option Addr} {m c : Nat} {ts : List TermZ}, TermsM wb wr a m c ts → TermsM w w9 a m c ts := fun ht => ((hT8 ht).kp hk89 fun k cs hb e => by subst e; exact typ_tr (blk_ne hb hN2)).old hsz
          have hBB9 := hBB8.kp hk89 fun e => by subst e; exact typ_lr (blk_ne hBB8 hN2)
          have HRes := Lib.hid (show RuleM w w9 hs ls ha' hn hcap' (some ⟨gb, 0, none⟩) i cap2 by
            refine ⟨hT9 htw.out, gb, rest, vs, rfl, HN.out, hnc, hcm, Nat.le_trans hsz hM, HTs.out.1.trans HN.out, ?_, fun x hx => hT9 (HTs.out.2 x hx)⟩
            rw [List.append_assoc] at hBB9
            exact hBB9)
          have HX9 := Lib.hid hx9
          have a2 : w7.cell? ⟨w.heap.size, 2, none⟩ = some (.slice ba i bcap) := by rw [hN1.cell']; rfl
          have x7 : w7.cell? ⟨gx, 2, none⟩ = some (.slice (some ⟨gb, 0, none⟩) (i + 1) cap2) := by rw [hB7.cell']; rfl
          have x7f := hB7.free 2
          have l0 : w8.cell? ⟨gx, 0, none⟩ = some (.string p) := by rw [hB8.cell']; rfl
          have l1 : w8.cell? ⟨gx, 1, none⟩ = some (.slice ha' hn hcap') := by rw [hB8.cell']; rfl
          have l2 : w8.cell? ⟨gx, 2, none⟩ = some (.slice (some ⟨gb, 0, none⟩) i cap2) := by rw [hB8.cell']; rfl
          have m0 : w8.cell? ⟨w.heap.size + 1, 0, none⟩ = some (.string ⟨#[]⟩) := by rw [hN2.cell']; rfl
          have m1 : w8.cell? ⟨w.heap.size + 1, 1, none⟩ = some (.slice none 0 0) := by rw [hN2.cell']; rfl
          have m2 : w8.cell? ⟨w.heap.size + 1, 2, none⟩ = some (.slice none 0 0) := by rw [hN2.cell']; rfl
          have q0 := hN2.free 0
          have q1 := hN2.free 1
          have q2 := hN2.free 2
          have u0 : w9.cell? ⟨w.heap.size + 1, 0, none⟩ = some (.string p) := by rw [hN9.cell']; rfl
          have u1 : w9.cell? ⟨w.heap.size + 1, 1, none⟩ = some (.slice ha' hn hcap') := by rw [hN9.cell']; rfl
          have u2 : w9.cell? ⟨w.heap.size + 1, 2, none⟩ = some (.slice (some ⟨gb, 0, none⟩) i cap2) := by rw [hN9.cell']; rfl
          have i1 : (i : Int) ≤ (cap2 : Int) := by omega
          have hcm2 : cap2 ≤ 9223372036854775807 := hcm
          clear hk67 hB7 hx7 hk78 hB8 hx8 hk68 hT8 hT6 hBB8 hN1 hN2 hk89 hN9 hx9 hT9 hBB9 hBB hk1 hk2 hB6 hsz h1
          go_wp2
          refine bodyPost_ret (v := ruleV p ha' hn hcap' (some ⟨gb, 0, none⟩) i cap2) (by simp [results, Try.results8, go_sem, ruleV, u0, u1, u2]) rfl ?_
          exact RetN.mk HX9.out ⟨_, _, _, _, rfl, HRes.out⟩
  · refine comes_turn (i := 9) rfl (fun K hK => ?_)
    go_simp
    refine hK.out _ _ ?_ (fun hHeld => ?_)
    · (try dsimp only); (exact HCells.out _ (by first | exact ((Kp.refl wb).alloc _).drew | exact X1.out.alloc _ | exact X1.out))
    clear hK K; (try simp only [Act.put, List.setIfInBounds_toArray, List.set_cons_zero, List.set_cons_succ])
    refine draw_one (i := 6) ?_
    refine comes_turn (i := 6) rfl (fun K hK => ?_)
    go_simp
    ((with_reducible refine (HOwn.out _ (by first | exact HX.out.drew | exact (HX.out.alloc _).drew)).mono ?_); rintro e w1 ⟨v, rfl, hk1, ha', hcap', rfl, htm⟩; have X1 := Lib.hid (show Ext wb w1 by first | exact ((Kp.refl wb).drew).trans hk1 | exact (((Kp.refl wb).alloc _).drew).trans hk1); have HFirst := Lib.hid hk1; have TM1 := Lib.hid (show TermsM wb w1 ha' hn hcap' hs from htm.old (by first | exact (Kp.refl (F := fun _ => False) wb).drew.size | exact (((Kp.refl (F := fun _ => False) wb).alloc _).drew).size)); clear hk1 htm)
    go_wp2_with fail
    refine hK.out _ _ ?_ (fun hHeld => ?_)
    · (try dsimp only); (exact HCells.out _ (by first | exact ((Kp.refl wb).alloc _).drew | exact X1.out.alloc _ | exact X1.out))
    clear hK K; (try simp only [Act.put, List.setIfInBounds_toArray, List.set_cons_zero, List.set_cons_succ])
    (refine draw_free (i := 7) (v := ?_) rfl ?_ ?_; rotate_left; (intro w; go_simp; try with_reducible rfl)); (try simp only [Act.put, List.setIfInBounds_toArray, List.set_cons_zero, List.set_cons_succ])
    (refine draw_free (i := 8) (v := ?_) rfl ?_ ?_; rotate_left; (intro w; go_simp; try with_reducible rfl)); (try simp only [Act.put, List.setIfInBounds_toArray, List.set_cons_zero, List.set_cons_succ])
    refine draw_one (i := 10) ?_
    refine comes_late (i := 10) rfl (by kernel_rfl) (fun K hK => ?_)
    ((first | (obtain ⟨w3, e3⟩ : ∃ x, w1.alloc (.cells #[.string ⟨#[]⟩, .slice none 0 0, .slice none 0 0] 27) = x := ⟨_, rfl⟩; rw [e3]; obtain ⟨gx, eg⟩ : ∃ g, g = w1.heap.size := ⟨_, rfl⟩; rw [← eg]; have HZ := Lib.hid (show Zeros wb w3 gx from by rw [← e3, eg]; exact ⟨Blk.new w1 _ _, X1.out.alloc _, X1.out.size⟩); have TM3 := Lib.hid (show TermsM wb w3 ha' hn hcap' hs by rw [← e3]; exact TM1.out.ext ((Kp.refl w1).alloc _)); clear e3 eg) | (obtain ⟨w3, e3⟩ : ∃ x, x = w1 := ⟨_, rfl⟩; subst e3; obtain ⟨gx, eg⟩ : ∃ g, g = wb.heap.size := ⟨_, rfl⟩; rw [← eg]; have HZ := Lib.hid (show Zeros wb w3 gx from by rw [eg]; exact ⟨(Blk.new wb _ _).drew.ext HFirst.out, X1.out, Nat.le_refl _⟩); have TM3 := TM1; clear eg)); have z0 : w3.cell? ⟨gx, 0, none⟩ = some (.string ⟨#[]⟩) := (by rw [HZ.out.blk.cell']; rfl); have z1 : w3.cell? ⟨gx, 1, none⟩ = some (.slice none 0 0) := (by rw [HZ.out.blk.cell']; rfl); have z2 : w3.cell? ⟨gx, 2, none⟩ = some (.slice none 0 0) := (by rw [HZ.out.blk.cell']; rfl); have f0 := HZ.out.blk.free 0; have f1 := HZ.out.blk.free 1; have f2 := HZ.out.blk.free 2)
    go_simp
    refine hK.out _ _ ?_
    clear hK K; (try simp only [Act.put, List.setIfInBounds_toArray, List.set_cons_zero, List.set_cons_succ])
    refine wpAnyD_done (by kernel_rfl) ?_ _
    obtain ⟨w2, ew2⟩ : ∃ x, ((w3.setCell ⟨gx, 0, none⟩ (.string p)).setCell ⟨gx, 1, none⟩ (.slice ha' hn hcap')).setCell ⟨gx, 2, none⟩ (.slice none 0 0) = x := ⟨_, rfl⟩
    rw [ew2]
    have HGX := Lib.hid (show Blk w2 gx [.string p, .slice ha' hn hcap', .slice none 0 0] 27 by rw [← ew2]; exact ((HZ.out.blk.set 0 _).set 1 _).set 2 _)
    have hk32 : Kp (fun k => k = gx) w3 w2 := by rw [← ew2]; exact Kp.setCell (F := fun k => k = gx) (Kp.setCell (F := fun k => k = gx) (Kp.setCell (F := fun k => k = gx) (Kp.refl w3) (fun _ => rfl) _) (fun _ => rfl) _) (fun _ => rfl) _
    have X2 := Lib.hid (show Ext wb w2 from by
      rw [← ew2]
      have hno : ∀ c, (⟨gx, c, none⟩ : Addr).block < wb.heap.size → False := fun c h => by have := HZ.out.new; simp only at h; omega
      exact ((HZ.out.ext.setCell (fun h => hno 0 h) _).setCell (fun h => hno 1 h) _).setCell (fun h => hno 2 h) _)
    have TM2 := Lib.hid (TM3.out.kp hk32 fun k cs hb e => by subst e; exact typ_tr (blk_ne hb HZ.out.blk))
    have HB2x := Lib.hid (HB2.out.ext X2.out)
    have EGX := Lib.hid HZ.out.new
    clear hk32 ew2 hHeld z0 z1 z2 f0 f1 f2 HZ TM3 TM1 X1 HFirst
    go_wp2
    go_loopw [4] (fun iv wr => TwinTo hs wb gx p ha' hn hcap' ls n iv wr) (fun iv _ => n - (intOf iv).toNat)
    case atStart => exact ⟨0, Nat.zero_le _, rfl, X2.out, ⟨.slice none 0 0, [], HGX.out, rfl, Row.nil _ _ _ _, fun x hx => by simp at hx⟩, TM2.out⟩
    case round =>
      obtain ⟨i, hi, rfl, hex, hin, htw⟩ := hrel
      obtain ⟨bv, vs, hB, hvs, hrow, hterms⟩ := hin.out
      have XR := Lib.hid (HX.out.trans hex.out)
      have b2 : wr.cell? ⟨w.heap.size, 2, none⟩ = some (.slice ba n bcap) := by rw [(HB1.out.ext hex.out).cell']; rfl
      by_cases hlt : i < n
      · have hltl : i < ls.length := by rw [← HN.out]; exact hlt
        obtain ⟨l, hli⟩ : ∃ l, ls[i]? = some l := ⟨_, List.getElem?_eq_getElem hltl⟩
        obtain ⟨b, off, a2, cap2, eao, hG, hb, hL, c0, c1, c2, c3, c4, c5, c6, c7⟩ := lit_at HE.out hli
        subst eao
        replace c0 := XR.out.cell c0 id
        replace c1 := XR.out.cell c1 id
        replace c2 := XR.out.cell c2 id
        replace c3 := XR.out.cell c3 id
        replace c4 := XR.out.cell c4 id
        replace c5 := XR.out.cell c5 id
        replace c6 := XR.out.cell c6 id
        replace c7 := XR.out.cell c7 id
        obtain ⟨mm, emm⟩ : ∃ mm, mm = (termsOf l).length := ⟨_, rfl⟩
        rw [← emm] at c2
        have hmm : mm ≤ 1048576 := by rw [emm]; exact HF.out.terms l (List.mem_of_getElem? hli)
        obtain ⟨k, ek⟩ : ∃ k, k = l.1 := ⟨_, rfl⟩
        rw [← ek] at c0
        clear hltl hG hb
        have HOL := Lib.hid (fun (W : World) (hW : Ext w W) => ownTerms_any (termsOf l) a2 mm cap2 W G emm (hL.terms.ext hW) hmm)
        obtain ⟨pl, epl⟩ : ∃ pl, pl = predOf l := ⟨_, rfl⟩
        rw [← epl] at c1
        obtain ⟨s3, e3⟩ : ∃ s3, s3 = opOf l := ⟨_, rfl⟩
        rw [← e3] at c3
        obtain ⟨s4, e4⟩ : ∃ s4, s4 = (leftOf l).1 := ⟨_, rfl⟩
        rw [← e4] at c4
        obtain ⟨s5, e5⟩ : ∃ s5, s5 = (leftOf l).2.1 := ⟨_, rfl⟩
        rw [← e5] at c5
        obtain ⟨s6, e6⟩ : ∃ s6, s6 = (rightOf l).1 := ⟨_, rfl⟩
        rw [← e6] at c6
        obtain ⟨s7, e7⟩ : ∃ s7, s7 = (rightOf l).2.1 := ⟨_, rfl⟩
        rw [← e7] at c7
        have HL := Lib.hid (And.intro hli (show ∀ a c, litC (l, (a, c)) = [.int .i64 k, .string pl, .slice a mm c, .int .i64 s3, .int .i64 s4, .string s5, .int .i64 s6, .string s7] from fun a c => by rw [ek, epl, emm, e3, e4, e5, e6, e7]; rfl))
        have EMM := Lib.hid emm
        obtain ⟨gt, egt⟩ : ∃ gt, gt = wr.heap.size := ⟨_, rfl⟩
        obtain ⟨wx, ewx⟩ : ∃ wx, wr.alloc (.cells #[.int .i64 k, .string pl, .slice a2 mm cap2, .int .i64 s3, .int .i64 s4, .string s5, .int .i64 s6, .string s7] 70) = wx := ⟨_, rfl⟩
        have hgt := Blk.new wr [.int .i64 k, .string pl, .slice a2 mm cap2, .int .i64 s3, .int .i64 s4, .string s5, .int .i64 s6, .string s7] 70
        have ewx' : wr.alloc (.cells [Value.int .i64 k, .string pl, .slice a2 mm cap2, .int .i64 s3, .int .i64 s4, .string s5, .int .i64 s6, .string s7].toArray 70) = wx := ewx
        rw [ewx', ← egt] at hgt
        have hxx : Ext wr wx := by rw [← ewx]; exact (Kp.refl wr).alloc _
        have HXX := Lib.hid hxx
        have HGT := Lib.hid hgt
        have g2 : wx.cell? ⟨gt, 2, none⟩ = some (.slice a2 mm cap2) := by rw [hgt.cell']; rfl
        have g2' : wx.cell? ⟨wr.heap.size, 2, none⟩ = some (.slice a2 mm cap2) := by rw [← egt]; exact g2
        have EGT := Lib.hid egt
        have HIn := Lib.hid (And.intro hB (And.intro hvs (And.intro hrow hterms)))
        clear hli emm ek epl e3 e4 e5 e6 e7 hL hgt ewx' hxx egt hB hvs hrow hterms hin
        go_wp2_with fail
        rw [← EGT.out]
        go_wp2_with fail
        refine (HOL.out _ (XR.out.trans HXX.out)).mono ?_
        rintro e w4 ⟨v, rfl, hk4, a3, c3', rfl, htm⟩
        have HT4 := Lib.hid (htm.old (w0 := wb) (Nat.le_trans hex.out.size HXX.out.size))
        have X4 := Lib.hid (HXX.out.trans hk4)
        have hg4 := HGT.out.ext hk4
        have h2 : w4.cell? ⟨gt, 2, none⟩ = some (.slice a2 mm cap2) := by rw [hg4.cell']; rfl
        have h2f := hg4.free 2
        obtain ⟨w5, ew5⟩ : ∃ w5, w4.setCell ⟨gt, 2, none⟩ (.slice a3 mm c3') = w5 := ⟨_, rfl⟩
        have hg5 : Blk w5 gt [.int .i64 k, .string pl, .slice a3 mm c3', .int .i64 s3, .int .i64 s4, .string s5, .int .i64 s6, .string s7] 70 := by rw [← ew5]; exact hg4.set 2 _
        have hx5 : Ext wr w5 := by
          rw [← ew5]
          exact Kp.setCell (F := fun _ => False) X4.out (fun h => by have := EGT.out; simp only at h; omega) _
        have hk45 : Kp (fun k => k = gt) w4 w5 := by rw [← ew5]; exact Kp.setCell (F := fun k => k = gt) (Kp.refl w4) (fun _ => rfl) _
        have HT5 := Lib.hid (HT4.out.kp hk45 fun k cs hb e => by subst e; exact typ_tl (blk_ne hb hg4))
        obtain ⟨bo, bi, bc, ebv, _, _⟩ : ∃ ao n cap, bv = .slice ao n cap ∧ True ∧ True := by
          obtain ⟨ao, cap, e, _⟩ := HIn.out.2.2.1.shape
          exact ⟨ao, _, cap, e, trivial, trivial⟩
        subst ebv
        have hB5 := HIn.out.1.ext hx5
        have x2 : w5.cell? ⟨gx, 2, none⟩ = some (.slice bo bi bc) := by rw [hB5.cell']; rfl
        have q0 : w5.cell? ⟨gt, 0, none⟩ = some (.int .i64 k) := by rw [hg5.cell']; rfl
        have q1 : w5.cell? ⟨gt, 1, none⟩ = some (.string pl) := by rw [hg5.cell']; rfl
        have q2 : w5.cell? ⟨gt, 2, none⟩ = some (.slice a3 mm c3') := by rw [hg5.cell']; rfl
        have q3 : w5.cell? ⟨gt, 3, none⟩ = some (.int .i64 s3) := by rw [hg5.cell']; rfl
        have q4 : w5.cell? ⟨gt, 4, none⟩ = some (.int .i64 s4) := by rw [hg5.cell']; rfl
        have q5 : w5.cell? ⟨gt, 5, none⟩ = some (.string s5) := by rw [hg5.cell']; rfl
        have q6 : w5.cell? ⟨gt, 6, none⟩ = some (.int .i64 s6) := by rw [hg5.cell']; rfl
        have q7 : w5.cell? ⟨gt, 7, none⟩ = some (.string s7) := by rw [hg5.cell']; rfl
        have X5 := Lib.hid hx5
        have HB5 := Lib.hid hB5
        have HR5 := Lib.hid (HIn.out.2.2.1.ext hx5)
        have hsz : (wb.heap.size : Nat) ≤ w5.heap.size := Nat.le_trans hex.out.size hx5.size
        have hXw5 : Ext wb w5 := hex.out.trans hx5
        clear hk4 htm hg4 hg5 hx5 hk45 hB5 ewx c0 c1 c2 c3 c4 c5 c6 c7 b2 g2 g2'
        go_wp2_with (first | (at_builtin; refine Halted.out ?_))
        refine Halted.mk (wp_appN (m := 1) (n := i) elem_lit rfl _ _ rfl (hXw5.alloc _) rfl (HR5.out.alloc _) rfl (CellsAt.new w5 [.int .i64 k, .string pl, .slice a3 mm c3', .int .i64 s3, .int .i64 s4, .string s5, .int .i64 s6, .string s7] 70) (by rfl) (by rw [← HL.out.2]; exact litC_one _) (by omega) (by unfold maxLen; omega) ?_)
        intro v1 w6 hr1 hk1 hk2 _
        have hB6 : Blk w6 gx [.string p, .slice ha' hn hcap', .slice bo bi bc] 27 := (HB5.out.alloc _).kp hk2 fun e => by
          obtain ⟨cs, hb⟩ := HR5.out.blkOf e
          exact typ_lr (blk_ne hb HB5.out)
        have x6 : w6.cell? ⟨gx, 2, none⟩ = some (.slice bo bi bc) := by rw [hB6.cell']; rfl
        have x6f := hB6.free 2
        obtain ⟨b6, n6, c6', ev6, _⟩ : ∃ ao n cap, v1 = .slice ao n cap ∧ True := by
          obtain ⟨ao, cap, e, _⟩ := hr1.shape
          exact ⟨ao, _, cap, e, trivial⟩
        subst ev6
        have hT6 : ∀ {a : Option Addr} {m c : Nat} {ts : List TermZ}, TermsM wb w5 a m c ts → TermsM wb w6 a m c ts := fun ht => (ht.ext ((Kp.refl w5).alloc _)).kp hk2 fun k cs hb e => by
          obtain ⟨cs', hb'⟩ := (HR5.out.alloc _).blkOf e
          exact typ_tl (blk_ne hb hb')
        obtain ⟨w7, ew7⟩ : ∃ w7, w6.setCell ⟨gx, 2, none⟩ (.slice b6 n6 c6') = w7 := ⟨_, rfl⟩
        have hk67 : Kp (fun k => k = gx) w6 w7 := by rw [← ew7]; exact Kp.setCell (F := fun k => k = gx) (Kp.refl w6) (fun _ => rfl) _
        have hB7 : Blk w7 gx [.string p, .slice ha' hn hcap', .slice b6 n6 c6'] 27 := by rw [← ew7]; exact hB6.set 2 _
        have hx7 : Ext wb w7 := by rw [← ew7]; exact Kp.setCell (F := fun _ => False) hk1 (fun h => by have := EGX.out; simp only at h; omega) _
        have hr7 := hr1.kp' hk67 fun g hg _ e => by
          obtain ⟨cs, hb⟩ := hr1.blkOf hg
          subst e
          exact typ_lr (blk_ne hb hB6)
        have hT7 : ∀ {a : Option Addr} {m c : Nat} {ts : List TermZ}, TermsM wb w5 a m c ts → TermsM wb w7 a m c ts := fun ht => (hT6 ht).kp hk67 fun k cs hb e => by subst e; exact typ_tr (blk_ne hb hB6)
        have HFin := Lib.hid (show ∃ bv vs, Blk w7 gx [.string p, .slice ha' hn hcap', bv] 27 ∧ vs.length = i + 1 ∧ Row w7 70 8 bv (i + 1) (((ls.take (i + 1)).zip vs).flatMap litC) (New wb) ∧ ∀ x ∈ (ls.take (i + 1)).zip vs, TermsM wb w7 x.2.1 (termsOf x.1).length x.2.2 (termsOf x.1) by
          have hlen : (ls.take i).length = vs.length := by rw [List.length_take, HIn.out.2.1]; have := HN.out; omega
          have et : ls.take (i + 1) = ls.take i ++ [l] := by rw [List.take_add_one, HL.out.1]; rfl
          refine ⟨_, vs ++ [(a3, c3')], hB7, by rw [List.length_append, HIn.out.2.1]; rfl, ?_, ?_⟩
          · rw [et, List.zip_append hlen, List.flatMap_append]
            have e2 : (([l].zip [(a3, c3')]).flatMap litC) = [.int .i64 k, .string pl, .slice a3 mm c3', .int .i64 s3, .int .i64 s4, .string s5, .int .i64 s6, .string s7] := by
              show litC (l, (a3, c3')) ++ [] = _
              rw [HL.out.2, List.append_nil]
            rw [e2]; exact hr7
          · intro x hx
            rw [et, List.zip_append hlen, List.mem_append] at hx
            rcases hx with hx | hx
            · exact hT7 ((HIn.out.2.2.2 x hx).ext X5.out)
            · simp at hx; subst hx
              have h := hT7 HT5.out
              rw [EMM.out] at h; exact h)
        have HX7 := Lib.hid hx7
        have HTW7 := Lib.hid (hT7 (htw.out.ext X5.out))
        clear hr1 hk1 hk2 hB6 hT6 hk67 hB7 hx7 hr7 hT7 q0 q1 q2 q3 q4 q5 q6 q7 x2 h2 h2f ew5 hXw5
        go_wp2
        go_roundw
        case rel => exact ⟨i + 1, by omega, by first | rfl | (congr 1; done) | (congr 1; omega), HX7.out, HFin.out, HTW7.out⟩
        case measure => simp [intOf]; omega
      · obtain rfl : i = n := by omega
        have hall : ls.take i = ls := List.take_of_length_le (by have := HN.out; omega)
        rw [hall] at hrow hterms
        obtain ⟨bo, bi, bc, ebv⟩ : ∃ ao n cap, bv = .slice ao n cap := by
          obtain ⟨ao, cap, e, _⟩ := hrow.shape
          exact ⟨ao, _, cap, e⟩
        subst ebv
        have x2 : wr.cell? ⟨gx, 2, none⟩ = some (.slice bo bi bc) := by rw [hB.cell']; rfl
        have HBg := Lib.hid hB
        have HR5 := Lib.hid hrow
        have HTs := Lib.hid (And.intro hvs hterms)
        have hXw := hex.out
        clear hB hrow hterms hvs hall hin
        go_wp2_with (first | (at_builtin; refine Halted.out ?_))
        refine Halted.mk (wp_appN (m := 1) (n := i) elem_lit rfl _ _ rfl (hXw.alloc _) rfl (HR5.out.alloc _) rfl (CellsAt.new wr [.int .i64 (-7), .string ⟨#[]⟩, .slice none 0 0, .int .i64 0, .int .i64 0, .string ⟨#[]⟩, .int .i64 0, .string ⟨#[]⟩] 70) (by rfl) (by intro u hu; simp at hu; rcases hu with rfl | rfl | rfl | rfl | rfl | rfl | rfl | rfl <;> rfl) (by omega) (by unfold maxLen; omega) ?_)
        intro v1 w6 hr1 hk1 hk2 _
        obtain ⟨h1, ⟨rfl, h0⟩ | ⟨gb, cap2, rest, rfl, hM, hBB, hlen, hnc, hcm⟩⟩ := hr1
        · omega
        · have hB6 : Blk w6 gx [.string p, .slice ha' hn hcap', .slice bo bi bc] 27 := (HBg.out.alloc _).kp hk2 fun e => by
            obtain ⟨cs, hb⟩ := HR5.out.blkOf e
            exact typ_lr (blk_ne hb HBg.out)
          have x6 : w6.cell? ⟨gx, 2, none⟩ = some (.slice bo bi bc) := by rw [hB6.cell']; rfl
          have x6f := hB6.free 2
          have hT6 : ∀ {a : Option Addr} {m c : Nat} {ts : List TermZ}, TermsM wb wr a m c ts → TermsM wb w6 a m c ts := fun ht => (ht.ext ((Kp.refl wr).alloc _)).kp hk2 fun k cs hb e => by
            obtain ⟨cs', hb'⟩ := (HR5.out.alloc _).blkOf e
            exact typ_tl (blk_ne hb hb')
          obtain ⟨w7, ew7⟩ : ∃ w7, w6.setCell ⟨gx, 2, none⟩ (.slice (some ⟨gb, 0, none⟩) (i + 1) cap2) = w7 := ⟨_, rfl⟩
          have hk67 : Kp (fun k => k = gx) w6 w7 := by rw [← ew7]; exact Kp.setCell (F := fun k => k = gx) (Kp.refl w6) (fun _ => rfl) _
          have hB7 : Blk w7 gx [.string p, .slice ha' hn hcap', .slice (some ⟨gb, 0, none⟩) (i + 1) cap2] 27 := by rw [← ew7]; exact hB6.set 2 _
          have hx7 : Ext wb w7 := by rw [← ew7]; exact Kp.setCell (F := fun _ => False) hk1 (fun h => by have := EGX.out; simp only at h; omega) _
          obtain ⟨w8, ew8⟩ : ∃ w8, w7.setCell ⟨gx, 2, none⟩ (.slice (some ⟨gb, 0, none⟩) i cap2) = w8 := ⟨_, rfl⟩
          have hk78 : Kp (fun k => k = gx) w7 w8 := by rw [← ew8]; exact Kp.setCell (F := fun k => k = gx) (Kp.refl w7) (fun _ => rfl) _
          have hB8 : Blk w8 gx [.string p, .slice ha' hn hcap', .slice (some ⟨gb, 0, none⟩) i cap2] 27 := by rw [← ew8]; exact hB7.set 2 _
          have hx8 : Ext wb w8 := by rw [← ew8]; exact Kp.setCell (F := fun _ => False) hx7 (fun h => by have := EGX.out; simp only at h; omega) _
          have hk68 : Kp (fun k => k = gx) w6 w8 := hk67.trans hk78
          have hT8 : ∀ {a : Option Addr} {m c : Nat} {ts : List TermZ}, TermsM wb wr a m c ts → TermsM wb w8 a m c ts := fun ht => (hT6 ht).kp hk68 fun k cs hb e => by subst e; exact typ_tr (blk_ne hb hB6)
          have hBB8 := hBB.kp hk68 fun e => by subst e; exact typ_lr (blk_ne hBB hB6)
          have hN1 := HB1.out.ext hx7
          have hN2 := HB2.out.ext hx8
          obtain ⟨w9, ew9⟩ : ∃ x, ((w8.setCell ⟨w.heap.size + 1, 0, none⟩ (.string p)).setCell ⟨w.heap.size + 1, 1, none⟩ (.slice ha' hn hcap')).setCell ⟨w.heap.size + 1, 2, none⟩ (.slice (some ⟨gb, 0, none⟩) i cap2) = x := ⟨_, rfl⟩
          have hk89 : Kp (fun k => k = w.heap.size + 1) w8 w9 := by rw [← ew9]; exact Kp.setCell (F := fun k => k = w.heap.size + 1) (Kp.setCell (F := fun k => k = w.heap.size + 1) (Kp.setCell (F := fun k => k = w.heap.size + 1) (Kp.refl w8) (fun _ => rfl) _) (fun _ => rfl) _) (fun _ => rfl) _
          have hN9 : Blk w9 (w.heap.size + 1) [.string p, .slice ha' hn hcap', .slice (some ⟨gb, 0, none⟩) i cap2] 27 := by rw [← ew9]; exact ((hN2.set 0 _).set 1 _).set 2 _
          have hx9 : Ext w w9 := by
            rw [← ew9]
            exact Kp.setCell (F := fun _ => False) (Kp.setCell (F := fun _ => False) (Kp.setCell (F := fun _ => False) (HX.out.trans hx8) (fun h => by simp only at h; omega) _) (fun h => by simp only at h; omega) _) (fun h => by simp only at h; omega) _
          have hsz := HX.out.size
          have hT9 : ∀ {a : Option Addr} {m c : Nat} {ts : List TermZ}, TermsM wb wr a m c ts → TermsM w w9 a m c ts := fun ht => ((hT8 ht).kp hk89 fun k cs hb e => by subst e; exact typ_tr (blk_ne hb hN2)).old hsz
          have hBB9 := hBB8.kp hk89 fun e => by subst e; exact typ_lr (blk_ne hBB8 hN2)
          have HRes := Lib.hid (show RuleM w w9 hs ls ha' hn hcap' (some ⟨gb, 0, none⟩) i cap2 by
            refine ⟨hT9 htw.out, gb, rest, vs, rfl, HN.out, hnc, hcm, Nat.le_trans hsz hM, HTs.out.1.trans HN.out, ?_, fun x hx => hT9 (HTs.out.2 x hx)⟩
            rw [List.append_assoc] at hBB9
            exact hBB9)
          have HX9 := Lib.hid hx9
          have a2 : w7.cell? ⟨w.heap.size, 2, none⟩ = some (.slice ba i bcap) := by rw [hN1.cell']; rfl
          have x7 : w7.cell? ⟨gx, 2, none⟩ = some (.slice (some ⟨gb, 0, none⟩) (i + 1) cap2) := by rw [hB7.cell']; rfl
          have x7f := hB7.free 2
          have l0 : w8.cell? ⟨gx, 0, none⟩ = some (.string p) := by rw [hB8.cell']; rfl
          have l1 : w8.cell? ⟨gx, 1, none⟩ = some (.slice ha' hn hcap') := by rw [hB8.cell']; rfl
          have l2 : w8.cell? ⟨gx, 2, none⟩ = some (.slice (some ⟨gb, 0, none⟩) i cap2) := by rw [hB8.cell']; rfl
          have m0 : w8.cell? ⟨w.heap.size + 1, 0, none⟩ = some (.string ⟨#[]⟩) := by rw [hN2.cell']; rfl
          have m1 : w8.cell? ⟨w.heap.size + 1, 1, none⟩ = some (.slice none 0 0) := by rw [hN2.cell']; rfl
          have m2 : w8.cell? ⟨w.heap.size + 1, 2, none⟩ = some (.slice none 0 0) := by rw [hN2.cell']; rfl
          have q0 := hN2.free 0
          have q1 := hN2.free 1
          have q2 := hN2.free 2
          have u0 : w9.cell? ⟨w.heap.size + 1, 0, none⟩ = some (.string p) := by rw [hN9.cell']; rfl
          have u1 : w9.cell? ⟨w.heap.size + 1, 1, none⟩ = some (.slice ha' hn hcap') := by rw [hN9.cell']; rfl
          have u2 : w9.cell? ⟨w.heap.size + 1, 2, none⟩ = some (.slice (some ⟨gb, 0, none⟩) i cap2) := by rw [hN9.cell']; rfl
          have i1 : (i : Int) ≤ (cap2 : Int) := by omega
          have hcm2 : cap2 ≤ 9223372036854775807 := hcm
          clear hk67 hB7 hx7 hk78 hB8 hx8 hk68 hT8 hT6 hBB8 hN1 hN2 hk89 hN9 hx9 hT9 hBB9 hBB hk1 hk2 hB6 hsz h1
          go_wp2
          refine bodyPost_ret (v := ruleV p ha' hn hcap' (some ⟨gb, 0, none⟩) i cap2) (by simp [results, Try.results8, go_sem, ruleV, u0, u1, u2]) rfl ?_
          exact RetN.mk HX9.out ⟨_, _, _, _, rfl, HRes.out⟩
end Go.Proofs.Ytcphalpcdcddpaa

/- The law of costs: stays, great. -/
namespace Go.Proofs.Ytcphalpcdcddpaa
open Go.RowKit
set_option linter.unusedVariables false

theorem RuleM.mark {w0 w : World} {hs : List TermZ} {ls : List LitZ} {ha : Option Addr} {hn hcap : Nat} {ba : Option Addr} {n bcap : Nat} (h : RuleM w0 w hs ls ha hn hcap ba n bcap) : ∃ g, ba = some ⟨g, 0, none⟩ ∧ w.cell? ⟨g, n * 8, none⟩ = some (.int .i64 (-7)) ∧ n + 1 ≤ bcap ∧ bcap ≤ maxLen ∧ ∀ i, i < n → ∃ g2 mm c2, w.cell? ⟨g, i * 8 + 2, none⟩ = some (.slice (some ⟨g2, 0, none⟩) mm c2) ∧ w.cell? ⟨g2, mm * 2, none⟩ = some (.int .i64 (-7)) ∧ mm + 1 ≤ c2 ∧ c2 ≤ maxLen := by
  obtain ⟨_, g, rest, vs, rfl, hn, hc, hm, _, hv, hB, hx⟩ := h
  have hz : (ls.zip vs).length = n := by rw [List.length_zip, hv, Nat.min_self, hn]
  have hfl : ((ls.zip vs).flatMap litC).length = n * 8 := by rw [flat_len litC 8 litC_len, hz]
  refine ⟨g, rfl, ?_, hc, hm, fun i hi => ?_⟩
  · rw [hB.cell', ← hfl, List.getElem?_append_right (Nat.le_refl _), Nat.sub_self]; rfl
  · have hi' : i < (ls.zip vs).length := by rw [hz]; exact hi
    have hg := flat_get litC 8 litC_len (ls.zip vs) i _ 2 (List.getElem?_eq_getElem hi') (by decide)
    have ht := hx _ (List.mem_of_getElem? (List.getElem?_eq_getElem hi'))
    obtain ⟨g2, e2, hmk⟩ := ht.mark
    obtain ⟨_, _, _, _, h1, h2, _, _⟩ := ht
    refine ⟨g2, _, _, ?_, hmk, h1, h2⟩
    rw [hB.cell', List.getElem?_append_left (by rw [hfl]; omega), hg, ← e2]; rfl
theorem RuleM.terms {w0 w : World} {hs : List TermZ} {ls : List LitZ} {ha : Option Addr} {hn hcap : Nat} {ba : Option Addr} {n bcap : Nat} (h : RuleM w0 w hs ls ha hn hcap ba n bcap) (hf : ∀ t ∈ hs, TermFit t) : TermsAt w (New w0) ha hs := h.head.at hf

set_option maxRecDepth 100000 in
set_option maxHeartbeats 4000000 in
theorem stays_any (p : ByteArray) (hs : List TermZ) (ls : List LitZ) (w0 : World) (ha hb : Option Addr) (hn hac hbc : Nat) (ba bb : Option Addr) (n bac bbc : Nat) (w : World) (H : Nat → Prop) (hhn : hn = hs.length) (h2 : TermsAt w H hb hs) (hhl : hn ≤ 1048576) (hbn : n = ls.length) (l2 : LitsAt w H bb ls) (hf : Fit ls) (hM : RuleM w0 w hs ls ha hn hac ba n bac) :
    Calls Try.prog 17 #[ruleV p ha hn hac ba n bac, ruleV p hb hn hbc bb n bbc] w (RetN w fun w' v => v = .bool true) := by
  have hl : n ≤ 1048576 := by have := hf.len; omega
  have HS := Lib.hid (fun (W : World) (hW : Ext w W) => same25_any p hs ls ha hb hn hac hbc ba bb n bac bbc W (New w0) H hhn ((hM.terms (terms_fit h2)).ext hW) (h2.ext hW) hhl hbn ((hM.lits (lits_all l2)).ext hW) (l2.ext hW) hf)
  have HM := Lib.hid hM
  obtain ⟨gB, rfl, hmB, hcB, hcB2, hB⟩ := hM.mark
  obtain ⟨gH, rfl, hmH⟩ := hM.head.mark
  obtain ⟨hcH, hcH2⟩ : hn + 1 ≤ hac ∧ hac ≤ maxLen := by obtain ⟨_, _, _, _, h1, h2, _, _⟩ := hM.head; exact ⟨h1, h2⟩
  have HAt := Lib.hid hB
  have HMB := Lib.hid hmB
  have HMH := Lib.hid hmH
  have hcB3 : bac ≤ 9223372036854775807 := hcB2
  have hcH3 : hac ≤ 9223372036854775807 := hcH2
  clear hhn h2 hbn l2 hf hM hB hmB hmH hcB2 hcH2
  go_enter Try.func17, Try.ntmps17
  obtain ⟨wb, eb⟩ : ∃ wb, (w.alloc (.cells #[.string p, .slice (some ⟨gH, 0, none⟩) hn hac, .slice (some ⟨gB, 0, none⟩) n bac] 27)).alloc (.cells #[.string p, .slice hb hn hbc, .slice bb n bbc] 27) = wb := ⟨_, rfl⟩
  have hB1 := (Blk.new w [.string p, .slice (some ⟨gH, 0, none⟩) hn hac, .slice (some ⟨gB, 0, none⟩) n bac] 27).alloc (.cells #[.string p, .slice hb hn hbc, .slice bb n bbc] 27)
  have hB2 := Blk.new (w.alloc (.cells #[.string p, .slice (some ⟨gH, 0, none⟩) hn hac, .slice (some ⟨gB, 0, none⟩) n bac] 27)) [.string p, .slice hb hn hbc, .slice bb n bbc] 27
  rw [alloc_size] at hB2
  have hB1' : Blk wb w.heap.size [.string p, .slice (some ⟨gH, 0, none⟩) hn hac, .slice (some ⟨gB, 0, none⟩) n bac] 27 := by rw [← eb]; exact hB1
  have hB2' : Blk wb (w.heap.size + 1) [.string p, .slice hb hn hbc, .slice bb n bbc] 27 := by rw [← eb]; exact hB2
  have hX : Ext w wb := by rw [← eb]; exact ((Kp.refl w).alloc _).alloc _
  have HB1 := Lib.hid hB1'
  have HB2 := Lib.hid hB2'
  have HX := Lib.hid hX
  have f10 : wb.cell? ⟨w.heap.size, 0, none⟩ = some (.string p) := by rw [hB1'.cell']; rfl
  have f11 : wb.cell? ⟨w.heap.size, 1, none⟩ = some (.slice (some ⟨gH, 0, none⟩) hn hac) := by rw [hB1'.cell']; rfl
  have f12 : wb.cell? ⟨w.heap.size, 2, none⟩ = some (.slice (some ⟨gB, 0, none⟩) n bac) := by rw [hB1'.cell']; rfl
  have f20 : wb.cell? ⟨w.heap.size + 1, 0, none⟩ = some (.string p) := by rw [hB2'.cell']; rfl
  have f21 : wb.cell? ⟨w.heap.size + 1, 1, none⟩ = some (.slice hb hn hbc) := by rw [hB2'.cell']; rfl
  have f22 : wb.cell? ⟨w.heap.size + 1, 2, none⟩ = some (.slice bb n bbc) := by rw [hB2'.cell']; rfl
  clear hB1 hB2 hB1' hB2' hX
  go_wp2_with fail
  refine (HS.out _ HX.out).mono ?_
  rintro e w1 ⟨v, rfl, hk1, rfl⟩
  have X1 := Lib.hid (HX.out.trans hk1)
  have B1 := Lib.hid (HB1.out.ext hk1)
  have B2 := Lib.hid (HB2.out.ext hk1)
  have r1 : w1.cell? ⟨w.heap.size, 1, none⟩ = some (.slice (some ⟨gH, 0, none⟩) hn hac) := by rw [B1.out.cell']; rfl
  have r2 : w1.cell? ⟨w.heap.size, 2, none⟩ = some (.slice (some ⟨gB, 0, none⟩) n bac) := by rw [B1.out.cell']; rfl
  have r3 : w1.cell? ⟨w.heap.size + 1, 1, none⟩ = some (.slice hb hn hbc) := by rw [B2.out.cell']; rfl
  have r4 : w1.cell? ⟨w.heap.size + 1, 2, none⟩ = some (.slice bb n bbc) := by rw [B2.out.cell']; rfl
  have r5 := X1.out.cell HMB.out id
  have r6 := X1.out.cell HMH.out id
  have i1 : (n : Int) + 1 ≤ (bac : Int) := by omega
  have i2 : (hn : Int) + 1 ≤ (hac : Int) := by omega
  clear hk1 eb f10 f11 f12 f20 f21 f22
  go_wp2
  go_quiet (fail)
  go_wp2
  go_loopw [6] (fun iv wr => SameTo w1 n iv wr) (fun iv _ => n - (intOf iv).toNat)
  case atStart => exact ⟨0, Nat.zero_le _, rfl, (Kp.refl w1).drewN _⟩
  case round =>
    obtain ⟨i, hi, rfl, hex⟩ := hrel
    have XR := Lib.hid (X1.out.trans hex.out)
    have r2 : wr.cell? ⟨w.heap.size, 2, none⟩ = some (.slice (some ⟨gB, 0, none⟩) n bac) := by rw [(B1.out.ext hex.out).cell']; rfl
    have r4 : wr.cell? ⟨w.heap.size + 1, 2, none⟩ = some (.slice bb n bbc) := by rw [(B2.out.ext hex.out).cell']; rfl
    by_cases hlt : i < n
    · obtain ⟨g2, mm, c2, k1, k2, k3, k4⟩ := HAt.out i hlt
      replace k1 := XR.out.cell k1 id
      replace k2 := XR.out.cell k2 id
      have k5 : c2 ≤ 9223372036854775807 := k4
      have i3 : (mm : Int) + 1 ≤ (c2 : Int) := by omega
      clear k4
      go_wp2
      go_roundw
      case rel => exact ⟨i + 1, by omega, by first | rfl | (congr 1; done) | (congr 1; omega), hex⟩
      case measure => simp [intOf]; omega
    · go_wp2
      go_ret
      exact RetN.mk XR.out rfl

set_option maxRecDepth 100000 in
theorem great_any (p : ByteArray) (ha : Option Addr) (hn hcap : Nat) (ba : Option Addr) (n bcap : Nat) (w : World) (hl : n ≤ 4611686018427387904) :
    Calls Try.prog 7 #[ruleV p ha hn hcap ba n bcap] w (RetN w fun w' v => v = .bool (decide (40 < n))) := by
  go_enter Try.func7, Try.ntmps7
  have e : decide ((n : Int) > 40) = decide (40 < n) := by rw [decide_eq_decide]; omega
  go_wp2
  go_ret
  exact RetN.mk ((Kp.refl w).alloc _) (by first | rw [e] | simp)
end Go.Proofs.Ytcphalpcdcddpaa

/- The law of costs: what is known, by bits: plain. -/
namespace Go.Proofs.Ytcphalpcdcddpaa
open Go.RowKit
set_option linter.unusedVariables false
attribute [local go_sem] run_store_float

/-- Words as cells. -/
def words (xs : List Nat) : List Value := xs.map fun (x : Nat) => Value.int .u64 x
theorem words_len (xs : List Nat) : (words xs).length = xs.length := by simp [words]
/-- What is known, by bits, from an address on. -/
def KnownAt (w : World) (ao : Option Addr) (S : List StatZ) : Prop := ∀ (i : Nat) (s : StatZ), S[i]? = some s → ∃ b off da dcap, ao = some ⟨b, off, none⟩ ∧ w.cell? ⟨b, off + i * 3, none⟩ = some (.string s.1) ∧ w.cell? ⟨b, off + i * 3 + 1, none⟩ = some (.int .u64 s.2.1) ∧ w.cell? ⟨b, off + i * 3 + 2, none⟩ = some (.slice da s.2.2.1.length dcap) ∧ s.2.2.1.length ≤ dcap ∧ dcap ≤ maxLen ∧ CellsAt w da (words s.2.2.1)
theorem KnownAt.ext {w w' : World} {ao : Option Addr} {S : List StatZ} (h : KnownAt w ao S) (hk : Ext w w') : KnownAt w' ao S := fun i s hs => by
  obtain ⟨b, off, da, dcap, e, h1, h2, h3, h4, h5, h6⟩ := h i s hs
  exact ⟨b, off, da, dcap, e, hk.cell h1 id, hk.cell h2 id, hk.cell h3 id, h4, h5, h6.ext hk⟩
theorem CellsAt.word {w : World} {ao : Option Addr} {xs : List Nat} (h : CellsAt w ao (words xs)) {k x : Nat} (hk : xs[k]? = some x) : ∃ b off, ao = some ⟨b, off, none⟩ ∧ w.cell? ⟨b, off + k, none⟩ = some (.int .u64 x) :=
  h k _ (by simp [words, hk])

theorem elem_stat25 : ElemT Try.prog 42 83 3 48 (.agg #[.string ⟨#[]⟩, .float .f64 0, .slice none 0 0]) := ⟨by kernel_rfl, by kernel_rfl, rfl, by decide⟩
def statC (x : StatZ × (Option Addr × Nat)) : List Value := [.string x.1.1, .float .f64 x.1.2.1, .slice x.2.1 x.1.2.2.1.length x.2.2]
theorem statC_len (x : StatZ × (Option Addr × Nat)) : (statC x).length = 3 := rfl
/-- A list of counts in a block of its own. -/
def DistAt (w0 w : World) (x : StatZ × (Option Addr × Nat)) : Prop := Row w 37 1 (.slice x.2.1 x.1.2.2.1.length x.2.2) x.1.2.2.1.length (flts x.1.2.2.1) (New w0)
theorem stats_cells {w0 w : World} {S : List StatZ} {vs : List (Option Addr × Nat)} {ao : Option Addr} (hl : vs.length = S.length) (hc : CellsAt w ao ((S.zip vs).flatMap statC)) (hd : ∀ x ∈ S.zip vs, DistAt w0 w x) : StatsAt w ao S := fun i s hs => by
  have hv : i < vs.length := by rw [hl]; exact (List.getElem?_eq_some_iff.1 hs).1
  have hz : (S.zip vs)[i]? = some (s, vs[i]) := by rw [List.getElem?_zip_eq_some]; exact ⟨hs, List.getElem?_eq_getElem hv⟩
  obtain ⟨_, _, e, q1, q2, q3⟩ := (hd _ (List.mem_of_getElem? hz)).cap
  cases e
  have hg := fun c hcc => flat_get statC 3 statC_len (S.zip vs) i _ c hz hcc
  obtain ⟨b, off, rfl, h0⟩ := hc (i * 3 + 0) _ (hg 0 (by decide))
  obtain ⟨_, _, e1, h1⟩ := hc (i * 3 + 1) _ (hg 1 (by decide))
  cases e1
  obtain ⟨_, _, e2, h2⟩ := hc (i * 3 + 2) _ (hg 2 (by decide))
  cases e2
  exact ⟨b, off, _, _, rfl, h0, h1, h2, q2, q3, q1⟩
theorem typ_fs : 37 ≠ 83 := by decide

/-- An append in a region that draws its order. -/
theorem draw_appN {P : Program} {t e : TypeId} {k bytes : Nat} {z : Value} (E : ElemT P t e k bytes z) {l : List Oper} {a : Act} {w : World} {Q : Exit → Act → World → Prop} {o : Oper} {K : Act → World → Prop} {El : Prop} (hgd : o.guard = none) (s x : Operand)
    (ho : o.op = .call { callee := .builtin .append, args := #[s, x], argTypes := #[t, t] })
    {F : Nat → Prop} {w0 : World} (hkp : Kp F w0 w)
    {v : Value} {n : Nat} {xs : List Value} (hs : a.eval s = v) (hr : Row w e k v n xs (New w0))
    {ao : Option Addr} {m c : Nat} {news : List Value} (hx : a.eval x = .slice ao m c) (hsrc : CellsAt w ao news) (hl : news.length = m * k) (h1 : ∀ u ∈ news, u.oneCell' = true)
    (hb : (n + m) * bytes ≤ 140737488355328) (h63 : n + m ≤ maxLen)
    (h : ∀ v' w', Row w' e k v' (n + m) (xs ++ news) (New w0) → Kp F w0 w' → Kp (fun g => v.ownBlock = some g) w w' → K (a.put o.dst v') w') :
    if Region.wanted o (yielded l.toArray a.tmps) = true then Oper.wp P o a w K Q else El := by
  obtain ⟨v', w', hrun, h2, h3, h4⟩ := run_app (P := P) E o.type hr hl hsrc h1 hb h63 (c := c)
  refine draw_app hgd s x ho hs hx hrun (h v' w' (h2.mono fun g hg => ?_) (hkp.trans' h3 fun i hi hg => absurd hi (Nat.not_lt.2 (hr.block i hg))) h3)
  rcases hg with hg | hg
  · exact hr.block g hg
  · exact Nat.le_trans hkp.size hg

def PlainTo (S : List StatZ) (w0 : World) (n : Nat) (iv ov : Value) (w : World) : Prop := ∃ i : Nat, i ≤ n ∧ iv = .int .i64 i ∧ Hid (∃ vs, vs.length = i ∧ Row w 83 3 ov i (((S.take i).zip vs).flatMap statC) (New w0) ∧ ∀ x ∈ (S.take i).zip vs, DistAt w0 w x) ∧ Hid (Ext w0 w)
def DistTo (ds : List Nat) (p : ByteArray) (r : Nat) (gx : Nat) (w0 : World) (m : Nat) (kv : Value) (w : World) : Prop := ∃ k : Nat, k ≤ m ∧ kv = .int .i64 k ∧ Hid (∃ dv, Blk w gx [.string p, .float .f64 r, dv] 83 ∧ Row w 37 1 dv k (flts (ds.take k)) (New w0)) ∧ Hid (Ext w0 w)
theorem takeSnoc {α : Type} {xs : List α} {k : Nat} {x : α} (h : xs[k]? = some x) : xs.take (k + 1) = xs.take k ++ [x] := by rw [List.take_add_one, h]; rfl

set_option maxRecDepth 100000 in
set_option maxHeartbeats 4000000 in
theorem plain_any (S : List StatZ) (ao : Option Addr) (n cap : Nat) (w : World) (hn : n = S.length) (h : KnownAt w ao S) (hf : StatsFit S) :
    Calls Try.prog 14 #[.slice ao n cap] w (RetN w fun w' v => ∃ a c, v = .slice a n c ∧ n ≤ c ∧ c ≤ maxLen ∧ StatsAt w' a S) := by
  have HN := Lib.hid hn
  have HK := Lib.hid h
  have HF := Lib.hid hf
  have hl : n ≤ 1048576 := by have := hf.len; omega
  have hq := frombits_run
  clear hn h hf
  go_enter Try.func14, Try.ntmps14
  go_wp2
  go_loopw [4, 3] (fun iv ov wr => PlainTo S w n iv ov wr) (fun iv _ _ => n - (intOf iv).toNat)
  case atStart => exact ⟨0, Nat.zero_le _, rfl, ⟨[], rfl, Row.nil _ _ _ _, fun x hx => by simp at hx⟩, Kp.refl _⟩
  case round =>
    obtain ⟨i, hi, rfl, hin, hex⟩ := hrel
    by_cases hlt : i < n
    · obtain ⟨s, hs⟩ : ∃ s, S[i]? = some s := ⟨_, List.getElem?_eq_getElem (by rw [← HN.out]; exact hlt)⟩
      obtain ⟨b, off, da, dcap, eao, c0, c1, c2, d1, d2, d3⟩ := HK.out i s hs
      subst eao
      have hm : s.2.2.1.length ≤ 1048576 := HF.out.dist s (List.mem_of_getElem? hs)
      replace c0 := hex.out.cell c0 id
      replace c1 := hex.out.cell c1 id
      replace c2 := hex.out.cell c2 id
      have HD := Lib.hid (d3.ext hex.out)
      obtain ⟨p, ep⟩ : ∃ p, p = s.1 := ⟨_, rfl⟩
      obtain ⟨r, er⟩ : ∃ r, r = s.2.1 := ⟨_, rfl⟩
      obtain ⟨ds, eds⟩ : ∃ ds, ds = s.2.2.1 := ⟨_, rfl⟩
      obtain ⟨m, em⟩ : ∃ m, m = ds.length := ⟨_, rfl⟩
      rw [← ep] at c0
      rw [← er] at c1
      rw [← eds] at HD hm d1
      rw [← eds, ← em] at c2
      rw [← em] at hm d1
      have HS := Lib.hid (And.intro hs (And.intro ep (And.intro er eds)))
      have EM := Lib.hid em
      have HCells := Lib.hid (show ∀ w', Ext wr w' → (fun w' : World => w'.cell? ⟨b, off + i * 3, none⟩ = some (.string p) ∧ w'.cell? ⟨b, off + i * 3 + 1, none⟩ = some (.int .u64 r)) w' from fun w' hw => ⟨hw.cell c0 id, hw.cell c1 id⟩)
      have HC2 := Lib.hid c2
      clear hs ep er eds em d3 c0 c1 c2
      go_wp2
      refine draw_begin (fun w' : World => w'.cell? ⟨b, off + i * 3, none⟩ = some (.string p) ∧ w'.cell? ⟨b, off + i * 3 + 1, none⟩ = some (.int .u64 r)) [13] (by kernel_rfl) (HCells.out _ (Kp.refl wr).drew) (fun hHeld => ?_)
      (refine draw_free (i := 0) (v := ?_) rfl ?_ ?_; rotate_left; (intro w; go_simp; try with_reducible rfl)); (try simp only [Act.put, List.setIfInBounds_toArray, List.set_cons_zero, List.set_cons_succ])
      (refine draw_free (i := 1) (v := ?_) rfl ?_ ?_; rotate_left; (intro w; go_simp; try with_reducible rfl)); (try simp only [Act.put, List.setIfInBounds_toArray, List.set_cons_zero, List.set_cons_succ])
      (refine draw_in (i := 2) (v := ?_) rfl ?_ ?_; rotate_left; (intro w hSw; (try dsimp only at hSw); go_simp; try with_reducible rfl)); (try simp only [Act.put, List.setIfInBounds_toArray, List.set_cons_zero, List.set_cons_succ])
      (refine draw_free (i := 3) (v := ?_) rfl ?_ ?_; rotate_left; (intro w; go_simp; try with_reducible rfl)); (try simp only [Act.put, List.setIfInBounds_toArray, List.set_cons_zero, List.set_cons_succ])
      (refine draw_in (i := 4) (v := ?_) rfl ?_ ?_; rotate_left; (intro w hSw; (try dsimp only at hSw); go_simp; try with_reducible rfl)); (try simp only [Act.put, List.setIfInBounds_toArray, List.set_cons_zero, List.set_cons_succ])
      (refine draw_free (i := 5) (v := ?_) rfl ?_ ?_; rotate_left; (intro w; go_simp; try with_reducible rfl)); (try simp only [Act.put, List.setIfInBounds_toArray, List.set_cons_zero, List.set_cons_succ])
      (refine draw_free (i := 6) (v := ?_) rfl ?_ ?_; rotate_left; (intro w; go_simp; try with_reducible rfl)); (try simp only [Act.put, List.setIfInBounds_toArray, List.set_cons_zero, List.set_cons_succ])
      (refine draw_in (i := 7) (v := ?_) rfl ?_ ?_; rotate_left; (intro w hSw; (try dsimp only at hSw); go_simp; try with_reducible rfl)); (try simp only [Act.put, List.setIfInBounds_toArray, List.set_cons_zero, List.set_cons_succ])
      (refine draw_free (i := 8) (v := ?_) rfl ?_ ?_; rotate_left; (intro w; go_simp; try with_reducible rfl)); (try simp only [Act.put, List.setIfInBounds_toArray, List.set_cons_zero, List.set_cons_succ])
      (refine draw_in (i := 9) (v := ?_) rfl ?_ ?_; rotate_left; (intro w hSw; (try dsimp only at hSw); go_simp; try with_reducible rfl)); (try simp only [Act.put, List.setIfInBounds_toArray, List.set_cons_zero, List.set_cons_succ])
      (refine draw_free (i := 10) (v := ?_) rfl ?_ ?_; rotate_left; (intro w; go_simp; try with_reducible rfl)); (try simp only [Act.put, List.setIfInBounds_toArray, List.set_cons_zero, List.set_cons_succ])
      (refine draw_free (i := 11) (v := ?_) rfl ?_ ?_; rotate_left; (intro w; go_simp; try with_reducible rfl)); (try simp only [Act.put, List.setIfInBounds_toArray, List.set_cons_zero, List.set_cons_succ])
      refine draw_one (i := 12) ?_
      refine comes_turn (i := 12) rfl (fun K hK => ?_)
      go_simp
      refine hK.out _ _ ?_ (fun hHeld => ?_)
      · (try dsimp only); (exact HCells.out _ ((Kp.refl wr).alloc _).drew)
      clear hK K; (try simp only [Act.put, List.setIfInBounds_toArray, List.set_cons_zero, List.set_cons_succ])
      refine draw_one (i := 13) ?_
      refine comes_late (i := 13) rfl (by kernel_rfl) (fun K hK => ?_)
      (obtain ⟨w3, e3⟩ : ∃ x, (wr.alloc (.cells #[.string ⟨#[]⟩, .float .f64 0, .slice none 0 0] 83)).drew = x := ⟨_, rfl⟩; rw [e3]; obtain ⟨gx, eg⟩ : ∃ g, g = wr.heap.size := ⟨_, rfl⟩; rw [← eg]; have HZ := Lib.hid (show Blk w3 gx [.string ⟨#[]⟩, .float .f64 0, .slice none 0 0] 83 from (by rw [← e3, eg]; exact (Blk.new wr _ _).drew)); have X3 := Lib.hid (show Ext wr w3 from (by rw [← e3]; exact ((Kp.refl wr).alloc _).drew)); have EGX := Lib.hid (show wr.heap.size ≤ gx from (by rw [eg]; exact Nat.le_refl _)); clear e3 eg; have z0 : w3.cell? ⟨gx, 0, none⟩ = some (.string ⟨#[]⟩) := (by rw [HZ.out.cell']; rfl); have z1 : w3.cell? ⟨gx, 1, none⟩ = some (.float .f64 0) := (by rw [HZ.out.cell']; rfl); have z2 : w3.cell? ⟨gx, 2, none⟩ = some (.slice none 0 0) := (by rw [HZ.out.cell']; rfl); have f0 := HZ.out.free 0; have f1 := HZ.out.free 1; have f2 := HZ.out.free 2)
      go_simp
      refine hK.out _ _ ?_
      clear hK K; (try simp only [Act.put, List.setIfInBounds_toArray, List.set_cons_zero, List.set_cons_succ])
      refine wpAnyD_done (by kernel_rfl) ?_ _
      obtain ⟨w2, ew2⟩ : ∃ x, ((w3.setCell ⟨gx, 0, none⟩ (.string p)).setCell ⟨gx, 1, none⟩ (.float .f64 r)).setCell ⟨gx, 2, none⟩ (.slice none 0 0) = x := ⟨_, rfl⟩
      rw [ew2]
      have HGX := Lib.hid (show Blk w2 gx [.string p, .float .f64 r, .slice none 0 0] 83 by rw [← ew2]; exact ((HZ.out.set 0 _).set 1 _).set 2 _)
      have X2 := Lib.hid (show Ext wr w2 from by
        rw [← ew2]
        have hno : ∀ c, (⟨gx, c, none⟩ : Addr).block < wr.heap.size → False := fun c h => by have := EGX.out; simp only at h; omega
        exact ((X3.out.setCell (fun h => hno 0 h) _).setCell (fun h => hno 1 h) _).setCell (fun h => hno 2 h) _)
      clear ew2 hHeld z0 z1 z2 f0 f1 f2 HZ X3
      go_wp2
      generalize hw5 : wr = w5 at *; clear hw5
      go_loopw [6] (fun kv wk => DistTo ds p r gx w5 m kv wk) (fun kv _ => m - (intOf kv).toNat)
      case atStart => exact ⟨0, Nat.zero_le _, rfl, ⟨_, HGX.out, Row.nil _ _ _ _⟩, X2.out⟩
      case round =>
        obtain ⟨j, hj, rfl, hin2, hex2⟩ := hrel
        obtain ⟨dv, hB, hr⟩ := hin2.out
        obtain ⟨ba, bc, edv, _, _⟩ := hr.shape
        subst edv
        have c2 := hex2.out.cell HC2.out id
        have HBj := Lib.hid hB
        have HRj := Lib.hid hr
        clear hin2 hB hr
        by_cases hlt2 : j < m
        · obtain ⟨x, hx⟩ : ∃ x, ds[j]? = some x := ⟨_, List.getElem?_eq_getElem (by rw [← EM.out]; exact hlt2)⟩
          obtain ⟨b2, off2, eda, e0⟩ := HD.out.word hx
          subst eda
          replace e0 := hex2.out.cell e0 id
          have g2 : wr.cell? ⟨gx, 2, none⟩ = some (.slice ba j bc) := by rw [HBj.out.cell']; rfl
          have g2f := HBj.out.free 2
          have HX := Lib.hid hx
          clear hx
          go_wp2
          have HJ := Lib.hid (show ∀ w', Ext wr w' → (fun w' : World => w'.cell? ⟨gx, 2, none⟩ = some (.slice ba j bc) ∧ w'.cell? ⟨b, off + i * 3 + 2, none⟩ = some (.slice (some ⟨b2, off2, none⟩) m dcap) ∧ w'.cell? ⟨b2, off2 + j, none⟩ = some (.int .u64 x)) w' from fun w' hw => ⟨hw.cell g2 id, hw.cell c2 id, hw.cell e0 id⟩)
          clear g2 c2 e0
          refine draw_begin (fun w' : World => w'.cell? ⟨gx, 2, none⟩ = some (.slice ba j bc) ∧ w'.cell? ⟨b, off + i * 3 + 2, none⟩ = some (.slice (some ⟨b2, off2, none⟩) m dcap) ∧ w'.cell? ⟨b2, off2 + j, none⟩ = some (.int .u64 x)) [12, 14] (by kernel_rfl) (HJ.out _ (Kp.refl wr).drew) (fun hHeld => ?_)
          (refine draw_free (i := 0) (v := ?_) rfl ?_ ?_; rotate_left; (intro w; go_simp; try with_reducible rfl)); (try simp only [Act.put, List.setIfInBounds_toArray, List.set_cons_zero, List.set_cons_succ])
          (refine draw_in (i := 1) (v := ?_) rfl ?_ ?_; rotate_left; (intro w hSw; (try dsimp only at hSw); go_simp; try with_reducible rfl)); (try simp only [Act.put, List.setIfInBounds_toArray, List.set_cons_zero, List.set_cons_succ])
          (refine draw_free (i := 2) (v := ?_) rfl ?_ ?_; rotate_left; (intro w; go_simp; try with_reducible rfl)); (try simp only [Act.put, List.setIfInBounds_toArray, List.set_cons_zero, List.set_cons_succ])
          (refine draw_free (i := 3) (v := ?_) rfl ?_ ?_; rotate_left; (intro w; go_simp; try with_reducible rfl)); (try simp only [Act.put, List.setIfInBounds_toArray, List.set_cons_zero, List.set_cons_succ])
          (refine draw_in (i := 4) (v := ?_) rfl ?_ ?_; rotate_left; (intro w hSw; (try dsimp only at hSw); go_simp; try with_reducible rfl)); (try simp only [Act.put, List.setIfInBounds_toArray, List.set_cons_zero, List.set_cons_succ])
          (refine draw_free (i := 5) (v := ?_) rfl ?_ ?_; rotate_left; (intro w; go_simp; try with_reducible rfl)); (try simp only [Act.put, List.setIfInBounds_toArray, List.set_cons_zero, List.set_cons_succ])
          (refine draw_in (i := 6) (v := ?_) rfl ?_ ?_; rotate_left; (intro w hSw; (try dsimp only at hSw); go_simp; try with_reducible rfl)); (try simp only [Act.put, List.setIfInBounds_toArray, List.set_cons_zero, List.set_cons_succ])
          (refine draw_free (i := 7) (v := ?_) rfl ?_ ?_; rotate_left; (intro w; go_simp; try with_reducible rfl)); (try simp only [Act.put, List.setIfInBounds_toArray, List.set_cons_zero, List.set_cons_succ])
          (refine draw_in (i := 8) (v := ?_) rfl ?_ ?_; rotate_left; (intro w hSw; (try dsimp only at hSw); go_simp; try with_reducible rfl)); (try simp only [Act.put, List.setIfInBounds_toArray, List.set_cons_zero, List.set_cons_succ])
          (refine draw_in (i := 9) (v := ?_) rfl ?_ ?_; rotate_left; (intro w hSw; (try dsimp only at hSw); go_simp; try with_reducible rfl)); (try simp only [Act.put, List.setIfInBounds_toArray, List.set_cons_zero, List.set_cons_succ])
          (refine draw_free (i := 10) (v := ?_) rfl ?_ ?_; rotate_left; (intro w; go_simp; try with_reducible rfl)); (try simp only [Act.put, List.setIfInBounds_toArray, List.set_cons_zero, List.set_cons_succ])
          refine draw_one (i := 11) ?_
          refine comes_turn (i := 11) rfl (fun K hK => ?_)
          go_simp
          refine hK.out _ _ ?_ (fun hHeld => ?_)
          · (try dsimp only); (exact HJ.out _ ((Kp.refl wr).alloc _).drew)
          clear hK K; (try simp only [Act.put, List.setIfInBounds_toArray, List.set_cons_zero, List.set_cons_succ])
          refine draw_one (i := 12) ?_
          refine comes_late (i := 12) rfl (by kernel_rfl) (fun K hK => ?_)
          refine draw_appN elem_flt rfl _ _ rfl (hex2.out.alloc _).drew rfl (HRj.out.alloc _).drew rfl (CellsAt.one wr (.float .f64 x) 37) (by rfl) (by simp [Value.oneCell']) (by omega) (by unfold maxLen; omega) ?_; intro v1 w6 hr1 hk1 hk2
          refine hK.out _ _ ?_
          clear hK K; (try simp only [Act.put, List.setIfInBounds_toArray, List.set_cons_zero, List.set_cons_succ])
          (refine draw_free (i := 13) (v := ?_) rfl ?_ ?_; rotate_left; (intro w; go_simp; try with_reducible rfl)); (try simp only [Act.put, List.setIfInBounds_toArray, List.set_cons_zero, List.set_cons_succ])
          refine draw_one (i := 14) ?_
          refine comes_late (i := 14) rfl (by kernel_rfl) (fun K hK => ?_)
          (obtain ⟨b6, c6, ev6, _, _⟩ := hr1.shape; subst ev6; have hB6 : Blk w6 gx [.string p, .float .f64 r, .slice ba j bc] 83 := (HBj.out.alloc _).drew.kp hk2 (fun e => (by obtain ⟨cs, hb⟩ := HRj.out.blkOf e; exact typ_fs (blk_ne hb HBj.out))); have x6 : w6.cell? ⟨gx, 2, none⟩ = some (.slice ba j bc) := (by rw [hB6.cell']; rfl); have x6f := hB6.free 2; have HA := Lib.hid (And.intro hr1 (And.intro hk1 hB6)); clear hr1 hk1 hk2 hB6)
          go_simp
          refine hK.out _ _ ?_
          clear hK K; (try simp only [Act.put, List.setIfInBounds_toArray, List.set_cons_zero, List.set_cons_succ])
          refine wpAnyD_done (by kernel_rfl) ?_ _
          obtain ⟨hr1, hk1, hB6⟩ := HA.out
          obtain ⟨w7, ew7⟩ : ∃ w7, w6.setCell ⟨gx, 2, none⟩ (.slice b6 (j + 1) c6) = w7 := ⟨_, rfl⟩
          have hk67 : Kp (fun k => k = gx) w6 w7 := by rw [← ew7]; exact Kp.setCell (F := fun k => k = gx) (Kp.refl w6) (fun _ => rfl) _
          have hB7 : Blk w7 gx [.string p, .float .f64 r, .slice b6 (j + 1) c6] 83 := by rw [← ew7]; exact hB6.set 2 _
          have hx7 : Ext w5 w7 := by rw [← ew7]; exact Kp.setCell (F := fun _ => False) hk1 (fun h => by have := EGX.out; simp only at h; omega) _
          have hr7 := hr1.kp' hk67 fun g hg _ e => by
            obtain ⟨cs, hb⟩ := hr1.blkOf hg
            subst e
            exact typ_fs (blk_ne hb hB6)
          have e7 : flts (ds.take (j + 1)) = flts (ds.take j) ++ [.float .f64 x] := by rw [takeSnoc HX.out]; simp [flts]
          rw [← e7] at hr7
          clear e7
          have HFin := Lib.hid (show ∃ dv, Blk w7 gx [.string p, .float .f64 r, dv] 83 ∧ Row w7 37 1 dv (j + 1) (flts (ds.take (j + 1))) (New w5) from ⟨_, hB7, hr7⟩)
          have HX7 := Lib.hid hx7
          rw [ew7]
          clear hr1 hk1 hB6 hk67 hB7 hx7 hr7 g2f x6 x6f HA ew7 hHeld
          go_wp2
          go_roundw
          case rel => exact ⟨j + 1, by omega, by first | rfl | (congr 1; done) | (congr 1; omega), HFin.out, HX7.out⟩
          case measure => simp [intOf]; omega
        · obtain rfl : j = m := by omega
          have hall : ds.take j = ds := List.take_of_length_le (by have := EM.out; omega)
          rw [hall] at HRj
          obtain ⟨vs, hvs, hrow, hds⟩ := hin.out
          obtain ⟨oa, oc, eov, _, _⟩ := hrow.shape
          subst eov
          have l0 : wr.cell? ⟨gx, 0, none⟩ = some (.string p) := by rw [HBj.out.cell']; rfl
          have l1 : wr.cell? ⟨gx, 1, none⟩ = some (.float .f64 r) := by rw [HBj.out.cell']; rfl
          have l2 : wr.cell? ⟨gx, 2, none⟩ = some (.slice ba j bc) := by rw [HBj.out.cell']; rfl
          have HRo := Lib.hid (hrow.ext hex2.out)
          have HDs := Lib.hid (And.intro hvs (fun x hx => (hds x hx).ext hex2.out))
          have hXw := hex.out.trans hex2.out
          clear hvs hrow hds hin hall
          go_wp2_with (first | (at_builtin; refine Halted.out ?_))
          refine Halted.mk (wp_appN (m := 1) (n := i) elem_stat25 rfl _ _ rfl (hXw.alloc _) rfl (HRo.out.alloc _) rfl (CellsAt.new wr [.string p, .float .f64 r, .slice ba j bc] 83) (by rfl) (by simp [Value.oneCell']) (by omega) (by unfold maxLen; omega) ?_)
          intro v1 w6 hr1 hk1 hk2 _
          have HFin := Lib.hid (show ∃ vs, vs.length = i + 1 ∧ Row w6 83 3 v1 (i + 1) (((S.take (i + 1)).zip vs).flatMap statC) (New w) ∧ ∀ x ∈ (S.take (i + 1)).zip vs, DistAt w w6 x by
            have hlen : (S.take i).length = vs.length := by rw [List.length_take, HDs.out.1]; have := HN.out; omega
            have et := takeSnoc HS.out.1
            have hkd : ∀ x, DistAt w (wr.alloc (.cells #[.string p, .float .f64 r, .slice ba j bc] 83)) x → DistAt w w6 x := fun x hx => Row.kp' hx hk2 fun g hg _ e => by
              obtain ⟨cs, hb⟩ := (HRo.out.alloc _).blkOf e
              obtain ⟨cs', hb'⟩ := Row.blkOf hx hg
              exact typ_fs (blk_ne hb' hb)
            refine ⟨vs ++ [(ba, bc)], by rw [List.length_append, HDs.out.1]; rfl, ?_, ?_⟩
            · rw [et, List.zip_append hlen, List.flatMap_append]
              have e2 : (([s].zip [(ba, bc)]).flatMap statC) = [.string p, .float .f64 r, .slice ba j bc] := by
                show statC (s, (ba, bc)) ++ [] = _
                rw [List.append_nil, HS.out.2.1, HS.out.2.2.1, EM.out, HS.out.2.2.2]; rfl
              rw [e2]; exact hr1
            · intro x hx
              rw [et, List.zip_append hlen, List.mem_append] at hx
              rcases hx with hx | hx
              · exact hkd _ (Row.alloc (HDs.out.2 x hx) _)
              · simp at hx; subst hx
                refine hkd _ (Row.alloc (show Row wr 37 1 (.slice ba s.2.2.1.length bc) s.2.2.1.length (flts s.2.2.1) (New w) from ?_) _)
                have h := HRj.out.mono (M' := New w) fun g hg => Nat.le_trans hex.out.size hg
                rw [← HS.out.2.2.2, ← EM.out]; exact h)
          have HX6 := Lib.hid hk1
          clear hr1 hk1 hk2 l0 l1 l2 hXw
          go_wp2
          go_roundw
          case rel => exact ⟨i + 1, by omega, by first | rfl | (congr 1; done) | (congr 1; omega), HFin.out, HX6.out⟩
          case measure => simp [intOf]; omega
    · obtain rfl : i = n := by omega
      obtain ⟨vs, hvs, hrow, hds⟩ := hin.out
      have hall : S.take i = S := List.take_of_length_le (by have := HN.out; omega)
      rw [hall] at hrow hds
      obtain ⟨oa, oc, eov, h2, h1, h3⟩ := hrow.cap
      subst eov
      have HSt := Lib.hid (stats_cells (hvs.trans HN.out) h2 hds)
      clear hvs hrow hds hin hall h2
      go_wp2
      go_ret
      exact RetN.mk hex.out ⟨_, _, rfl, h1, h3, HSt.out⟩
end Go.Proofs.Ytcphalpcdcddpaa
