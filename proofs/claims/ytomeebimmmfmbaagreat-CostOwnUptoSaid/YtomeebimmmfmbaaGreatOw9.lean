/- Texts joined for a claim (RefRow, RefRow2, RefRow3, OwnRun, GotE, GathAux, GathRound, Gather, RefBase, RefBaseNil, RefBasePut, RefBaseAdd, RefBaseRels, RefGather). -/
import Derived.Test.YtomeebimmmfmbaaGreatOw8
import Derived.Deep.RegionLaw
import Derived.Deep.OwnRows
import Derived.Laws.OwnMore
/- sibylref03.Rows: what lies where; NewRows, Arity, texts, copied, find, Below. -/
namespace Go.Proofs.YtomeebimmmfmbaaGreat
open Go.RowKit
set_option linter.unusedVariables false
def RefRows (S : Nat → Prop) (w : World) (c : Nat) (n : Nat) (LL : List (List ByteArray)) : Prop :=
  ∃ ao cap, Blk w c [.int .i64 n, .slice ao LL.length cap] 149 ∧ RowsIn S w ao LL ∧ (LL.length ≤ cap ∧ cap ≤ maxLen ∧ (ao = none ∧ cap = 0 ∨ ∃ g, ao = some ⟨g, 0, none⟩)) ∧ ¬ S c ∧ (∀ k, S k → k < w.heap.size) ∧ LL.length ≤ 1048576 * 1048576
def ReadR (n : Nat) (ok : Nat → Prop) (w0 : World) (kv : Value) (w : World) : Prop := ∃ i : Nat, i ≤ n ∧ kv = .int .i64 i ∧ ok i ∧ Ext w0 w
def CountR (n : Nat) (f : Nat → Nat) (w0 : World) (nv kv : Value) (w : World) : Prop := ∃ i : Nat, i ≤ n ∧ nv = .int .i64 (f i : Nat) ∧ kv = .int .i64 i ∧ Ext w0 w
theorem below_step' {α : Type} (c : α → α → Int) (zs : List α) (x y : α) (i : Nat) (h : zs[i]? = some y) : below c (zs.take (i + 1)) x = below c (zs.take i) x + (if c y x < 0 then 1 else 0) := by
  obtain ⟨hl, e⟩ := List.getElem?_eq_some_iff.1 h
  unfold below
  rw [List.take_succ_eq_append_getElem hl, List.filter_append, e]
  by_cases hc : c y x < 0 <;> simp [hc]
def findR (LL : List (List ByteArray)) (ss : List ByteArray) : Int := if isIn cmpRow LL ss then (below cmpRow LL ss : Nat) else -1
theorem first_alike' {α : Type} {c : α → α → Int} (O : OrdLaw c) {zs : List α} (hs : Strict c zs) {x y : α} {i : Nat} (hy : zs[i]? = some y) (hz : c y x = 0) : i = below c zs x := by
  refine hs.place O (by have := (List.getElem?_eq_some_iff.1 hy).1; omega) (fun u h0 hu => ?_) (fun u hu => ?_)
  · obtain ⟨h1, e1⟩ := List.getElem?_eq_some_iff.1 hu
    obtain ⟨h2, e2⟩ := List.getElem?_eq_some_iff.1 hy
    have := List.pairwise_iff_getElem.1 hs (i - 1) i h1 h2 (by omega)
    rw [e1, e2] at this
    exact O.lt_trans this (by omega)
  · rw [hy] at hu; cases hu; omega
section
variable {S S' : Nat → Prop} {w w' : World} {c n : Nat} {LL : List (List ByteArray)}
theorem RefRows.kp {F : Nat → Prop} (h : RefRows S w c n LL) (hk : Kp F w w') (hc : ¬ F c) (hF : ∀ k, F k → ¬ S k) : RefRows S w' c n LL := by
  obtain ⟨ao, cap, h1, h2, h3, h4, h5, h6⟩ := h
  exact ⟨ao, cap, h1.kp hk hc, h2.kp hk hF, h3, h4, fun k hS => Nat.lt_of_lt_of_le (h5 k hS) hk.size, h6⟩
theorem RefRows.ext (h : RefRows S w c n LL) (hk : Ext w w') : RefRows S w' c n LL := h.kp hk id fun _ x => x.elim
theorem RefRows.wide (h : RefRows S w c n LL) (hs : ∀ k, S k → S' k) (hc : ¬ S' c) (hl : ∀ k, S' k → k < w.heap.size) : RefRows S' w c n LL := by
  obtain ⟨ao, cap, h1, h2, h3, h4, h5, h6⟩ := h
  exact ⟨ao, cap, h1, h2.mono hs, h3, hc, hl, h6⟩
theorem RefRows.lt (h : RefRows S w c n LL) : c < w.heap.size := by obtain ⟨ao, cap, h1, _⟩ := h; exact h1.lt
theorem RefRows.inS (h : RefRows S w c n LL) : ∀ k, S k → k < w.heap.size := by obtain ⟨ao, cap, h1, h2, h3, h4, h5, _⟩ := h; exact h5
theorem RefRows.notS (h : RefRows S w c n LL) : ¬ S c := by obtain ⟨ao, cap, h1, h2, h3, h4, h5, _⟩ := h; exact h4
theorem RefRows.len (h : RefRows S w c n LL) : LL.length ≤ 1048576 * 1048576 := by obtain ⟨ao, cap, h1, h2, h3, h4, h5, h6⟩ := h; exact h6
theorem refNewRows_any (S : Nat → Prop) (w : World) (a : Nat) (ha : a ≤ 64) (hS : ∀ k, S k → k < w.heap.size) :
    Calls Tryz.prog 95 #[.int .i64 a] w (RetN w fun w' v => v = .tuple #[.pointer (some ⟨w.heap.size, 0, none⟩), .int .i64 0] ∧ RefRows S w' w.heap.size a []) := by
  have t1 : decide ((a : Int) < 0) = false := by simp
  have t2 : decide ((a : Int) > 64) = false := by simp; omega
  have t3 : decide (64 < (a : Int)) = false := by simp; omega
  go_enter Tryz.func95, Tryz.ntmps95
  go_wp2
  go_ret2
  refine RetN.mk ((Kp.refl w).alloc _) ⟨rfl, none, 0, Blk.new w [_, _] _, RowsIn.nil _ _, ⟨Nat.le_refl _, by decide, .inl ⟨rfl, rfl⟩⟩, fun h => by have := hS _ h; omega, fun k h => by have := hS k h; rw [alloc_size]; omega, by simp⟩
theorem refNewRows_bad (a : Int) (w : World) (ha : a < 0 ∨ 64 < a) : Calls Tryz.prog 95 #[.int .i64 a] w (Ret (.tuple #[.pointer none, .int .i64 2]) w) := by
  by_cases h0 : a < 0
  · have t1 : decide (a < 0) = true := by simp [h0]
    go_enter Tryz.func95, Tryz.ntmps95
    go_wp2
    go_ret2
    exact Ret.mk rfl
  · have h1 : 64 < a := by omega
    have t1 : decide (a < 0) = false := by simp; omega
    have t2 : decide (a > 64) = true := by simp; omega
    have t3 : decide (64 < a) = true := by simp; omega
    go_enter Tryz.func95, Tryz.ntmps95
    go_wp2
    go_ret2
    exact Ret.mk rfl
theorem copied_any (ss : List ByteArray) (ao : Option Addr) (m cap : Nat) (w : World) (hm : m = ss.length) (hc : CellsAt w ao (strs ss)) (hl : ss.length ≤ 8796093021952) :
    Calls Tryz.prog 110 #[.slice ao m cap] w (RetN w fun w' v => OwnRow w w' v ss) := by
  subst hm
  go_enter Tryz.func110, Tryz.ntmps110
  go_wp2_with (first | (at_builtin; refine Halted.out ?_))
  refine Halted.mk (wp_appN elem_str rfl _ _ rfl (Kp.refl (F := fun _ => False) w) rfl (Row.nil w 9 1 (New w)) rfl hc (by simp [strs]) (strs_one ss) (by omega) (by unfold maxLen; omega) ?_)
  intro v1 w1 hr1 hk1 _ _
  have HR := Lib.hid hr1; clear hr1
  go_wp2
  go_ret
  refine RetN.mk hk1 ?_
  unfold OwnRow
  simpa using HR.out
set_option maxRecDepth 100000 in
theorem refTexts_any (ss : List ByteArray) (ao : Option Addr) (m cap : Nat) (w : World) (hm : m = ss.length) (hc : CellsAt w ao (strs ss)) (hl : m ≤ 4611686018427387904) :
    Calls Tryz.prog 98 #[.slice ao m cap] w (Ret (.bool (textsC ss)) w) := by
  have HC := Lib.hid hc; have EN := Lib.hid hm; clear hc hm
  go_enter Tryz.func98, Tryz.ntmps98
  go_wp2
  go_loopw [3] (fun kv wr => wr = w ∧ ∃ i : Nat, i ≤ m ∧ kv = .int .i64 i ∧ ∀ j s, j < i → ss[j]? = some s → s.size ≤ 4096) (fun k _ => m - (intOf k).toNat)
  case atStart => exact ⟨rfl, 0, Nat.zero_le _, rfl, fun j s h => by omega⟩
  case round =>
    obtain ⟨ew, i, hi, rfl, hok⟩ := hrel
    subst ew
    have OK := Lib.hid hok; clear hok
    by_cases hlt : i < m
    · obtain ⟨y, hy⟩ : ∃ y, ss[i]? = some y := ⟨_, List.getElem?_eq_getElem (by have := EN.out; omega)⟩
      obtain ⟨g, o, eao, c3⟩ := HC.out i (.string y) (by simp [strs, hy])
      subst eao
      have HY := Lib.hid hy; clear hy
      have i1 : (i : Int) < (m : Int) := by omega
      by_cases hz : 4096 < y.size
      · have t1 : decide ((y.size : Int) > 4096) = true := by simp; omega
        have t2 : decide ((4096 : Int) < (y.size : Int)) = true := by simp; omega
        go_wp2
        go_ret
        have key : textsC ss = false := by
          cases hb : textsC ss with
          | false => rfl
          | true =>
            have := List.all_eq_true.1 hb y (List.mem_of_getElem? HY.out)
            simp at this; omega
        exact Ret.mk (by rw [key]; rfl)
      · have t1 : decide ((y.size : Int) > 4096) = false := by simp; omega
        have t2 : decide ((4096 : Int) < (y.size : Int)) = false := by simp; omega
        go_wp2
        go_roundw
        case rel =>
          refine ⟨by first | rfl | trivial, i + 1, by omega, by first | rfl | (congr 1; done) | (congr 1; omega), fun j s hj hs => ?_⟩
          by_cases e : j = i
          · subst e; rw [HY.out] at hs; cases hs; omega
          · exact OK.out j s (by omega) hs
        case measure => simp [intOf]; omega
    · go_wp2
      go_ret
      have key : textsC ss = true := List.all_eq_true.2 fun y hy => by
        obtain ⟨j, hj, rfl⟩ := List.mem_iff_getElem.1 hy
        have := OK.out j _ (by have := EN.out; omega) (List.getElem?_eq_getElem hj)
        simpa using this
      exact Ret.mk (by rw [key]; rfl)
theorem refRowFind_nil (v : Value) (w : World) : Calls Tryz.prog 99 #[.pointer none, v] w (Ret (.int .i64 (-1)) w) := by
  go_enter Tryz.func99, Tryz.ntmps99
  go_wp2
  go_ret
  exact Ret.mk rfl
set_option maxRecDepth 100000 in
set_option maxHeartbeats 1000000 in
theorem refRowFind_any (h : RefRows S w c n LL) (hst : Strict cmpRow LL) {xo : Option Addr} {m xc : Nat} {ss : List ByteArray} (hm : m = ss.length) (hx : CellsAt w xo (strs ss)) (hss : ss.length ≤ 8796093021952) :
    Calls Tryz.prog 99 #[.pointer (some ⟨c, 0, none⟩), .slice xo m xc] w (RetN w fun w' v => v = .int .i64 (findR LL ss)) := by
  have hl := h.len
  obtain ⟨ao, cap, h1, h2, _⟩ := h
  have c2 : w.cell? ⟨c, 1, none⟩ = some (.slice ao LL.length cap) := by rw [h1.cell']; rfl
  obtain ⟨N, en⟩ : ∃ n, n = LL.length := ⟨_, rfl⟩
  rw [← en] at c2 hl
  have HC := Lib.hid h2; have EN := Lib.hid en; have HX := Lib.hid hx; have HT := Lib.hid hst; clear h1 h2 en hx hst
  subst hm
  go_enter Tryz.func99, Tryz.ntmps99
  go_wp2
  go_loopw [5] (ReadR N (fun i => ∀ j z, j < i → LL[j]? = some z → ¬ cmpRow z ss = 0) w) (fun k _ => N - (intOf k).toNat)
  case atStart => exact ⟨0, Nat.zero_le _, rfl, fun j z h => by omega, Kp.refl _⟩
  case round =>
    obtain ⟨i, hi, rfl, hok, hex⟩ := hrel
    have OK := Lib.hid hok; clear hok
    have d2 := hex.cell c2 id
    by_cases hlt : i < N
    · obtain ⟨y, hy⟩ : ∃ y, LL[i]? = some y := ⟨_, List.getElem?_eq_getElem (by have := EN.out; omega)⟩
      obtain ⟨g, o, x, xcap, eao, c3, hcy, hly, _⟩ := (HC.out.ext hex).get hy
      subst eao
      have HY := Lib.hid hy; clear hy
      have i1 : (i : Int) < (N : Int) := by omega
      have i2 : (0 : Int) ≤ (i : Int) := by omega
      have HCM := Lib.hid (fun W (hW : Ext wr W) => refCompare_any y ss x xo xcap xc W (hcy.ext hW) ((HX.out.ext hex).ext hW) (by unfold maxLen; omega) (by unfold maxLen; omega))
      generalize hcc : cmpRow y ss = cc at HCM
      have HCC := Lib.hid hcc; clear hcc hcy
      by_cases hz : cc = 0
      · have t1 : (cc == 0) = true := by simp [hz]
        go_wp2_with fail
        refine (HCM.out _ (Kp.refl _)).mono ?_
        rintro e w1 ⟨rfl, k1, rfl⟩
        clear d2 c3
        go_wp2
        go_ret
        have key : findR LL ss = i := by
          unfold findR
          rw [if_pos (isIn_iff.2 ⟨y, List.mem_of_getElem? HY.out, by rw [HCC.out]; exact hz⟩), ← first_alike' (c := cmpRow) (cmpRow_law id) HT.out HY.out (by rw [HCC.out]; exact hz)]
        exact RetN.mk (hex.drewN k1) (by rw [key]; rfl)
      · have t1 : (cc == 0) = false := by simp [hz]
        go_wp2_with fail
        refine (HCM.out _ (Kp.refl _)).mono ?_
        rintro e w1 ⟨rfl, k1, rfl⟩
        clear d2 c3
        go_wp2
        go_roundw
        case rel =>
          refine ⟨i + 1, by omega, by first | rfl | (congr 1; done) | (congr 1; omega), fun j z hj hz' => ?_, hex.drewN k1⟩
          by_cases e : j = i
          · subst e
            rw [HY.out] at hz'; cases hz'
            rw [HCC.out]; exact hz
          · exact OK.out j z (by omega) hz'
        case measure => simp [intOf]; omega
    · go_wp2
      go_ret
      have key : findR LL ss = -1 := by
        unfold findR
        rw [if_neg]
        intro hb
        obtain ⟨y, hy, hz⟩ := isIn_iff.1 hb
        obtain ⟨j, hj, rfl⟩ := List.mem_iff_getElem.1 hy
        exact OK.out j _ (by have := EN.out; omega) (List.getElem?_eq_getElem hj) hz
      exact RetN.mk hex (by rw [key]; rfl)
set_option maxRecDepth 100000 in
set_option maxHeartbeats 1000000 in
theorem refRowBelow_any (h : RefRows S w c n LL) {xo : Option Addr} {m xc : Nat} {ss : List ByteArray} (hm : m = ss.length) (hx : CellsAt w xo (strs ss)) (hss : ss.length ≤ 8796093021952) :
    Calls Tryz.prog 131 #[.pointer (some ⟨c, 0, none⟩), .slice xo m xc] w (RetN w fun w' v => v = .int .i64 (below cmpRow LL ss : Nat)) := by
  have hl := h.len
  obtain ⟨ao, cap, h1, h2, _⟩ := h
  have c2 : w.cell? ⟨c, 1, none⟩ = some (.slice ao LL.length cap) := by rw [h1.cell']; rfl
  obtain ⟨N, en⟩ : ∃ n, n = LL.length := ⟨_, rfl⟩
  rw [← en] at c2 hl
  have HC := Lib.hid h2; have EN := Lib.hid en; have HX := Lib.hid hx; clear h1 h2 en hx
  subst hm
  obtain ⟨f, ef⟩ : ∃ f : Nat → Nat, f = fun i => below cmpRow (LL.take i) ss := ⟨_, rfl⟩
  have F0 : f 0 = 0 := by rw [ef]; rfl
  have FL := Lib.hid (show ∀ i, f i ≤ i from fun i => by rw [ef]; exact Nat.le_trans (below_le _ _) (by simp; omega))
  have FS := Lib.hid (show ∀ i y, LL[i]? = some y → f (i + 1) = f i + (if cmpRow y ss < 0 then 1 else 0) from fun i y h => by rw [ef]; exact below_step' cmpRow LL ss y i h)
  have FN := Lib.hid (show f N = below cmpRow LL ss by rw [ef]; show below cmpRow (LL.take N) ss = _; rw [List.take_of_length_le (by have := EN.out; omega)])
  clear ef
  go_enter Tryz.func131, Tryz.ntmps131
  go_wp2
  go_loopw [5, 6] (CountR N f w) (fun _ k _ => N - (intOf k).toNat)
  case atStart => exact ⟨0, Nat.zero_le _, by rw [F0]; rfl, rfl, Kp.refl _⟩
  case round =>
    obtain ⟨i, hi, rfl, rfl, hex⟩ := hrel
    have d2 := hex.cell c2 id
    by_cases hlt : i < N
    · obtain ⟨y, hy⟩ : ∃ y, LL[i]? = some y := ⟨_, List.getElem?_eq_getElem (by have := EN.out; omega)⟩
      obtain ⟨g, o, x, xcap, eao, c3, hcy, hly, _⟩ := (HC.out.ext hex).get hy
      subst eao
      have hs := FS.out i y hy
      have hbi := FL.out i
      have HCM := Lib.hid (fun W (hW : Ext wr W) => refCompare_any y ss x xo xcap xc W (hcy.ext hW) ((HX.out.ext hex).ext hW) (by unfold maxLen; omega) (by unfold maxLen; omega))
      generalize hcc : cmpRow y ss = cc at HCM hs
      have HS := Lib.hid hs
      have i1 : (i : Int) < (N : Int) := by omega
      have i2 : (0 : Int) ≤ (i : Int) := by omega
      clear hcc hcy hs hy
      by_cases hz : cc < 0
      · have t1 : decide (cc < 0) = true := by simp [hz]
        go_wp2_with fail
        refine (HCM.out _ (Kp.refl _)).mono ?_
        rintro e w1 ⟨rfl, k1, rfl⟩
        clear d2 c3
        go_wp2
        go_roundw
        case rel => exact ⟨i + 1, by omega, by rw [HS.out, if_pos hz]; go_num, by first | rfl | (congr 1; done) | (congr 1; omega), hex.drewN k1⟩
        case measure => simp [intOf]; omega
      · have t1 : decide (cc < 0) = false := by simp; omega
        go_wp2_with fail
        refine (HCM.out _ (Kp.refl _)).mono ?_
        rintro e w1 ⟨rfl, k1, rfl⟩
        clear d2 c3
        go_wp2
        go_roundw
        case rel => exact ⟨i + 1, by omega, by rw [HS.out, if_neg (by omega)]; rfl, by first | rfl | (congr 1; done) | (congr 1; omega), hex.drewN k1⟩
        case measure => simp [intOf]; omega
    · obtain rfl : i = N := by omega
      go_wp2
      go_ret
      exact RetN.mk hex (by rw [← FN.out]; rfl)
end
end Go.Proofs.YtomeebimmmfmbaaGreat

/- sibylref03.Rows: All, Copy, Same. -/
namespace Go.Proofs.YtomeebimmmfmbaaGreat
open Go.RowKit
set_option linter.unusedVariables false
def Grows (w : World) (S S' : Nat → Prop) : Prop := (∀ k, S k → S' k) ∧ ∀ k, S' k → S k ∨ w.heap.size ≤ k
theorem Grows.refl (w : World) (S : Nat → Prop) : Grows w S S := ⟨fun _ h => h, fun _ h => .inl h⟩
theorem Grows.trans {w w' : World} {S S' S'' : Nat → Prop} (h : Grows w S S') (h' : Grows w' S' S'') (hs : w.heap.size ≤ w'.heap.size) : Grows w S S'' :=
  ⟨fun k hk => h'.1 k (h.1 k hk), fun k hk => (h'.2 k hk).elim (fun h2 => h.2 k h2) (fun h2 => .inr (Nat.le_trans hs h2))⟩
section
variable {S S' : Nat → Prop} {w w' : World} {c n c1 c2 n1 n2 : Nat} {LL L1 L2 : List (List ByteArray)} {v : Value} {lo : Nat}
end
end Go.Proofs.YtomeebimmmfmbaaGreat

/- sibylref03.Rows: Add, Drop. -/
namespace Go.Proofs.YtomeebimmmfmbaaGreat
open Go.RowKit
set_option linter.unusedVariables false
theorem CellsAt.sub' {w : World} {g off : Nat} {vs : List Value} (h : CellsAt w (some ⟨g, off, none⟩) vs) (k : Nat) : CellsAt w (some ⟨g, off + k, none⟩) (vs.drop k) := by
  intro i u hu
  rw [List.getElem?_drop] at hu
  obtain ⟨b, o, e, hc⟩ := h (k + i) u hu
  cases e
  exact ⟨g, off + k, rfl, by rw [Nat.add_assoc]; exact hc⟩
theorem CellsAt.take' {w : World} {ao : Option Addr} {vs : List Value} (h : CellsAt w ao vs) (k : Nat) : CellsAt w ao (vs.take k) := by
  intro i u hu
  rw [List.getElem?_take] at hu
  split at hu
  · exact h i u hu
  · cases hu
theorem Row.cast' {w : World} {e : TypeId} {k : Nat} {v : Value} {n n' : Nat} {xs xs' : List Value} {M : Nat → Prop} (h : Row w e k v n xs M) (hn : n = n') (hx : xs = xs') : Row w e k v n' xs' M := by subst hn hx; exact h
theorem rowVs_take (ps : List RowP) (k : Nat) : (rowVs ps).take k = rowVs (ps.take k) := by simp [rowVs]
theorem rowVs_drop (ps : List RowP) (k : Nat) : (rowVs ps).drop k = rowVs (ps.drop k) := by simp [rowVs]
section
variable {S S' : Nat → Prop} {w w0 w' : World} {c n : Nat} {LL : List (List ByteArray)} {v : Value}
theorem RefRows.store {lv0 : Value} (hex : Ext w0 w) (hc : c < w0.heap.size) (hnS : ¬ S c) (hS : ∀ k, S k → k < w0.heap.size) (hB : Blk w c [.int .i64 n, lv0] 149) {ps : List RowP} (hr : Row w 76 1 v ps.length (rowVs ps) (New w0))
    (hall : ∀ p ∈ ps, ReadsAs w p.1 p.2 ∧ p.2.length ≤ 8796093021952 ∧ ∀ a, p.1.1 = some a → S a.block ∨ (w0.heap.size ≤ a.block ∧ a.block < w.heap.size)) (hl : ps.length ≤ 1048576 * 1048576) :
    RefRows (fun k => S k ∨ (w0.heap.size ≤ k ∧ k < w.heap.size)) (w.setCell ⟨c, 1, none⟩ v) c n (ps.map Prod.snd) := by
  have hk : Kp (fun k => k = c) w (w.setCell ⟨c, 1, none⟩ v) := Kp.setCell (F := fun k => k = c) (Kp.refl w) (fun _ => rfl) v
  have hz := hex.size
  have hlt := hr.lt
  have hb := hr.block
  have hform : ∃ ao cap, v = .slice ao ps.length cap ∧ CellsAt w ao (rowVs ps) ∧ (ps.length ≤ cap ∧ cap ≤ maxLen ∧ (ao = none ∧ cap = 0 ∨ ∃ g, ao = some ⟨g, 0, none⟩)) := by
    obtain ⟨ao, cap, e, h1, h2⟩ := hr.shape
    refine ⟨ao, cap, e, h1, h2, ?_⟩
    subst e
    obtain ⟨_, ⟨e, h3⟩ | ⟨g, cap', rest, e, _, _, _, h4, h5⟩⟩ := hr
    · simp only [Value.slice.injEq] at e
      obtain ⟨rfl, _, rfl⟩ := e
      exact ⟨by decide, .inl ⟨rfl, rfl⟩⟩
    · simp only [Value.slice.injEq] at e
      obtain ⟨rfl, _, rfl⟩ := e
      exact ⟨h5, .inr ⟨_, rfl⟩⟩
  obtain ⟨ao, cap, rfl, hcs, hf⟩ := hform
  have hin : RowsIn (fun k => S k ∨ (w0.heap.size ≤ k ∧ k < w.heap.size)) w ao (ps.map Prod.snd) :=
    ⟨ps, rfl, hcs, fun a e => by subst e; exact .inr ⟨hb _ rfl, hlt _ rfl⟩, hall⟩
  have hcn : ¬ (S c ∨ (w0.heap.size ≤ c ∧ c < w.heap.size)) := fun h => by
    rcases h with h | h
    · exact hnS h
    · omega
  refine ⟨ao, cap, by simpa using hB.set 1 (.slice ao ps.length cap), hin.kp hk (fun k e h => by subst e; exact hcn h), by simpa using hf, hcn, fun k h => ?_, by simpa using hl⟩
  have := hk.size
  rcases h with h | h
  · have := hS k h; omega
  · omega
def RefAdded (S : Nat → Prop) (w : World) (c n : Nat) (LL : List (List ByteArray)) (ss : List ByteArray) (w' : World) (v : Value) : Prop :=
  v = .tuple #[.bool (rowsAddR n LL ss).1, .int .i64 ((rowsAddR n LL ss).2 : Nat)] ∧ ∃ S', Grows w S S' ∧ RefRows S' w' c n (rowsAddL n LL ss)
theorem RefAdded.same {ss : List ByteArray} (h : RefRows S w c n LL) (hk : Ext w w') (hv : v = .tuple #[.bool (rowsAddR n LL ss).1, .int .i64 ((rowsAddR n LL ss).2 : Nat)]) (h0 : rowsAddL n LL ss = LL) : RefAdded S w c n LL ss w' v :=
  ⟨hv, S, Grows.refl _ _, by rw [h0]; exact h.ext hk⟩
set_option maxRecDepth 100000 in
set_option maxHeartbeats 2000000 in
theorem refAdd_any (h : RefRows S w c n LL) (hst : Strict cmpRow LL) {xo : Option Addr} {m xc : Nat} {ss : List ByteArray} (hm : m = ss.length) (hx : CellsAt w xo (strs ss)) (hss : ss.length ≤ 8796093021952) (hl1 : LL.length + 1 ≤ 1048576 * 1048576) :
    Calls Tryz.prog 101 #[.pointer (some ⟨c, 0, none⟩), .slice xo m xc] w (RetF (fun k => k = c) w (RefAdded S w c n LL ss)) := by
  have HH := Lib.hid h
  obtain ⟨ao, cap, B0, R0, ⟨f1, f2, f3⟩, hnS, hSw, _⟩ := h
  have c1 : w.cell? ⟨c, 0, none⟩ = some (.int .i64 n) := by rw [B0.cell']; rfl
  have HT := Lib.hid (refTexts_any ss xo m xc w hm hx (by omega))
  have HF := Lib.hid (refRowFind_any HH.out hst (xc := xc) hm hx hss)
  have HX := Lib.hid (And.intro hx (And.intro hst (And.intro hnS hSw)))
  have HB := Lib.hid (And.intro B0 R0)
  have F3 := Lib.hid f3
  clear hst hx hnS hSw B0 R0 f3
  by_cases h1 : m = n
  · have q1 : ((m : Int) != (n : Int)) = false := by simp [h1]
    have H1 := Lib.hid h1; clear h1
    have hn : ss.length = n := by rw [← hm, H1.out]
    have HN := Lib.hid hn
    have HM := Lib.hid hm
    cases ht : textsC ss with
    | false =>
      have e0 : rowsAddR n LL ss = (false, 31) := by unfold rowsAddR; rw [if_neg (by simp [hn]), if_pos ht]
      rw [ht] at HT; clear ht hn hm f1 f2 hss hl1
      go_enter Tryz.func101, Tryz.ntmps101
      go_wp2_with fail
      refine HT.out.mono ?_
      rintro e w1 ⟨rfl, rfl⟩
      go_wp2
      go_ret2
      exact RetF.mk (Kp.refl _) (RefAdded.same HH.out (Kp.refl _) (by rw [e0]; rfl) (by unfold rowsAddL; rw [e0]; rfl))
    | true =>
      rw [ht] at HT
      cases hin : isIn cmpRow LL ss with
      | true =>
        have e0 : rowsAddR n LL ss = (false, 0) := by unfold rowsAddR; rw [if_neg (by simp [hn]), if_neg (by simp [ht]), if_neg (by simp [hin]), hin]; rfl
        have e1 : rowsAddL n LL ss = LL := by unfold rowsAddL addS; rw [e0, if_pos rfl, if_pos hin]
        have ef : findR LL ss = (below cmpRow LL ss : Nat) := by unfold findR; rw [if_pos hin]
        rw [ef] at HF
        generalize below cmpRow LL ss = bl at HF
        have E := Lib.hid (And.intro e0 e1); clear e0 e1 ef hin ht hn hm f1 f2 hss hl1
        have t1 : decide ((bl : Int) ≥ 0) = true := by simp
        go_enter Tryz.func101, Tryz.ntmps101
        go_wp2_with fail
        refine HT.out.mono ?_
        rintro e w1 ⟨rfl, rfl⟩
        go_wp2_with fail
        refine HF.out.mono ?_
        rintro e w1 ⟨v, rfl, hk, rfl⟩
        have HK := Lib.hid hk; clear hk
        go_wp2
        go_ret2
        exact RetF.mk (Ext.kp HK.out) (RefAdded.same HH.out HK.out (by rw [E.out.1]; rfl) E.out.2)
      | false =>
        have ef : findR LL ss = -1 := by unfold findR; rw [if_neg (by simp [hin])]
        rw [ef] at HF
        by_cases h65 : 65536 ≤ LL.length
        · have e0 : rowsAddR n LL ss = (false, 4) := by unfold rowsAddR; rw [if_neg (by simp [hn]), if_neg (by simp [ht]), if_pos ⟨h65, hin⟩]
          have E := Lib.hid e0; clear e0 ef hin ht hn hm hss hl1
          have c2 : w.cell? ⟨c, 1, none⟩ = some (.slice ao LL.length cap) := by rw [HB.out.1.cell']; rfl
          have t1 : decide ((LL.length : Int) ≥ 65536) = true := by simp; omega
          have t2 : decide ((65536 : Int) ≤ (LL.length : Int)) = true := by simp; omega
          go_enter Tryz.func101, Tryz.ntmps101
          go_wp2_with fail
          refine HT.out.mono ?_
          rintro e w1 ⟨rfl, rfl⟩
          go_wp2_with fail
          refine HF.out.mono ?_
          rintro e w1 ⟨v, rfl, hk, rfl⟩
          have d2 := hk.cell c2 id
          have HK := Lib.hid hk; clear hk
          go_wp2
          go_ret2
          exact RetF.mk (Ext.kp HK.out) (RefAdded.same HH.out HK.out (by rw [E.out]; rfl) (by unfold rowsAddL; rw [E.out]; rfl))
        · have e0 : rowsAddR n LL ss = (true, 0) := by unfold rowsAddR; rw [if_neg (by simp [hn]), if_neg (by simp [ht]), if_neg (by simp [h65]), hin]; rfl
          have e1 : rowsAddL n LL ss = LL.take (below cmpRow LL ss) ++ ss :: LL.drop (below cmpRow LL ss) := by unfold rowsAddL addS; rw [e0, if_pos rfl, if_neg (by simp [hin])]
          have E := Lib.hid (And.intro e0 e1); clear e0 e1 ef hin ht
          have hle := below_le (c := cmpRow) LL ss
          have HW := Lib.hid (fun W (hW : Ext w W) => refRowBelow_any (HH.out.ext hW) (xc := xc) hm (HX.out.1.ext hW) hss)
          generalize below cmpRow LL ss = b at *
          have HCP := Lib.hid (fun W (hW : Ext w W) => copied_any ss xo m xc W hm (HX.out.1.ext hW) hss)
          obtain ⟨N, en⟩ : ∃ n, n = LL.length := ⟨_, rfl⟩
          have c2 : w.cell? ⟨c, 1, none⟩ = some (.slice ao N cap) := by rw [en, HB.out.1.cell']; rfl
          rw [← en] at hle h65 hl1 f1
          have EN := Lib.hid (And.intro en hm); clear en
          have t1 : decide ((N : Int) ≥ 65536) = false := by simp; omega
          have t2 : decide ((65536 : Int) ≤ (N : Int)) = false := by simp; omega
          unfold maxLen at f2
          have hcw := HH.out.lt
          have hmm : m ≤ 8796093021952 := by omega
          clear hm hn
          go_enter Tryz.func101, Tryz.ntmps101
          go_wp2_with fail
          refine HT.out.mono ?_
          rintro e w1 ⟨rfl, rfl⟩
          go_wp2_with fail
          refine HF.out.mono ?_
          rintro e w1 ⟨v, rfl, hk1, rfl⟩
          have d2 := hk1.cell c2 id
          go_wp2_with fail
          refine (HW.out _ hk1).mono ?_
          rintro e w2 ⟨v, rfl, hk2, rfl⟩
          have hx2 := hk1.trans hk2
          have d3 := hx2.cell c2 id
          clear d2 t1 t2
          obtain ⟨ps, hE, hcs, _, hall⟩ := HB.out.2
          have hpn : ps.length = N := by rw [EN.out.1, hE]; simp
          have PS := Lib.hid (And.intro hE (And.intro hcs (And.intro hall hpn)))
          clear hE hcs hall hpn
          rcases F3.out with ⟨rfl, rfl⟩ | ⟨g, rfl⟩
          · have hN0 : N = 0 := by omega
            have hb0 : b = 0 := by omega
            subst hN0 hb0
            clear f1 f2 hle
            go_wp2_with (first | (at_builtin; refine Halted.out ?_))
            refine Halted.mk (wp_appN elemRow rfl _ _ rfl hx2 rfl (Row.nil w2 76 1 (New w)) rfl (news := (rowVs ps).take 0) (by simp; exact CellsAt.nil _ _) (by simp) (by simp) (by decide) (by decide) ?_)
            intro v1 w3 hr1 hk3 _ _
            have HR1 := Lib.hid hr1; clear hr1
            go_wp2_with fail
            refine (HCP.out _ hk3).mono ?_
            rintro e w3c ⟨vc, rfl, hkc, hrc⟩
            obtain ⟨ao1, cap1, ev, _, _⟩ := hrc.shape
            subst ev
            have HRC := Lib.hid (And.intro hkc hrc)
            have hk3c := hk3.trans hkc
            clear hkc hrc
            go_wp2_with (first | (at_builtin; refine Halted.out ?_))
            refine Halted.mk (wp_appN elemRow rfl _ _ rfl (hk3c.alloc (.cells #[.slice ao1 ss.length cap1] 76)) rfl ((HR1.out.ext HRC.out.1).alloc _) rfl (CellsAt.one w3c (.slice ao1 ss.length cap1) 76) rfl (by simp; rfl) (by omega) (by unfold maxLen; omega) ?_)
            intro v2 w4 hr2 hk4 hk4' _
            have HR2 := Lib.hid (And.intro hr2 (And.intro hk4 hk4')); clear hr2 hk4'
            have e1 := hk4.cell c2 id
            go_wp2_with (first | (at_builtin; refine Halted.out ?_))
            refine Halted.mk (wp_appN elemRow rfl _ _ rfl hk4 rfl HR2.out.1 rfl (news := (rowVs ps).drop 0) (by rw [List.drop_of_length_le (by rw [rowVs_len, PS.out.2.2.2]; exact Nat.le_refl _)]; exact CellsAt.nil _ _) (by rw [List.length_drop, rowVs_len]; have := PS.out.2.2.2; omega) (fun u hu => rowVs_one ps u (List.mem_of_mem_drop hu)) (by omega) (by unfold maxLen; omega) ?_)
            intro v3 w5 hr3 hk5 hk5' _
            obtain ⟨ao3, n3, cap3, e3, _⟩ : ∃ ao n cap, v3 = .slice ao n cap ∧ True := by obtain ⟨ao, cap, e, _⟩ := hr3.shape; exact ⟨_, _, _, e, trivial⟩
            subst e3
            have g1 := hk5.cell c2 id
            have g2 := (HB.out.1.ext hk5).free 1
            have HR3 := Lib.hid (And.intro hr3 (And.intro hk5 hk5')); clear hr3 hk5'
            go_wp2
            go_ret2
            obtain ⟨hr3, hk5, hk5'⟩ := HR3.out
            obtain ⟨hr2, hk4, hk4'⟩ := HR2.out
            obtain ⟨hkc, hrc⟩ := HRC.out
            obtain ⟨hE, hcs, hall, hpn⟩ := PS.out
            obtain ⟨hx0, hst0, hnS0, hSw0⟩ := HX.out
            have hne : 9 ≠ 76 := by decide
            have q1 := (show Row w3c 9 1 (.slice ao1 ss.length cap1) ss.length (strs ss) (New w3) from hrc).alloc (.cells #[.slice ao1 ss.length cap1] 76)
            have q2 := q1.kp' hk4' fun g hg _ hf => q1.sort_ne ((HR1.out.ext hkc).alloc (.cells #[.slice ao1 ss.length cap1] 76)) hne hg hf
            have q3 := q2.kp' hk5' fun g hg _ hf => q2.sort_ne hr2 hne hg hf
            have q4 := Row.readsAs (x := (ao1, ss.length, cap1)) q3
            have eL : (ps.take 0 ++ ((ao1, ss.length, cap1), ss) :: ps.drop 0).map Prod.snd = rowsAddL n LL ss := by rw [E.out.2, hE]; simp
            have hlen : (ps.take 0 ++ (((ao1, ss.length, cap1), ss) : RowP) :: ps.drop 0).length = 0 + 1 := by rw [List.length_append, List.length_cons, List.length_take, List.length_drop]; omega
            have hfin := RefRows.store (S := S) (n := n) hk5 hcw hnS0 hSw0 (HB.out.1.ext hk5) (ps := ps.take 0 ++ ((ao1, ss.length, cap1), ss) :: ps.drop 0) (v := .slice ao3 n3 cap3)
              (hr3.cast' (by first | (rw [hlen]; omega) | rw [hlen]) (by rw [rowVs_append, rowVs_take, rowVs_drop]; simp [rowVs])) (fun p hp => by
                have hp' : p ∈ ps ∨ p = ((ao1, ss.length, cap1), ss) := by
                  rcases List.mem_append.1 hp with h | h
                  · exact .inl (List.mem_of_mem_take h)
                  · rcases List.mem_cons.1 h with h | h
                    · exact .inr h
                    · exact .inl (List.mem_of_mem_drop h)
                rcases hp' with hp' | rfl
                · obtain ⟨h1, h2, h3⟩ := hall p hp'
                  exact ⟨⟨h1.1, h1.2.ext hk5⟩, h2, fun a e => .inl (h3 a e)⟩
                · refine ⟨q4.1, hss, fun a e => .inr ?_⟩
                  have := q4.2 a e
                  have hz3 := hk3.size
                  exact ⟨Nat.le_trans hz3 this.1, this.2⟩) (by rw [hlen]; omega)
            rw [eL] at hfin
            refine RetF.mk (Kp.setCell (F := fun k => k = c) (Ext.kp hk5) (fun _ => rfl) _) ⟨by rw [E.out.1]; rfl, _, ⟨fun k h => .inl h, fun k h => h.imp id fun h => h.1⟩, hfin⟩
          · have hp1 : (b : Int) ≤ (cap : Int) := by omega
            have hp2 : (b : Int) ≤ (N : Int) := by omega
            by_cases hcm : cap = b
            all_goals
                go_wp2_with (first | (at_builtin; refine Halted.out ?_))
                refine Halted.mk (wp_appN elemRow rfl _ _ rfl hx2 rfl (Row.nil w2 76 1 (New w)) rfl ((PS.out.2.1.ext hx2).take' b) (by rw [List.length_take, rowVs_len, PS.out.2.2.2]; omega) (fun u hu => rowVs_one ps u (List.mem_of_mem_take hu)) (by omega) (by unfold maxLen; omega) ?_)
                intro v1 w3 hr1 hk3 _ _
                have HR1 := Lib.hid hr1; clear hr1
                go_wp2_with fail
                refine (HCP.out _ hk3).mono ?_
                rintro e w3c ⟨vc, rfl, hkc, hrc⟩
                obtain ⟨ao1, cap1, ev, _, _⟩ := hrc.shape
                subst ev
                have HRC := Lib.hid (And.intro hkc hrc)
                have hk3c := hk3.trans hkc
                clear hkc hrc
                go_wp2_with (first | (at_builtin; refine Halted.out ?_))
                refine Halted.mk (wp_appN elemRow rfl _ _ rfl (hk3c.alloc (.cells #[.slice ao1 ss.length cap1] 76)) rfl ((HR1.out.ext HRC.out.1).alloc _) rfl (CellsAt.one w3c (.slice ao1 ss.length cap1) 76) rfl (by simp; rfl) (by omega) (by unfold maxLen; omega) ?_)
                intro v2 w4 hr2 hk4 hk4' _
                have HR2 := Lib.hid (And.intro hr2 (And.intro hk4 hk4')); clear hr2 hk4'
                have e1 := hk4.cell c2 id
                go_wp2_with (first | (at_builtin; refine Halted.out ?_))
                refine Halted.mk (wp_appN elemRow rfl _ _ rfl hk4 rfl HR2.out.1 rfl (news := (rowVs ps).drop b) (by
                  first
                    | (have := (PS.out.2.1.ext hk4).sub' b; rwa [Nat.zero_add] at this)
                    | (rw [List.drop_of_length_le (by rw [rowVs_len, PS.out.2.2.2]; omega)]; exact CellsAt.nil _ _)) (by rw [List.length_drop, rowVs_len]; have := PS.out.2.2.2; omega) (fun u hu => rowVs_one ps u (List.mem_of_mem_drop hu)) (by omega) (by unfold maxLen; omega) ?_)
                intro v3 w5 hr3 hk5 hk5' _
                obtain ⟨ao3, n3, cap3, e3, _⟩ : ∃ ao n cap, v3 = .slice ao n cap ∧ True := by obtain ⟨ao, cap, e, _⟩ := hr3.shape; exact ⟨_, _, _, e, trivial⟩
                subst e3
                have g1 := hk5.cell c2 id
                have g2 := (HB.out.1.ext hk5).free 1
                have HR3 := Lib.hid (And.intro hr3 (And.intro hk5 hk5')); clear hr3 hk5'
                go_wp2
                go_ret2
                obtain ⟨hr3, hk5, hk5'⟩ := HR3.out
                obtain ⟨hr2, hk4, hk4'⟩ := HR2.out
                obtain ⟨hkc, hrc⟩ := HRC.out
                obtain ⟨hE, hcs, hall, hpn⟩ := PS.out
                obtain ⟨hx0, hst0, hnS0, hSw0⟩ := HX.out
                have hne : 9 ≠ 76 := by decide
                have q1 := (show Row w3c 9 1 (.slice ao1 ss.length cap1) ss.length (strs ss) (New w3) from hrc).alloc (.cells #[.slice ao1 ss.length cap1] 76)
                have q2 := q1.kp' hk4' fun g hg _ hf => q1.sort_ne ((HR1.out.ext hkc).alloc (.cells #[.slice ao1 ss.length cap1] 76)) hne hg hf
                have q3 := q2.kp' hk5' fun g hg _ hf => q2.sort_ne hr2 hne hg hf
                have q4 := Row.readsAs (x := (ao1, ss.length, cap1)) q3
                have eL : (ps.take b ++ ((ao1, ss.length, cap1), ss) :: ps.drop b).map Prod.snd = rowsAddL n LL ss := by rw [E.out.2, hE]; simp
                have hlen : (ps.take b ++ (((ao1, ss.length, cap1), ss) : RowP) :: ps.drop b).length = N + 1 := by rw [List.length_append, List.length_cons, List.length_take, List.length_drop]; omega
                have hfin := RefRows.store (S := S) (n := n) hk5 hcw hnS0 hSw0 (HB.out.1.ext hk5) (ps := ps.take b ++ ((ao1, ss.length, cap1), ss) :: ps.drop b) (v := .slice ao3 n3 cap3)
                  (hr3.cast' (by first | (rw [hlen]; omega) | rw [hlen]) (by rw [rowVs_append, rowVs_take, rowVs_drop]; simp [rowVs])) (fun p hp => by
                    have hp' : p ∈ ps ∨ p = ((ao1, ss.length, cap1), ss) := by
                      rcases List.mem_append.1 hp with h | h
                      · exact .inl (List.mem_of_mem_take h)
                      · rcases List.mem_cons.1 h with h | h
                        · exact .inr h
                        · exact .inl (List.mem_of_mem_drop h)
                    rcases hp' with hp' | rfl
                    · obtain ⟨h1, h2, h3⟩ := hall p hp'
                      exact ⟨⟨h1.1, h1.2.ext hk5⟩, h2, fun a e => .inl (h3 a e)⟩
                    · refine ⟨q4.1, hss, fun a e => .inr ?_⟩
                      have := q4.2 a e
                      have hz3 := hk3.size
                      exact ⟨Nat.le_trans hz3 this.1, this.2⟩) (by rw [hlen]; omega)
                rw [eL] at hfin
                refine RetF.mk (Kp.setCell (F := fun k => k = c) (Ext.kp hk5) (fun _ => rfl) _) ⟨by rw [E.out.1]; rfl, _, ⟨fun k h => .inl h, fun k h => h.imp id fun h => h.1⟩, hfin⟩
  · have q1 : ((m : Int) != (n : Int)) = true := by simp; omega
    have e0 : rowsAddR n LL ss = (false, 30) := by unfold rowsAddR; rw [if_pos (by omega)]
    have E := Lib.hid e0; clear e0 hm hss hl1 f1 f2
    go_enter Tryz.func101, Tryz.ntmps101
    go_wp2
    go_ret2
    exact RetF.mk (Kp.refl _) (RefAdded.same HH.out (Kp.refl _) (by rw [E.out]; rfl) (by unfold rowsAddL; rw [E.out]; rfl))
end
end Go.Proofs.YtomeebimmmfmbaaGreat

/- The append of a row to own rows, as a run; a builtin whose run is known as a step of a drawn region. -/
namespace Go.Proofs.YtomeebimmmfmbaaGreat
open Go.RowKit
set_option linter.unusedVariables false
section
variable {S S1 S2 S' : Nat → Prop} {w w' : World} {c c1 c2 n n1 n2 : Nat} {LL L1 L2 : List (List ByteArray)} {v : Value} {lo : Nat}
end
end Go.Proofs.YtomeebimmmfmbaaGreat

/- A range over rows of one's own that writes them over and keeps copies; rows written over. No program in sight. -/
namespace Go.Proofs.YtomeebimmmfmbaaGreat
open Go.RowKit Go.Shelf
set_option linter.unusedVariables false
abbrev rowOf (p : RowP) : Value := .slice p.1.1 p.1.2.1 p.1.2.2
section
variable {W W' : World}
theorem CellsAt.sameOn {SB : Nat → Prop} {ao : Option Addr} {vs : List Value} (h : CellsAt W ao vs) (hs : SameOn SB W W') (ha : ∀ a, ao = some a → SB a.block) : CellsAt W' ao vs := fun i u hu => by
  obtain ⟨b, o, e, c⟩ := h i u hu
  exact ⟨b, o, e, (hs.cell (ha _ e)).trans c⟩
end
end Go.Proofs.YtomeebimmmfmbaaGreat

/- cost.Gather: what is known while a relation's rows go by. -/
namespace Go.Proofs.YtomeebimmmfmbaaGreat
open Go.RowKit Go.Shelf
set_option linter.unusedVariables false
theorem run_len_map {P : Program} {w : World} {r : Nat} {m : List (ByteArray × Value)} {t k e : TypeId} (ht : P.underlying t = some (.map k e)) (h : MapIs w r m) (ty : TypeId) : (Builtin.len_ #[t] ty #[.map (some r)]).run P w = .ok (.int .i64 m.length) w := by
  obtain ⟨es, c, h1, h2, _⟩ := h
  have e1 : es.size = m.length := by have := congrArg List.length h2; simpa using this
  simp [Builtin.len_, run_underlying ht, MapKept.run_getObj_map h1, goInt, Result.andThen, e1]
theorem nubTo_app (l m : List ByteArray) : ∀ k, k ≤ l.length → nubTo (l ++ m) k = nubTo l k
  | 0, _ => rfl
  | k + 1, h => by
    have ih := nubTo_app l m k (by omega)
    show (match (l ++ m)[k]? with | none => nubTo (l ++ m) k | some s => if hasT (nubTo (l ++ m) k) s = true then nubTo (l ++ m) k else nubTo (l ++ m) k ++ [s]) = (match l[k]? with | none => nubTo l k | some s => if hasT (nubTo l k) s = true then nubTo l k else nubTo l k ++ [s])
    rw [List.getElem?_append_left (by omega), ih]
theorem colN_app (A B : List (List ByteArray)) (c : Nat) : colN (A ++ B) c = colN A c ++ colN B c := by unfold colN; rw [List.map_append]
theorem setM_len (l : List ByteArray) : (setM l).length = l.length := by unfold setM; rw [List.length_map]
theorem MapIs.grown {W W' : World} {r : Nat} {m : List (ByteArray × Value)} {row : Option Nat} (h : MapIs W r m) (hg : W.grownBy W' row) (hr : row ≠ some r) : MapIs W' r m := by
  obtain ⟨es, c, h1, h2⟩ := h
  exact ⟨es, c, (hg.block r (lt_of_block h1) (fun e => hr e.symm)).trans h1, h2⟩
theorem KeepsFrom.of_kp {F : Nat → Prop} {B : Nat} {W W' : World} (h : Kp F W W') (hF : ∀ k, F k → k < B) : KeepsFrom B W W' :=
  ⟨h.size, fun k o hB hk _ => (h.block k (lt_of_block hk) fun f => by have := hF k f; omega).trans hk⟩
def rowsOfP {ps : List RowP} (pre : List { p : RowP // p ∈ ps }) : List (List ByteArray) := pre.map fun x => x.1.2
theorem rowsOfP_len {ps : List RowP} (pre : List { p : RowP // p ∈ ps }) : (rowsOfP pre).length = pre.length := by unfold rowsOfP; rw [List.length_map]
def GotG (w0 : World) (rs : List Nat) (ps : List RowP) (pre : List { p : RowP // p ∈ ps }) (W : World) : Prop :=
  pre.length ≤ ps.length ∧ Kp (fun g => g ∈ rs) w0 W ∧ ∀ (c r : Nat), rs[c]? = some r → MapIs W r (setM (nubTo (colN (rowsOfP pre) c) pre.length))
theorem GotG.own {w0 : World} {rs : List Nat} {ps : List RowP} {B : Nat} (hB : w0.heap.size ≤ B) (hrs : ∀ r ∈ rs, r < w0.heap.size) : OwnFrom B (GotG w0 rs ps) := fun pre W W' row hs hg hr =>
  ⟨hs.1, hs.2.1.grown hg (fun k e hk => by have := (hr k e).1; omega), fun c r h => (hs.2.2 c r h).grown hg (fun e => by have h1 := (hr r e).1; have h2 := hrs r (List.mem_of_getElem? h); omega)⟩
def ColsG (X : World) (rs : List Nat) (A : List (List ByteArray)) (ss : List ByteArray) (n : Nat) (kv : Value) (W : World) : Prop :=
  ∃ c : Nat, c ≤ n ∧ kv = .int .i64 c ∧ Hid (Kp (fun g => g ∈ rs) X W) ∧ Hid (∀ (c' r : Nat), rs[c']? = some r → MapIs W r (setM (nubTo (colN (A ++ [ss]) c') (if c' < c then A.length + 1 else A.length))))
theorem GotG.cols {w0 X : World} {rs : List Nat} {ps : List RowP} {pre : List { p : RowP // p ∈ ps }} (h : GotG w0 rs ps pre X) (ss : List ByteArray) (n : Nat) : ColsG X rs (rowsOfP pre) ss n (.int .i64 (0 : Int)) X :=
  ⟨0, Nat.zero_le _, rfl, Lib.hid (Kp.refl _), Lib.hid fun c' r hr => by
    rw [if_neg (Nat.not_lt_zero _), colN_app, nubTo_app _ _ _ (by rw [colN_len]; exact Nat.le_refl _), rowsOfP_len]
    exact h.2.2 c' r hr⟩
theorem GotG.next {w0 X W : World} {rs : List Nat} {ps : List RowP} {pre : List { p : RowP // p ∈ ps }} (h : GotG w0 rs ps pre X) (x : { p : RowP // p ∈ ps }) (hl : pre.length < ps.length) (hk : Kp (fun g => g ∈ rs) X W)
    (hm : ∀ (c' r : Nat), rs[c']? = some r → MapIs W r (setM (nubTo (colN (rowsOfP pre ++ [x.1.2]) c') (if c' < rs.length then (rowsOfP pre).length + 1 else (rowsOfP pre).length)))) : GotG w0 rs ps (pre ++ [x]) W := by
  refine ⟨by rw [List.length_append, List.length_singleton]; omega, h.2.1.trans hk, fun c r hr => ?_⟩
  have h1 := hm c r hr
  rw [if_pos (List.getElem?_eq_some_iff.1 hr).1, rowsOfP_len] at h1
  rw [List.length_append, List.length_singleton]
  have e : rowsOfP (pre ++ [x]) = rowsOfP pre ++ [x.1.2] := by unfold rowsOfP; rw [List.map_append]; rfl
  rw [e]; exact h1
theorem cols_step {X W W' : World} {rs : List Nat} {A : List (List ByteArray)} {ss : List ByteArray} {c r : Nat} {s : ByteArray} (hn : rs.Nodup) (hr : rs[c]? = some r) (hs : ss[c]? = some s) (hX : Kp (fun g => g ∈ rs) X W)
    (hm : ∀ (c' r : Nat), rs[c']? = some r → MapIs W r (setM (nubTo (colN (A ++ [ss]) c') (if c' < c then A.length + 1 else A.length)))) (hW : MapIs W' r (putM (setM (nubTo (colN (A ++ [ss]) c) A.length)) s (.bool true))) (hk : Kp (fun k => k = r) W W') :
    Kp (fun g => g ∈ rs) X W' ∧ ∀ (c' r' : Nat), rs[c']? = some r' → MapIs W' r' (setM (nubTo (colN (A ++ [ss]) c') (if c' < c + 1 then A.length + 1 else A.length))) := by
  have hcol : (colN (A ++ [ss]) c)[A.length]? = some s := colN_get (r := ss) (by rw [List.getElem?_append_right (Nat.le_refl _), Nat.sub_self]; rfl) hs
  refine ⟨hX.trans (hk.mono fun g _ e => by rw [e]; exact List.mem_of_getElem? hr), fun c' r' hr' => ?_⟩
  by_cases e : c' = c
  · subst e
    rw [hr] at hr'
    injection hr' with hr'
    subst hr'
    rw [if_pos (by omega)]
    rw [putM_nub hcol] at hW
    exact hW
  · have hne : r' ≠ r := fun e2 => by
      subst e2
      obtain ⟨i1, q1⟩ := List.getElem?_eq_some_iff.1 hr'
      obtain ⟨i2, q2⟩ := List.getElem?_eq_some_iff.1 hr
      exact e ((List.getElem_inj hn).1 (q1.trans q2.symm))
    have h1 := (hm c' r' hr').kp hk hne
    by_cases hlt : c' < c
    · rw [if_pos hlt] at h1
      rw [if_pos (by omega)]; exact h1
    · rw [if_neg hlt] at h1
      rw [if_neg (by omega)]; exact h1
end Go.Proofs.YtomeebimmmfmbaaGreat

/- cost.Gather: a round of its loop over names. -/
namespace Go.Proofs.YtomeebimmmfmbaaGreat
open Go.RowKit Go.Shelf
set_option linter.unusedVariables false
theorem run_store_map (P : Program) (w : World) (a : Addr) (m : Mode) (r : Option Nat) : (store a (.map r) m).run P w = stored P w a (.map r) m := run_store P w a _ m rfl
attribute [local go_sem] Oper.semAt_some run_store_float run_store_map
def firstLoopG : Code → Option Code
  | .loop c => some c
  | .seq a b => match firstLoopG a with
    | some c => some c
    | none => firstLoopG b
  | .block _ c => firstLoopG c
  | .scope c => firstLoopG c
  | .cond _ a b => match firstLoopG a with
    | some c => some c
    | none => firstLoopG b
  | _ => none
noncomputable def gathBody : Code := ((Tryz.f8.body.bind firstLoopG).getD .skip)
theorem list_litG (l : List Value) : ∀ n, l.length = n → l = (List.range n).map fun i => l.getD i undef := fun n h => by
  subst h
  refine List.ext_getElem (by simp) fun i h1 h2 => ?_
  simp [List.getElem_map, List.getD_eq_getElem?_getD, h1]
set_option maxRecDepth 100000 in
theorem lit88 (t : Array Value) (h : t.size = 88) : ∃ u : Nat → Value, t = #[u 0, u 1, u 2, u 3, u 4, u 5, u 6, u 7, u 8, u 9, u 10, u 11, u 12, u 13, u 14, u 15, u 16, u 17, u 18, u 19, u 20, u 21, u 22, u 23, u 24, u 25, u 26, u 27, u 28, u 29, u 30, u 31, u 32, u 33, u 34, u 35, u 36, u 37, u 38, u 39, u 40, u 41, u 42, u 43, u 44, u 45, u 46, u 47, u 48, u 49, u 50, u 51, u 52, u 53, u 54, u 55, u 56, u 57, u 58, u 59, u 60, u 61, u 62, u 63, u 64, u 65, u 66, u 67, u 68, u 69, u 70, u 71, u 72, u 73, u 74, u 75, u 76, u 77, u 78, u 79, u 80, u 81, u 82, u 83, u 84, u 85, u 86, u 87] := by
  refine ⟨fun i => t.toList.getD i undef, ?_⟩
  apply Array.ext'
  have := list_litG t.toList 88 (by simpa using h)
  exact this
theorem elem_statG : ElemT Tryz.prog 39 48 3 48 (.agg #[.string ⟨#[]⟩, .float .f64 0, .slice none 0 0]) := ⟨by kernel_rfl, by kernel_rfl, rfl, by decide⟩
theorem typ_fg : 45 ≠ 48 := by decide
theorem dist_lt {w0 w : World} {S : List StatZ} {vs : List (Option Addr × Nat)} (hl : S.length = vs.length) (h : ∀ x ∈ S.zip vs, DistAt w0 w x) : ∀ x ∈ vs, ∀ a, x.1 = some a → a.block < w.heap.size := by
  exact zip_lt hl fun x hx a ha => (row_addr (h x hx) ha).1
def OutAt (S : List StatZ) (w1 : World) (i : Nat) (ov : Value) (W : World) : Prop := ∃ vs, vs.length = i ∧ Row W 48 3 ov i (((S.take i).zip vs).flatMap statC) (New w1) ∧ (∀ x ∈ (S.take i).zip vs, DistAt w1 W x) ∧ Far vs
def GathTo (bb : Nat) (S : List StatZ) (w1 : World) (n : Nat) (na : Option Addr) (ncap : Nat) (i : Nat) (u0 u4 u20 u21 u22 : Value) (ds : List Deferred) (W : World) : Prop :=
  i ≤ n ∧ u0 = .pointer (some ⟨bb, 0, none⟩) ∧ u20 = .slice na n ncap ∧ u21 = .int .i64 (n : Int) ∧ u22 = .int .i64 (i : Int) ∧ Hid (OutAt S w1 i u4 W) ∧ Hid (Ext w1 W) ∧ Hid (Marks w1.heap.size W ds)
def GathInv (bb : Nat) (S : List StatZ) (w1 : World) (n : Nat) (na : Option Addr) (ncap : Nat) (a' : Act) (w' : World) : Prop :=
  ∃ i : Nat, a'.tmps.size = 88 ∧ GathTo bb S w1 n na ncap i (a'.tmps.getD 0 undef) (a'.tmps.getD 4 undef) (a'.tmps.getD 20 undef) (a'.tmps.getD 21 undef) (a'.tmps.getD 22 undef) a'.defers w'
def gathMu (n : Nat) (a' : Act) (w' : World) : Nat := n - (intOf (a'.tmps.getD 22 undef)).toNat
def gathQ (bb : Nat) (S : List StatZ) (w1 : World) (n : Nat) (na : Option Addr) (ncap : Nat) (e : Exit) (a' : Act) (w' : World) : Prop := match e with
  | .exit k => k = 0 ∧ a'.tmps.size = 88 ∧ GathTo bb S w1 n na ncap n (a'.tmps.getD 0 undef) (a'.tmps.getD 4 undef) (a'.tmps.getD 20 undef) (a'.tmps.getD 21 undef) (a'.tmps.getD 22 undef) a'.defers w'
  | _ => False
theorem blk_madeG (w : World) (z : Value) (n : Nat) (e : TypeId) : Blk (w.alloc (.cells (madeCells #[z] n) e)) w.heap.size (List.replicate n z) e := by
  have h := Blk.new w (List.replicate n z) e
  have e1 : madeCells #[z] n = (List.replicate n z).toArray := by
    apply Array.toList_inj.1; rw [toList_madeCells_one]
  rw [e1]; exact h
def DistG (ds : List Nat) (p : ByteArray) (r : Nat) (gx : Nat) (w0 : World) (m : Nat) (kv : Value) (w : World) : Prop := ∃ k : Nat, k ≤ m ∧ kv = .int .i64 k ∧ Hid (∃ dv, Blk w gx [.string p, .float .f64 r, dv] 48 ∧ Row w 45 1 dv k (flts (ds.take k)) (New w0)) ∧ Hid (Ext w0 w)
def MapsTo (w0 : World) (gm gb ar : Nat) (kv : Value) (W : World) : Prop := ∃ c : Nat, c ≤ ar ∧ kv = .int .i64 c ∧ Hid (Ext w0 W) ∧ Hid (Blk W gb [.slice (some ⟨gm, 0, none⟩) ar ar] 80) ∧
  Hid (∃ rs : List Nat, rs.length = c ∧ rs.Nodup ∧ (∀ r ∈ rs, w0.heap.size ≤ r ∧ MapIs W r []) ∧ Blk W gm (rs.map (fun r => Value.map (some r)) ++ List.replicate (ar - c) (.map none)) 81)
section
variable {S0 : Nat → Prop} {w w1 : World} {bb r0 : Nat} {E : List Ent} {n : Nat} {na : Option Addr} {ncap : Nat}
set_option maxRecDepth 100000 in
set_option maxHeartbeats 8000000 in
theorem gath_round (h : BaseAt S0 w bb r0 E) (hn : n = (namesC (cntE E)).length) (hn8 : n ≤ 1048576) (hx1 : Ext w w1) (hcs : CellsAt w1 na (strs (namesC (cntE E)))) (a : Act) (W : World) (hI : GathInv bb ((relsC (cntE E)).map gatS) w1 n na ncap a W) :
    Code.wp Tryz.prog gathBody (Exit.then (fun a' w' => GathInv bb ((relsC (cntE E)).map gatS) w1 n na ncap a' w' ∧ gathMu n a' w' < gathMu n a W) (gathQ bb ((relsC (cntE E)).map gatS) w1 n na ncap)) a W := by
  have HV := Lib.hid (fun W (hW : Ext w W) => (BaseV.full bb r0 E h).ext hW)
  have HOk := Lib.hid h.ok
  have HN := Lib.hid (And.intro hn hn8)
  have HW1 := Lib.hid (And.intro hx1 hcs)
  clear h hn hn8 hx1 hcs
  obtain ⟨i, hsz, hrel⟩ := hI
  obtain ⟨tm, ds⟩ := a
  obtain ⟨u, rfl⟩ := lit88 tm hsz
  obtain ⟨hi, e0, e20, e21, e22, hout, hex, hmk⟩ := hrel
  replace e0 : u 0 = _ := e0
  replace e20 : u 20 = _ := e20
  replace e21 : u 21 = _ := e21
  replace e22 : u 22 = _ := e22
  replace hout : Hid (OutAt ((relsC (cntE E)).map gatS) w1 i (u 4) W) := hout
  rw [e0, e20, e21, e22]
  clear e0 e20 e21 e22 hsz
  obtain ⟨ov, eov⟩ : ∃ ov, u 4 = ov := ⟨_, rfl⟩
  rw [eov] at hout ⊢
  clear eov
  conv => arg 2; whnf
  by_cases hlt : i < n
  · obtain ⟨s, hs⟩ : ∃ s, (namesC (cntE E))[i]? = some s := ⟨_, List.getElem?_eq_getElem (by rw [← HN.out.1]; exact hlt)⟩
    obtain ⟨ab, ao, ena, hcx⟩ := HW1.out.2 i (.string s) (by simp [strs, hs])
    subst ena
    have hcW := hex.out.cell hcx id
    have hxW := HW1.out.1.trans hex.out
    have hmem : s ∈ namesC (cntE E) := List.mem_of_getElem? hs
    obtain ⟨f, hf⟩ : ∃ f, findE E s = some f := by
      have h1 := (names_perm (cntE E)).mem_iff.1 hmem
      obtain ⟨p, hp, e⟩ := List.mem_map.1 h1
      have h2 := (getC_mem HOk.out.nodup).2 (show (s, p.2) ∈ cntE E by rw [← e]; exact hp)
      rw [cntE_get] at h2
      cases hfe : findE E s with
      | none => rw [hfe] at h2; cases h2
      | some f => exact ⟨f, rfl⟩
    have hok := HOk.out.all (f.name, (f.ar, f.LL)) (List.mem_map.2 ⟨f, (findE_some hf).1, rfl⟩)
    obtain ⟨ar, ear⟩ : ∃ ar, f.ar = ar := ⟨_, rfl⟩
    obtain ⟨LL, eLL⟩ : ∃ LL, f.LL = LL := ⟨_, rfl⟩
    have har : ar ≤ 64 := by rw [← ear]; exact hok.ar
    have hfew : LL.length ≤ 65536 := by rw [← eLL]; exact hok.few
    have hlen : ∀ r ∈ LL, r.length = ar := by rw [← eLL, ← ear]; exact hok.len
    have hS : ((relsC (cntE E)).map gatS)[i]? = some (gatS (s, (ar : Int), LL, ())) := by
      unfold relsC
      rw [List.getElem?_map, List.getElem?_map, hs]
      show some (gatS (s, (arC (cntE E) s : Int), rowsC (cntE E) s, ())) = _
      unfold arC rowsC
      rw [cntE_get, hf]
      show some (gatS (s, (f.ar : Int), f.LL, ())) = _
      rw [ear, eLL]
    have hsl : ((relsC (cntE E)).map gatS).length = n := by rw [List.length_map]; unfold relsC; rw [List.length_map]; exact HN.out.1.symm
    obtain ⟨S, eS⟩ : ∃ S, (relsC (cntE E)).map gatS = S := ⟨_, rfl⟩
    rw [eS] at hS hsl hout ⊢
    have HS := Lib.hid (And.intro hS hsl)
    have HL := Lib.hid (And.intro hfew hlen)
    have HE := Lib.hid (And.intro hex.out (And.intro hmk.out hxW))
    have HO := Lib.hid hout
    have hba := baseArity_any (HV.out W hxW) s
    rw [hf] at hba
    have hba' : Calls Tryz.prog 26 #[.pointer (some ⟨bb, 0, none⟩), .string s] W (Ret (.tuple #[.int .i64 (ar : Nat), .bool true]) W) := by rw [← ear]; exact hba
    have HEach := Lib.hid (show ∀ W', Ext w W' → Calls Tryz.prog 27 #[.pointer (some ⟨bb, 0, none⟩), .string s] W' (RetN W' fun w' v => EachRows W'.heap.size w' v LL) from fun W' hW => by
      have := baseEach_any (HV.out W' hW) s
      rw [hf] at this
      rw [← eLL]; exact this)
    have HSize := Lib.hid (show ∀ W', Ext w W' → Calls Tryz.prog 28 #[.pointer (some ⟨bb, 0, none⟩), .string s] W' (RetN W' fun w' v => v = .int .i64 (LL.length : Nat)) from fun W' hW => by
      have := baseSize_any (HV.out W' hW) s
      rw [hf] at this
      rw [← eLL]; exact this)
    clear hS hsl hfew hlen hout hok hf hmem hs hcx hex hmk hxW ear eLL eS hba f
    have HCW := Lib.hid hcW
    go_wp2_with fail
    refine hba'.mono ?_
    rintro e W2 ⟨rfl, rfl⟩
    clear hba' hcW
    have hmk := run_make_row' (P := Tryz.prog) 80 81 (.map none) 8 Tryz.underlying80 (by kernel_rfl) rfl .i64 .i64 ar (by omega) (by omega)
    have har64 := har
    go_wp2_with fail
    clear hmk
    obtain ⟨gm, egm⟩ : ∃ gm, W.heap.size = gm := ⟨_, rfl⟩
    obtain ⟨W3, eW3⟩ : ∃ W3, (W.alloc (.cells (madeCells #[.map none] ar) 81)).alloc (.cells #[.slice (some ⟨W.heap.size, 0, none⟩) ar ar] 80) = W3 := ⟨_, rfl⟩
    have hBm : Blk W3 gm (List.replicate ar (.map none)) 81 := by rw [← eW3, ← egm]; exact (blk_madeG W _ _ _).alloc _
    have hBb : Blk W3 (gm + 1) [.slice (some ⟨gm, 0, none⟩) ar ar] 80 := by
      rw [← eW3, ← egm]
      have := Blk.new (W.alloc (.cells (madeCells #[.map none] ar) 81)) [.slice (some ⟨W.heap.size, 0, none⟩) ar ar] 80
      rw [alloc_size] at this
      exact this
    have hx3 : Ext W W3 := by rw [← eW3]; exact ((Kp.refl W).alloc _).alloc _
    rw [eW3, egm]
    obtain ⟨gb, egb⟩ : ∃ gb, gm + 1 = gb := ⟨_, rfl⟩
    rw [egb] at hBb ⊢
    have HGM := Lib.hid (And.intro egm egb)
    have H3 := Lib.hid (And.intro hBm (And.intro hBb hx3))
    have hmm := @run_makeMap Tryz.prog
    clear eW3 egm egb hBm hBb hx3
    go_loopw [36] (MapsTo W gm gb ar) (fun kv _ => ar - (intOf kv).toNat)
    case atStart => exact ⟨0, Nat.zero_le _, rfl, Lib.hid H3.out.2.2, Lib.hid H3.out.2.1, Lib.hid ⟨[], rfl, List.nodup_nil, fun r hr => by simp at hr, by simpa using H3.out.1⟩⟩
    case round =>
      obtain ⟨c, hc, rfl, hexc, hbb, hrs⟩ := hrel
      generalize hw5 : wr = W4 at *; clear hw5
      have c1 : W4.cell? ⟨gb, 0, none⟩ = some (.slice (some ⟨gm, 0, none⟩) ar ar) := by rw [hbb.out.cell']; rfl
      by_cases hltc : c < ar
      · obtain ⟨rs, hrl, hrn, hrm, hbm⟩ := hrs.out
        have hbm5 := hbm.alloc (.map #[] 0)
        have c2 : (W4.alloc (.map #[] 0)).cell? ⟨gm, c, none⟩ = some (.map none) := by
          rw [hbm5.cell', List.getElem?_append_right (by simp [hrl]), List.length_map, hrl, Nat.sub_self, List.getElem?_replicate, if_pos (by omega)]
        have z2 := hbm5.free c
        have HM := Lib.hid (And.intro hrl (And.intro hrn (And.intro hrm hbm)))
        clear hrs hrl hrn hrm hbm hbm5
        have HFin := Lib.hid (show MapsTo W gm gb ar (.int .i64 ((c : Int) + 1)) ((W4.alloc (.map #[] 0)).setCell ⟨gm, c, none⟩ (.map (some W4.heap.size))) from by
          obtain ⟨hrl, hrn, hrm, hbm⟩ := HM.out
          have e1 := HGM.out.1
          have e2 := HGM.out.2
          have hk : Kp (fun k => k = gm) W4 ((W4.alloc (.map #[] 0)).setCell ⟨gm, c, none⟩ (.map (some W4.heap.size))) := Kp.setCell (F := fun k => k = gm) ((Kp.refl W4).alloc _) (fun _ => rfl) _
          have hne : ∀ r ∈ rs, r ≠ gm := fun r hr e => by subst e; exact blk_map hbm (hrm r hr).2
          have hgml := hbm.lt
          refine ⟨c + 1, by omega, by first | rfl | (congr 1; done) | (congr 1; omega), Lib.hid (hexc.out.trans' hk fun k hk e => by omega), Lib.hid (hbb.out.kp hk (by omega)), Lib.hid ⟨rs ++ [W4.heap.size], by simp [hrl], ?_, fun r hr => ?_, ?_⟩⟩
          · refine List.nodup_append.2 ⟨hrn, by simp, fun x hx y hy e => ?_⟩
            simp at hy
            subst e
            have := (hrm x hx).2.lt
            omega
          · rcases List.mem_append.1 hr with hr | hr
            · exact ⟨(hrm r hr).1, (hrm r hr).2.kp hk (hne r hr)⟩
            · simp at hr
              subst hr
              exact ⟨hexc.out.size, (MapIs.new W4).kp (Kp.setCell (F := fun k => k = gm) (Kp.refl _) (fun _ => rfl) _) (by omega)⟩
          · have h5 := (hbm.alloc (.map #[] 0)).set c (.map (some W4.heap.size))
            have e5 : (rs.map (fun r => Value.map (some r)) ++ List.replicate (ar - c) (Value.map none)).set c (.map (some W4.heap.size)) = (rs ++ [W4.heap.size]).map (fun r => Value.map (some r)) ++ List.replicate (ar - (c + 1)) (.map none) := by
              rw [List.set_append_right _ _ (by simp [hrl]), List.length_map, hrl, Nat.sub_self, show ar - c = (ar - (c + 1)) + 1 from by omega, List.replicate_succ, List.set_cons_zero, List.map_append, List.append_assoc]
              rfl
            rw [e5] at h5
            exact h5)
        go_wp2
        go_roundw
        case rel => exact HFin.out
        case measure => simp [intOf]; omega
      · have ec : ar = c := by omega
        subst ec
        obtain ⟨rs, hrl, hrn, hrm, hbm⟩ := hrs.out
        rw [Nat.sub_self, List.replicate_zero, List.append_nil] at hbm
        have hxw4 := HE.out.2.2.trans hexc.out
        have HM := Lib.hid (And.intro hrl (And.intro hrn (And.intro hrm (And.intro hbm hbb.out))))
        have HX4 := Lib.hid (And.intro hxw4 (And.intro hexc.out (HE.out.1.trans hexc.out)))
        clear hrs hrl hrn hrm hbm hxw4 hexc hbb c1
        go_wp2_with fail
        refine (HEach.out W4 HX4.out.1).mono ?_
        rintro e W5 ⟨ve, rfl, hk5, Bs, ivx, rfl, hBs, hBB, hownx, hln⟩
        obtain ⟨ln, eln⟩ : ∃ ln, LL.length = ln := ⟨_, rfl⟩
        obtain ⟨aox, capx, ev, _⟩ := hownx.shape
        rw [eln] at ev
        subst ev
        obtain ⟨ps2, hL2, x2, x3, x4⟩ := hownx
        have hp2 : ps2.length = ln := by rw [← eln, hL2]; simp
        rw [hp2] at x2
        have hBsw := hBB.lt
        obtain ⟨SB, eSB⟩ : ∃ SB : Nat → Prop, SB = fun g => g = Bs ∨ (Value.slice aox ln capx).ownBlock = some g := ⟨_, rfl⟩
        have hSlt : ∀ g, SB g → g < W5.heap.size := fun g hg => by
          rw [eSB] at hg
          rcases hg with rfl | hg
          · exact hBsw
          · exact x2.lt g hg
        have hmaps : ∀ r ∈ rs, r < W5.heap.size ∧ MapIs W5 r [] := fun r hr => ⟨Nat.lt_of_lt_of_le ((HM.out.2.2.1 r hr).2.lt) hk5.size, (HM.out.2.2.1 r hr).2.ext hk5⟩
        have hSrs : ∀ g, SB g → g ∉ rs := fun g hg hr => by
          rw [eSB] at hg
          rcases hg with rfl | hg
          · exact blk_map hBB (hmaps _ hr).2
          · obtain ⟨cs, hb⟩ := x2.blkOf hg
            exact blk_map hb (hmaps _ hr).2
        have hseq : ∀ Wb, SameOn SB W5 Wb → SeqStopsK Fence.wide 3 Tryz.prog 135 #[.pointer (some ⟨Bs, 0, none⟩)] (fun x : { p : RowP // p ∈ ps2 } => #[.slice x.1.1.1 x.1.1.2.1 x.1.1.2.2]) (SameOn SB) (fun ys => ys = ps2.attach) (fun pre => pre <+: ps2.attach) ps2.attach.length Wb := fun Wb hWb => by
          have hSBs : SB Bs := by rw [eSB]; exact .inl rfl
          have hSBa : ∀ a, aox = some a → SB a.block := fun a e => by rw [eSB]; subst e; exact .inr rfl
          have hc0 : W5.cell? ⟨Bs, 0, none⟩ = some (.slice aox ln capx) := by rw [hBB.cell']; rfl
          have hc1 := (hWb.cell (o := 0) hSBs).trans hc0
          have hcs : CellsAt W5 aox (ps2.attach.map fun x => rowOf x.1) := by
            obtain ⟨ao, cap, e, hc, _⟩ := x2.shape
            simp only [Value.slice.injEq] at e
            obtain ⟨rfl, _, _⟩ := e
            have e : (ps2.attach.map fun x : { p : RowP // p ∈ ps2 } => rowOf x.1) = rowVs ps2 := by
              have h : (ps2.attach.map fun x : { p : RowP // p ∈ ps2 } => rowOf x.1) = (ps2.attach.map Subtype.val).map rowOf := by rw [List.map_map]; rfl
              rw [h, List.attach_map_subtype_val]; rfl
            rw [e]; exact hc
          have hcs1 := hcs.sameOn hWb hSBa
          have hln' : ln ≤ 1048576 * 1048576 := by rw [← eln]; exact hln
          exact fun l J Jx W hW _ _ hY h0 => values1VRow_in (fun x : { p : RowP // p ∈ ps2 } => .slice x.1.1.1 x.1.1.2.1 x.1.1.2.2) Fence.wide 3 trivial rfl (by omega) SB l Bs aox ln capx ps2.attach (by rw [List.length_attach]; exact hp2.symm) hln' J Jx hY W hSBs hSBa ((Kp.of_below hW).cell hc1 id) (hcs1.ext (Kp.of_below hW)) h0
        have HQ := Lib.hid hseq
        have HX := Lib.hid (And.intro x3 (And.intro hSlt (And.intro hSrs (And.intro hmaps (And.intro hL2 (And.intro hp2 eln))))))
        have H5 := Lib.hid hk5
        clear hseq x2 x3 x4 hSlt hSrs hmaps hL2 hp2 eSB hBB hk5 hln hBsw hBs eln
        go_wp2_with fail
        refine' wpIn_wide.1 (wpIn_rangeFunc_ownG (F := Fence.wide) (n := 4) (w0 := W5) rfl (by omega) (gf := 135) (lb := #[.pointer (some ⟨Bs, 0, none⟩)]) rfl trivial (enters_of Tryz.func135 (by kernel_rfl) rfl)
          (HQ.out W5 (SameOn.refl _ _)) SameOn.trans (SameOn.put HX.out.2.1) (Below.refl _ _) (fun _ => rfl) (GotG W5 rs ps2) (fun _ _ _ => False) (GotG.own (Nat.le_refl _) (fun r hr => (HX.out.2.2.2.1 r hr).1)) (fun _ _ _ _ _ h _ _ => h)
          ⟨Nat.zero_le _, Kp.refl _, fun c r hr => (HX.out.2.2.2.1 r (List.mem_of_getElem? hr)).2⟩ _ ?assign ?body ?done ?stop)
        case assign =>
          intro l x W K hK
          gi_wp2
          exact hK
        case stop =>
          rintro D c pre W _ _ h _
          exact h.elim
        case body =>
          rintro l pre ⟨⟨⟨ax, mx, cx⟩, sp⟩, hp⟩ X hgot hlen
          rw [List.length_attach] at hlen
          have hrow0 := (HX.out.1 _ hp).1
          have hmx : mx = sp.length := (Row.readsAs hrow0).1.1
          have hspl : sp.length = ar := HL.out.2 sp (by rw [HX.out.2.2.2.2.1]; exact List.mem_map.2 ⟨_, hp, rfl⟩)
          subst hmx
          have hbX := (HM.out.2.2.2.2.ext H5.out).kp hgot.2.1 fun hr => blk_map (HM.out.2.2.2.2.ext H5.out) (HX.out.2.2.2.1 _ hr).2
          have hmX := (HM.out.2.2.2.1.ext H5.out).kp hgot.2.1 fun hr => blk_map (HM.out.2.2.2.1.ext H5.out) (HX.out.2.2.2.1 _ hr).2
          have hrX := Row.kp' hrow0 hgot.2.1 fun g hg _ hr => by
            obtain ⟨cs, hb⟩ := hrow0.blkOf hg
            exact blk_map hb (HX.out.2.2.2.1 g hr).2
          have hax : ∀ a, ax = some a → a.block ∉ rs := fun a e hr => by
            subst e
            obtain ⟨cs, hb⟩ := hrow0.blkOf (show (rowOf ((some a, sp.length, cx), sp)).ownBlock = some a.block from rfl)
            exact blk_map hb (HX.out.2.2.2.1 _ hr).2
          have HB := Lib.hid (And.intro hbX (And.intro hmX (And.intro (Row.readsAs hrX).1.2 (And.intro hgot (And.intro hlen hax)))))
          have HCols := Lib.hid (hgot.cols sp sp.length)
          have HSP := Lib.hid hspl
          have hsp64 : sp.length ≤ 64 := by omega
          clear hrow0 hspl hbX hmX hrX hgot hlen hax
          gi_wp2
          gi_loopw [50] (ColsG X rs (rowsOfP pre) sp sp.length) (fun kv _ => sp.length - (intOf kv).toNat)
          case atStart => exact HCols.out
          case round =>
            obtain ⟨c, hc, rfl, hkX, hmc⟩ := hrel
            generalize hw7 : wr = W7 at *; clear hw7
            by_cases hltc : c < sp.length
            · obtain ⟨r, hr⟩ : ∃ r, rs[c]? = some r := ⟨_, List.getElem?_eq_getElem (by rw [HM.out.1, ← HSP.out]; exact hltc)⟩
              obtain ⟨t, ht⟩ : ∃ t, sp[c]? = some t := ⟨_, List.getElem?_eq_getElem hltc⟩
              have hm1 := hmc.out c r hr
              rw [if_neg (Nat.lt_irrefl _)] at hm1
              obtain ⟨w2, hrun, hM2, hk2⟩ := run_update_str (P := Tryz.prog) Tryz.underlying81 Tryz.underlying9 hm1 t (.bool true)
              have hst := cols_step HM.out.2.1 hr ht hkX.out hmc.out hM2 hk2
              have hnr : ∀ g cs e, Blk X g cs e → g ∉ rs := fun g cs e hb hg => by
                have h1 := (HX.out.2.2.2.1 g hg).1
                obtain ⟨c', hc'⟩ := List.getElem?_of_mem hg
                exact blk_map hb (HB.out.2.2.2.1.2.2 c' g hc')
              obtain ⟨ag, ao2, eax, hct⟩ := HB.out.2.2.1 c (.string t) (by simp [strs, ht])
              subst eax
              have d1 : W7.cell? ⟨gb, 0, none⟩ = some (.slice (some ⟨gm, 0, none⟩) ar ar) := by rw [(HB.out.1.kp hkX.out (hnr _ _ _ HB.out.1)).cell']; rfl
              have d2 : W7.cell? ⟨gm, c, none⟩ = some (.map (some r)) := by
                rw [(HB.out.2.1.kp hkX.out (hnr _ _ _ HB.out.2.1)).cell', List.getElem?_map, hr]; rfl
              have d3 : W7.cell? ⟨ag, ao2 + c, none⟩ = some (.string t) := hkX.out.cell hct fun hg => HB.out.2.2.2.2.2 _ rfl hg
              have HStep := Lib.hid hst
              have i1 : (c : Int) < (ar : Int) := by have := HSP.out; omega
              have i2 : (c : Int) < (sp.length : Int) := by omega
              clear hst hM2 hk2 hmc hkX hm1 ht hct
              gi_wp2
              go_roundw
              case rel => exact ⟨c + 1, by omega, by first | rfl | (congr 1; done) | (congr 1; omega), Lib.hid HStep.out.1, Lib.hid HStep.out.2⟩
              case measure => first | (simp [intOf]; done) | (simp [intOf]; omega)
            · have ec : sp.length = c := by omega
              have hml := HM.out.1
              have hspl := HSP.out
              have hSR := HX.out.2.2.1
              have hfin := hmc.out
              have hfin' : ∀ (c' r : Nat), rs[c']? = some r → MapIs W7 r (setM (nubTo (colN (rowsOfP pre ++ [sp]) c') (if c' < rs.length then (rowsOfP pre).length + 1 else (rowsOfP pre).length))) := fun c' r hr => by
                have h8 := hfin c' r hr
                rw [← ec, hspl, ← hml] at h8
                exact h8
              have HNx := Lib.hid (show KeepsFrom W5.heap.size X W7 ∧ SameOn SB X W7 ∧ GotG W5 rs ps2 (pre ++ [⟨((ax, sp.length, cx), sp), hp⟩]) W7 from by
                have hzX := HB.out.2.2.2.1.2.1.size
                exact ⟨KeepsFrom.of_kp hkX.out fun k hk => (HX.out.2.2.2.1 k hk).1, SameOn.of_kp hkX.out (fun k hk => by have := HX.out.2.1 k hk; omega) (fun k hk hf => hSR k hk hf), HB.out.2.2.2.1.next ⟨((ax, sp.length, cx), sp), hp⟩ HB.out.2.2.2.2.1 hkX.out hfin'⟩)
              clear hfin hfin' hml hSR hspl hmc hkX
              gi_wp2
              exact HNx.out
        case done =>
          rintro D1 ys X2 hD hys hgot hd
          have hys' := hys.symm; subst hys'; clear hys
          have hro : rowsOfP ps2.attach = LL := by
            unfold rowsOfP
            have h1 : ps2.attach.map (fun x => x.1.2) = (ps2.attach.map Subtype.val).map Prod.snd := by rw [List.map_map]; rfl
            rw [h1, List.attach_map_subtype_val, HX.out.2.2.2.2.1]
          obtain ⟨-, kg, hmaps⟩ := hgot
          rw [hro, List.length_attach, HX.out.2.2.2.2.2.1] at hmaps
          have hnr : ∀ g cs e, Blk W5 g cs e → g ∉ rs := fun g cs e hb hg => blk_map hb (HX.out.2.2.2.1 g hg).2
          have hbX := (HM.out.2.2.2.2.ext H5.out).kp kg (hnr _ _ _ (HM.out.2.2.2.2.ext H5.out))
          have hmX := (HM.out.2.2.2.1.ext H5.out).kp kg (hnr _ _ _ (HM.out.2.2.2.1.ext H5.out))
          have hxX : Ext W X2 := (HX4.out.2.1.trans H5.out).trans' kg fun k hk hr => by have := (HM.out.2.2.1 k hr).1; omega
          have hmk2 : Marks w1.heap.size X2 ({ target := .collected D1, args := #[] } :: ds) := by
            refine Marks.push HE.out.2.1 (fun j o h _ => (hxX.block j (lt_of_block h) id).trans h) ?_ ?_ hd
            · have := (HX4.out.2.1.trans H5.out).size; omega
            · have := (HX4.out.2.2.trans H5.out).size; omega
          have HD := Lib.hid (And.intro hxX (And.intro hmk2 (And.intro hbX (And.intro hmX hmaps))))
          clear hnr hbX hmX hxX hmk2 hmaps kg hd hD hro
          go_wp2_with fail
          refine (HSize.out X2 (HE.out.2.2.trans HD.out.1)).mono ?_
          rintro e X3 ⟨v3, rfl, hk3, rfl⟩
          obtain ⟨m, em⟩ : ∃ m, LL.length = m := ⟨_, rfl⟩
          rw [em]
          have hm16 : m ≤ 65536 := by rw [← em]; exact HL.out.1
          have HX3 := Lib.hid (And.intro hk3 em)
          clear hk3 em
          have c1 : ∀ o, (X3.alloc o).cell? ⟨gb, 0, none⟩ = some (.slice (some ⟨gm, 0, none⟩) ar ar) := fun o => by rw [((HD.out.2.2.1.ext HX3.out.1).alloc o).cell']; rfl
          go_wp2
          obtain ⟨gx, eg⟩ : ∃ g, X3.heap.size = g := ⟨_, rfl⟩
          obtain ⟨r, er⟩ : ∃ r, floatOfInt .f64 (m : Int) = r := ⟨_, rfl⟩
          rw [eg, er]
          obtain ⟨X4, ew2⟩ : ∃ x, X3.alloc (.cells #[.string s, .float .f64 r, .slice none 0 0] 48) = x := ⟨_, rfl⟩
          rw [ew2]
          have HGX := Lib.hid (show Blk X4 gx [.string s, .float .f64 r, .slice none 0 0] 48 by rw [← ew2, ← eg]; exact Blk.new X3 _ _)
          have X2e := Lib.hid (show Ext X3 X4 by rw [← ew2]; exact (Kp.refl X3).alloc _)
          have EGX := Lib.hid (And.intro (show X3.heap.size ≤ gx by rw [eg]; exact Nat.le_refl _) er)
          clear ew2 eg er c1
          go_loopw [69] (fun kv wk => DistG (colsN LL ar) s r gx X3 ar kv wk) (fun kv _ => ar - (intOf kv).toNat)
          case atStart => exact ⟨0, Nat.zero_le _, rfl, ⟨_, HGX.out, Row.nil _ _ _ _⟩, X2e.out⟩
          case round =>
            obtain ⟨c, hc, rfl, hin2, hex2⟩ := hrel
            obtain ⟨dv, hB, hr⟩ := hin2.out
            obtain ⟨ba, bc, edv, _, _⟩ := hr.shape
            subst edv
            generalize hw7 : wr = W7 at *; clear hw7
            have HBj := Lib.hid hB
            have HRj := Lib.hid hr
            clear hin2 hB hr
            by_cases hltc : c < ar
            · obtain ⟨q, hq⟩ : ∃ q, rs[c]? = some q := ⟨_, List.getElem?_eq_getElem (by rw [HM.out.1]; exact hltc)⟩
              have hmq := ((HD.out.2.2.2.2 c q hq).ext (HX3.out.1.trans hex2.out))
              have hlq := run_len_map (P := Tryz.prog) Tryz.underlying81 hmq 3
              rw [setM_len] at hlq
              have hdist : (nubTo (colN LL c) ln).length = distN LL c := by unfold distN; rw [HX.out.2.2.2.2.2.2]
              obtain ⟨nn, enn⟩ : ∃ nn, (nubTo (colN LL c) ln).length = nn := ⟨_, rfl⟩
              rw [enn] at hlq hdist
              have HY := Lib.hid (show floatOfInt .f64 (nn : Int) = fltN (distN LL c) by rw [hdist])
              have d2 : W7.cell? ⟨gm, c, none⟩ = some (.map (some q)) := by
                rw [(HD.out.2.2.2.1.ext (HX3.out.1.trans hex2.out)).cell', List.getElem?_map, hq]; rfl
              have g2 : W7.cell? ⟨gx, 2, none⟩ = some (.slice ba c bc) := by rw [HBj.out.cell']; rfl
              have i1 : (c : Int) < (ar : Int) := by omega
              clear hmq hq hdist enn
              have HRk := HRj
              go_wp2_with (first | (at_builtin; refine Halted.out ?_))
              refine Halted.mk (wp_appN (m := 1) (n := c) elem_flt rfl _ _ rfl (hex2.out.alloc _) rfl (HRk.out.alloc _) rfl (CellsAt.one W7 (.float .f64 (floatOfInt .f64 (nn : Int))) 45) (by rfl) (by simp [Value.oneCell']) (by omega) (by unfold maxLen; omega) ?_)
              intro v1 w8 hr1 hk1 hk2 _
              obtain ⟨b6, c6, ev6, _, _⟩ := hr1.shape
              subst ev6
              have hB6 : Blk w8 gx [.string s, .float .f64 r, .slice ba c bc] 48 := (HBj.out.alloc _).kp hk2 (fun e => (by obtain ⟨cs, hb⟩ := HRk.out.blkOf e; exact typ_fg (blk_ne hb HBj.out)))
              have x6 : w8.cell? ⟨gx, 2, none⟩ = some (.slice ba c bc) := by rw [hB6.cell']; rfl
              have x6f := hB6.free 2
              have HA := Lib.hid (And.intro hr1 (And.intro hk1 hB6))
              clear hr1 hk1 hk2 hB6 g2 d2 hlq
              go_wp2
              obtain ⟨hr1, hk1, hB6⟩ := HA.out
              obtain ⟨w9, ew9⟩ : ∃ w9, w8.setCell ⟨gx, 2, none⟩ (.slice b6 (c + 1) c6) = w9 := ⟨_, rfl⟩
              have hk67 : Kp (fun k => k = gx) w8 w9 := by rw [← ew9]; exact Kp.setCell (F := fun k => k = gx) (Kp.refl w8) (fun _ => rfl) _
              have hB9 : Blk w9 gx [.string s, .float .f64 r, .slice b6 (c + 1) c6] 48 := by rw [← ew9]; exact hB6.set 2 _
              have hx9 : Ext X3 w9 := by rw [← ew9]; exact Kp.setCell (F := fun _ => False) hk1 (fun h => by have := EGX.out.1; simp only at h; omega) _
              have hr9 := hr1.kp' hk67 fun g hg _ e => by
                obtain ⟨cs, hb⟩ := hr1.blkOf hg
                subst e
                exact typ_fg (blk_ne hb hB6)
              have e9 : flts ((colsN LL ar).take (c + 1)) = flts ((colsN LL ar).take c) ++ [.float .f64 (floatOfInt .f64 (nn : Int))] := by rw [takeSnoc (colsN_get LL hltc), HY.out]; simp [flts]
              rw [← e9] at hr9
              clear e9
              have HFin := Lib.hid (show ∃ dv, Blk w9 gx [.string s, .float .f64 r, dv] 48 ∧ Row w9 45 1 dv (c + 1) (flts ((colsN LL ar).take (c + 1))) (New X3) from ⟨_, hB9, hr9⟩)
              have HX9 := Lib.hid hx9
              rw [ew9]
              clear hr1 hk1 hB6 hk67 hB9 hx9 hr9 x6 x6f HA ew9
              go_roundw
              case rel => exact ⟨c + 1, by omega, by first | rfl | (congr 1; done) | (congr 1; omega), HFin.out, HX9.out⟩
              case measure => simp [intOf]; omega
            · have ec : ar = c := by omega
              subst ec
              have hall : (colsN LL ar).take ar = colsN LL ar := List.take_of_length_le (by rw [colsN_len]; exact Nat.le_refl _)
              rw [hall] at HRj
              obtain ⟨vs, hvs, hrow, hds, hfar⟩ := HO.out
              obtain ⟨oa, oc, eov, _, _⟩ := hrow.shape
              subst eov
              have l0 : W7.cell? ⟨gx, 0, none⟩ = some (.string s) := by rw [HBj.out.cell']; rfl
              have l1 : W7.cell? ⟨gx, 1, none⟩ = some (.float .f64 r) := by rw [HBj.out.cell']; rfl
              have l2 : W7.cell? ⟨gx, 2, none⟩ = some (.slice ba ar bc) := by rw [HBj.out.cell']; rfl
              have hXW := (HD.out.1.trans HX3.out.1).trans hex2.out
              have HRo := Lib.hid (hrow.ext hXW)
              have HFar := Lib.hid (And.intro hfar (dist_lt (by rw [List.length_take, hvs]; have := HS.out.2; omega) hds))
              have HDs := Lib.hid (And.intro hvs (fun x hx => (hds x hx).ext hXW))
              have hXw := HE.out.1.trans hXW
              have HMk := Lib.hid (HD.out.2.1.kp ((HX3.out.1).trans hex2.out) fun _ h => h.elim)
              clear hvs hrow hds hall hXW hfar
              have hn8 := HN.out.2
              go_wp2_with (first | (at_builtin; refine Halted.out ?_))
              refine Halted.mk (wp_appN (m := 1) (n := i) elem_statG rfl _ _ rfl (hXw.alloc _) rfl (HRo.out.alloc _) rfl (CellsAt.new W7 [.string s, .float .f64 r, .slice ba ar bc] 48) (by rfl) (by simp [Value.oneCell']) (by omega) (by unfold maxLen; omega) ?_)
              intro v1 w6 hr1 hk1 hk2 _
              have HFin := Lib.hid (show OutAt S w1 (i + 1) v1 w6 from by
                have hgi := HS.out.1
                have hlen : (S.take i).length = vs.length := by rw [List.length_take, HDs.out.1]; have := HS.out.2; omega
                have et := takeSnoc hgi
                have hcl : (colsN LL ar).length = ar := colsN_len _ _
                have hkd : ∀ x, DistAt w1 (W7.alloc (.cells #[.string s, .float .f64 r, .slice ba ar bc] 48)) x → DistAt w1 w6 x := fun x hx => Row.kp' hx hk2 fun g hg _ e => by
                  obtain ⟨cs, hb⟩ := (HRo.out.alloc _).blkOf e
                  obtain ⟨cs', hb'⟩ := Row.blkOf hx hg
                  exact typ_fg (blk_ne hb' hb)
                refine ⟨vs ++ [(ba, bc)], by rw [List.length_append, HDs.out.1]; rfl, ?_, ?_, ?_⟩
                · rw [et, List.zip_append hlen, List.flatMap_append]
                  have e2 : (([gatS (s, (ar : Int), LL, ())].zip [(ba, bc)]).flatMap statC) = [.string s, .float .f64 r, .slice ba ar bc] := by
                    show statC (gatS (s, (ar : Int), LL, ()), (ba, bc)) ++ [] = _
                    rw [List.append_nil]
                    show [Value.string s, .float .f64 (floatOfInt .f64 (LL.length : Nat)), .slice ba (colsN LL ar).length bc] = _
                    rw [hcl, HX3.out.2, EGX.out.2]
                  rw [e2]; exact hr1
                · intro x hx
                  rw [et, List.zip_append hlen, List.mem_append] at hx
                  rcases hx with hx | hx
                  · exact hkd _ (Row.alloc (HDs.out.2 x hx) _)
                  · simp at hx; subst hx
                    refine hkd _ (Row.alloc (show Row W7 45 1 (.slice ba (colsN LL ar).length bc) (colsN LL ar).length (flts (colsN LL ar)) (New w1) from ?_) _)
                    have h := HRj.out.mono (M' := New w1) fun g hg => Nat.le_trans (HE.out.1.trans (HD.out.1.trans HX3.out.1)).size hg
                    rw [hcl]; exact h
                · exact HFar.out.1.snoc HFar.out.2 fun b hb => Nat.le_trans (HD.out.1.trans HX3.out.1).size (row_addr HRj.out hb).2)
              have HX6 := Lib.hid (And.intro hk1 (show Marks w1.heap.size w6 ({ target := .collected D1, args := #[] } :: ds) from by
                refine (HMk.out.kp ((Kp.refl (F := fun _ => False) W7).alloc (.cells #[.string s, .float .f64 r, .slice ba ar bc] 48)) fun _ h => h.elim).others ⟨hk2.size, fun k o hk ho => (hk2.block k (lt_of_block hk) fun e => ?_).trans hk⟩
                obtain ⟨cs, hb⟩ := (HRo.out.alloc _).blkOf e
                unfold Blk at hb
                rw [hb] at hk; cases hk; cases ho))
              clear hr1 hk1 hk2 l0 l1 l2 hXw
              go_wp2
              refine ⟨⟨i + 1, rfl, by omega, rfl, rfl, rfl, by first | rfl | (congr 1; done) | (congr 1; omega), HFin, Lib.hid HX6.out.1, Lib.hid HX6.out.2⟩, ?_⟩
              show n - (intOf (.int .i64 _)).toNat < n - (intOf (.int .i64 _)).toNat
              simp [intOf]; omega
  · have ei : n = i := by omega
    subst ei
    go_wp2
    exact ⟨rfl, rfl, Nat.le_refl _, rfl, rfl, rfl, rfl, hout, hex, hmk⟩
end
end Go.Proofs.YtomeebimmmfmbaaGreat

/- cost.Gather. -/
namespace Go.Proofs.YtomeebimmmfmbaaGreat
open Go.RowKit Go.Shelf
set_option linter.unusedVariables false
attribute [local go_sem] Oper.semAt_some run_store_float
def GathV (S : List StatZ) (w : World) (v : Value) (W : World) : Prop := ∃ vs, vs.length = S.length ∧ Row W 48 3 v S.length ((S.zip vs).flatMap statC) (New w) ∧ (∀ x ∈ S.zip vs, DistAt w W x) ∧ Far vs
theorem GathV.of_out {S : List StatZ} {w w1 W : World} {n : Nat} {v : Value} (h : OutAt S w1 n v W) (hn : n = S.length) (hx : Ext w w1) : GathV S w v W := by
  obtain ⟨vs, h1, h2, h3, h4⟩ := h
  subst hn
  rw [List.take_of_length_le (Nat.le_refl _)] at h2 h3
  exact ⟨vs, h1, Row.mono h2.own fun g hg => Nat.le_trans hx.size (h2.block g hg), fun x hx' => Row.mono (h3 x hx').own fun g hg => Nat.le_trans hx.size ((h3 x hx').block g hg), h4⟩
theorem GathV.kp {S : List StatZ} {w W W' : World} {F : Nat → Prop} {v : Value} (h : GathV S w v W) (hk : Kp F W W') (hF : ∀ g cs e, Blk W g cs e → ¬ F g) : GathV S w v W' := by
  obtain ⟨vs, h1, h2, h3, h4⟩ := h
  refine ⟨vs, h1, h2.kp' hk fun g hg _ f => ?_, fun x hx => Row.kp' (h3 x hx) hk fun g hg _ f => ?_, h4⟩
  · obtain ⟨cs, hb⟩ := h2.blkOf hg; exact hF _ _ _ hb f
  · obtain ⟨cs, hb⟩ := Row.blkOf (h3 x hx) hg; exact hF _ _ _ hb f
theorem gath_ret {S : List StatZ} {w W w1 : World} {n : Nat} {tmps : Array Value} {ds : List Deferred} {v : Value} (hm : Marks w1.heap.size W ds) (h1 : Ext w w1) (hx : Ext w1 W) (ho : OutAt S w1 n v W) (hn : n = S.length) (ht : tmps.getD 2 undef = v) (ht3 : tmps.getD 3 undef = .int .i64 0) :
    bodyPostM Fence.wide 4 Tryz.prog Tryz.f8 (RetN w fun w' u => ∃ v, u = .tuple #[v, .int .i64 0] ∧ GathV S w v w') .ret { tmps := tmps, defers := ds } W := by
  refine leaves_marks hm fun w' e1 e2 e3 e4 e5 e6 => ?_
  have hx' := h1.trans hx
  have hz := h1.size
  have hk : Kp (fun k => ∃ o : Obj, W.heap[k]? = some o ∧ o.isCells = false) W w' := ⟨e1, e2, e3, by rw [e4]; exact Nat.le_refl _, fun k hk' hf => by
    obtain ⟨o, ho⟩ : ∃ o, W.heap[k]? = some o := ⟨_, Array.getElem?_eq_getElem hk'⟩
    rw [ho]
    cases hc : o.isCells with
    | true => exact e6 k o ho hc
    | false => exact absurd ⟨o, ho, hc⟩ hf⟩
  have hg := (GathV.of_out ho hn h1).kp hk fun g cs e hb ⟨o, h2, h3⟩ => by
    unfold Blk at hb
    rw [hb] at h2; cases h2; cases h3
  refine ⟨.tuple #[v, .int .i64 0], ?_, RetN.mk ⟨e1.trans hx'.os, e2.trans hx'.tape, e3.trans hx'.output, by rw [e4]; exact hx'.size, fun k hk _ => (e5 k (by omega)).trans (hx'.block k hk id)⟩ ⟨v, rfl, hg⟩⟩
  have ht' : tmps[2]?.getD undef = v := by simpa using ht
  have ht3' : tmps[3]?.getD undef = .int .i64 0 := by simpa using ht3
  simp [results, Tryz.f8, go_sem, ht', ht3']
section
variable {S0 : Nat → Prop} {w : World} {bb r0 : Nat} {E : List Ent}
set_option maxRecDepth 100000 in
set_option maxHeartbeats 8000000 in
theorem gather_any (h : BaseAt S0 w bb r0 E) (hl : E.length ≤ 1048576) :
    Calls Tryz.prog 8 #[.pointer (some ⟨bb, 0, none⟩)] w (RetN w fun w' u => ∃ v, u = .tuple #[v, .int .i64 0] ∧ GathV ((relsC (cntE E)).map gatS) w v w') := by
  refine callsIn_wide.1 (callsIn_of_wp_marks (n := 4) Tryz.func8 rfl trivial ?_ rfl)
  refine wpIn_wide.2 ?_
  obtain ⟨Q, eQ⟩ : ∃ Q, Q = bodyPostM Fence.wide 4 Tryz.prog Tryz.f8 (RetN w fun w' u => ∃ v, u = .tuple #[v, .int .i64 0] ∧ GathV ((relsC (cntE E)).map gatS) w v w') := ⟨_, rfl⟩
  rw [← eQ]
  have EQ := Lib.hid eQ; clear eQ
  have HNames := Lib.hid (names_any h hl)
  have hnl : E.length = (namesC (cntE E)).length := by rw [(names_perm _).length_eq, List.length_map]; unfold cntE; simp
  have H := Lib.hid (And.intro h (And.intro hnl hl))
  have hq1 : ∀ w : World, (binOp .eql 35 (.pointer (some ⟨bb, 0, none⟩)) (.pointer none)).run Tryz.prog w = .ok (.bool false) w := fun _ => by kernel_rfl
  obtain ⟨n, en⟩ : ∃ n, E.length = n := ⟨_, rfl⟩
  rw [en] at HNames H
  clear h hl hnl en
  simp only [Tryz.ntmps8, List.size_toArray, List.length_cons, List.length_nil, Nat.reduceAdd, Nat.reduceSub, Array.replicate_succ, Array.replicate_zero, List.push_toArray, List.append_toArray, List.nil_append, List.cons_append]
  go_wp2_with fail
  refine HNames.out.mono ?_
  rintro e w1 ⟨v1, rfl, hk1, hrn⟩
  obtain ⟨na, ncap, rfl, hnc, _⟩ := hrn.shape
  have HW1 := Lib.hid (And.intro hk1 hnc)
  clear hk1 hrn hnc hq1 HNames
  go_wp2
  refine Code.wp_mono ?_ (wp_loop (Q := gathQ bb ((relsC (cntE E)).map gatS) w1 n na ncap) (GathInv bb ((relsC (cntE E)).map gatS) w1 n na ncap) (gathMu n) ?start (fun a W hI => gath_round H.out.1 H.out.2.1 H.out.2.2 HW1.out.1 HW1.out.2 a W hI))
  case start => exact ⟨0, rfl, Nat.zero_le _, rfl, rfl, rfl, rfl, Lib.hid ⟨[], rfl, Row.nil _ _ _ _, (fun x hx => by simp at hx), List.Pairwise.nil⟩, Lib.hid (Kp.refl _), Lib.hid (Marks.nil _ _)⟩
  rintro e ⟨tm, ds⟩ W hq
  cases e with
  | exit nn =>
    obtain ⟨rfl, hsz, hrel⟩ := hq
    obtain ⟨u, rfl⟩ := lit88 tm hsz
    obtain ⟨hi, e0, e20, e21, e22, hout, hex, hmk⟩ := hrel
    replace e0 : u 0 = _ := e0
    replace hout : Hid (OutAt ((relsC (cntE E)).map gatS) w1 n (u 4) W) := hout
    obtain ⟨ov, eov⟩ : ∃ ov, u 4 = ov := ⟨_, rfl⟩
    rw [eov] at hout ⊢
    clear eov e20 e21 e22 hsz
    have HSl := Lib.hid (show n = ((relsC (cntE E)).map gatS).length from by rw [List.length_map]; unfold relsC; rw [List.length_map]; exact H.out.2.1)
    go_wp2
    rw [EQ.out]
    exact gath_ret hmk.out HW1.out.1 hex.out hout.out HSl.out rfl rfl
  | _ => exact hq.elim
end
end Go.Proofs.YtomeebimmmfmbaaGreat

/- The document's Base in memory: names and Rows beside each other; looking up. -/
namespace Go.Proofs.YtomeebimmmfmbaaGreat
open Go.RowKit
set_option linter.unusedVariables false
structure REnt where
  name : ByteArray
  c : Nat
  ar : Nat
  LL : List (List ByteArray)
def REnt.ptr (g : REnt) : Value := .pointer (some ⟨g.c, 0, none⟩)
def REnt.cnt (g : REnt) : CntZ := (g.name, g.ar, g.LL)
def cntR (G : List REnt) : List CntZ := G.map REnt.cnt
def findR2 (G : List REnt) (s : ByteArray) : Option REnt := G.find? fun g => decide (g.name = s)
def optPtrR : Option REnt → Value
  | some g => g.ptr
  | none => .pointer none
theorem findR2_at {s : ByteArray} : ∀ {G : List REnt} {i : Nat} {g : REnt}, G[i]? = some g → g.name = s → (∀ (j : Nat) (g' : REnt), j < i → G[j]? = some g' → g'.name ≠ s) → findR2 G s = some g
  | [], i, g, h, _, _ => by simp at h
  | a :: G, 0, g, h, hn, _ => by
    simp at h; subst h
    unfold findR2
    rw [List.find?_cons, decide_eq_true hn]
  | a :: G, i + 1, g, h, hn, hb => by
    have ha := hb 0 a (by omega) rfl
    unfold findR2
    rw [List.find?_cons, decide_eq_false ha]
    exact findR2_at (i := i) (by simpa using h) hn fun j g' hj hg => hb (j + 1) g' (by omega) (by simpa using hg)
theorem findR2_no {s : ByteArray} {G : List REnt} (h : ∀ (j : Nat) (g : REnt), j < G.length → G[j]? = some g → g.name ≠ s) : findR2 G s = none := by
  unfold findR2
  rw [List.find?_eq_none]
  intro g hg
  obtain ⟨i, hi, e⟩ := List.getElem_of_mem hg
  simpa using h i g hi (by rw [List.getElem?_eq_getElem hi, e])
def FormG (n : Nat) (ao : Option Addr) (cap : Nat) : Prop := n ≤ cap ∧ cap ≤ maxLen ∧ (ao = none ∧ cap = 0 ∨ ∃ g, ao = some ⟨g, 0, none⟩)
theorem Row.form {w : World} {e : TypeId} {v : Value} {n : Nat} {xs : List Value} {M : Nat → Prop} (h : Row w e 1 v n xs M) : ∃ ao cap, v = .slice ao n cap ∧ CellsAt w ao xs ∧ FormG n ao cap ∧ ∀ a, ao = some a → M a.block ∧ a.block < w.heap.size := by
  obtain ⟨h1, ⟨rfl, rfl⟩ | ⟨g, cap, rest, rfl, b, c, d, e, f⟩⟩ := h
  · have : xs = [] := List.eq_nil_of_length_eq_zero (by simpa using h1)
    subst this
    exact ⟨none, 0, rfl, CellsAt.nil _ _, ⟨Nat.le_refl _, by decide, .inl ⟨rfl, rfl⟩⟩, fun a e => by cases e⟩
  · exact ⟨_, cap, rfl, CellsAt.pre c, ⟨e, f, .inr ⟨g, rfl⟩⟩, fun a e => by cases e; exact ⟨b, c.lt⟩⟩
structure RefB (S : Nat → Prop) (w : World) (cb : Nat) (G : List REnt) : Prop where
  blk : ∃ na nc aa ac, Blk w cb [.slice na G.length nc, .slice aa G.length ac] 147 ∧ CellsAt w na (strs (G.map REnt.name)) ∧ CellsAt w aa (G.map REnt.ptr) ∧ (∀ a, na = some a → S a.block) ∧ (∀ a, aa = some a → S a.block) ∧ FormG G.length na nc ∧ FormG G.length aa ac
  rows : ∀ g ∈ G, RefRows S w g.c g.ar g.LL
  apart : G.Pairwise fun g h => g.c ≠ h.c
  notS : ¬ S cb
  off : ∀ g ∈ G, g.c ≠ cb
  inS : ∀ k, S k → k < w.heap.size
  len : G.length ≤ 4194304
section
variable {S : Nat → Prop} {w w' : World} {cb : Nat} {G : List REnt}
def OwnG (cb : Nat) (G : List REnt) (k : Nat) : Prop := k = cb ∨ ∃ g ∈ G, k = g.c
theorem RefB.kp {F : Nat → Prop} (h : RefB S w cb G) (hk : Kp F w w') (hF : ∀ k, F k → ¬ OwnG cb G k) (hS : ∀ k, F k → ¬ S k) : RefB S w' cb G := by
  obtain ⟨na, nc, aa, ac, h1, h2, h3, h4, h5, h6⟩ := h.blk
  exact ⟨⟨na, nc, aa, ac, h1.kp hk (fun f => hF _ f (.inl rfl)), h2.kp hk (fun a e f => hS _ f (h4 a e)), h3.kp hk (fun a e f => hS _ f (h5 a e)), h4, h5, h6⟩,
    fun g hg => (h.rows g hg).kp hk (fun f => hF _ f (.inr ⟨g, hg, rfl⟩)) hS, h.apart, h.notS, h.off, fun k hk' => Nat.lt_of_lt_of_le (h.inS k hk') hk.size, h.len⟩
theorem RefB.ext (h : RefB S w cb G) (hk : Ext w w') : RefB S w' cb G := h.kp hk (fun _ x => x.elim) (fun _ x => x.elim)
set_option maxRecDepth 100000 in
set_option maxHeartbeats 1000000 in
theorem refBRows_any (h : RefB S w cb G) (s : ByteArray) : Calls Tryz.prog 96 #[.pointer (some ⟨cb, 0, none⟩), .string s] w (RetN w fun w' v => v = optPtrR (findR2 G s)) := by
  obtain ⟨na, nc, aa, ac, hB, hN, hA, _, _⟩ := h.blk
  obtain ⟨n, en⟩ : ∃ n, G.length = n := ⟨_, rfl⟩
  have hl := h.len
  rw [en] at hB hl
  have c0 : w.cell? ⟨cb, 0, none⟩ = some (.slice na n nc) := by rw [hB.cell']; rfl
  have c1 : w.cell? ⟨cb, 1, none⟩ = some (.slice aa n ac) := by rw [hB.cell']; rfl
  have HCell := Lib.hid (fun w' (hw : Ext w w') => (⟨hw.cell c0 id, hw.cell c1 id⟩ : w'.cell? ⟨cb, 0, none⟩ = some (.slice na n nc) ∧ w'.cell? ⟨cb, 1, none⟩ = some (.slice aa n ac)))
  have HG := Lib.hid (And.intro en (And.intro hN hA))
  clear h hB hN hA en
  go_enter Tryz.func96, Tryz.ntmps96
  go_wp2
  clear c0 c1
  go_loopw [5] (fun kv wr => ∃ i : Nat, i ≤ n ∧ kv = .int .i64 i ∧ Hid (Ext w wr) ∧ Hid (∀ (j : Nat) (g : REnt), j < i → G[j]? = some g → g.name ≠ s)) (fun k _ => n - (intOf k).toNat)
  case atStart => exact ⟨0, Nat.zero_le _, rfl, Lib.hid (Kp.refl _), Lib.hid fun j g hj => by omega⟩
  case round =>
    obtain ⟨i, hi, rfl, hex, hin⟩ := hrel
    obtain ⟨c0, c1⟩ := HCell.out wr hex.out
    by_cases hlt : i < n
    · obtain ⟨g, hg⟩ : ∃ g, G[i]? = some g := ⟨_, List.getElem?_eq_getElem (by rw [HG.out.1]; exact hlt)⟩
      obtain ⟨nb, no, rfl, d0⟩ := HG.out.2.1 i (.string g.name) (by simp [strs, hg])
      obtain ⟨ab, ao, rfl, d1⟩ := HG.out.2.2 i g.ptr (by simp [hg])
      replace d0 := hex.out.cell d0 id
      replace d1 := hex.out.cell d1 id
      obtain ⟨x, ex⟩ : ∃ x, g.name = x := ⟨_, rfl⟩
      obtain ⟨p, ep⟩ : ∃ p, g.c = p := ⟨_, rfl⟩
      have ept : g.ptr = .pointer (some ⟨p, 0, none⟩) := by rw [← ep]; rfl
      rw [ex] at d0
      rw [ept] at d1
      have HGi := Lib.hid (And.intro hg (And.intro ex ept))
      clear hg ex ep ept
      by_cases hxs : x = s
      · subst hxs
        have HX := Lib.hid hex.out
        have q1 : (x.toList == x.toList) = true := by simp
        go_wp2
        go_ret
        refine RetN.mk HX.out ?_
        rw [findR2_at HGi.out.1 HGi.out.2.1 hin.out]
        exact HGi.out.2.2.symm
      · have q1 : (x.toList == s.toList) = false := by
          cases h : (x.toList == s.toList)
          · rfl
          · exact absurd (toList_inj (eq_of_beq h)) hxs
        have HXS := Lib.hid hxs
        clear hxs
        go_wp2
        go_roundw
        case rel => exact ⟨i + 1, by omega, by first | rfl | (congr 1; done) | (congr 1; omega), hex, Lib.hid fun j g' hj hg' => by
          by_cases hji : j < i
          · exact hin.out j g' hji hg'
          · obtain rfl : j = i := by omega
            rw [HGi.out.1] at hg'
            injection hg' with hg'
            rw [← hg', HGi.out.2.1]; exact HXS.out⟩
        case measure => simp [intOf]; omega
    · obtain rfl : i = n := by omega
      go_wp2
      go_ret
      refine RetN.mk hex.out ?_
      rw [findR2_no (by rw [HG.out.1]; exact hin.out)]; rfl
def sumG (G : List REnt) (i : Nat) : Nat := ((G.take i).map fun g => g.LL.length).sum
theorem sumG_step {G : List REnt} {i : Nat} {g : REnt} (h : G[i]? = some g) : sumG G (i + 1) = sumG G i + g.LL.length := by
  unfold sumG
  rw [show G.take (i + 1) = G.take i ++ [g] by rw [List.take_add_one, h]; rfl, List.map_append, List.sum_append]; simp
theorem sumG_le (G : List REnt) (i : Nat) : sumG G i ≤ totalC (cntR G) := by
  have h : totalC (cntR G) = sumG G i + ((G.drop i).map fun g => g.LL.length).sum := by
    unfold sumG totalC cntR
    rw [← List.sum_append, ← List.map_append, List.take_append_drop, List.map_map]; rfl
  omega
theorem sumG_all {G : List REnt} {n : Nat} (h : G.length = n) : sumG G n = totalC (cntR G) := by
  unfold sumG totalC cntR
  rw [List.take_of_length_le (by omega), List.map_map]; rfl
set_option maxRecDepth 100000 in
set_option maxHeartbeats 1000000 in
theorem refBLen_any (h : RefB S w cb G) (hb : totalC (cntR G) ≤ 1099511627776) : Calls Tryz.prog 100 #[.pointer (some ⟨cb, 0, none⟩)] w (RetN w fun w' v => v = .int .i64 (totalC (cntR G) : Nat)) := by
  obtain ⟨na, nc, aa, ac, hB, hN, hA, _, _⟩ := h.blk
  obtain ⟨n, en⟩ : ∃ n, G.length = n := ⟨_, rfl⟩
  have hl := h.len
  rw [en] at hB hl
  have c1 : w.cell? ⟨cb, 1, none⟩ = some (.slice aa n ac) := by rw [hB.cell']; rfl
  have HG := Lib.hid (And.intro en (And.intro h hA))
  have HB := Lib.hid hb
  clear h hB hN hA en hb
  go_enter Tryz.func100, Tryz.ntmps100
  go_wp2
  go_loopw [3, 4] (fun nv kv wr => ∃ i : Nat, i ≤ n ∧ kv = .int .i64 i ∧ nv = .int .i64 (sumG G i : Nat) ∧ Hid (Ext w wr)) (fun _ k _ => n - (intOf k).toNat)
  case atStart => exact ⟨0, Nat.zero_le _, rfl, rfl, Lib.hid (Kp.refl _)⟩
  case round =>
    obtain ⟨i, hi, rfl, rfl, hex⟩ := hrel
    have c2 := hex.out.cell c1 id
    by_cases hlt : i < n
    · obtain ⟨g, hg⟩ : ∃ g, G[i]? = some g := ⟨_, List.getElem?_eq_getElem (by rw [HG.out.1]; exact hlt)⟩
      obtain ⟨ab, ao, rfl, d1⟩ := HG.out.2.2 i g.ptr (by simp [hg])
      replace d1 := hex.out.cell d1 id
      obtain ⟨lo, lc, hB2, _⟩ := HG.out.2.1.rows g (List.mem_of_getElem? hg)
      obtain ⟨p, ep⟩ : ∃ p, g.c = p := ⟨_, rfl⟩
      obtain ⟨l0, el⟩ : ∃ l0, g.LL.length = l0 := ⟨_, rfl⟩
      have ept : g.ptr = .pointer (some ⟨p, 0, none⟩) := by rw [← ep]; rfl
      rw [ept] at d1
      rw [ep, el] at hB2
      have d2 : wr.cell? ⟨p, 1, none⟩ = some (.slice lo l0 lc) := hex.out.cell (by rw [hB2.cell']; rfl) id
      have hst := sumG_step hg
      have hle := sumG_le G (i + 1)
      have HS := Lib.hid (And.intro hst el)
      obtain ⟨s0, es0⟩ : ∃ s0, sumG G i = s0 := ⟨_, rfl⟩
      have hs0 : s0 + l0 ≤ 1099511627776 := by have := HB.out; rw [hst, el, es0] at hle; omega
      rw [es0]
      have HE := Lib.hid es0
      clear hst hle es0 el ept ep hB2 hg
      go_wp2
      go_roundw
      case rel => exact ⟨i + 1, by omega, by first | rfl | (congr 1; done) | (congr 1; omega), by rw [HS.out.1, HS.out.2, HE.out, Int.natCast_add], hex⟩
      case measure => simp [intOf]; omega
    · obtain rfl : i = n := by omega
      rw [sumG_all HG.out.1]
      go_wp2
      go_ret
      exact RetN.mk hex.out rfl
theorem findR2_get (G : List REnt) (s : ByteArray) : getC (cntR G) s = (findR2 G s).map fun g => (g.ar, g.LL) := by
  unfold getC cntR findR2
  rw [List.find?_map, Option.map_map]; rfl
theorem findR2_some {G : List REnt} {s : ByteArray} {g : REnt} (h : findR2 G s = some g) : g ∈ G ∧ g.name = s := ⟨List.mem_of_find?_eq_some h, by have := List.find?_some h; simpa using this⟩
theorem refNamed_any (s : ByteArray) (w : World) : Calls Tryz.prog 94 #[.string s] w (Ret (.bool (namedC s)) w) := by
  unfold namedC
  by_cases h1 : 1 ≤ s.size
  · have q1 : (0 : Int) < (s.size : Int) := by omega
    by_cases h2 : s.size ≤ 4096
    · have q2 : (s.size : Int) ≤ 4096 := by omega
      rw [decide_eq_true (show 1 ≤ s.size ∧ s.size ≤ 4096 from ⟨h1, h2⟩)]
      go_enter Tryz.func94, Tryz.ntmps94
      go_wp2
      go_ret
      exact Ret.mk rfl
    · have q2 : ¬ (s.size : Int) ≤ 4096 := by omega
      rw [decide_eq_false (show ¬ (1 ≤ s.size ∧ s.size ≤ 4096) from fun h => h2 h.2)]
      go_enter Tryz.func94, Tryz.ntmps94
      go_wp2
      go_ret
      exact Ret.mk rfl
  · have q1 : ¬ (0 : Int) < (s.size : Int) := by omega
    rw [decide_eq_false (show ¬ (1 ≤ s.size ∧ s.size ≤ 4096) from fun h => h1 h.1)]
    go_enter Tryz.func94, Tryz.ntmps94
    go_wp2
    go_ret
    exact Ret.mk rfl
end
end Go.Proofs.YtomeebimmmfmbaaGreat

/- The document's Base: nil ones; a new one. -/
namespace Go.Proofs.YtomeebimmmfmbaaGreat
open Go.RowKit
set_option linter.unusedVariables false
theorem refBNew_any (S : Nat → Prop) (w : World) (hS : ∀ k, S k → k < w.heap.size) : Calls Tryz.prog 58 #[] w (RetN w fun w' v => v = .pointer (some ⟨w.heap.size, 0, none⟩) ∧ RefB S w' w.heap.size []) := by
  go_enter Tryz.func58, Tryz.ntmps58
  go_wp2
  go_ret
  refine RetN.mk ((Kp.refl w).alloc _) ⟨rfl, ⟨none, 0, none, 0, Blk.new w [_, _] _, CellsAt.nil _ _, CellsAt.nil _ _, fun a e => (by cases e), fun a e => (by cases e), ⟨Nat.le_refl _, by decide, .inl ⟨rfl, rfl⟩⟩, ⟨Nat.le_refl _, by decide, .inl ⟨rfl, rfl⟩⟩⟩, fun g hg => (by simp at hg), List.Pairwise.nil, fun h => by have := hS _ h; omega, fun g hg => (by simp at hg), fun k hk => by have h1 := hS k hk; show k < (w.heap.push _).size; simp; omega, by simp⟩
end Go.Proofs.YtomeebimmmfmbaaGreat

/- The document's Base: put: a relation that isn't there, at its place. -/
namespace Go.Proofs.YtomeebimmmfmbaaGreat
open Go.RowKit
set_option linter.unusedVariables false
theorem elem_ptrR : ElemT Tryz.prog 145 150 1 8 (.pointer none) := ⟨by kernel_rfl, by kernel_rfl, rfl, by decide⟩
theorem ptrs_one (G : List REnt) : ∀ u ∈ G.map REnt.ptr, u.oneCell' = true := fun u hu => by
  obtain ⟨g, _, rfl⟩ := List.mem_map.1 hu
  rfl
section
variable {S : Nat → Prop} {w w' : World} {cb : Nat} {G : List REnt}
theorem RefB.place (hst : Strict cmpN (G.map REnt.name)) {s : ByteArray} {i : Nat} (hi : i ≤ G.length) (h1 : ∀ (j : Nat) (g : REnt), j < i → G[j]? = some g → Op.bytesLess g.name.toList s.toList = true)
    (h2 : ∀ g, G[i]? = some g → Op.bytesLess g.name.toList s.toList = false) : i = below cmpN (G.map REnt.name) s := by
  refine hst.place cmpN_ord (by simpa using hi) (fun y h0 hy => ?_) fun y hy => ?_
  · rw [List.getElem?_map] at hy
    obtain ⟨g, hg, rfl⟩ := Option.map_eq_some_iff.1 hy
    exact cmpB_neg.2 (h1 (i - 1) g (by omega) hg)
  · rw [List.getElem?_map] at hy
    obtain ⟨g, hg, rfl⟩ := Option.map_eq_some_iff.1 hy
    have := h2 g hg
    have h3 : ¬ cmpB g.name.toList s.toList < 0 := fun h => by rw [cmpB_neg.1 h] at this; cases this
    show 0 ≤ cmpB g.name.toList s.toList
    omega
theorem RefB.put (h : RefB S w cb G) {g : REnt} {i : Nat} (hi : i = below cmpN (G.map REnt.name) g.name) (hr : RefRows S w g.c g.ar g.LL) (hoff : ∀ x ∈ G, x.c ≠ g.c) (hgb : g.c ≠ cb) (hl : G.length < 4194304)
    (hk : Ext w w') {v1 v2 : Value} (h1 : Row w' 9 1 v1 (i + 1 + (G.length - i)) (((strs (G.map REnt.name)).take i ++ [.string g.name]) ++ (strs (G.map REnt.name)).drop i) (New w)) (h2 : Row w' 150 1 v2 (i + 1 + (G.length - i)) (((G.map REnt.ptr).take i ++ [g.ptr]) ++ (G.map REnt.ptr).drop i) (New w)) :
    ∃ S', Grows w S S' ∧ RefB S' ((w'.setCell ⟨cb, 0, none⟩ v1).setCell ⟨cb, 1, none⟩ v2) cb (insN REnt.name G g) := by
  have hil : i ≤ G.length := by have := below_le (c := cmpN) (G.map REnt.name) g.name; rw [List.length_map] at this; omega
  have hlen : (insN REnt.name G g).length = G.length + 1 := by rw [(insN_perm REnt.name G g).length_eq]; simp
  have e1 : ((strs (G.map REnt.name)).take i ++ [Value.string g.name]) ++ (strs (G.map REnt.name)).drop i = strs ((insN REnt.name G g).map REnt.name) := by
    unfold insN strs
    rw [← hi]
    simp [List.map_take, List.map_drop]
  have e2 : ((G.map REnt.ptr).take i ++ [g.ptr]) ++ (G.map REnt.ptr).drop i = (insN REnt.name G g).map REnt.ptr := by
    unfold insN
    rw [← hi]
    simp [List.map_take, List.map_drop]
  have en : i + 1 + (G.length - i) = (insN REnt.name G g).length := by rw [hlen]; omega
  rw [e1, en] at h1
  rw [e2, en] at h2
  have hcb : cb < w.heap.size := by obtain ⟨na, nc, aa, ac, hB, _⟩ := h.blk; exact hB.lt
  obtain ⟨na, nc, rfl, c1, f1, b1⟩ := h1.form
  obtain ⟨aa, ac, rfl, c2, f2, b2⟩ := h2.form
  obtain ⟨na0, nc0, aa0, ac0, hB, _⟩ := h.blk
  have hk2 : Kp (fun k => k = cb) w ((w'.setCell ⟨cb, 0, none⟩ (.slice na (insN REnt.name G g).length nc)).setCell ⟨cb, 1, none⟩ (.slice aa (insN REnt.name G g).length ac)) := by
    refine ((Ext.kp hk).setCell (F := fun k => k = cb) (p := ⟨cb, 0, none⟩) (fun _ => rfl) _).setCell (p := ⟨cb, 1, none⟩) (fun _ => rfl) _
  have hk3 : Kp (fun k => k = cb) w' ((w'.setCell ⟨cb, 0, none⟩ (.slice na (insN REnt.name G g).length nc)).setCell ⟨cb, 1, none⟩ (.slice aa (insN REnt.name G g).length ac)) := by
    refine ((Kp.refl w').setCell (F := fun k => k = cb) (p := ⟨cb, 0, none⟩) (fun _ => rfl) _).setCell (p := ⟨cb, 1, none⟩) (fun _ => rfl) _
  have hB' := ((hB.ext hk).set 0 (.slice na (insN REnt.name G g).length nc)).set 1 (.slice aa (insN REnt.name G g).length ac)
  have hz2 := hk2.size
  have hz3 := hk3.size
  generalize hW : (w'.setCell ⟨cb, 0, none⟩ (.slice na (insN REnt.name G g).length nc)).setCell ⟨cb, 1, none⟩ (.slice aa (insN REnt.name G g).length ac) = W at *
  have hSn : ∀ k, k = cb → ¬ S k := fun k e => by subst e; exact h.notS
  refine ⟨fun k => S k ∨ (w.heap.size ≤ k ∧ k < W.heap.size), ⟨fun k h => .inl h, fun k h => h.imp id fun h => h.1⟩, ?_⟩
  have hmem : ∀ x, x ∈ insN REnt.name G g ↔ x = g ∨ x ∈ G := fun x => by
    rw [(insN_perm REnt.name G g).mem_iff]; simp [or_comm]
  have hlt : ∀ x, x ∈ insN REnt.name G g → x.c < w.heap.size ∧ ¬ S x.c ∧ x.c ≠ cb ∧ RefRows S w x.c x.ar x.LL := fun x hx => by
    rcases (hmem x).1 hx with rfl | hx
    · exact ⟨hr.lt, hr.notS, hgb, hr⟩
    · exact ⟨(h.rows x hx).lt, (h.rows x hx).notS, h.off x hx, h.rows x hx⟩
  refine ⟨⟨na, nc, aa, ac, by simpa using hB', c1.kp hk3 (fun a e f => ?_), c2.kp hk3 (fun a e f => ?_), fun a e => .inr ⟨(b1 a e).1, Nat.lt_of_lt_of_le (b1 a e).2 hz3⟩, fun a e => .inr ⟨(b2 a e).1, Nat.lt_of_lt_of_le (b2 a e).2 hz3⟩, f1, f2⟩,
    fun x hx => ?_, ?_, ?_, fun x hx => (hlt x hx).2.2.1, fun k hk' => ?_, by rw [hlen]; omega⟩
  · have h9 : w.heap.size ≤ a.block := (b1 a e).1
    have f9 : a.block = cb := f
    omega
  · have h9 : w.heap.size ≤ a.block := (b2 a e).1
    have f9 : a.block = cb := f
    omega
  · obtain ⟨p1, p2, p3, p4⟩ := hlt x hx
    refine ((p4.kp hk2 p3 fun k e => hSn k e)).wide (fun k h => .inl h) (fun h => ?_) fun k h => ?_
    · rcases h with h | h
      · exact p2 h
      · omega
    · rcases h with h | h
      · have := p4.inS k h; omega
      · exact h.2
  · refine (List.Perm.pairwise_iff (fun {a b} h => Ne.symm h) (insN_perm REnt.name G g)).2 ?_
    refine List.pairwise_append.2 ⟨h.apart, List.pairwise_singleton _ _, fun a ha b hb => ?_⟩
    rw [List.mem_singleton] at hb
    subst hb
    exact hoff a ha
  · intro hc
    rcases hc with hc | hc
    · exact h.notS hc
    · omega
  · rcases hk' with hk' | hk'
    · have := h.inS k hk'; omega
    · exact hk'.2
set_option maxRecDepth 100000 in
set_option maxHeartbeats 4000000 in
theorem refBPut_any (h : RefB S w cb G) (hst : Strict cmpN (G.map REnt.name)) (g : REnt) (hr : RefRows S w g.c g.ar g.LL) (hoff : ∀ x ∈ G, x.c ≠ g.c) (hgb : g.c ≠ cb) (hl : G.length < 4194304) :
    Calls Tryz.prog 97 #[.pointer (some ⟨cb, 0, none⟩), .string g.name, g.ptr] w (RetF (fun k => k = cb) w fun w' v => ∃ S', Grows w S S' ∧ RefB S' w' cb (insN REnt.name G g)) := by
  have H := Lib.hid (And.intro h (And.intro hst (And.intro hr (And.intro hoff (And.intro hgb hl)))))
  obtain ⟨na, nc, aa, ac, hB, hN, hA, _, _, ⟨n1, n2, n3⟩, a1, a2, a3⟩ := h.blk
  obtain ⟨n, en⟩ : ∃ n, G.length = n := ⟨_, rfl⟩
  rw [en] at hB n1 a1 hl
  obtain ⟨s, es⟩ : ∃ s, g.name = s := ⟨_, rfl⟩
  obtain ⟨c, ec⟩ : ∃ c, g.c = c := ⟨_, rfl⟩
  have ept : g.ptr = .pointer (some ⟨c, 0, none⟩) := by rw [← ec]; rfl
  have c0 : w.cell? ⟨cb, 0, none⟩ = some (.slice na n nc) := by rw [hB.cell']; rfl
  have c1 : w.cell? ⟨cb, 1, none⟩ = some (.slice aa n ac) := by rw [hB.cell']; rfl
  have HCell := Lib.hid (fun w' (hw : Ext w w') => (⟨hw.cell c0 id, hw.cell c1 id⟩ : w'.cell? ⟨cb, 0, none⟩ = some (.slice na n nc) ∧ w'.cell? ⟨cb, 1, none⟩ = some (.slice aa n ac)))
  have HG := Lib.hid (And.intro en (And.intro hN (And.intro hA hB)))
  have HE := Lib.hid (And.intro es (And.intro ec ept))
  rw [es, ept]
  have N3 := Lib.hid n3
  have A3 := Lib.hid a3
  unfold maxLen at n2 a2
  clear h hst hr hoff hgb hB hN hA en es ec ept n3 a3
  go_enter Tryz.func97, Tryz.ntmps97
  go_wp2
  go_loopw [8] (fun kv wr => ∃ i : Nat, i ≤ n ∧ kv = .int .i64 i ∧ Hid (Ext w wr) ∧ Hid (∀ (j : Nat) (x : REnt), j < i → G[j]? = some x → Op.bytesLess x.name.toList s.toList = true)) (fun k _ => n - (intOf k).toNat)
  case atStart => exact ⟨0, Nat.zero_le _, rfl, Lib.hid (Kp.refl _), Lib.hid fun j g hj => by omega⟩
  case round =>
    obtain ⟨i, hi, rfl, hex, hin⟩ := hrel
    clear c0 c1
    obtain ⟨c0, c1⟩ := HCell.out wr hex.out
    by_cases hgo : ∃ x, G[i]? = some x ∧ Op.bytesLess x.name.toList s.toList = true
    · obtain ⟨x, hx, q1⟩ := hgo
      have hlt : i < n := by rw [← HG.out.1]; exact (List.getElem?_eq_some_iff.1 hx).1
      obtain ⟨nb, no, rfl, d0⟩ := HG.out.2.1 i (.string x.name) (by simp [strs, hx])
      replace d0 := hex.out.cell d0 id
      have HX := Lib.hid (And.intro hx q1)
      generalize x.name = xn at d0 q1
      clear hx
      go_wp2
      go_roundw
      case rel => exact ⟨i + 1, by omega, by first | rfl | (congr 1; done) | (congr 1; omega), hex, Lib.hid fun j y hj hy => by
          by_cases hji : j < i
          · exact hin.out j y hji hy
          · obtain rfl : j = i := by omega
            rw [HX.out.1] at hy
            cases hy
            exact HX.out.2⟩
      case measure => simp [intOf]; omega
    · have hbel : i = below cmpN (G.map REnt.name) s := RefB.place H.out.2.1 (by rw [HG.out.1]; exact hi) hin.out fun x hx => by
        cases hb : Op.bytesLess x.name.toList s.toList with
        | false => rfl
        | true => exact absurd ⟨x, hx, hb⟩ hgo
      have HBel := Lib.hid hbel
      clear hbel
      have hway : (∃ (b : Bool) (x : ByteArray), b = true ∧ i < n ∧ (∃ nb no, na = some ⟨nb, no, none⟩ ∧ wr.cell? ⟨nb, no + i, none⟩ = some (.string x)) ∧ Op.bytesLess x.toList s.toList = false) ∨ i = n := by
        by_cases hlt : i < n
        · obtain ⟨x, hx⟩ : ∃ x, G[i]? = some x := ⟨_, List.getElem?_eq_getElem (by rw [HG.out.1]; exact hlt)⟩
          obtain ⟨nb, no, e, d0⟩ := HG.out.2.1 i (.string x.name) (by simp [strs, hx])
          refine .inl ⟨true, x.name, rfl, hlt, ⟨nb, no, e, hex.out.cell d0 id⟩, ?_⟩
          cases hb : Op.bytesLess x.name.toList s.toList with
          | false => rfl
          | true => exact absurd ⟨x, hx, hb⟩ hgo
        · exact .inr (by omega)
      clear hgo hin
      have HH := Lib.hid (show (strs (G.map REnt.name)).length = n ∧ (G.map REnt.ptr).length = n from ⟨by rw [strs_len, List.length_map, HG.out.1], by rw [List.length_map, HG.out.1]⟩)
      have hp0 : (i : Int) ≤ (n : Int) := by omega
      have hp1 : (i : Int) ≤ (nc : Int) := by omega
      have hp2 : (i : Int) ≤ (ac : Int) := by omega
      have hne := Lib.hid (show 9 ≠ 150 by decide)
      have HEX := Lib.hid hex.out
      rcases hway with ⟨b0, x, _, hlt, ⟨nb, no, e, d0⟩, q1⟩ | hin'
      · subst e
        have hcn : ¬ nc = i := by omega
        have hca : ¬ ac = i := by omega
        rcases N3.out with ⟨e, _⟩ | ⟨gn, e⟩
        · cases e
        · cases e
          rcases A3.out with ⟨e, e0⟩ | ⟨ga, e⟩
          · omega
          · subst e
            rw [Nat.zero_add] at d0
            go_wp2_with (first | (at_builtin; refine Halted.out ?_))
            refine Halted.mk (wp_appN elem_str rfl _ _ rfl HEX.out rfl (Row.nil wr 9 1 (New w)) rfl ((HG.out.2.1.ext HEX.out).take' i) (by rw [List.length_take, HH.out.1]; omega) (fun u hu => strs_one _ u (List.mem_of_mem_take hu)) (by omega) (by unfold maxLen; omega) ?_)
            intro v1 w3 hr1 hk3 _ _
            obtain ⟨c0, c1⟩ := HCell.out w3 hk3
            have HR1 := Lib.hid hr1
            clear hr1
            go_wp2_with (first | (at_builtin; refine Halted.out ?_))
            refine Halted.mk (wp_appN elem_str rfl _ _ rfl (hk3.alloc (.cells #[.string s] 9)) rfl (HR1.out.alloc _) rfl (CellsAt.one w3 (.string s) 9) rfl (by simp; rfl) (by omega) (by unfold maxLen; omega) ?_)
            intro v2 w4 hr2 hk4 _ _
            obtain ⟨c0, c1⟩ := HCell.out w4 hk4
            have HR2 := Lib.hid hr2
            clear hr2
            go_wp2_with (first | (at_builtin; refine Halted.out ?_))
            refine Halted.mk (wp_appN elem_str rfl _ _ rfl hk4 rfl HR2.out rfl (news := (strs (G.map REnt.name)).drop i) (by
              first
                | (have := (HG.out.2.1.ext hk4).sub' i; rwa [Nat.zero_add] at this)
                | (rw [List.drop_of_length_le (by rw [HH.out.1]; omega)]; exact CellsAt.nil _ _)) (by rw [List.length_drop, HH.out.1]; omega) (fun u hu => strs_one _ u (List.mem_of_mem_drop hu)) (by omega) (by unfold maxLen; omega) ?_)
            intro v3 w5 hr3 hk5 _ _
            obtain ⟨c0, c1⟩ := HCell.out w5 hk5
            have HR3 := Lib.hid hr3
            clear hr3
            go_wp2_with (first | (at_builtin; refine Halted.out ?_))
            refine Halted.mk (wp_appN elem_ptrR rfl _ _ rfl hk5 rfl (Row.nil w5 150 1 (New w)) rfl ((HG.out.2.2.1.ext hk5).take' i) (by rw [List.length_take, HH.out.2]; omega) (fun u hu => ptrs_one _ u (List.mem_of_mem_take hu)) (by omega) (by unfold maxLen; omega) ?_)
            intro u1 w6 hq1 hk6 hk6' _
            obtain ⟨c0, c1⟩ := HCell.out w6 hk6
            have HQ1 := Lib.hid (And.intro hq1 hk6')
            clear hq1 hk6'
            go_wp2_with (first | (at_builtin; refine Halted.out ?_))
            refine Halted.mk (wp_appN elem_ptrR rfl _ _ rfl (hk6.alloc (.cells #[.pointer (some ⟨c, 0, none⟩)] 150)) rfl (HQ1.out.1.alloc _) rfl (CellsAt.one w6 (.pointer (some ⟨c, 0, none⟩)) 150) rfl (by simp; rfl) (by omega) (by unfold maxLen; omega) ?_)
            intro u2 w7 hq2 hk7 hk7' _
            obtain ⟨c0, c1⟩ := HCell.out w7 hk7
            have HQ2 := Lib.hid (And.intro hq2 hk7')
            clear hq2 hk7'
            go_wp2_with (first | (at_builtin; refine Halted.out ?_))
            refine Halted.mk (wp_appN elem_ptrR rfl _ _ rfl hk7 rfl HQ2.out.1 rfl (news := (G.map REnt.ptr).drop i) (by
              first
                | (have := (HG.out.2.2.1.ext hk7).sub' i; rwa [Nat.zero_add] at this)
                | (rw [List.drop_of_length_le (by rw [HH.out.2]; omega)]; exact CellsAt.nil _ _)) (by rw [List.length_drop, HH.out.2]; omega) (fun u hu => ptrs_one _ u (List.mem_of_mem_drop hu)) (by omega) (by unfold maxLen; omega) ?_)
            intro u3 w8 hq3 hk8 hk8' _
            have HQ3 := Lib.hid (And.intro hq3 hk8')
            clear hq3 hk8'
            obtain ⟨a1', n1', p1', e1, _⟩ : ∃ ao n cap, v3 = .slice ao n cap ∧ True := by obtain ⟨ao, cap, e, _⟩ := HR3.out.shape; exact ⟨_, _, _, e, trivial⟩
            obtain ⟨a2', n2', p2', e2, _⟩ : ∃ ao n cap, u3 = .slice ao n cap ∧ True := by obtain ⟨ao, cap, e, _⟩ := HQ3.out.1.shape; exact ⟨_, _, _, e, trivial⟩
            subst e1 e2
            have f0 := (HG.out.2.2.2.ext hk8).free 0
            have f1 := (HG.out.2.2.2.ext hk8).free 1
            obtain ⟨c0, c1⟩ := HCell.out w8 hk8
            have HK8 := Lib.hid hk8
            clear hk3 hk4 hk5 hk6 hk7 hk8
            go_wp2
            go_end0
            have r1 := HR3.out.kp' HQ1.out.2 fun g hg _ hf => by cases hf
            have r2 := r1.alloc (.cells #[.pointer (some ⟨c, 0, none⟩)] 150)
            have r3 := r2.kp' HQ2.out.2 fun g hg _ hf => r2.sort_ne (HQ1.out.1.alloc (.cells #[.pointer (some ⟨c, 0, none⟩)] 150)) hne.out hg hf
            have r4 := r3.kp' HQ3.out.2 fun g hg _ hf => r3.sort_ne HQ2.out.1 hne.out hg hf
            obtain ⟨h1, h2, h3, h4, h5, h6⟩ := H.out
            refine RetF.mk ((Ext.kp HK8.out).setCell (F := fun k => k = cb) (p := ⟨cb, 0, none⟩) (fun _ => rfl) _ |>.setCell (p := ⟨cb, 1, none⟩) (fun _ => rfl) _) (h1.put (i := i) (by rw [HE.out.1]; exact HBel.out) h3 h4 h5 h6 HK8.out ?_ ?_)
            · exact r4.cast' (by rw [HG.out.1]; omega) (by rw [HE.out.1]; simp)
            · exact HQ3.out.1.cast' (by rw [HG.out.1]; omega) (by rw [HE.out.2.2]; simp)
      · subst hin'
        rcases N3.out with ⟨e, e0⟩ | ⟨gn, e⟩
        all_goals
          subst e
          rcases A3.out with ⟨e, e1⟩ | ⟨ga, e⟩
          all_goals
            subst e
            by_cases hcn : nc = i
            all_goals
              first
                | (exfalso; omega)
                | (by_cases hca : ac = i
                   all_goals
                     first
                       | (exfalso; omega)
                       | skip)
        all_goals
          go_wp2_with (first | (at_builtin; refine Halted.out ?_))
          refine Halted.mk (wp_appN elem_str rfl _ _ rfl HEX.out rfl (Row.nil wr 9 1 (New w)) rfl ((HG.out.2.1.ext HEX.out).take' i) (by rw [List.length_take, HH.out.1]; omega) (fun u hu => strs_one _ u (List.mem_of_mem_take hu)) (by omega) (by unfold maxLen; omega) ?_)
          intro v1 w3 hr1 hk3 _ _
          obtain ⟨c0, c1⟩ := HCell.out w3 hk3
          have HR1 := Lib.hid hr1
          clear hr1
          go_wp2_with (first | (at_builtin; refine Halted.out ?_))
          refine Halted.mk (wp_appN elem_str rfl _ _ rfl (hk3.alloc (.cells #[.string s] 9)) rfl (HR1.out.alloc _) rfl (CellsAt.one w3 (.string s) 9) rfl (by simp; rfl) (by omega) (by unfold maxLen; omega) ?_)
          intro v2 w4 hr2 hk4 _ _
          obtain ⟨c0, c1⟩ := HCell.out w4 hk4
          have HR2 := Lib.hid hr2
          clear hr2
          go_wp2_with (first | (at_builtin; refine Halted.out ?_))
          refine Halted.mk (wp_appN elem_str rfl _ _ rfl hk4 rfl HR2.out rfl (news := (strs (G.map REnt.name)).drop i) (by
            first
              | (have := (HG.out.2.1.ext hk4).sub' i; rwa [Nat.zero_add] at this)
              | (rw [List.drop_of_length_le (by rw [HH.out.1]; omega)]; exact CellsAt.nil _ _)) (by rw [List.length_drop, HH.out.1]; omega) (fun u hu => strs_one _ u (List.mem_of_mem_drop hu)) (by omega) (by unfold maxLen; omega) ?_)
          intro v3 w5 hr3 hk5 _ _
          obtain ⟨c0, c1⟩ := HCell.out w5 hk5
          have HR3 := Lib.hid hr3
          clear hr3
          go_wp2_with (first | (at_builtin; refine Halted.out ?_))
          refine Halted.mk (wp_appN elem_ptrR rfl _ _ rfl hk5 rfl (Row.nil w5 150 1 (New w)) rfl ((HG.out.2.2.1.ext hk5).take' i) (by rw [List.length_take, HH.out.2]; omega) (fun u hu => ptrs_one _ u (List.mem_of_mem_take hu)) (by omega) (by unfold maxLen; omega) ?_)
          intro u1 w6 hq1 hk6 hk6' _
          obtain ⟨c0, c1⟩ := HCell.out w6 hk6
          have HQ1 := Lib.hid (And.intro hq1 hk6')
          clear hq1 hk6'
          go_wp2_with (first | (at_builtin; refine Halted.out ?_))
          refine Halted.mk (wp_appN elem_ptrR rfl _ _ rfl (hk6.alloc (.cells #[.pointer (some ⟨c, 0, none⟩)] 150)) rfl (HQ1.out.1.alloc _) rfl (CellsAt.one w6 (.pointer (some ⟨c, 0, none⟩)) 150) rfl (by simp; rfl) (by omega) (by unfold maxLen; omega) ?_)
          intro u2 w7 hq2 hk7 hk7' _
          obtain ⟨c0, c1⟩ := HCell.out w7 hk7
          have HQ2 := Lib.hid (And.intro hq2 hk7')
          clear hq2 hk7'
          go_wp2_with (first | (at_builtin; refine Halted.out ?_))
          refine Halted.mk (wp_appN elem_ptrR rfl _ _ rfl hk7 rfl HQ2.out.1 rfl (news := (G.map REnt.ptr).drop i) (by
            first
              | (have := (HG.out.2.2.1.ext hk7).sub' i; rwa [Nat.zero_add] at this)
              | (rw [List.drop_of_length_le (by rw [HH.out.2]; omega)]; exact CellsAt.nil _ _)) (by rw [List.length_drop, HH.out.2]; omega) (fun u hu => ptrs_one _ u (List.mem_of_mem_drop hu)) (by omega) (by unfold maxLen; omega) ?_)
          intro u3 w8 hq3 hk8 hk8' _
          have HQ3 := Lib.hid (And.intro hq3 hk8')
          clear hq3 hk8'
          obtain ⟨a1', n1', p1', e1, _⟩ : ∃ ao n cap, v3 = .slice ao n cap ∧ True := by obtain ⟨ao, cap, e, _⟩ := HR3.out.shape; exact ⟨_, _, _, e, trivial⟩
          obtain ⟨a2', n2', p2', e2, _⟩ : ∃ ao n cap, u3 = .slice ao n cap ∧ True := by obtain ⟨ao, cap, e, _⟩ := HQ3.out.1.shape; exact ⟨_, _, _, e, trivial⟩
          subst e1 e2
          have f0 := (HG.out.2.2.2.ext hk8).free 0
          have f1 := (HG.out.2.2.2.ext hk8).free 1
          obtain ⟨c0, c1⟩ := HCell.out w8 hk8
          have HK8 := Lib.hid hk8
          clear hk3 hk4 hk5 hk6 hk7 hk8
          go_wp2
          go_end0
          have r1 := HR3.out.kp' HQ1.out.2 fun g hg _ hf => by cases hf
          have r2 := r1.alloc (.cells #[.pointer (some ⟨c, 0, none⟩)] 150)
          have r3 := r2.kp' HQ2.out.2 fun g hg _ hf => r2.sort_ne (HQ1.out.1.alloc (.cells #[.pointer (some ⟨c, 0, none⟩)] 150)) hne.out hg hf
          have r4 := r3.kp' HQ3.out.2 fun g hg _ hf => r3.sort_ne HQ2.out.1 hne.out hg hf
          obtain ⟨h1, h2, h3, h4, h5, h6⟩ := H.out
          refine RetF.mk ((Ext.kp HK8.out).setCell (F := fun k => k = cb) (p := ⟨cb, 0, none⟩) (fun _ => rfl) _ |>.setCell (p := ⟨cb, 1, none⟩) (fun _ => rfl) _) (h1.put (i := i) (by rw [HE.out.1]; exact HBel.out) h3 h4 h5 h6 HK8.out ?_ ?_)
          · exact r4.cast' (by rw [HG.out.1]; omega) (by rw [HE.out.1]; simp)
          · exact HQ3.out.1.cast' (by rw [HG.out.1]; omega) (by rw [HE.out.2.2]; simp)
end
end Go.Proofs.YtomeebimmmfmbaaGreat

/- The document's Base: Declare, Add. -/
namespace Go.Proofs.YtomeebimmmfmbaaGreat
open Go.RowKit
set_option linter.unusedVariables false
structure RefOk (G : List REnt) : Prop where
  ok : BaseOk (cntR G)
  names : Strict cmpN (G.map REnt.name)
theorem cntR_names (G : List REnt) : (cntR G).map (·.1) = G.map REnt.name := by unfold cntR; rw [List.map_map]; rfl
theorem findR2_none {G : List REnt} {s : ByteArray} (h : findR2 G s = none) : getC (cntR G) s = none ∧ s ∉ G.map REnt.name := by
  have h1 : getC (cntR G) s = none := by rw [findR2_get, h]; rfl
  exact ⟨h1, by rw [← cntR_names]; exact getC_none.1 h1⟩
theorem findR2_cnt {G : List REnt} {s : ByteArray} {g : REnt} (h : findR2 G s = some g) : getC (cntR G) s = some (g.ar, g.LL) ∧ rowsC (cntR G) s = g.LL := by
  have h1 : getC (cntR G) s = some (g.ar, g.LL) := by rw [findR2_get, h]; rfl
  exact ⟨h1, rows_some h1⟩
section
variable {S S' : Nat → Prop} {w w1 w2 w3 : World} {cb : Nat} {G : List REnt} {s : ByteArray} {ss : List ByteArray}
def RefBTo (S : Nat → Prop) (w : World) (cb : Nat) (G : List REnt) (C' : List CntZ) (w' : World) : Prop :=
  ∃ S' G', Grows w S S' ∧ RefB S' w' cb G' ∧ RefOk G' ∧ SameC (cntR G') C' ∧ G'.length ≤ G.length + 1 ∧ ∀ k, OwnG cb G' k → OwnG cb G k ∨ w.heap.size ≤ k
theorem RefBTo.same {C' : List CntZ} (h : RefB S w cb G) (ho : RefOk G) (hk : Ext w w1) (hc : C' = cntR G) : RefBTo S w cb G C' w1 :=
  ⟨S, G, Grows.refl _ _, h.ext hk, ho, by rw [hc]; exact SameC.refl _, Nat.le_succ _, fun k h => .inl h⟩
theorem RefB.turn {pre post : List REnt} {g : REnt} (h : RefB S w cb (pre ++ g :: post)) {LL' : List (List ByteArray)} (hk : Kp (fun k => k = g.c) w w1) (hS : Grows w S S') (hr : RefRows S' w1 g.c g.ar LL') :
    RefB S' w1 cb (pre ++ { g with LL := LL' } :: post) := by
  have hg : g ∈ pre ++ g :: post := by simp
  have hgc := h.off g hg
  have hgS := (h.rows g hg).notS
  have hlt := (h.rows g hg).lt
  obtain ⟨na, nc, aa, ac, h1, h2, h3, h4, h5, h6⟩ := h.blk
  have hF : ∀ k, k = g.c → ¬ S k := fun k e hs => by subst e; exact hgS hs
  have en : (pre ++ { g with LL := LL' } :: post).map REnt.name = (pre ++ g :: post).map REnt.name := by simp
  have ep : (pre ++ { g with LL := LL' } :: post).map REnt.ptr = (pre ++ g :: post).map REnt.ptr := by simp [REnt.ptr]
  have el : (pre ++ { g with LL := LL' } :: post).length = (pre ++ g :: post).length := by simp
  have hap := h.apart
  have hoff : ∀ x ∈ pre ++ g :: post, x = g ∨ x.c ≠ g.c := fun x hx => by
    rw [List.pairwise_append] at hap
    obtain ⟨_, p2, p3⟩ := hap
    rw [List.pairwise_cons] at p2
    rcases List.mem_append.1 hx with hx | hx
    · exact .inr (p3 x hx g (List.mem_cons_self ..))
    · rcases List.mem_cons.1 hx with rfl | hx
      · exact .inl rfl
      · exact .inr fun e => p2.1 x hx e.symm
  have hmem : ∀ x ∈ pre ++ { g with LL := LL' } :: post, x = { g with LL := LL' } ∨ (x ∈ pre ++ g :: post ∧ x.c ≠ g.c) := fun x hx => by
    rw [List.pairwise_append] at hap
    obtain ⟨_, p2, p3⟩ := hap
    rw [List.pairwise_cons] at p2
    rcases List.mem_append.1 hx with hx | hx
    · exact .inr ⟨by simp [hx], p3 x hx g (List.mem_cons_self ..)⟩
    · rcases List.mem_cons.1 hx with rfl | hx
      · exact .inl rfl
      · exact .inr ⟨by simp [hx], fun e => p2.1 x hx e.symm⟩
  have hS' := hr.inS
  refine ⟨⟨na, nc, aa, ac, ?_, ?_, ?_, fun a e => hS.1 _ (h4 a e), fun a e => hS.1 _ (h5 a e), ?_⟩, fun x hx => ?_, ?_, ?_, fun x hx => ?_, hS', ?_⟩
  · rw [el]; exact h1.kp hk fun e => hgc e.symm
  · rw [en]; exact h2.kp hk fun a e => hF _ |> fun f e2 => f e2 (h4 a e)
  · rw [ep]; exact h3.kp hk fun a e => hF _ |> fun f e2 => f e2 (h5 a e)
  · rw [el]; exact h6
  · rcases hmem x hx with rfl | ⟨hx, hne⟩
    · exact hr
    · refine ((h.rows x hx).kp hk hne hF).wide hS.1 (fun h9 => ?_) hS'
      rcases hS.2 _ h9 with h9 | h9
      · exact (h.rows x hx).notS h9
      · have := (h.rows x hx).lt; omega
  · have := hap
    rw [List.pairwise_append, List.pairwise_cons] at this ⊢
    obtain ⟨p1, ⟨p2, p3⟩, p4⟩ := this
    refine ⟨p1, ⟨p2, p3⟩, fun a ha b hb => ?_⟩
    rcases List.mem_cons.1 hb with rfl | hb
    · exact p4 a ha g (List.mem_cons_self ..)
    · exact p4 a ha b (List.mem_cons_of_mem _ hb)
  · intro h9
    rcases hS.2 _ h9 with h9 | h9
    · exact h.notS h9
    · have := h1.lt; omega
  · rcases hmem x hx with rfl | ⟨hx, hne⟩
    · exact hgc
    · exact h.off x hx
  · rw [el]; exact h.len
theorem findR2_split {g : REnt} (h : findR2 G s = some g) : ∃ pre post, G = pre ++ g :: post := List.append_of_mem (findR2_some h).1
theorem cntR_set {pre post : List REnt} {g : REnt} (hn : ((cntR (pre ++ g :: post)).map (·.1)).Nodup) (LL' : List (List ByteArray)) : setC (cntR (pre ++ g :: post)) g.name (g.ar, LL') = cntR (pre ++ { g with LL := LL' } :: post) := by
  have hg : getC (cntR (pre ++ g :: post)) g.name = some (g.ar, g.LL) := (getC_mem hn).2 (List.mem_map.2 ⟨g, by simp, rfl⟩)
  unfold setC
  rw [hg]
  simp only [Option.isSome_some, if_true]
  have e1 : cntR (pre ++ g :: post) = cntR pre ++ g.cnt :: cntR post := by simp [cntR]
  have e2 : cntR (pre ++ { g with LL := LL' } :: post) = cntR pre ++ (g.name, g.ar, LL') :: cntR post := by simp [cntR, REnt.cnt]
  rw [e1] at hn ⊢
  rw [e2]
  rw [List.map_append, List.map_cons, List.nodup_append, List.nodup_cons] at hn
  obtain ⟨_, ⟨p2, _⟩, p4⟩ := hn
  rw [List.map_append, List.map_cons]
  congr 1
  · conv => rhs; rw [← List.map_id (cntR pre)]
    apply List.map_congr_left
    intro x hx
    rw [if_neg]
    · rfl
    · exact p4 x.1 (List.mem_map.2 ⟨x, hx, rfl⟩) g.name (List.mem_cons_self ..)
  · rw [if_pos (show (REnt.cnt g).1 = g.name from rfl)]
    congr 1
    conv => rhs; rw [← List.map_id (cntR post)]
    apply List.map_congr_left
    intro x hx
    rw [if_neg]
    · rfl
    · intro e
      exact p2 (by rw [show (REnt.cnt g).1 = g.name from rfl, ← e]; exact List.mem_map.2 ⟨x, hx, rfl⟩)
theorem cntR_ins (hn : (cntR G).map (·.1) |>.Nodup) {g : REnt} (h : g.name ∉ G.map REnt.name) : (cntR (insN REnt.name G g)).Perm (cntR G ++ [g.cnt]) := by
  unfold cntR
  have := (insN_perm REnt.name G g).map REnt.cnt
  simpa using this
theorem RefOk.ins (h : RefOk G) {g : REnt} (hn : g.name ∉ G.map REnt.name) (hb : BaseOk (cntR G ++ [g.cnt])) : RefOk (insN REnt.name G g) ∧ SameC (cntR (insN REnt.name G g)) (cntR G ++ [g.cnt]) :=
  have hp := cntR_ins h.ok.nodup hn
  ⟨⟨perm_ok hp.symm hb, insN_strict REnt.name h.names hn⟩, (perm_same hp.symm hb.nodup).symm⟩
theorem refRows_cell {c n : Nat} {LL : List (List ByteArray)} (h : RefRows S w c n LL) : w.cell? ⟨c, 0, none⟩ = some (.int .i64 n) ∧ ∃ lo lc, w.cell? ⟨c, 1, none⟩ = some (.slice lo LL.length lc) := by
  obtain ⟨ao, cap, h1, _⟩ := h
  exact ⟨by rw [h1.cell']; rfl, ao, cap, by rw [h1.cell']; rfl⟩
theorem refB_fresh {k c : Nat} (h : RefB S w cb G) (ho : RefOk G) (hn : namedC s = true) (he : findR2 G s = none) (hk : k ≤ 64) (hx : Ext w w1) (hc : w.heap.size ≤ c) (hr : RefRows S w1 c k []) (w2 : World) (hk2 : Kp (fun k => k = cb) w1 w2) (hg : Grows w1 S S')
    (hb : RefB S' w2 cb (insN REnt.name G ⟨s, c, k, []⟩)) : Kp (fun k => k = cb) w w2 ∧ Grows w S S' ∧ RefOk (insN REnt.name G ⟨s, c, k, []⟩) ∧ SameC (cntR (insN REnt.name G ⟨s, c, k, []⟩)) (cntR G ++ [(s, k, [])]) ∧ (insN REnt.name G ⟨s, c, k, []⟩).length ≤ G.length + 1 ∧ ∀ q, OwnG cb (insN REnt.name G ⟨s, c, k, []⟩) q → OwnG cb G q ∨ w.heap.size ≤ q := by
  obtain ⟨g1, g2⟩ := findR2_none he
  have hd : declR (cntR G) s (k : Int) = 0 := declR_none hn (by omega) g1
  have hC : declC (cntR G) s (k : Int) = cntR G ++ [(s, k, [])] := by
    unfold declC
    rw [if_pos ⟨hd, g1⟩]; rfl
  have hbo : BaseOk (cntR G ++ [(s, k, [])]) := by rw [← hC]; exact ok_decl ho.ok s _
  obtain ⟨i1, i2⟩ := ho.ins (g := ⟨s, c, k, []⟩) g2 hbo
  refine ⟨(Ext.kp hx).trans hk2, (Grows.refl w S).trans hg hx.size, i1, i2, by rw [(insN_perm REnt.name G _).length_eq]; simp, fun q hq => ?_⟩
  rcases hq with rfl | ⟨x, hx, rfl⟩
  · exact .inl (.inl rfl)
  · rcases List.mem_append.1 ((insN_perm REnt.name G _).mem_iff.1 hx) with hx | hx
    · exact .inl (.inr ⟨x, hx, rfl⟩)
    · obtain rfl := List.mem_singleton.1 hx
      exact .inr hc
set_option maxRecDepth 100000 in
set_option maxHeartbeats 4000000 in
theorem refBDecl_any (h : RefB S w cb G) (ho : RefOk G) (s : ByteArray) (a : Int) (hl : G.length < 4194304) :
    Calls Tryz.prog 59 #[.pointer (some ⟨cb, 0, none⟩), .string s, .int .i64 a] w (RetF (fun k => k = cb) w fun w' v => v = .int .i64 ((declR (cntR G) s a : Nat) : Int) ∧ RefBTo S w cb G (declC (cntR G) s a) w') := by
  have H := Lib.hid (And.intro h (And.intro ho hl))
  have HN := Lib.hid (refNamed_any s w)
  clear h ho hl
  cases hn : namedC s with
  | false =>
    rw [hn] at HN
    have HNM := Lib.hid hn
    clear hn
    go_enter Tryz.func59, Tryz.ntmps59
    go_wp2_with fail
    refine HN.out.mono ?_
    rintro e w' ⟨rfl, rfl⟩
    go_wp2
    go_ret
    have e2 := declR_name (C := cntR G) a HNM.out
    exact RetF.mk (Kp.refl _) ⟨by rw [e2]; rfl, RefBTo.same H.out.1 H.out.2.1 (Kp.refl _) (declC_not (by rw [e2]; decide))⟩
  | true =>
    rw [hn] at HN
    have HNM := Lib.hid hn
    clear hn
    by_cases ha : a < 0 ∨ 64 < a
    · have HNB := Lib.hid (refNewRows_bad a w ha)
      have HAB := Lib.hid ha
      clear ha
      go_enter Tryz.func59, Tryz.ntmps59
      go_wp2_with fail
      refine HN.out.mono ?_
      rintro e w' ⟨rfl, rfl⟩
      go_wp2_with fail
      refine HNB.out.mono ?_
      rintro e w' ⟨rfl, rfl⟩
      go_wp2
      go_ret
      have e2 := declR_bad (s := s) (C := cntR G) HNM.out HAB.out
      exact RetF.mk (Kp.refl _) ⟨by rw [e2]; rfl, RefBTo.same H.out.1 H.out.2.1 (Kp.refl _) (declC_not (by rw [e2]; decide))⟩
    · obtain ⟨k, rfl⟩ := Int.eq_ofNat_of_zero_le (show 0 ≤ a by omega)
      have hk64 : k ≤ 64 := by omega
      have HNR := Lib.hid (refNewRows_any S w k hk64 H.out.1.inS)
      have HAN := Lib.hid ha
      clear ha
      cases he : findR2 G s with
      | none =>
        have HE := Lib.hid he
        clear he
        go_enter Tryz.func59, Tryz.ntmps59
        go_wp2_with fail
        refine HN.out.mono ?_
        rintro e w' ⟨rfl, rfl⟩
        go_wp2_with fail
        refine HNR.out.mono ?_
        rintro e w1 ⟨v, rfl, hk1, rfl, hrows⟩
        have HK1 := Lib.hid (And.intro hk1 hrows)
        clear hk1 hrows
        go_wp2_with fail
        refine (refBRows_any (H.out.1.ext HK1.out.1) s).mono ?_
        rintro e w2 ⟨v, rfl, hk2, hv⟩
        rw [HE.out] at hv
        replace hv : v = .pointer none := hv
        subst hv
        have HK2 := Lib.hid (And.intro hk2 (HK1.out.1.trans hk2))
        clear hk2
        go_wp2_with fail
        obtain ⟨gc, egc⟩ : ∃ gc, w.heap.size = gc := ⟨_, rfl⟩
        have HP := Lib.hid (refBPut_any (H.out.1.ext HK2.out.2) H.out.2.1.names ⟨s, w.heap.size, k, []⟩ (HK1.out.2.ext HK2.out.1) (fun x hx e => by have := (H.out.1.rows x hx).lt; simp only at e; omega) (fun e => by
          obtain ⟨na, nc, aa, ac, hB, _⟩ := H.out.1.blk
          have := hB.lt
          simp only at e; omega) H.out.2.2)
        refine HP.out.mono ?_
        rintro e w4 ⟨v, rfl, hk4, S', hS', hb⟩
        have HM4 := Lib.hid (And.intro hk4 (And.intro hS' hb))
        clear hk4 hS' hb
        go_wp2
        go_ret
        obtain ⟨g1, g2⟩ := findR2_none HE.out
        have hd : declR (cntR G) s (k : Int) = 0 := declR_none HNM.out (by omega) g1
        obtain ⟨f1, f2, f3, f4, f5, f6⟩ := refB_fresh H.out.1 H.out.2.1 HNM.out HE.out hk64 HK2.out.2 (Nat.le_refl _) (HK1.out.2.ext HK2.out.1) w4 HM4.out.1 HM4.out.2.1 HM4.out.2.2
        refine RetF.mk f1 ⟨by rw [hd]; rfl, S', _, f2, HM4.out.2.2, f3, ?_, f5, f6⟩
        have hC : declC (cntR G) s (k : Int) = cntR G ++ [(s, k, [])] := by
          unfold declC
          rw [if_pos ⟨hd, g1⟩]; rfl
        rw [hC]; exact f4
      | some g =>
        have HE := Lib.hid he
        obtain ⟨c, ec⟩ : ∃ c, g.c = c := ⟨_, rfl⟩
        obtain ⟨ar, ear⟩ : ∃ ar, g.ar = ar := ⟨_, rfl⟩
        have hcell := (refRows_cell (H.out.1.rows g (findR2_some he).1)).1
        rw [ec, ear] at hcell
        have hg := (findR2_cnt he).1
        have hR := declR_some (C := cntR G) HNM.out HAN.out hg
        rw [ear] at hR
        have HR := Lib.hid (And.intro hR (And.intro (declC_some (C := cntR G) (a := (k : Int)) hg) ec))
        clear he ec ear hg hR
        by_cases hq : ar = k
        all_goals
          have HQ := Lib.hid hq
          first
            | have q1 : ((ar : Int) != (k : Int)) = false := by simp [hq]
            | have q1 : ((ar : Int) != (k : Int)) = true := by rw [bne_iff_ne]; omega
          clear hq
          go_enter Tryz.func59, Tryz.ntmps59
          go_wp2_with fail
          refine HN.out.mono ?_
          rintro e w' ⟨rfl, rfl⟩
          go_wp2_with fail
          refine HNR.out.mono ?_
          rintro e w1 ⟨v, rfl, hk1, rfl, hrows⟩
          have HK1 := Lib.hid hk1
          clear hk1 hrows
          go_wp2_with fail
          refine (refBRows_any (H.out.1.ext HK1.out) s).mono ?_
          rintro e w2 ⟨v, rfl, hk2, hv⟩
          rw [HE.out] at hv
          replace hv : v = .pointer (some ⟨g.c, 0, none⟩) := hv
          rw [HR.out.2.2] at hv
          subst hv
          have HK2 := Lib.hid (HK1.out.trans hk2)
          have d1 := HK2.out.cell hcell id
          clear hk2 hcell
          go_wp2
          go_ret
          refine RetF.mk (Ext.kp HK2.out) ⟨?_, RefBTo.same H.out.1 H.out.2.1 HK2.out HR.out.2.1⟩
          rw [HR.out.1]
          first
            | rw [if_pos (by rw [HQ.out])]; rfl
            | rw [if_neg (fun q => HQ.out (by omega))]; rfl
theorem refBAdd_same (h : RefB S w cb G) (ho : RefOk G) (hk : Ext w w1) {n : Nat} (hR : addR (cntR G) s ss = (false, n)) (hn : n ≠ 0) :
    RetF (OwnG cb G) w (fun w' v => v = .tuple #[.bool (addR (cntR G) s ss).1, .int .i64 ((addR (cntR G) s ss).2 : Nat)] ∧ RefBTo S w cb G (addC (cntR G) s ss) w') (.returned (.tuple #[.bool false, .int .i64 (n : Nat)])) w1 :=
  RetF.mk (Ext.kp hk) ⟨by rw [hR], RefBTo.same h ho hk (addC_not (by rw [hR]; exact hn))⟩
theorem rowsAdd_ok {n : Nat} {LL : List (List ByteArray)} (h1 : ss.length = n) (h2 : textsC ss = true) (h3 : ¬ (65536 ≤ LL.length ∧ isIn cmpRow LL ss = false)) : rowsAddR n LL ss = (!isIn cmpRow LL ss, 0) ∧ rowsAddL n LL ss = addS cmpRow LL ss := by
  have e : rowsAddR n LL ss = (!isIn cmpRow LL ss, 0) := by
    unfold rowsAddR
    rw [if_neg (by simp [h1]), if_neg (by simp [h2]), if_neg h3]
  exact ⟨e, by unfold rowsAddL; rw [e, if_pos rfl]⟩
theorem refBAdd_old {g : REnt} (h : RefB S w cb G) (ho : RefOk G) (hf : findR2 G s = some g) (hR : addR (cntR G) s ss = (!isIn cmpRow g.LL ss, 0)) (har : g.ar = ss.length) (hx : Ext w w2) (hk : Kp (fun k => k = g.c) w2 w3) (hS : Grows w2 S S') (hr : RefRows S' w3 g.c g.ar (addS cmpRow g.LL ss)) :
    RetF (OwnG cb G) w (fun w' v => v = .tuple #[.bool (addR (cntR G) s ss).1, .int .i64 ((addR (cntR G) s ss).2 : Nat)] ∧ RefBTo S w cb G (addC (cntR G) s ss) w') (.returned (.tuple #[.bool (!isIn cmpRow g.LL ss), .int .i64 0])) w3 := by
  obtain ⟨g1, g2⟩ := findR2_cnt hf
  obtain ⟨hm, hn⟩ := findR2_some hf
  obtain ⟨pre, post, e⟩ := findR2_split hf
  have hC : addC (cntR G) s ss = setC (cntR G) s (g.ar, addS cmpRow g.LL ss) := by
    unfold addC
    rw [hR, if_pos rfl, g2, har]
  have hbo := ok_add ho.ok s ss
  rw [hC] at hbo ⊢
  have hx2 := (h.ext hx)
  subst e
  have hs := cntR_set ho.ok.nodup (addS cmpRow g.LL ss)
  rw [← hn, hs] at hbo ⊢
  have en : (pre ++ { g with LL := addS cmpRow g.LL ss } :: post).map REnt.name = (pre ++ g :: post).map REnt.name := by simp
  refine RetF.mk ((Ext.kp hx).trans (hk.mono fun k _ e => .inr ⟨g, hm, e⟩)) ⟨by rw [hn, hR]; rfl, S', _, (Grows.refl w S).trans hS hx.size, hx2.turn hk hS hr, ⟨hbo, by rw [en]; exact ho.names⟩, SameC.refl _, by simp, ?_⟩
  rintro k (e | ⟨x, hx, e⟩)
  · exact .inl (.inl e)
  · rcases List.mem_append.1 hx with hx | hx
    · exact .inl (.inr ⟨x, by simp [hx], e⟩)
    · rcases List.mem_cons.1 hx with rfl | hx
      · exact .inl (.inr ⟨g, hm, e⟩)
      · exact .inl (.inr ⟨x, by simp [hx], e⟩)
theorem refBAdd_new {S2 : Nat → Prop} {c : Nat} (h : RefB S w cb G) (ho : RefOk G) (hf : findR2 G s = none) (hn : namedC s = true) (hl : ss.length ≤ 64) (hR : addR (cntR G) s ss = (true, 0)) (hx : Ext w w1) (hc : w.heap.size ≤ c) (hr1 : RefRows S w1 c ss.length []) (hk2 : Kp (fun k => k = cb) w1 w2) (hS2 : Grows w1 S S2) (hb : RefB S2 w2 cb (insN REnt.name G ⟨s, c, ss.length, []⟩))
    (hk : Kp (fun k => k = c) w2 w3) (hS : Grows w2 S2 S') (hr : RefRows S' w3 c ss.length (addS cmpRow [] ss)) :
    RetF (OwnG cb G) w (fun w' v => v = .tuple #[.bool (addR (cntR G) s ss).1, .int .i64 ((addR (cntR G) s ss).2 : Nat)] ∧ RefBTo S w cb G (addC (cntR G) s ss) w') (.returned (.tuple #[.bool true, .int .i64 0])) w3 := by
  obtain ⟨g1, g2⟩ := findR2_none hf
  obtain ⟨f1, f2, f3, f4, f5, f6⟩ := refB_fresh h ho hn hf hl hx hc hr1 w2 hk2 hS2 hb
  have hC : addC (cntR G) s ss = setC (cntR G) s (ss.length, addS cmpRow [] ss) := by
    unfold addC
    rw [hR, if_pos rfl, rows_none g1]
  have hsame : SameC (cntR (insN REnt.name G ⟨s, c, ss.length, addS cmpRow [] ss⟩)) (addC (cntR G) s ss) := by
    have hp := cntR_ins ho.ok.nodup (g := ⟨s, c, ss.length, addS cmpRow [] ss⟩) g2
    rw [hC]
    have e : setC (cntR G) s (ss.length, addS cmpRow [] ss) = cntR G ++ [(s, ss.length, addS cmpRow [] ss)] := by
      unfold setC
      rw [g1]; rfl
    have hbo := ok_add ho.ok s ss
    rw [hC, e] at hbo
    rw [e]
    exact (perm_same hp.symm hbo.nodup).symm
  have hbo := ok_add ho.ok s ss
  have hbo2 : BaseOk (cntR (insN REnt.name G ⟨s, c, ss.length, addS cmpRow [] ss⟩)) := by
    have hp := cntR_ins ho.ok.nodup (g := ⟨s, c, ss.length, addS cmpRow [] ss⟩) g2
    refine perm_ok hp.symm ?_
    have e : setC (cntR G) s (ss.length, addS cmpRow [] ss) = cntR G ++ [(s, ss.length, addS cmpRow [] ss)] := by
      unfold setC
      rw [g1]; rfl
    rw [hC, e] at hbo
    exact hbo
  have hturn : RefB S' w3 cb (insN REnt.name G ⟨s, c, ss.length, addS cmpRow [] ss⟩) := by
    unfold insN at hb ⊢
    exact hb.turn hk hS hr
  refine RetF.mk ((f1.mono fun k _ e => .inl e).trans' hk fun k hk e => by omega) ⟨by rw [hR]; rfl, S', _, f2.trans hS f1.size, hturn, ⟨hbo2, ?_⟩, hsame, ?_, ?_⟩
  · exact insN_strict REnt.name ho.names g2
  · have := (insN_perm REnt.name G ⟨s, c, ss.length, addS cmpRow [] ss⟩).length_eq
    rw [this]; simp
  · rintro k (e | ⟨x, hx, e⟩)
    · exact .inl (.inl e)
    · rcases List.mem_append.1 ((insN_perm REnt.name G _).mem_iff.1 hx) with hx | hx
      · exact .inl (.inr ⟨x, hx, e⟩)
      · obtain rfl := List.mem_singleton.1 hx
        rw [e]; exact .inr hc
set_option maxRecDepth 100000 in
set_option maxHeartbeats 4000000 in
theorem refBAdd_anyE (h : RefB S w cb G) (ho : RefOk G) (s : ByteArray) {xo : Option Addr} {m xc : Nat} {ss : List ByteArray} (hm : m = ss.length) (hx : CellsAt w xo (strs ss)) (hss : ss.length ≤ 8796093021952) (hxo : ss ≠ [] → Off (fun k => k = cb) xo) (hl : G.length < 4194304) :
    Calls Tryz.prog 60 #[.pointer (some ⟨cb, 0, none⟩), .string s, .slice xo m xc] w (RetF (OwnG cb G) w fun w' v => v = .tuple #[.bool (addR (cntR G) s ss).1, .int .i64 ((addR (cntR G) s ss).2 : Nat)] ∧ RefBTo S w cb G (addC (cntR G) s ss) w') := by
  have H := Lib.hid (And.intro h (And.intro ho hl))
  have HN := Lib.hid (refNamed_any s w)
  have HX := Lib.hid (And.intro hm (And.intro hx (And.intro hss hxo)))
  have HT := Lib.hid (fun W (hW : Ext w W) => refTexts_any ss xo m xc W hm (hx.ext hW) (by omega))
  have hm8 : m ≤ 8796093021952 := by omega
  clear h ho hl hm hx hss hxo
  cases hn : namedC s with
  | false =>
    rw [hn] at HN
    have HNM := Lib.hid hn
    clear hn
    go_enter Tryz.func60, Tryz.ntmps60
    go_wp2_with fail
    refine HN.out.mono ?_
    rintro e w' ⟨rfl, rfl⟩
    go_wp2
    go_ret2
    exact refBAdd_same H.out.1 H.out.2.1 (Kp.refl _) (addR_name ss HNM.out) (by decide)
  | true =>
    rw [hn] at HN
    have HNM := Lib.hid hn
    clear hn
    cases hf : findR2 G s with
    | some g =>
      obtain ⟨hmem, hname⟩ := findR2_some hf
      obtain ⟨hget, hrows⟩ := findR2_cnt hf
      have hrr := H.out.1.rows g hmem
      have hok := H.out.2.1.ok.all g.cnt (List.mem_map.2 ⟨g, hmem, rfl⟩)
      have har64 : g.ar ≤ 64 := hok.ar
      have hst : Strict cmpRow g.LL := hok.strict
      have hfew : g.LL.length ≤ 65536 := hok.few
      obtain ⟨d0, lo, lc, d1⟩ := refRows_cell hrr
      have HF := Lib.hid (And.intro hf (And.intro hget (And.intro hrows (And.intro hrr hst))))
      have HB := Lib.hid (refBRows_any H.out.1 s)
      have HFind := Lib.hid (fun W (hW : Ext w W) => refRowFind_any (hrr.ext hW) hst (xc := xc) HX.out.1 (HX.out.2.1.ext hW) HX.out.2.2.1)
      have HAdd := Lib.hid (fun W (hW : Ext w W) => refAdd_any (hrr.ext hW) hst (xc := xc) HX.out.1 (HX.out.2.1.ext hW) HX.out.2.2.1 (by omega))
      have HLen := Lib.hid (fun W (hW : Ext w W) => refBLen_any (H.out.1.ext hW) (by have := H.out.2.1.ok.few; omega))
      obtain ⟨c, ec⟩ : ∃ c, g.c = c := ⟨_, rfl⟩
      obtain ⟨ar, ear⟩ : ∃ ar, g.ar = ar := ⟨_, rfl⟩
      obtain ⟨ln, eln⟩ : ∃ ln, g.LL.length = ln := ⟨_, rfl⟩
      have hB2 : Calls Tryz.prog 96 #[.pointer (some ⟨cb, 0, none⟩), .string s] w (RetN w fun w' v => v = .pointer (some ⟨c, 0, none⟩)) := by
        rw [← ec]; have := HB.out; rw [hf] at this; exact this
      have HB2 := Lib.hid hB2
      rw [ec] at d0 d1 HFind HAdd
      rw [ear] at d0 har64
      rw [eln] at d1 hfew
      have HE := Lib.hid (And.intro ec (And.intro ear eln))
      clear hf hmem hname hget hrows hrr hok hst HB hB2 ec ear eln
      by_cases h64 : m ≤ 64
      · by_cases har : ar = m
        · have q1 : ((ar : Int) != (m : Int)) = false := by simp [har]
          have t1 : decide ((m : Int) > 64) = false := by simp; omega
          have t2 : decide (64 < (m : Int)) = false := by simp; omega
          have HAr := Lib.hid har
          have hlen : ss.length = g.ar := by rw [HE.out.2.1, HAr.out, HX.out.1]
          have hao : arOk (cntR G) s ss = true := ar_some HF.out.2.1 hlen.symm
          have HAo := Lib.hid (And.intro hlen hao)
          clear har hlen hao h64 hm8 har64
          cases ht : textsC ss with
          | false =>
            have HT2 := Lib.hid ht
            rw [ht] at HT
            clear ht
            go_enter Tryz.func60, Tryz.ntmps60
            go_wp2_with fail
            refine HN.out.mono ?_
            rintro e w' ⟨rfl, rfl⟩
            go_wp2_with fail
            refine HB2.out.mono ?_
            rintro e w1 ⟨v, rfl, hk1, rfl⟩
            have d01 := hk1.cell d0 id
            have HK1 := Lib.hid hk1
            clear hk1 d0 d1
            go_wp2_with fail
            refine (HT.out w1 HK1.out).mono ?_
            rintro e w' ⟨rfl, rfl⟩
            go_wp2
            go_ret2
            exact refBAdd_same H.out.1 H.out.2.1 HK1.out (addR_text HNM.out HAo.out.2 HT2.out) (by decide)
          | true =>
            have HT2 := Lib.hid ht
            rw [ht] at HT
            clear ht
            cases hin : isIn cmpRow g.LL ss with
            | true =>
              have hRR := addR_rest (C := cntR G) (row := ss) HNM.out HAo.out.2 HT2.out (by rw [HF.out.2.2.1, hin]; simp)
              rw [HF.out.2.2.1, hin, if_neg (by simp)] at hRR
              have hadd := rowsAdd_ok (n := g.ar) (LL := g.LL) (ss := ss) HAo.out.1 HT2.out (by rw [hin]; simp)
              have ef : findR g.LL ss = (below cmpRow g.LL ss : Nat) := by unfold findR; rw [if_pos hin]
              rw [ef] at HFind
              obtain ⟨bl, ebl⟩ : ∃ bl, below cmpRow g.LL ss = bl := ⟨_, rfl⟩
              rw [ebl] at HFind
              have HIn := Lib.hid (And.intro hRR (And.intro hadd hin))
              have t1' : decide ((bl : Int) < 0) = false := by simp
              clear hRR hadd hin ef ebl
              go_enter Tryz.func60, Tryz.ntmps60
              go_wp2_with fail
              refine HN.out.mono ?_
              rintro e w' ⟨rfl, rfl⟩
              go_wp2_with fail
              refine HB2.out.mono ?_
              rintro e w1 ⟨v, rfl, hk1, rfl⟩
              have d01 := hk1.cell d0 id
              have HK1 := Lib.hid hk1
              clear hk1 d0 d1
              go_wp2_with fail
              refine (HT.out w1 HK1.out).mono ?_
              rintro e w' ⟨rfl, rfl⟩
              go_wp2_with fail
              refine (HFind.out w1 HK1.out).mono ?_
              rintro e w2 ⟨v, rfl, hk2, rfl⟩
              have HK2 := Lib.hid (HK1.out.trans hk2)
              clear hk2
              go_wp2_with fail
              refine (HAdd.out w2 HK2.out).mono ?_
              rintro e w3 ⟨v, rfl, hk3, hv, S', hS', hr3⟩
              rw [HIn.out.2.1.1, HIn.out.2.2] at hv
              subst hv
              have HK3 := Lib.hid (And.intro hk3 (And.intro hS' hr3))
              clear hk3 hS' hr3
              go_wp2
              go_ret2
              have hfin := refBAdd_old (ss := ss) H.out.1 H.out.2.1 HF.out.1 (by rw [HIn.out.1, HIn.out.2.2]) HAo.out.1.symm HK2.out (by rw [HE.out.1]; exact HK3.out.1) HK3.out.2.1 (by rw [HE.out.1]; rw [← HIn.out.2.1.2]; exact HK3.out.2.2)
              rw [HIn.out.2.2] at hfin
              exact hfin
            | false =>
              have ef : findR g.LL ss = -1 := by unfold findR; rw [if_neg (by simp [hin])]
              rw [ef] at HFind
              have hir : isIn cmpRow (rowsC (cntR G) s) ss = false := by rw [HF.out.2.2.1]; exact hin
              obtain ⟨tot, etot⟩ : ∃ tot, totalC (cntR G) = tot := ⟨_, rfl⟩
              rw [etot] at HLen
              by_cases hmany : 262144 ≤ tot
              · have t3 : decide ((tot : Int) ≥ 262144) = true := by simp; omega
                have t4 : decide ((262144 : Int) ≤ (tot : Int)) = true := by simp; omega
                have hR := addR_many (C := cntR G) HNM.out HAo.out.2 HT2.out (by rw [etot]; exact hmany) hir
                have HR := Lib.hid hR
                clear hin ef hir etot hmany hR
                go_enter Tryz.func60, Tryz.ntmps60
                go_wp2_with fail
                refine HN.out.mono ?_
                rintro e w' ⟨rfl, rfl⟩
                go_wp2_with fail
                refine HB2.out.mono ?_
                rintro e w1 ⟨v, rfl, hk1, rfl⟩
                have d01 := hk1.cell d0 id
                have HK1 := Lib.hid hk1
                clear hk1 d0 d1
                go_wp2_with fail
                refine (HT.out w1 HK1.out).mono ?_
                rintro e w' ⟨rfl, rfl⟩
                go_wp2_with fail
                refine (HFind.out w1 HK1.out).mono ?_
                rintro e w2 ⟨v, rfl, hk2, rfl⟩
                have HK2 := Lib.hid (HK1.out.trans hk2)
                clear hk2
                go_wp2_with fail
                refine (HLen.out w2 HK2.out).mono ?_
                rintro e w3 ⟨v, rfl, hk3, rfl⟩
                have HK3 := Lib.hid (HK2.out.trans hk3)
                clear hk3
                go_wp2
                go_ret2
                exact refBAdd_same H.out.1 H.out.2.1 HK3.out HR.out (by decide)
              · have t3 : decide ((tot : Int) ≥ 262144) = false := by simp; omega
                have t4 : decide ((262144 : Int) ≤ (tot : Int)) = false := by simp; omega
                have hRR := addR_rest (C := cntR G) (row := ss) HNM.out HAo.out.2 HT2.out (by rw [etot]; omega)
                rw [HF.out.2.2.1, hin] at hRR
                by_cases hfull : 65536 ≤ ln
                · have t5 : decide ((ln : Int) ≥ 65536) = true := by simp; omega
                  have t6 : decide ((65536 : Int) ≤ (ln : Int)) = true := by simp; omega
                  rw [if_pos ⟨by rw [HE.out.2.2]; exact hfull, rfl⟩] at hRR
                  have HR := Lib.hid hRR
                  clear hin ef hir etot hmany hRR hfull hfew
                  go_enter Tryz.func60, Tryz.ntmps60
                  go_wp2_with fail
                  refine HN.out.mono ?_
                  rintro e w' ⟨rfl, rfl⟩
                  go_wp2_with fail
                  refine HB2.out.mono ?_
                  rintro e w1 ⟨v, rfl, hk1, rfl⟩
                  have d01 := hk1.cell d0 id
                  have HK1 := Lib.hid hk1
                  clear hk1 d0
                  go_wp2_with fail
                  refine (HT.out w1 HK1.out).mono ?_
                  rintro e w' ⟨rfl, rfl⟩
                  go_wp2_with fail
                  refine (HFind.out w1 HK1.out).mono ?_
                  rintro e w2 ⟨v, rfl, hk2, rfl⟩
                  have HK2 := Lib.hid (HK1.out.trans hk2)
                  clear hk2
                  go_wp2_with fail
                  refine (HLen.out w2 HK2.out).mono ?_
                  rintro e w3 ⟨v, rfl, hk3, rfl⟩
                  have HK3 := Lib.hid (HK2.out.trans hk3)
                  have d13 := HK3.out.cell d1 id
                  clear hk3 d1
                  go_wp2
                  go_ret2
                  exact refBAdd_same H.out.1 H.out.2.1 HK3.out HR.out (by decide)
                · have t5 : decide ((ln : Int) ≥ 65536) = false := by simp; omega
                  have t6 : decide ((65536 : Int) ≤ (ln : Int)) = false := by simp; omega
                  rw [if_neg (fun h => hfull (by rw [← HE.out.2.2]; exact h.1))] at hRR
                  have hadd := rowsAdd_ok (n := g.ar) (LL := g.LL) (ss := ss) HAo.out.1 HT2.out (fun h => hfull (by rw [← HE.out.2.2]; exact h.1))
                  have HIn := Lib.hid (And.intro hRR (And.intro hadd hin))
                  clear hin ef hir etot hmany hRR hfull hfew hadd
                  go_enter Tryz.func60, Tryz.ntmps60
                  go_wp2_with fail
                  refine HN.out.mono ?_
                  rintro e w' ⟨rfl, rfl⟩
                  go_wp2_with fail
                  refine HB2.out.mono ?_
                  rintro e w1 ⟨v, rfl, hk1, rfl⟩
                  have d01 := hk1.cell d0 id
                  have HK1 := Lib.hid hk1
                  clear hk1 d0
                  go_wp2_with fail
                  refine (HT.out w1 HK1.out).mono ?_
                  rintro e w' ⟨rfl, rfl⟩
                  go_wp2_with fail
                  refine (HFind.out w1 HK1.out).mono ?_
                  rintro e w2 ⟨v, rfl, hk2, rfl⟩
                  have HK2 := Lib.hid (HK1.out.trans hk2)
                  clear hk2
                  go_wp2_with fail
                  refine (HLen.out w2 HK2.out).mono ?_
                  rintro e w3 ⟨v, rfl, hk3, rfl⟩
                  have HK3 := Lib.hid (HK2.out.trans hk3)
                  have d13 := HK3.out.cell d1 id
                  clear hk3 d1
                  go_wp2_with fail
                  refine (HAdd.out w3 HK3.out).mono ?_
                  rintro e w4 ⟨v, rfl, hk4, hv, S', hS', hr4⟩
                  rw [HIn.out.2.1.1, HIn.out.2.2] at hv
                  subst hv
                  have HK4 := Lib.hid (And.intro hk4 (And.intro hS' hr4))
                  clear hk4 hS' hr4
                  go_wp2
                  go_ret2
                  have hfin := refBAdd_old (ss := ss) H.out.1 H.out.2.1 HF.out.1 (by rw [HIn.out.1, HIn.out.2.2]) HAo.out.1.symm HK3.out (by rw [HE.out.1]; exact HK4.out.1) HK4.out.2.1 (by rw [HE.out.1]; rw [← HIn.out.2.1.2]; exact HK4.out.2.2)
                  rw [HIn.out.2.2] at hfin
                  exact hfin
        · have q1 : ((ar : Int) != (m : Int)) = true := by rw [bne_iff_ne]; omega
          have t1 : decide ((m : Int) > 64) = false := by simp; omega
          have t2 : decide (64 < (m : Int)) = false := by simp; omega
          have hR := addR_arity (row := ss) HNM.out HF.out.2.1 (by rw [← HX.out.1]; show g.ar ≠ m; rw [HE.out.2.1]; exact har)
          have HR := Lib.hid hR
          clear har hR h64 hm8 har64 d1
          go_enter Tryz.func60, Tryz.ntmps60
          go_wp2_with fail
          refine HN.out.mono ?_
          rintro e w' ⟨rfl, rfl⟩
          go_wp2_with fail
          refine HB2.out.mono ?_
          rintro e w1 ⟨v, rfl, hk1, rfl⟩
          have d01 := hk1.cell d0 id
          have HK1 := Lib.hid hk1
          clear hk1 d0
          go_wp2
          go_ret2
          exact refBAdd_same H.out.1 H.out.2.1 HK1.out HR.out (by decide)
      · have t1 : decide ((m : Int) > 64) = true := by simp; omega
        have t2 : decide (64 < (m : Int)) = true := by simp; omega
        have hR := addR_arity (row := ss) HNM.out HF.out.2.1 (by rw [← HX.out.1]; show g.ar ≠ m; rw [HE.out.2.1]; omega)
        have HR := Lib.hid hR
        clear hR h64 hm8 har64 d0 d1
        go_enter Tryz.func60, Tryz.ntmps60
        go_wp2_with fail
        refine HN.out.mono ?_
        rintro e w' ⟨rfl, rfl⟩
        go_wp2_with fail
        refine HB2.out.mono ?_
        rintro e w1 ⟨v, rfl, hk1, rfl⟩
        have HK1 := Lib.hid hk1
        clear hk1
        go_wp2
        go_ret2
        exact refBAdd_same H.out.1 H.out.2.1 HK1.out HR.out (by decide)
    | none =>
      obtain ⟨hget, hno⟩ := findR2_none hf
      have HB := Lib.hid (refBRows_any H.out.1 s)
      rw [hf] at HB
      have HB2 := Lib.hid (show Calls Tryz.prog 96 #[.pointer (some ⟨cb, 0, none⟩), .string s] w (RetN w fun w' v => v = .pointer none) from HB.out)
      have HLen := Lib.hid (fun W (hW : Ext w W) => refBLen_any (H.out.1.ext hW) (by have := H.out.2.1.ok.few; omega))
      have HF := Lib.hid (And.intro hf (And.intro hget hno))
      clear hf hget hno HB
      by_cases h64 : m ≤ 64
      · have t1 : decide ((m : Int) > 64) = false := by simp; omega
        have t2 : decide (64 < (m : Int)) = false := by simp; omega
        have hss : ss.length ≤ 64 := by rw [← HX.out.1]; exact h64
        have hao : arOk (cntR G) s ss = true := ar_none HF.out.2.1 hss
        have HAo := Lib.hid (And.intro hss hao)
        clear hss hao h64 hm8
        cases ht : textsC ss with
        | false =>
          have HT2 := Lib.hid ht
          rw [ht] at HT
          clear ht
          go_enter Tryz.func60, Tryz.ntmps60
          go_wp2_with fail
          refine HN.out.mono ?_
          rintro e w' ⟨rfl, rfl⟩
          go_wp2_with fail
          refine HB2.out.mono ?_
          rintro e w1 ⟨v, rfl, hk1, rfl⟩
          have HK1 := Lib.hid hk1
          clear hk1
          go_wp2_with fail
          refine (HT.out w1 HK1.out).mono ?_
          rintro e w' ⟨rfl, rfl⟩
          go_wp2
          go_ret2
          exact refBAdd_same H.out.1 H.out.2.1 HK1.out (addR_text HNM.out HAo.out.2 HT2.out) (by decide)
        | true =>
          have HT2 := Lib.hid ht
          rw [ht] at HT
          clear ht
          have hir : isIn cmpRow (rowsC (cntR G) s) ss = false := by rw [rows_none HF.out.2.1]; rfl
          obtain ⟨tot, etot⟩ : ∃ tot, totalC (cntR G) = tot := ⟨_, rfl⟩
          rw [etot] at HLen
          by_cases hmany : 262144 ≤ tot
          · have t3 : decide ((tot : Int) ≥ 262144) = true := by simp; omega
            have t4 : decide ((262144 : Int) ≤ (tot : Int)) = true := by simp; omega
            have HR := Lib.hid (addR_many (C := cntR G) HNM.out HAo.out.2 HT2.out (by rw [etot]; exact hmany) hir)
            clear hir etot hmany
            go_enter Tryz.func60, Tryz.ntmps60
            go_wp2_with fail
            refine HN.out.mono ?_
            rintro e w' ⟨rfl, rfl⟩
            go_wp2_with fail
            refine HB2.out.mono ?_
            rintro e w1 ⟨v, rfl, hk1, rfl⟩
            have HK1 := Lib.hid hk1
            clear hk1
            go_wp2_with fail
            refine (HT.out w1 HK1.out).mono ?_
            rintro e w' ⟨rfl, rfl⟩
            go_wp2_with fail
            refine (refRowFind_nil _ w1).mono ?_
            rintro e w' ⟨rfl, rfl⟩
            go_wp2_with fail
            refine (HLen.out w1 HK1.out).mono ?_
            rintro e w3 ⟨v, rfl, hk3, rfl⟩
            have HK3 := Lib.hid (HK1.out.trans hk3)
            clear hk3
            go_wp2
            go_ret2
            exact refBAdd_same H.out.1 H.out.2.1 HK3.out HR.out (by decide)
          · have t3 : decide ((tot : Int) ≥ 262144) = false := by simp; omega
            have t4 : decide ((262144 : Int) ≤ (tot : Int)) = false := by simp; omega
            have hRR := addR_rest (C := cntR G) (row := ss) HNM.out HAo.out.2 HT2.out (by rw [etot]; omega)
            rw [rows_none HF.out.2.1, if_neg (by simp)] at hRR
            have hadd := rowsAdd_ok (n := ss.length) (LL := []) (ss := ss) rfl HT2.out (by simp)
            have HIn := Lib.hid (And.intro hRR hadd)
            clear hir etot hmany hRR hadd
            have hcb : cb < w.heap.size := by obtain ⟨na, nc, aa, ac, hB, _⟩ := H.out.1.blk; exact hB.lt
            have HCb := Lib.hid hcb
            clear hcb
            go_enter Tryz.func60, Tryz.ntmps60
            go_wp2_with fail
            refine HN.out.mono ?_
            rintro e w' ⟨rfl, rfl⟩
            go_wp2_with fail
            refine HB2.out.mono ?_
            rintro e w1 ⟨v, rfl, hk1, rfl⟩
            have HK1 := Lib.hid hk1
            clear hk1
            go_wp2_with fail
            refine (HT.out w1 HK1.out).mono ?_
            rintro e w' ⟨rfl, rfl⟩
            go_wp2_with fail
            refine (refRowFind_nil _ w1).mono ?_
            rintro e w' ⟨rfl, rfl⟩
            go_wp2_with fail
            refine (HLen.out w1 HK1.out).mono ?_
            rintro e w3 ⟨v, rfl, hk3, rfl⟩
            have HK3 := Lib.hid (HK1.out.trans hk3)
            clear hk3
            go_wp2_with fail
            obtain ⟨gc, egc⟩ : ∃ gc, w3.heap.size = gc := ⟨_, rfl⟩
            obtain ⟨w4, ew4⟩ : ∃ w4, w3.alloc (.cells #[.int .i64 m, .slice none 0 0] 149) = w4 := ⟨_, rfl⟩
            rw [egc, ew4]
            have hz3 := HK3.out.size
            have hB4 : Blk w4 gc [.int .i64 m, .slice none 0 0] 149 := by rw [← ew4, ← egc]; exact Blk.new w3 [_, _] _
            have hk4 : Ext w w4 := by rw [← ew4]; exact HK3.out.alloc _
            have hr4 : RefRows S w4 gc m [] := ⟨none, 0, hB4, RowsIn.nil _ _, ⟨Nat.le_refl _, by decide, .inl ⟨rfl, rfl⟩⟩, fun h => by have := H.out.1.inS _ h; omega, fun k h => Nat.lt_of_lt_of_le (H.out.1.inS k h) hk4.size, by simp⟩
            have HK4 := Lib.hid (And.intro hk4 (And.intro hr4 (show w.heap.size ≤ gc by omega)))
            have HP := Lib.hid (refBPut_any (H.out.1.ext hk4) H.out.2.1.names ⟨s, gc, m, []⟩ hr4 (fun x hx e => by have := (H.out.1.rows x hx).lt; simp only at e; omega) (fun e => by have := HCb.out; simp only at e; omega) H.out.2.2)
            clear hB4 hk4 hr4 ew4 egc hz3
            refine HP.out.mono ?_
            rintro e w5 ⟨v, rfl, hk5, S2, hS2, hb5⟩
            have hgm : (⟨s, gc, m, []⟩ : REnt) ∈ insN REnt.name G ⟨s, gc, m, []⟩ := (insN_perm REnt.name G _).mem_iff.2 (by simp)
            have hr5 : RefRows S2 w5 gc m [] := hb5.rows _ hgm
            have hx5 : CellsAt w5 xo (strs ss) := by
              by_cases e0 : ss = []
              · rw [e0]; exact CellsAt.nil _ _
              · exact (HX.out.2.1.ext HK4.out.1).kp hk5 fun a e f => HX.out.2.2.2 e0 a e f
            have HK5 := Lib.hid (And.intro hk5 (And.intro hS2 (And.intro hb5 (And.intro hr5 hx5))))
            clear hk5 hS2 hb5 hr5 hx5 hgm
            go_wp2_with fail
            refine (refAdd_any HK5.out.2.2.2.1 strict_nil (xc := xc) HX.out.1 HK5.out.2.2.2.2 HX.out.2.2.1 (by simp)).mono ?_
            rintro e w6 ⟨v, rfl, hk6, hv, S', hS', hr6⟩
            have hm2 := HX.out.1
            rw [hm2, HIn.out.2.1] at hv
            subst hv
            have HK6 := Lib.hid (And.intro hk6 (And.intro hS' hr6))
            clear hk6 hS' hr6 hm2
            go_wp2
            go_ret2
            have hm2 := HX.out.1
            have hr6 := HK6.out.2.2
            have hb5 := HK5.out.2.2.1
            have hr4 := HK4.out.2.1
            rw [hm2] at hr4 hb5 hr6
            rw [HIn.out.2.2] at hr6
            exact refBAdd_new H.out.1 H.out.2.1 HF.out.1 HNM.out HAo.out.1 HIn.out.1 HK4.out.1 HK4.out.2.2 hr4 HK5.out.1 HK5.out.2.1 hb5 HK6.out.1 HK6.out.2.1 hr6
      · have t1 : decide ((m : Int) > 64) = true := by simp; omega
        have t2 : decide (64 < (m : Int)) = true := by simp; omega
        have HR := Lib.hid (addR_long (row := ss) HNM.out HF.out.2.1 (by rw [← HX.out.1]; omega))
        clear h64 hm8
        go_enter Tryz.func60, Tryz.ntmps60
        go_wp2_with fail
        refine HN.out.mono ?_
        rintro e w' ⟨rfl, rfl⟩
        go_wp2_with fail
        refine HB2.out.mono ?_
        rintro e w1 ⟨v, rfl, hk1, rfl⟩
        have HK1 := Lib.hid hk1
        clear hk1
        go_wp2
        go_ret2
        exact refBAdd_same H.out.1 H.out.2.1 HK1.out HR.out (by decide)
end
end Go.Proofs.YtomeebimmmfmbaaGreat

/- The document's Base: Relations. -/
namespace Go.Proofs.YtomeebimmmfmbaaGreat
open Go.RowKit
set_option linter.unusedVariables false
end Go.Proofs.YtomeebimmmfmbaaGreat

/- The document's counts: Gather. -/
namespace Go.Proofs.YtomeebimmmfmbaaGreat
open Go.RowKit
set_option linter.unusedVariables false
attribute [local go_sem] run_store_float
end Go.Proofs.YtomeebimmmfmbaaGreat
