/- Texts joined for a claim (RefBase, RefBaseNil, RefBasePut, RefBaseAdd, RefBaseDrop, RefBaseCopy, RefBaseFrom, RefBaseMerge, RefBaseRels). -/
import Derived.Test.YtfkhelihepbehaaGreatBa5
import Derived.StillTailTactics
/- The document's Base in memory: names and Rows beside each other; looking up. -/
namespace Go.Proofs.YtfkhelihepbehaaGreat
open Go.RowKit
set_option linter.unusedVariables false

/-- The document's rows under a name. -/
structure REnt where
  name : ByteArray
  c : Nat
  ar : Nat
  LL : List (List ByteArray)
def REnt.ptr (g : REnt) : Value := .pointer (some ⟨g.c, 0, none⟩)
def REnt.cnt (g : REnt) : CntZ := (g.name, g.ar, g.LL)
def cntR (G : List REnt) : List CntZ := G.map REnt.cnt
def findR2 (G : List REnt) (s : ByteArray) : Option REnt := G.find? fun g => decide (g.name = s)
def optPtrR : Option REnt → Value
  | some g => g.ptr
  | none => .pointer none
theorem findR2_at {s : ByteArray} : ∀ {G : List REnt} {i : Nat} {g : REnt}, G[i]? = some g → g.name = s → (∀ (j : Nat) (g' : REnt), j < i → G[j]? = some g' → g'.name ≠ s) → findR2 G s = some g
  | [], i, g, h, _, _ => by simp at h
  | a :: G, 0, g, h, hn, _ => by
    simp at h; subst h
    unfold findR2
    rw [List.find?_cons, decide_eq_true hn]
  | a :: G, i + 1, g, h, hn, hb => by
    have ha := hb 0 a (by omega) rfl
    unfold findR2
    rw [List.find?_cons, decide_eq_false ha]
    exact findR2_at (i := i) (by simpa using h) hn fun j g' hj hg => hb (j + 1) g' (by omega) (by simpa using hg)
theorem findR2_no {s : ByteArray} {G : List REnt} (h : ∀ (j : Nat) (g : REnt), j < G.length → G[j]? = some g → g.name ≠ s) : findR2 G s = none := by
  unfold findR2
  rw [List.find?_eq_none]
  intro g hg
  obtain ⟨i, hi, e⟩ := List.getElem_of_mem hg
  simpa using h i g hi (by rw [List.getElem?_eq_getElem hi, e])
/-- How a list lies: from the head of its block on, or nowhere. -/
def FormG (n : Nat) (ao : Option Addr) (cap : Nat) : Prop := n ≤ cap ∧ cap ≤ maxLen ∧ (ao = none ∧ cap = 0 ∨ ∃ g, ao = some ⟨g, 0, none⟩)
theorem Row.form {w : World} {e : TypeId} {v : Value} {n : Nat} {xs : List Value} {M : Nat → Prop} (h : Row w e 1 v n xs M) : ∃ ao cap, v = .slice ao n cap ∧ CellsAt w ao xs ∧ FormG n ao cap ∧ ∀ a, ao = some a → M a.block ∧ a.block < w.heap.size := by
  obtain ⟨h1, ⟨rfl, rfl⟩ | ⟨g, cap, rest, rfl, b, c, d, e, f⟩⟩ := h
  · have : xs = [] := List.eq_nil_of_length_eq_zero (by simpa using h1)
    subst this
    exact ⟨none, 0, rfl, CellsAt.nil _ _, ⟨Nat.le_refl _, by decide, .inl ⟨rfl, rfl⟩⟩, fun a e => by cases e⟩
  · exact ⟨_, cap, rfl, CellsAt.pre c, ⟨e, f, .inr ⟨g, rfl⟩⟩, fun a e => by cases e; exact ⟨b, c.lt⟩⟩
structure RefB (S : Nat → Prop) (w : World) (cb : Nat) (G : List REnt) : Prop where
  blk : ∃ na nc aa ac, Blk w cb [.slice na G.length nc, .slice aa G.length ac] 106 ∧ CellsAt w na (strs (G.map REnt.name)) ∧ CellsAt w aa (G.map REnt.ptr) ∧ (∀ a, na = some a → S a.block) ∧ (∀ a, aa = some a → S a.block) ∧ FormG G.length na nc ∧ FormG G.length aa ac
  rows : ∀ g ∈ G, RefRows S w g.c g.ar g.LL
  apart : G.Pairwise fun g h => g.c ≠ h.c
  notS : ¬ S cb
  off : ∀ g ∈ G, g.c ≠ cb
  inS : ∀ k, S k → k < w.heap.size
  len : G.length ≤ 4194304
section
variable {S : Nat → Prop} {w w' : World} {cb : Nat} {G : List REnt}
def OwnG (cb : Nat) (G : List REnt) (k : Nat) : Prop := k = cb ∨ ∃ g ∈ G, k = g.c
theorem RefB.kp {F : Nat → Prop} (h : RefB S w cb G) (hk : Kp F w w') (hF : ∀ k, F k → ¬ OwnG cb G k) (hS : ∀ k, F k → ¬ S k) : RefB S w' cb G := by
  obtain ⟨na, nc, aa, ac, h1, h2, h3, h4, h5, h6⟩ := h.blk
  exact ⟨⟨na, nc, aa, ac, h1.kp hk (fun f => hF _ f (.inl rfl)), h2.kp hk (fun a e f => hS _ f (h4 a e)), h3.kp hk (fun a e f => hS _ f (h5 a e)), h4, h5, h6⟩,
    fun g hg => (h.rows g hg).kp hk (fun f => hF _ f (.inr ⟨g, hg, rfl⟩)) hS, h.apart, h.notS, h.off, fun k hk' => Nat.lt_of_lt_of_le (h.inS k hk') hk.size, h.len⟩
theorem RefB.ext (h : RefB S w cb G) (hk : Ext w w') : RefB S w' cb G := h.kp hk (fun _ x => x.elim) (fun _ x => x.elim)
theorem refBRows_nil (v : Value) (w : World) : Calls Tryz.prog 79 #[.pointer none, v] w (Ret (.pointer none) w) := by
  go_enter Tryz.func79, Tryz.ntmps79
  go_wp2
  go_ret
  exact Ret.mk rfl
set_option maxRecDepth 100000 in
set_option maxHeartbeats 1000000 in
theorem refBRows_any (h : RefB S w cb G) (s : ByteArray) : Calls Tryz.prog 79 #[.pointer (some ⟨cb, 0, none⟩), .string s] w (RetN w fun w' v => v = optPtrR (findR2 G s)) := by
  obtain ⟨na, nc, aa, ac, hB, hN, hA, _, _⟩ := h.blk
  obtain ⟨n, en⟩ : ∃ n, G.length = n := ⟨_, rfl⟩
  have hl := h.len
  rw [en] at hB hl
  have c0 : w.cell? ⟨cb, 0, none⟩ = some (.slice na n nc) := by rw [hB.cell']; rfl
  have c1 : w.cell? ⟨cb, 1, none⟩ = some (.slice aa n ac) := by rw [hB.cell']; rfl
  have HCell := Lib.hid (fun w' (hw : Ext w w') => (⟨hw.cell c0 id, hw.cell c1 id⟩ : w'.cell? ⟨cb, 0, none⟩ = some (.slice na n nc) ∧ w'.cell? ⟨cb, 1, none⟩ = some (.slice aa n ac)))
  have HG := Lib.hid (And.intro en (And.intro hN hA))
  clear h hB hN hA en
  go_enter Tryz.func79, Tryz.ntmps79
  go_wp2
  clear c0 c1
  go_loopw [5] (fun kv wr => ∃ i : Nat, i ≤ n ∧ kv = .int .i64 i ∧ Hid (Ext w wr) ∧ Hid (∀ (j : Nat) (g : REnt), j < i → G[j]? = some g → g.name ≠ s)) (fun k _ => n - (intOf k).toNat)
  case atStart => exact ⟨0, Nat.zero_le _, rfl, Lib.hid (Kp.refl _), Lib.hid fun j g hj => by omega⟩
  case round =>
    obtain ⟨i, hi, rfl, hex, hin⟩ := hrel
    obtain ⟨c0, c1⟩ := HCell.out wr hex.out
    by_cases hlt : i < n
    · obtain ⟨g, hg⟩ : ∃ g, G[i]? = some g := ⟨_, List.getElem?_eq_getElem (by rw [HG.out.1]; exact hlt)⟩
      obtain ⟨nb, no, rfl, d0⟩ := HG.out.2.1 i (.string g.name) (by simp [strs, hg])
      obtain ⟨ab, ao, rfl, d1⟩ := HG.out.2.2 i g.ptr (by simp [hg])
      replace d0 := hex.out.cell d0 id
      replace d1 := hex.out.cell d1 id
      obtain ⟨x, ex⟩ : ∃ x, g.name = x := ⟨_, rfl⟩
      obtain ⟨p, ep⟩ : ∃ p, g.c = p := ⟨_, rfl⟩
      have ept : g.ptr = .pointer (some ⟨p, 0, none⟩) := by rw [← ep]; rfl
      rw [ex] at d0
      rw [ept] at d1
      have HGi := Lib.hid (And.intro hg (And.intro ex ept))
      clear hg ex ep ept
      by_cases hxs : x = s
      · subst hxs
        have HX := Lib.hid hex.out
        have q1 : (x.toList == x.toList) = true := by simp
        go_wp2
        go_ret
        refine RetN.mk HX.out ?_
        rw [findR2_at HGi.out.1 HGi.out.2.1 hin.out]
        exact HGi.out.2.2.symm
      · have q1 : (x.toList == s.toList) = false := by
          cases h : (x.toList == s.toList)
          · rfl
          · exact absurd (toList_inj (eq_of_beq h)) hxs
        have HXS := Lib.hid hxs
        clear hxs
        go_wp2
        go_roundw
        case rel => exact ⟨i + 1, by omega, by first | rfl | (congr 1; done) | (congr 1; omega), hex, Lib.hid fun j g' hj hg' => by
          by_cases hji : j < i
          · exact hin.out j g' hji hg'
          · obtain rfl : j = i := by omega
            rw [HGi.out.1] at hg'
            injection hg' with hg'
            rw [← hg', HGi.out.2.1]; exact HXS.out⟩
        case measure => simp [intOf]; omega
    · obtain rfl : i = n := by omega
      go_wp2
      go_ret
      refine RetN.mk hex.out ?_
      rw [findR2_no (by rw [HG.out.1]; exact hin.out)]; rfl
theorem refBLen_nil (w : World) : Calls Tryz.prog 75 #[.pointer none] w (Ret (.int .i64 0) w) := by
  go_enter Tryz.func75, Tryz.ntmps75
  go_wp2
  go_ret
  exact Ret.mk rfl
def sumG (G : List REnt) (i : Nat) : Nat := ((G.take i).map fun g => g.LL.length).sum
theorem sumG_step {G : List REnt} {i : Nat} {g : REnt} (h : G[i]? = some g) : sumG G (i + 1) = sumG G i + g.LL.length := by
  unfold sumG
  rw [show G.take (i + 1) = G.take i ++ [g] by rw [List.take_add_one, h]; rfl, List.map_append, List.sum_append]; simp
theorem sumG_le (G : List REnt) (i : Nat) : sumG G i ≤ totalC (cntR G) := by
  have h : totalC (cntR G) = sumG G i + ((G.drop i).map fun g => g.LL.length).sum := by
    unfold sumG totalC cntR
    rw [← List.sum_append, ← List.map_append, List.take_append_drop, List.map_map]; rfl
  omega
theorem sumG_all {G : List REnt} {n : Nat} (h : G.length = n) : sumG G n = totalC (cntR G) := by
  unfold sumG totalC cntR
  rw [List.take_of_length_le (by omega), List.map_map]; rfl
set_option maxRecDepth 100000 in
set_option maxHeartbeats 1000000 in
theorem refBLen_any (h : RefB S w cb G) (hb : totalC (cntR G) ≤ 1099511627776) : Calls Tryz.prog 75 #[.pointer (some ⟨cb, 0, none⟩)] w (RetN w fun w' v => v = .int .i64 (totalC (cntR G) : Nat)) := by
  obtain ⟨na, nc, aa, ac, hB, hN, hA, _, _⟩ := h.blk
  obtain ⟨n, en⟩ : ∃ n, G.length = n := ⟨_, rfl⟩
  have hl := h.len
  rw [en] at hB hl
  have c1 : w.cell? ⟨cb, 1, none⟩ = some (.slice aa n ac) := by rw [hB.cell']; rfl
  have HG := Lib.hid (And.intro en (And.intro h hA))
  have HB := Lib.hid hb
  clear h hB hN hA en hb
  go_enter Tryz.func75, Tryz.ntmps75
  go_wp2
  go_loopw [3, 4] (fun nv kv wr => ∃ i : Nat, i ≤ n ∧ kv = .int .i64 i ∧ nv = .int .i64 (sumG G i : Nat) ∧ Hid (Ext w wr)) (fun _ k _ => n - (intOf k).toNat)
  case atStart => exact ⟨0, Nat.zero_le _, rfl, rfl, Lib.hid (Kp.refl _)⟩
  case round =>
    obtain ⟨i, hi, rfl, rfl, hex⟩ := hrel
    have c2 := hex.out.cell c1 id
    by_cases hlt : i < n
    · obtain ⟨g, hg⟩ : ∃ g, G[i]? = some g := ⟨_, List.getElem?_eq_getElem (by rw [HG.out.1]; exact hlt)⟩
      obtain ⟨ab, ao, rfl, d1⟩ := HG.out.2.2 i g.ptr (by simp [hg])
      replace d1 := hex.out.cell d1 id
      obtain ⟨lo, lc, hB2, _⟩ := HG.out.2.1.rows g (List.mem_of_getElem? hg)
      obtain ⟨p, ep⟩ : ∃ p, g.c = p := ⟨_, rfl⟩
      obtain ⟨l0, el⟩ : ∃ l0, g.LL.length = l0 := ⟨_, rfl⟩
      have ept : g.ptr = .pointer (some ⟨p, 0, none⟩) := by rw [← ep]; rfl
      rw [ept] at d1
      rw [ep, el] at hB2
      have d2 : wr.cell? ⟨p, 1, none⟩ = some (.slice lo l0 lc) := hex.out.cell (by rw [hB2.cell']; rfl) id
      have hst := sumG_step hg
      have hle := sumG_le G (i + 1)
      have HS := Lib.hid (And.intro hst el)
      obtain ⟨s0, es0⟩ : ∃ s0, sumG G i = s0 := ⟨_, rfl⟩
      have hs0 : s0 + l0 ≤ 1099511627776 := by have := HB.out; rw [hst, el, es0] at hle; omega
      rw [es0]
      have HE := Lib.hid es0
      clear hst hle es0 el ept ep hB2 hg
      go_wp2
      go_roundw
      case rel => exact ⟨i + 1, by omega, by first | rfl | (congr 1; done) | (congr 1; omega), by rw [HS.out.1, HS.out.2, HE.out, Int.natCast_add], hex⟩
      case measure => simp [intOf]; omega
    · obtain rfl : i = n := by omega
      rw [sumG_all HG.out.1]
      go_wp2
      go_ret
      exact RetN.mk hex.out rfl
theorem findR2_get (G : List REnt) (s : ByteArray) : getC (cntR G) s = (findR2 G s).map fun g => (g.ar, g.LL) := by
  unfold getC cntR findR2
  rw [List.find?_map, Option.map_map]; rfl
theorem findR2_some {G : List REnt} {s : ByteArray} {g : REnt} (h : findR2 G s = some g) : g ∈ G ∧ g.name = s := ⟨List.mem_of_find?_eq_some h, by have := List.find?_some h; simpa using this⟩
theorem refNamed_any (s : ByteArray) (w : World) : Calls Tryz.prog 113 #[.string s] w (Ret (.bool (namedC s)) w) := by
  unfold namedC
  by_cases h1 : 1 ≤ s.size
  · have q1 : (0 : Int) < (s.size : Int) := by omega
    by_cases h2 : s.size ≤ 4096
    · have q2 : (s.size : Int) ≤ 4096 := by omega
      rw [decide_eq_true (show 1 ≤ s.size ∧ s.size ≤ 4096 from ⟨h1, h2⟩)]
      go_enter Tryz.func113, Tryz.ntmps113
      go_wp2
      go_ret
      exact Ret.mk rfl
    · have q2 : ¬ (s.size : Int) ≤ 4096 := by omega
      rw [decide_eq_false (show ¬ (1 ≤ s.size ∧ s.size ≤ 4096) from fun h => h2 h.2)]
      go_enter Tryz.func113, Tryz.ntmps113
      go_wp2
      go_ret
      exact Ret.mk rfl
  · have q1 : ¬ (0 : Int) < (s.size : Int) := by omega
    rw [decide_eq_false (show ¬ (1 ≤ s.size ∧ s.size ≤ 4096) from fun h => h1 h.1)]
    go_enter Tryz.func113, Tryz.ntmps113
    go_wp2
    go_ret
    exact Ret.mk rfl
theorem findR_has (LL : List (List ByteArray)) (ss : List ByteArray) : decide (0 ≤ findR LL ss) = isIn cmpRow LL ss := by
  unfold findR
  cases isIn cmpRow LL ss with
  | true => simp
  | false => simp
theorem refBHas_any (h : RefB S w cb G) (hok : BaseOk (cntR G)) (s : ByteArray) {xo : Option Addr} {m xc : Nat} {ss : List ByteArray} (hm : m = ss.length) (hx : CellsAt w xo (strs ss)) (hss : ss.length ≤ 8796093021952) :
    Calls Tryz.prog 77 #[.pointer (some ⟨cb, 0, none⟩), .string s, .slice xo m xc] w (RetN w fun w' v => v = .bool (isIn cmpRow (rowsC (cntR G) s) ss)) := by
  have HR := Lib.hid (refBRows_any h s)
  cases hf : findR2 G s with
  | none =>
    rw [hf] at HR
    replace HR := Lib.hid (show Calls Tryz.prog 79 #[.pointer (some ⟨cb, 0, none⟩), .string s] w (RetN w fun w' v => v = .pointer none) from HR.out)
    have hr : rowsC (cntR G) s = [] := rows_none (by rw [findR2_get, hf]; rfl)
    rw [hr]
    clear h hok hm hx hss hf hr
    go_enter Tryz.func77, Tryz.ntmps77
    go_wp2_with fail
    refine HR.out.mono ?_
    rintro e w1 ⟨v, rfl, hk, rfl⟩
    have HK := Lib.hid hk
    clear hk
    go_wp2_with fail
    refine (refRowFind_nil _ w1).mono ?_
    rintro e w2 ⟨rfl, rfl⟩
    go_wp2
    go_ret
    exact RetN.mk HK.out rfl
  | some g =>
    rw [hf] at HR
    replace HR := Lib.hid (show Calls Tryz.prog 79 #[.pointer (some ⟨cb, 0, none⟩), .string s] w (RetN w fun w' v => v = .pointer (some ⟨g.c, 0, none⟩)) from HR.out)
    obtain ⟨hg, _⟩ := findR2_some hf
    have hr : rowsC (cntR G) s = g.LL := rows_some (v := (g.ar, g.LL)) (by rw [findR2_get, hf]; rfl)
    have hst : Strict cmpRow g.LL := (hok.all g.cnt (List.mem_map.2 ⟨g, hg, rfl⟩)).strict
    have HF := Lib.hid (fun w' (hw : Ext w w') => refRowFind_any ((h.rows g hg).ext hw) hst hm (hx.ext hw) hss (xc := xc))
    have hd := findR_has g.LL ss
    have HRes := Lib.hid (show rowsC (cntR G) s = g.LL ∧ decide (0 ≤ findR g.LL ss) = isIn cmpRow g.LL ss from ⟨hr, hd⟩)
    clear h hok hm hx hss hf hr hst hg hd
    go_enter Tryz.func77, Tryz.ntmps77
    go_wp2_with fail
    refine HR.out.mono ?_
    rintro e w1 ⟨v, rfl, hk, rfl⟩
    have HK := Lib.hid hk
    clear hk
    go_wp2_with fail
    refine (HF.out w1 HK.out).mono ?_
    rintro e w2 ⟨v, rfl, hk2, rfl⟩
    have HK2 := Lib.hid (HK.out.trans hk2)
    clear hk2
    go_wp2
    go_ret
    refine RetN.mk HK2.out ?_
    rw [HRes.out.1, ← HRes.out.2]; rfl
end
end Go.Proofs.YtfkhelihepbehaaGreat

/- The document's Base: nil ones; a new one. -/
namespace Go.Proofs.YtfkhelihepbehaaGreat
open Go.RowKit
set_option linter.unusedVariables false

theorem refBDecl_nil (v1 v2 : Value) (w : World) : Calls Tryz.prog 63 #[.pointer none, v1, v2] w (Ret (.int .i64 1) w) := by
  go_enter Tryz.func63, Tryz.ntmps63
  go_wp2
  go_ret
  exact Ret.mk rfl
theorem refBAdd_nil (v1 v2 : Value) (w : World) : Calls Tryz.prog 64 #[.pointer none, v1, v2] w (Ret (.tuple #[.bool false, .int .i64 1]) w) := by
  go_enter Tryz.func64, Tryz.ntmps64
  go_wp2
  go_ret2
  exact Ret.mk rfl
theorem refBDrop_nil (v1 v2 : Value) (w : World) : Calls Tryz.prog 66 #[.pointer none, v1, v2] w (Ret (.tuple #[.bool false, .int .i64 1]) w) := by
  go_enter Tryz.func66, Tryz.ntmps66
  go_wp2
  go_ret2
  exact Ret.mk rfl
set_option maxRecDepth 100000 in
theorem refBMerge_nil1 (v1 : Value) (w : World) : Calls Tryz.prog 68 #[.pointer none, v1] w (Ret (.int .i64 1) w) := by
  go_enter Tryz.func68, Tryz.ntmps68
  go_wp2
  go_ret
  exact Ret.mk rfl
set_option maxRecDepth 100000 in
theorem refBMerge_nil2 (a : Addr) (w : World) : Calls Tryz.prog 68 #[.pointer (some a), .pointer none] w (Ret (.int .i64 1) w) := by
  go_enter Tryz.func68, Tryz.ntmps68
  go_wp2
  go_ret
  exact Ret.mk rfl
theorem refBRels_nil (w : World) : Calls Tryz.prog 74 #[.pointer none] w (Ret (.slice none 0 0) w) := by
  go_enter Tryz.func74, Tryz.ntmps74
  go_wp2
  go_ret
  exact Ret.mk rfl
theorem refBHas_nil {xo : Value} (s : ByteArray) (w : World) : Calls Tryz.prog 77 #[.pointer none, .string s, xo] w (Ret (.bool false) w) := by
  have HR := Lib.hid (refBRows_nil (.string s) w)
  go_enter Tryz.func77, Tryz.ntmps77
  go_wp2_with fail
  refine HR.out.mono ?_
  rintro e w1 ⟨rfl, rfl⟩
  go_wp2_with fail
  refine (refRowFind_nil _ w).mono ?_
  rintro e w2 ⟨rfl, rfl⟩
  go_wp2
  go_ret
  exact Ret.mk rfl
theorem refBNew_any (S : Nat → Prop) (w : World) (hS : ∀ k, S k → k < w.heap.size) : Calls Tryz.prog 31 #[] w (RetN w fun w' v => v = .pointer (some ⟨w.heap.size, 0, none⟩) ∧ RefB S w' w.heap.size []) := by
  go_enter Tryz.func31, Tryz.ntmps31
  go_wp2
  go_ret
  refine RetN.mk ((Kp.refl w).alloc _) ⟨rfl, ⟨none, 0, none, 0, Blk.new w [_, _] _, CellsAt.nil _ _, CellsAt.nil _ _, fun a e => (by cases e), fun a e => (by cases e), ⟨Nat.le_refl _, by decide, .inl ⟨rfl, rfl⟩⟩, ⟨Nat.le_refl _, by decide, .inl ⟨rfl, rfl⟩⟩⟩, fun g hg => (by simp at hg), List.Pairwise.nil, fun h => by have := hS _ h; omega, fun g hg => (by simp at hg), fun k hk => by have h1 := hS k hk; show k < (w.heap.push _).size; simp; omega, by simp⟩
end Go.Proofs.YtfkhelihepbehaaGreat

/- The document's Base: put: a relation that isn't there, at its place. -/
namespace Go.Proofs.YtfkhelihepbehaaGreat
open Go.RowKit
set_option linter.unusedVariables false

theorem elem_ptrR : ElemT Tryz.prog 104 116 1 8 (.pointer none) := ⟨by kernel_rfl, by kernel_rfl, rfl, by decide⟩
theorem ptrs_one (G : List REnt) : ∀ u ∈ G.map REnt.ptr, u.oneCell' = true := fun u hu => by
  obtain ⟨g, _, rfl⟩ := List.mem_map.1 hu
  rfl
section
variable {S : Nat → Prop} {w w' : World} {cb : Nat} {G : List REnt}
theorem RefB.place (hst : Strict cmpN (G.map REnt.name)) {s : ByteArray} {i : Nat} (hi : i ≤ G.length) (h1 : ∀ (j : Nat) (g : REnt), j < i → G[j]? = some g → Op.bytesLess g.name.toList s.toList = true)
    (h2 : ∀ g, G[i]? = some g → Op.bytesLess g.name.toList s.toList = false) : i = below cmpN (G.map REnt.name) s := by
  refine hst.place cmpN_ord (by simpa using hi) (fun y h0 hy => ?_) fun y hy => ?_
  · rw [List.getElem?_map] at hy
    obtain ⟨g, hg, rfl⟩ := Option.map_eq_some_iff.1 hy
    exact cmpB_neg.2 (h1 (i - 1) g (by omega) hg)
  · rw [List.getElem?_map] at hy
    obtain ⟨g, hg, rfl⟩ := Option.map_eq_some_iff.1 hy
    have := h2 g hg
    have h3 : ¬ cmpB g.name.toList s.toList < 0 := fun h => by rw [cmpB_neg.1 h] at this; cases this
    show 0 ≤ cmpB g.name.toList s.toList
    omega
/-- What put leaves. -/
theorem RefB.put (h : RefB S w cb G) {g : REnt} {i : Nat} (hi : i = below cmpN (G.map REnt.name) g.name) (hr : RefRows S w g.c g.ar g.LL) (hoff : ∀ x ∈ G, x.c ≠ g.c) (hgb : g.c ≠ cb) (hl : G.length < 4194304)
    (hk : Ext w w') {v1 v2 : Value} (h1 : Row w' 9 1 v1 (i + 1 + (G.length - i)) (((strs (G.map REnt.name)).take i ++ [.string g.name]) ++ (strs (G.map REnt.name)).drop i) (New w)) (h2 : Row w' 116 1 v2 (i + 1 + (G.length - i)) (((G.map REnt.ptr).take i ++ [g.ptr]) ++ (G.map REnt.ptr).drop i) (New w)) :
    ∃ S', Grows w S S' ∧ RefB S' ((w'.setCell ⟨cb, 0, none⟩ v1).setCell ⟨cb, 1, none⟩ v2) cb (insN REnt.name G g) := by
  have hil : i ≤ G.length := by have := below_le (c := cmpN) (G.map REnt.name) g.name; rw [List.length_map] at this; omega
  have hlen : (insN REnt.name G g).length = G.length + 1 := by rw [(insN_perm REnt.name G g).length_eq]; simp
  have e1 : ((strs (G.map REnt.name)).take i ++ [Value.string g.name]) ++ (strs (G.map REnt.name)).drop i = strs ((insN REnt.name G g).map REnt.name) := by
    unfold insN strs
    rw [← hi]
    simp [List.map_take, List.map_drop]
  have e2 : ((G.map REnt.ptr).take i ++ [g.ptr]) ++ (G.map REnt.ptr).drop i = (insN REnt.name G g).map REnt.ptr := by
    unfold insN
    rw [← hi]
    simp [List.map_take, List.map_drop]
  have en : i + 1 + (G.length - i) = (insN REnt.name G g).length := by rw [hlen]; omega
  rw [e1, en] at h1
  rw [e2, en] at h2
  have hcb : cb < w.heap.size := by obtain ⟨na, nc, aa, ac, hB, _⟩ := h.blk; exact hB.lt
  obtain ⟨na, nc, rfl, c1, f1, b1⟩ := h1.form
  obtain ⟨aa, ac, rfl, c2, f2, b2⟩ := h2.form
  obtain ⟨na0, nc0, aa0, ac0, hB, _⟩ := h.blk
  have hk2 : Kp (fun k => k = cb) w ((w'.setCell ⟨cb, 0, none⟩ (.slice na (insN REnt.name G g).length nc)).setCell ⟨cb, 1, none⟩ (.slice aa (insN REnt.name G g).length ac)) := by
    refine ((Ext.kp hk).setCell (F := fun k => k = cb) (p := ⟨cb, 0, none⟩) (fun _ => rfl) _).setCell (p := ⟨cb, 1, none⟩) (fun _ => rfl) _
  have hk3 : Kp (fun k => k = cb) w' ((w'.setCell ⟨cb, 0, none⟩ (.slice na (insN REnt.name G g).length nc)).setCell ⟨cb, 1, none⟩ (.slice aa (insN REnt.name G g).length ac)) := by
    refine ((Kp.refl w').setCell (F := fun k => k = cb) (p := ⟨cb, 0, none⟩) (fun _ => rfl) _).setCell (p := ⟨cb, 1, none⟩) (fun _ => rfl) _
  have hB' := ((hB.ext hk).set 0 (.slice na (insN REnt.name G g).length nc)).set 1 (.slice aa (insN REnt.name G g).length ac)
  have hz2 := hk2.size
  have hz3 := hk3.size
  generalize hW : (w'.setCell ⟨cb, 0, none⟩ (.slice na (insN REnt.name G g).length nc)).setCell ⟨cb, 1, none⟩ (.slice aa (insN REnt.name G g).length ac) = W at *
  have hSn : ∀ k, k = cb → ¬ S k := fun k e => by subst e; exact h.notS
  refine ⟨fun k => S k ∨ (w.heap.size ≤ k ∧ k < W.heap.size), ⟨fun k h => .inl h, fun k h => h.imp id fun h => h.1⟩, ?_⟩
  have hmem : ∀ x, x ∈ insN REnt.name G g ↔ x = g ∨ x ∈ G := fun x => by
    rw [(insN_perm REnt.name G g).mem_iff]; simp [or_comm]
  have hlt : ∀ x, x ∈ insN REnt.name G g → x.c < w.heap.size ∧ ¬ S x.c ∧ x.c ≠ cb ∧ RefRows S w x.c x.ar x.LL := fun x hx => by
    rcases (hmem x).1 hx with rfl | hx
    · exact ⟨hr.lt, hr.notS, hgb, hr⟩
    · exact ⟨(h.rows x hx).lt, (h.rows x hx).notS, h.off x hx, h.rows x hx⟩
  refine ⟨⟨na, nc, aa, ac, by simpa using hB', c1.kp hk3 (fun a e f => ?_), c2.kp hk3 (fun a e f => ?_), fun a e => .inr ⟨(b1 a e).1, Nat.lt_of_lt_of_le (b1 a e).2 hz3⟩, fun a e => .inr ⟨(b2 a e).1, Nat.lt_of_lt_of_le (b2 a e).2 hz3⟩, f1, f2⟩,
    fun x hx => ?_, ?_, ?_, fun x hx => (hlt x hx).2.2.1, fun k hk' => ?_, by rw [hlen]; omega⟩
  · have h9 : w.heap.size ≤ a.block := (b1 a e).1
    have f9 : a.block = cb := f
    omega
  · have h9 : w.heap.size ≤ a.block := (b2 a e).1
    have f9 : a.block = cb := f
    omega
  · obtain ⟨p1, p2, p3, p4⟩ := hlt x hx
    refine ((p4.kp hk2 p3 fun k e => hSn k e)).wide (fun k h => .inl h) (fun h => ?_) fun k h => ?_
    · rcases h with h | h
      · exact p2 h
      · omega
    · rcases h with h | h
      · have := p4.inS k h; omega
      · exact h.2
  · refine (List.Perm.pairwise_iff (fun {a b} h => Ne.symm h) (insN_perm REnt.name G g)).2 ?_
    refine List.pairwise_append.2 ⟨h.apart, List.pairwise_singleton _ _, fun a ha b hb => ?_⟩
    rw [List.mem_singleton] at hb
    subst hb
    exact hoff a ha
  · intro hc
    rcases hc with hc | hc
    · exact h.notS hc
    · omega
  · rcases hk' with hk' | hk'
    · have := h.inS k hk'; omega
    · exact hk'.2
set_option maxRecDepth 100000 in
set_option maxHeartbeats 4000000 in
theorem refBPut_any (h : RefB S w cb G) (hst : Strict cmpN (G.map REnt.name)) (g : REnt) (hr : RefRows S w g.c g.ar g.LL) (hoff : ∀ x ∈ G, x.c ≠ g.c) (hgb : g.c ≠ cb) (hl : G.length < 4194304) :
    Calls Tryz.prog 115 #[.pointer (some ⟨cb, 0, none⟩), .string g.name, g.ptr] w (RetF (fun k => k = cb) w fun w' v => ∃ S', Grows w S S' ∧ RefB S' w' cb (insN REnt.name G g)) := by
  have H := Lib.hid (And.intro h (And.intro hst (And.intro hr (And.intro hoff (And.intro hgb hl)))))
  obtain ⟨na, nc, aa, ac, hB, hN, hA, _, _, ⟨n1, n2, n3⟩, a1, a2, a3⟩ := h.blk
  obtain ⟨n, en⟩ : ∃ n, G.length = n := ⟨_, rfl⟩
  rw [en] at hB n1 a1 hl
  obtain ⟨s, es⟩ : ∃ s, g.name = s := ⟨_, rfl⟩
  obtain ⟨c, ec⟩ : ∃ c, g.c = c := ⟨_, rfl⟩
  have ept : g.ptr = .pointer (some ⟨c, 0, none⟩) := by rw [← ec]; rfl
  have c0 : w.cell? ⟨cb, 0, none⟩ = some (.slice na n nc) := by rw [hB.cell']; rfl
  have c1 : w.cell? ⟨cb, 1, none⟩ = some (.slice aa n ac) := by rw [hB.cell']; rfl
  have HCell := Lib.hid (fun w' (hw : Ext w w') => (⟨hw.cell c0 id, hw.cell c1 id⟩ : w'.cell? ⟨cb, 0, none⟩ = some (.slice na n nc) ∧ w'.cell? ⟨cb, 1, none⟩ = some (.slice aa n ac)))
  have HG := Lib.hid (And.intro en (And.intro hN (And.intro hA hB)))
  have HE := Lib.hid (And.intro es (And.intro ec ept))
  rw [es, ept]
  have N3 := Lib.hid n3
  have A3 := Lib.hid a3
  unfold maxLen at n2 a2
  clear h hst hr hoff hgb hB hN hA en es ec ept n3 a3
  go_enter Tryz.func115, Tryz.ntmps115
  go_wp2
  go_loopw [8] (fun kv wr => ∃ i : Nat, i ≤ n ∧ kv = .int .i64 i ∧ Hid (Ext w wr) ∧ Hid (∀ (j : Nat) (x : REnt), j < i → G[j]? = some x → Op.bytesLess x.name.toList s.toList = true)) (fun k _ => n - (intOf k).toNat)
  case atStart => exact ⟨0, Nat.zero_le _, rfl, Lib.hid (Kp.refl _), Lib.hid fun j g hj => by omega⟩
  case round =>
    obtain ⟨i, hi, rfl, hex, hin⟩ := hrel
    clear c0 c1
    obtain ⟨c0, c1⟩ := HCell.out wr hex.out
    by_cases hgo : ∃ x, G[i]? = some x ∧ Op.bytesLess x.name.toList s.toList = true
    · obtain ⟨x, hx, q1⟩ := hgo
      have hlt : i < n := by rw [← HG.out.1]; exact (List.getElem?_eq_some_iff.1 hx).1
      obtain ⟨nb, no, rfl, d0⟩ := HG.out.2.1 i (.string x.name) (by simp [strs, hx])
      replace d0 := hex.out.cell d0 id
      have HX := Lib.hid (And.intro hx q1)
      generalize x.name = xn at d0 q1
      clear hx
      go_wp2
      go_roundw
      case rel => exact ⟨i + 1, by omega, by first | rfl | (congr 1; done) | (congr 1; omega), hex, Lib.hid fun j y hj hy => by
          by_cases hji : j < i
          · exact hin.out j y hji hy
          · obtain rfl : j = i := by omega
            rw [HX.out.1] at hy
            cases hy
            exact HX.out.2⟩
      case measure => simp [intOf]; omega
    · have hbel : i = below cmpN (G.map REnt.name) s := RefB.place H.out.2.1 (by rw [HG.out.1]; exact hi) hin.out fun x hx => by
        cases hb : Op.bytesLess x.name.toList s.toList with
        | false => rfl
        | true => exact absurd ⟨x, hx, hb⟩ hgo
      have HBel := Lib.hid hbel
      clear hbel
      have hway : (∃ (b : Bool) (x : ByteArray), b = true ∧ i < n ∧ (∃ nb no, na = some ⟨nb, no, none⟩ ∧ wr.cell? ⟨nb, no + i, none⟩ = some (.string x)) ∧ Op.bytesLess x.toList s.toList = false) ∨ i = n := by
        by_cases hlt : i < n
        · obtain ⟨x, hx⟩ : ∃ x, G[i]? = some x := ⟨_, List.getElem?_eq_getElem (by rw [HG.out.1]; exact hlt)⟩
          obtain ⟨nb, no, e, d0⟩ := HG.out.2.1 i (.string x.name) (by simp [strs, hx])
          refine .inl ⟨true, x.name, rfl, hlt, ⟨nb, no, e, hex.out.cell d0 id⟩, ?_⟩
          cases hb : Op.bytesLess x.name.toList s.toList with
          | false => rfl
          | true => exact absurd ⟨x, hx, hb⟩ hgo
        · exact .inr (by omega)
      clear hgo hin
      have HH := Lib.hid (show (strs (G.map REnt.name)).length = n ∧ (G.map REnt.ptr).length = n from ⟨by rw [strs_len, List.length_map, HG.out.1], by rw [List.length_map, HG.out.1]⟩)
      have hp0 : (i : Int) ≤ (n : Int) := by omega
      have hp1 : (i : Int) ≤ (nc : Int) := by omega
      have hp2 : (i : Int) ≤ (ac : Int) := by omega
      have hne := Lib.hid (show 9 ≠ 116 by decide)
      have HEX := Lib.hid hex.out
      rcases hway with ⟨b0, x, _, hlt, ⟨nb, no, e, d0⟩, q1⟩ | hin'
      · subst e
        have hcn : ¬ nc = i := by omega
        have hca : ¬ ac = i := by omega
        rcases N3.out with ⟨e, _⟩ | ⟨gn, e⟩
        · cases e
        · cases e
          rcases A3.out with ⟨e, e0⟩ | ⟨ga, e⟩
          · omega
          · subst e
            rw [Nat.zero_add] at d0
            go_wp2_with (first | (at_builtin; refine Halted.out ?_))
            refine Halted.mk (wp_appN elem_str rfl _ _ rfl HEX.out rfl (Row.nil wr 9 1 (New w)) rfl ((HG.out.2.1.ext HEX.out).take' i) (by rw [List.length_take, HH.out.1]; omega) (fun u hu => strs_one _ u (List.mem_of_mem_take hu)) (by omega) (by unfold maxLen; omega) ?_)
            intro v1 w3 hr1 hk3 _ _
            obtain ⟨c0, c1⟩ := HCell.out w3 hk3
            have HR1 := Lib.hid hr1
            clear hr1
            go_wp2_with (first | (at_builtin; refine Halted.out ?_))
            refine Halted.mk (wp_appN elem_str rfl _ _ rfl (hk3.alloc (.cells #[.string s] 9)) rfl (HR1.out.alloc _) rfl (CellsAt.one w3 (.string s) 9) rfl (by simp; rfl) (by omega) (by unfold maxLen; omega) ?_)
            intro v2 w4 hr2 hk4 _ _
            obtain ⟨c0, c1⟩ := HCell.out w4 hk4
            have HR2 := Lib.hid hr2
            clear hr2
            go_wp2_with (first | (at_builtin; refine Halted.out ?_))
            refine Halted.mk (wp_appN elem_str rfl _ _ rfl hk4 rfl HR2.out rfl (news := (strs (G.map REnt.name)).drop i) (by
              first
                | (have := (HG.out.2.1.ext hk4).sub' i; rwa [Nat.zero_add] at this)
                | (rw [List.drop_of_length_le (by rw [HH.out.1]; omega)]; exact CellsAt.nil _ _)) (by rw [List.length_drop, HH.out.1]; omega) (fun u hu => strs_one _ u (List.mem_of_mem_drop hu)) (by omega) (by unfold maxLen; omega) ?_)
            intro v3 w5 hr3 hk5 _ _
            obtain ⟨c0, c1⟩ := HCell.out w5 hk5
            have HR3 := Lib.hid hr3
            clear hr3
            go_wp2_with (first | (at_builtin; refine Halted.out ?_))
            refine Halted.mk (wp_appN elem_ptrR rfl _ _ rfl hk5 rfl (Row.nil w5 116 1 (New w)) rfl ((HG.out.2.2.1.ext hk5).take' i) (by rw [List.length_take, HH.out.2]; omega) (fun u hu => ptrs_one _ u (List.mem_of_mem_take hu)) (by omega) (by unfold maxLen; omega) ?_)
            intro u1 w6 hq1 hk6 hk6' _
            obtain ⟨c0, c1⟩ := HCell.out w6 hk6
            have HQ1 := Lib.hid (And.intro hq1 hk6')
            clear hq1 hk6'
            go_wp2_with (first | (at_builtin; refine Halted.out ?_))
            refine Halted.mk (wp_appN elem_ptrR rfl _ _ rfl (hk6.alloc (.cells #[.pointer (some ⟨c, 0, none⟩)] 116)) rfl (HQ1.out.1.alloc _) rfl (CellsAt.one w6 (.pointer (some ⟨c, 0, none⟩)) 116) rfl (by simp; rfl) (by omega) (by unfold maxLen; omega) ?_)
            intro u2 w7 hq2 hk7 hk7' _
            obtain ⟨c0, c1⟩ := HCell.out w7 hk7
            have HQ2 := Lib.hid (And.intro hq2 hk7')
            clear hq2 hk7'
            go_wp2_with (first | (at_builtin; refine Halted.out ?_))
            refine Halted.mk (wp_appN elem_ptrR rfl _ _ rfl hk7 rfl HQ2.out.1 rfl (news := (G.map REnt.ptr).drop i) (by
              first
                | (have := (HG.out.2.2.1.ext hk7).sub' i; rwa [Nat.zero_add] at this)
                | (rw [List.drop_of_length_le (by rw [HH.out.2]; omega)]; exact CellsAt.nil _ _)) (by rw [List.length_drop, HH.out.2]; omega) (fun u hu => ptrs_one _ u (List.mem_of_mem_drop hu)) (by omega) (by unfold maxLen; omega) ?_)
            intro u3 w8 hq3 hk8 hk8' _
            have HQ3 := Lib.hid (And.intro hq3 hk8')
            clear hq3 hk8'
            obtain ⟨a1', n1', p1', e1, _⟩ : ∃ ao n cap, v3 = .slice ao n cap ∧ True := by obtain ⟨ao, cap, e, _⟩ := HR3.out.shape; exact ⟨_, _, _, e, trivial⟩
            obtain ⟨a2', n2', p2', e2, _⟩ : ∃ ao n cap, u3 = .slice ao n cap ∧ True := by obtain ⟨ao, cap, e, _⟩ := HQ3.out.1.shape; exact ⟨_, _, _, e, trivial⟩
            subst e1 e2
            have f0 := (HG.out.2.2.2.ext hk8).free 0
            have f1 := (HG.out.2.2.2.ext hk8).free 1
            obtain ⟨c0, c1⟩ := HCell.out w8 hk8
            have HK8 := Lib.hid hk8
            clear hk3 hk4 hk5 hk6 hk7 hk8
            go_wp2
            go_end0
            have r1 := HR3.out.kp' HQ1.out.2 fun g hg _ hf => by cases hf
            have r2 := r1.alloc (.cells #[.pointer (some ⟨c, 0, none⟩)] 116)
            have r3 := r2.kp' HQ2.out.2 fun g hg _ hf => r2.sort_ne (HQ1.out.1.alloc (.cells #[.pointer (some ⟨c, 0, none⟩)] 116)) hne.out hg hf
            have r4 := r3.kp' HQ3.out.2 fun g hg _ hf => r3.sort_ne HQ2.out.1 hne.out hg hf
            obtain ⟨h1, h2, h3, h4, h5, h6⟩ := H.out
            refine RetF.mk ((Ext.kp HK8.out).setCell (F := fun k => k = cb) (p := ⟨cb, 0, none⟩) (fun _ => rfl) _ |>.setCell (p := ⟨cb, 1, none⟩) (fun _ => rfl) _) (h1.put (i := i) (by rw [HE.out.1]; exact HBel.out) h3 h4 h5 h6 HK8.out ?_ ?_)
            · exact r4.cast' (by rw [HG.out.1]; omega) (by rw [HE.out.1]; simp)
            · exact HQ3.out.1.cast' (by rw [HG.out.1]; omega) (by rw [HE.out.2.2]; simp)
      · subst hin'
        rcases N3.out with ⟨e, e0⟩ | ⟨gn, e⟩
        all_goals
          subst e
          rcases A3.out with ⟨e, e1⟩ | ⟨ga, e⟩
          all_goals
            subst e
            by_cases hcn : nc = i
            all_goals
              first
                | (exfalso; omega)
                | (by_cases hca : ac = i
                   all_goals
                     first
                       | (exfalso; omega)
                       | skip)
        all_goals
          go_wp2_with (first | (at_builtin; refine Halted.out ?_))
          refine Halted.mk (wp_appN elem_str rfl _ _ rfl HEX.out rfl (Row.nil wr 9 1 (New w)) rfl ((HG.out.2.1.ext HEX.out).take' i) (by rw [List.length_take, HH.out.1]; omega) (fun u hu => strs_one _ u (List.mem_of_mem_take hu)) (by omega) (by unfold maxLen; omega) ?_)
          intro v1 w3 hr1 hk3 _ _
          obtain ⟨c0, c1⟩ := HCell.out w3 hk3
          have HR1 := Lib.hid hr1
          clear hr1
          go_wp2_with (first | (at_builtin; refine Halted.out ?_))
          refine Halted.mk (wp_appN elem_str rfl _ _ rfl (hk3.alloc (.cells #[.string s] 9)) rfl (HR1.out.alloc _) rfl (CellsAt.one w3 (.string s) 9) rfl (by simp; rfl) (by omega) (by unfold maxLen; omega) ?_)
          intro v2 w4 hr2 hk4 _ _
          obtain ⟨c0, c1⟩ := HCell.out w4 hk4
          have HR2 := Lib.hid hr2
          clear hr2
          go_wp2_with (first | (at_builtin; refine Halted.out ?_))
          refine Halted.mk (wp_appN elem_str rfl _ _ rfl hk4 rfl HR2.out rfl (news := (strs (G.map REnt.name)).drop i) (by
            first
              | (have := (HG.out.2.1.ext hk4).sub' i; rwa [Nat.zero_add] at this)
              | (rw [List.drop_of_length_le (by rw [HH.out.1]; omega)]; exact CellsAt.nil _ _)) (by rw [List.length_drop, HH.out.1]; omega) (fun u hu => strs_one _ u (List.mem_of_mem_drop hu)) (by omega) (by unfold maxLen; omega) ?_)
          intro v3 w5 hr3 hk5 _ _
          obtain ⟨c0, c1⟩ := HCell.out w5 hk5
          have HR3 := Lib.hid hr3
          clear hr3
          go_wp2_with (first | (at_builtin; refine Halted.out ?_))
          refine Halted.mk (wp_appN elem_ptrR rfl _ _ rfl hk5 rfl (Row.nil w5 116 1 (New w)) rfl ((HG.out.2.2.1.ext hk5).take' i) (by rw [List.length_take, HH.out.2]; omega) (fun u hu => ptrs_one _ u (List.mem_of_mem_take hu)) (by omega) (by unfold maxLen; omega) ?_)
          intro u1 w6 hq1 hk6 hk6' _
          obtain ⟨c0, c1⟩ := HCell.out w6 hk6
          have HQ1 := Lib.hid (And.intro hq1 hk6')
          clear hq1 hk6'
          go_wp2_with (first | (at_builtin; refine Halted.out ?_))
          refine Halted.mk (wp_appN elem_ptrR rfl _ _ rfl (hk6.alloc (.cells #[.pointer (some ⟨c, 0, none⟩)] 116)) rfl (HQ1.out.1.alloc _) rfl (CellsAt.one w6 (.pointer (some ⟨c, 0, none⟩)) 116) rfl (by simp; rfl) (by omega) (by unfold maxLen; omega) ?_)
          intro u2 w7 hq2 hk7 hk7' _
          obtain ⟨c0, c1⟩ := HCell.out w7 hk7
          have HQ2 := Lib.hid (And.intro hq2 hk7')
          clear hq2 hk7'
          go_wp2_with (first | (at_builtin; refine Halted.out ?_))
          refine Halted.mk (wp_appN elem_ptrR rfl _ _ rfl hk7 rfl HQ2.out.1 rfl (news := (G.map REnt.ptr).drop i) (by
            first
              | (have := (HG.out.2.2.1.ext hk7).sub' i; rwa [Nat.zero_add] at this)
              | (rw [List.drop_of_length_le (by rw [HH.out.2]; omega)]; exact CellsAt.nil _ _)) (by rw [List.length_drop, HH.out.2]; omega) (fun u hu => ptrs_one _ u (List.mem_of_mem_drop hu)) (by omega) (by unfold maxLen; omega) ?_)
          intro u3 w8 hq3 hk8 hk8' _
          have HQ3 := Lib.hid (And.intro hq3 hk8')
          clear hq3 hk8'
          obtain ⟨a1', n1', p1', e1, _⟩ : ∃ ao n cap, v3 = .slice ao n cap ∧ True := by obtain ⟨ao, cap, e, _⟩ := HR3.out.shape; exact ⟨_, _, _, e, trivial⟩
          obtain ⟨a2', n2', p2', e2, _⟩ : ∃ ao n cap, u3 = .slice ao n cap ∧ True := by obtain ⟨ao, cap, e, _⟩ := HQ3.out.1.shape; exact ⟨_, _, _, e, trivial⟩
          subst e1 e2
          have f0 := (HG.out.2.2.2.ext hk8).free 0
          have f1 := (HG.out.2.2.2.ext hk8).free 1
          obtain ⟨c0, c1⟩ := HCell.out w8 hk8
          have HK8 := Lib.hid hk8
          clear hk3 hk4 hk5 hk6 hk7 hk8
          go_wp2
          go_end0
          have r1 := HR3.out.kp' HQ1.out.2 fun g hg _ hf => by cases hf
          have r2 := r1.alloc (.cells #[.pointer (some ⟨c, 0, none⟩)] 116)
          have r3 := r2.kp' HQ2.out.2 fun g hg _ hf => r2.sort_ne (HQ1.out.1.alloc (.cells #[.pointer (some ⟨c, 0, none⟩)] 116)) hne.out hg hf
          have r4 := r3.kp' HQ3.out.2 fun g hg _ hf => r3.sort_ne HQ2.out.1 hne.out hg hf
          obtain ⟨h1, h2, h3, h4, h5, h6⟩ := H.out
          refine RetF.mk ((Ext.kp HK8.out).setCell (F := fun k => k = cb) (p := ⟨cb, 0, none⟩) (fun _ => rfl) _ |>.setCell (p := ⟨cb, 1, none⟩) (fun _ => rfl) _) (h1.put (i := i) (by rw [HE.out.1]; exact HBel.out) h3 h4 h5 h6 HK8.out ?_ ?_)
          · exact r4.cast' (by rw [HG.out.1]; omega) (by rw [HE.out.1]; simp)
          · exact HQ3.out.1.cast' (by rw [HG.out.1]; omega) (by rw [HE.out.2.2]; simp)
end
end Go.Proofs.YtfkhelihepbehaaGreat

/- The document's Base: Declare, Add. -/
namespace Go.Proofs.YtfkhelihepbehaaGreat
open Go.RowKit
set_option linter.unusedVariables false

/-- What holds of the document's bases: contents that may be, names in their order. -/
structure RefOk (G : List REnt) : Prop where
  ok : BaseOk (cntR G)
  names : Strict cmpN (G.map REnt.name)
theorem cntR_names (G : List REnt) : (cntR G).map (·.1) = G.map REnt.name := by unfold cntR; rw [List.map_map]; rfl
theorem findR2_none {G : List REnt} {s : ByteArray} (h : findR2 G s = none) : getC (cntR G) s = none ∧ s ∉ G.map REnt.name := by
  have h1 : getC (cntR G) s = none := by rw [findR2_get, h]; rfl
  exact ⟨h1, by rw [← cntR_names]; exact getC_none.1 h1⟩
theorem findR2_cnt {G : List REnt} {s : ByteArray} {g : REnt} (h : findR2 G s = some g) : getC (cntR G) s = some (g.ar, g.LL) ∧ rowsC (cntR G) s = g.LL := by
  have h1 : getC (cntR G) s = some (g.ar, g.LL) := by rw [findR2_get, h]; rfl
  exact ⟨h1, rows_some h1⟩
section
variable {S S' : Nat → Prop} {w w1 w2 w3 : World} {cb : Nat} {G : List REnt} {s : ByteArray} {ss : List ByteArray}
/-- What a change leaves of a base: what C' says. -/
def RefBTo (S : Nat → Prop) (w : World) (cb : Nat) (G : List REnt) (C' : List CntZ) (w' : World) : Prop :=
  ∃ S' G', Grows w S S' ∧ RefB S' w' cb G' ∧ RefOk G' ∧ SameC (cntR G') C' ∧ G'.length ≤ G.length + 1 ∧ ∀ k, OwnG cb G' k → OwnG cb G k ∨ w.heap.size ≤ k
theorem RefBTo.same {C' : List CntZ} (h : RefB S w cb G) (ho : RefOk G) (hk : Ext w w1) (hc : C' = cntR G) : RefBTo S w cb G C' w1 :=
  ⟨S, G, Grows.refl _ _, h.ext hk, ho, by rw [hc]; exact SameC.refl _, Nat.le_succ _, fun k h => .inl h⟩
/-- Rows under a name that is there change. -/
theorem RefB.turn {pre post : List REnt} {g : REnt} (h : RefB S w cb (pre ++ g :: post)) {LL' : List (List ByteArray)} (hk : Kp (fun k => k = g.c) w w1) (hS : Grows w S S') (hr : RefRows S' w1 g.c g.ar LL') :
    RefB S' w1 cb (pre ++ { g with LL := LL' } :: post) := by
  have hg : g ∈ pre ++ g :: post := by simp
  have hgc := h.off g hg
  have hgS := (h.rows g hg).notS
  have hlt := (h.rows g hg).lt
  obtain ⟨na, nc, aa, ac, h1, h2, h3, h4, h5, h6⟩ := h.blk
  have hF : ∀ k, k = g.c → ¬ S k := fun k e hs => by subst e; exact hgS hs
  have en : (pre ++ { g with LL := LL' } :: post).map REnt.name = (pre ++ g :: post).map REnt.name := by simp
  have ep : (pre ++ { g with LL := LL' } :: post).map REnt.ptr = (pre ++ g :: post).map REnt.ptr := by simp [REnt.ptr]
  have el : (pre ++ { g with LL := LL' } :: post).length = (pre ++ g :: post).length := by simp
  have hap := h.apart
  have hoff : ∀ x ∈ pre ++ g :: post, x = g ∨ x.c ≠ g.c := fun x hx => by
    rw [List.pairwise_append] at hap
    obtain ⟨_, p2, p3⟩ := hap
    rw [List.pairwise_cons] at p2
    rcases List.mem_append.1 hx with hx | hx
    · exact .inr (p3 x hx g (List.mem_cons_self ..))
    · rcases List.mem_cons.1 hx with rfl | hx
      · exact .inl rfl
      · exact .inr fun e => p2.1 x hx e.symm
  have hmem : ∀ x ∈ pre ++ { g with LL := LL' } :: post, x = { g with LL := LL' } ∨ (x ∈ pre ++ g :: post ∧ x.c ≠ g.c) := fun x hx => by
    rw [List.pairwise_append] at hap
    obtain ⟨_, p2, p3⟩ := hap
    rw [List.pairwise_cons] at p2
    rcases List.mem_append.1 hx with hx | hx
    · exact .inr ⟨by simp [hx], p3 x hx g (List.mem_cons_self ..)⟩
    · rcases List.mem_cons.1 hx with rfl | hx
      · exact .inl rfl
      · exact .inr ⟨by simp [hx], fun e => p2.1 x hx e.symm⟩
  have hS' := hr.inS
  refine ⟨⟨na, nc, aa, ac, ?_, ?_, ?_, fun a e => hS.1 _ (h4 a e), fun a e => hS.1 _ (h5 a e), ?_⟩, fun x hx => ?_, ?_, ?_, fun x hx => ?_, hS', ?_⟩
  · rw [el]; exact h1.kp hk fun e => hgc e.symm
  · rw [en]; exact h2.kp hk fun a e => hF _ |> fun f e2 => f e2 (h4 a e)
  · rw [ep]; exact h3.kp hk fun a e => hF _ |> fun f e2 => f e2 (h5 a e)
  · rw [el]; exact h6
  · rcases hmem x hx with rfl | ⟨hx, hne⟩
    · exact hr
    · refine ((h.rows x hx).kp hk hne hF).wide hS.1 (fun h9 => ?_) hS'
      rcases hS.2 _ h9 with h9 | h9
      · exact (h.rows x hx).notS h9
      · have := (h.rows x hx).lt; omega
  · have := hap
    rw [List.pairwise_append, List.pairwise_cons] at this ⊢
    obtain ⟨p1, ⟨p2, p3⟩, p4⟩ := this
    refine ⟨p1, ⟨p2, p3⟩, fun a ha b hb => ?_⟩
    rcases List.mem_cons.1 hb with rfl | hb
    · exact p4 a ha g (List.mem_cons_self ..)
    · exact p4 a ha b (List.mem_cons_of_mem _ hb)
  · intro h9
    rcases hS.2 _ h9 with h9 | h9
    · exact h.notS h9
    · have := h1.lt; omega
  · rcases hmem x hx with rfl | ⟨hx, hne⟩
    · exact hgc
    · exact h.off x hx
  · rw [el]; exact h.len
theorem findR2_split {g : REnt} (h : findR2 G s = some g) : ∃ pre post, G = pre ++ g :: post := List.append_of_mem (findR2_some h).1
theorem cntR_set {pre post : List REnt} {g : REnt} (hn : ((cntR (pre ++ g :: post)).map (·.1)).Nodup) (LL' : List (List ByteArray)) : setC (cntR (pre ++ g :: post)) g.name (g.ar, LL') = cntR (pre ++ { g with LL := LL' } :: post) := by
  have hg : getC (cntR (pre ++ g :: post)) g.name = some (g.ar, g.LL) := (getC_mem hn).2 (List.mem_map.2 ⟨g, by simp, rfl⟩)
  unfold setC
  rw [hg]
  simp only [Option.isSome_some, if_true]
  have e1 : cntR (pre ++ g :: post) = cntR pre ++ g.cnt :: cntR post := by simp [cntR]
  have e2 : cntR (pre ++ { g with LL := LL' } :: post) = cntR pre ++ (g.name, g.ar, LL') :: cntR post := by simp [cntR, REnt.cnt]
  rw [e1] at hn ⊢
  rw [e2]
  rw [List.map_append, List.map_cons, List.nodup_append, List.nodup_cons] at hn
  obtain ⟨_, ⟨p2, _⟩, p4⟩ := hn
  rw [List.map_append, List.map_cons]
  congr 1
  · conv => rhs; rw [← List.map_id (cntR pre)]
    apply List.map_congr_left
    intro x hx
    rw [if_neg]
    · rfl
    · exact p4 x.1 (List.mem_map.2 ⟨x, hx, rfl⟩) g.name (List.mem_cons_self ..)
  · rw [if_pos (show (REnt.cnt g).1 = g.name from rfl)]
    congr 1
    conv => rhs; rw [← List.map_id (cntR post)]
    apply List.map_congr_left
    intro x hx
    rw [if_neg]
    · rfl
    · intro e
      exact p2 (by rw [show (REnt.cnt g).1 = g.name from rfl, ← e]; exact List.mem_map.2 ⟨x, hx, rfl⟩)
/-- A name comes: the contents. -/
theorem cntR_ins (hn : (cntR G).map (·.1) |>.Nodup) {g : REnt} (h : g.name ∉ G.map REnt.name) : (cntR (insN REnt.name G g)).Perm (cntR G ++ [g.cnt]) := by
  unfold cntR
  have := (insN_perm REnt.name G g).map REnt.cnt
  simpa using this
theorem RefOk.ins (h : RefOk G) {g : REnt} (hn : g.name ∉ G.map REnt.name) (hb : BaseOk (cntR G ++ [g.cnt])) : RefOk (insN REnt.name G g) ∧ SameC (cntR (insN REnt.name G g)) (cntR G ++ [g.cnt]) :=
  have hp := cntR_ins h.ok.nodup hn
  ⟨⟨perm_ok hp.symm hb, insN_strict REnt.name h.names hn⟩, (perm_same hp.symm hb.nodup).symm⟩
theorem refRows_cell {c n : Nat} {LL : List (List ByteArray)} (h : RefRows S w c n LL) : w.cell? ⟨c, 0, none⟩ = some (.int .i64 n) ∧ ∃ lo lc, w.cell? ⟨c, 1, none⟩ = some (.slice lo LL.length lc) := by
  obtain ⟨ao, cap, h1, _⟩ := h
  exact ⟨by rw [h1.cell']; rfl, ao, cap, by rw [h1.cell']; rfl⟩
/-- A new name. -/
theorem refB_fresh {k c : Nat} (h : RefB S w cb G) (ho : RefOk G) (hn : namedC s = true) (he : findR2 G s = none) (hk : k ≤ 64) (hx : Ext w w1) (hc : w.heap.size ≤ c) (hr : RefRows S w1 c k []) (w2 : World) (hk2 : Kp (fun k => k = cb) w1 w2) (hg : Grows w1 S S')
    (hb : RefB S' w2 cb (insN REnt.name G ⟨s, c, k, []⟩)) : Kp (fun k => k = cb) w w2 ∧ Grows w S S' ∧ RefOk (insN REnt.name G ⟨s, c, k, []⟩) ∧ SameC (cntR (insN REnt.name G ⟨s, c, k, []⟩)) (cntR G ++ [(s, k, [])]) ∧ (insN REnt.name G ⟨s, c, k, []⟩).length ≤ G.length + 1 ∧ ∀ q, OwnG cb (insN REnt.name G ⟨s, c, k, []⟩) q → OwnG cb G q ∨ w.heap.size ≤ q := by
  obtain ⟨g1, g2⟩ := findR2_none he
  have hd : declR (cntR G) s (k : Int) = 0 := declR_none hn (by omega) g1
  have hC : declC (cntR G) s (k : Int) = cntR G ++ [(s, k, [])] := by
    unfold declC
    rw [if_pos ⟨hd, g1⟩]; rfl
  have hbo : BaseOk (cntR G ++ [(s, k, [])]) := by rw [← hC]; exact ok_decl ho.ok s _
  obtain ⟨i1, i2⟩ := ho.ins (g := ⟨s, c, k, []⟩) g2 hbo
  refine ⟨(Ext.kp hx).trans hk2, (Grows.refl w S).trans hg hx.size, i1, i2, by rw [(insN_perm REnt.name G _).length_eq]; simp, fun q hq => ?_⟩
  rcases hq with rfl | ⟨x, hx, rfl⟩
  · exact .inl (.inl rfl)
  · rcases List.mem_append.1 ((insN_perm REnt.name G _).mem_iff.1 hx) with hx | hx
    · exact .inl (.inr ⟨x, hx, rfl⟩)
    · obtain rfl := List.mem_singleton.1 hx
      exact .inr hc
set_option maxRecDepth 100000 in
set_option maxHeartbeats 4000000 in
theorem refBDecl_any (h : RefB S w cb G) (ho : RefOk G) (s : ByteArray) (a : Int) (hl : G.length < 4194304) :
    Calls Tryz.prog 63 #[.pointer (some ⟨cb, 0, none⟩), .string s, .int .i64 a] w (RetF (fun k => k = cb) w fun w' v => v = .int .i64 ((declR (cntR G) s a : Nat) : Int) ∧ RefBTo S w cb G (declC (cntR G) s a) w') := by
  have H := Lib.hid (And.intro h (And.intro ho hl))
  have HN := Lib.hid (refNamed_any s w)
  clear h ho hl
  cases hn : namedC s with
  | false =>
    rw [hn] at HN
    have HNM := Lib.hid hn
    clear hn
    go_enter Tryz.func63, Tryz.ntmps63
    go_wp2_with fail
    refine HN.out.mono ?_
    rintro e w' ⟨rfl, rfl⟩
    go_wp2
    go_ret
    have e2 := declR_name (C := cntR G) a HNM.out
    exact RetF.mk (Kp.refl _) ⟨by rw [e2]; rfl, RefBTo.same H.out.1 H.out.2.1 (Kp.refl _) (declC_not (by rw [e2]; decide))⟩
  | true =>
    rw [hn] at HN
    have HNM := Lib.hid hn
    clear hn
    by_cases ha : a < 0 ∨ 64 < a
    · have HNB := Lib.hid (refNewRows_bad a w ha)
      have HAB := Lib.hid ha
      clear ha
      go_enter Tryz.func63, Tryz.ntmps63
      go_wp2_with fail
      refine HN.out.mono ?_
      rintro e w' ⟨rfl, rfl⟩
      go_wp2_with fail
      refine HNB.out.mono ?_
      rintro e w' ⟨rfl, rfl⟩
      go_wp2
      go_ret
      have e2 := declR_bad (s := s) (C := cntR G) HNM.out HAB.out
      exact RetF.mk (Kp.refl _) ⟨by rw [e2]; rfl, RefBTo.same H.out.1 H.out.2.1 (Kp.refl _) (declC_not (by rw [e2]; decide))⟩
    · obtain ⟨k, rfl⟩ := Int.eq_ofNat_of_zero_le (show 0 ≤ a by omega)
      have hk64 : k ≤ 64 := by omega
      have HNR := Lib.hid (refNewRows_any S w k hk64 H.out.1.inS)
      have HAN := Lib.hid ha
      clear ha
      cases he : findR2 G s with
      | none =>
        have HE := Lib.hid he
        clear he
        go_enter Tryz.func63, Tryz.ntmps63
        go_wp2_with fail
        refine HN.out.mono ?_
        rintro e w' ⟨rfl, rfl⟩
        go_wp2_with fail
        refine HNR.out.mono ?_
        rintro e w1 ⟨v, rfl, hk1, rfl, hrows⟩
        have HK1 := Lib.hid (And.intro hk1 hrows)
        clear hk1 hrows
        go_wp2_with fail
        refine (refBRows_any (H.out.1.ext HK1.out.1) s).mono ?_
        rintro e w2 ⟨v, rfl, hk2, hv⟩
        rw [HE.out] at hv
        replace hv : v = .pointer none := hv
        subst hv
        have HK2 := Lib.hid (And.intro hk2 (HK1.out.1.trans hk2))
        clear hk2
        go_wp2_with fail
        obtain ⟨gc, egc⟩ : ∃ gc, w.heap.size = gc := ⟨_, rfl⟩
        have HP := Lib.hid (refBPut_any (H.out.1.ext HK2.out.2) H.out.2.1.names ⟨s, w.heap.size, k, []⟩ (HK1.out.2.ext HK2.out.1) (fun x hx e => by have := (H.out.1.rows x hx).lt; simp only at e; omega) (fun e => by
          obtain ⟨na, nc, aa, ac, hB, _⟩ := H.out.1.blk
          have := hB.lt
          simp only at e; omega) H.out.2.2)
        refine HP.out.mono ?_
        rintro e w4 ⟨v, rfl, hk4, S', hS', hb⟩
        have HM4 := Lib.hid (And.intro hk4 (And.intro hS' hb))
        clear hk4 hS' hb
        go_wp2
        go_ret
        obtain ⟨g1, g2⟩ := findR2_none HE.out
        have hd : declR (cntR G) s (k : Int) = 0 := declR_none HNM.out (by omega) g1
        obtain ⟨f1, f2, f3, f4, f5, f6⟩ := refB_fresh H.out.1 H.out.2.1 HNM.out HE.out hk64 HK2.out.2 (Nat.le_refl _) (HK1.out.2.ext HK2.out.1) w4 HM4.out.1 HM4.out.2.1 HM4.out.2.2
        refine RetF.mk f1 ⟨by rw [hd]; rfl, S', _, f2, HM4.out.2.2, f3, ?_, f5, f6⟩
        have hC : declC (cntR G) s (k : Int) = cntR G ++ [(s, k, [])] := by
          unfold declC
          rw [if_pos ⟨hd, g1⟩]; rfl
        rw [hC]; exact f4
      | some g =>
        have HE := Lib.hid he
        obtain ⟨c, ec⟩ : ∃ c, g.c = c := ⟨_, rfl⟩
        obtain ⟨ar, ear⟩ : ∃ ar, g.ar = ar := ⟨_, rfl⟩
        have hcell := (refRows_cell (H.out.1.rows g (findR2_some he).1)).1
        rw [ec, ear] at hcell
        have hg := (findR2_cnt he).1
        have hR := declR_some (C := cntR G) HNM.out HAN.out hg
        rw [ear] at hR
        have HR := Lib.hid (And.intro hR (And.intro (declC_some (C := cntR G) (a := (k : Int)) hg) ec))
        clear he ec ear hg hR
        by_cases hq : ar = k
        all_goals
          have HQ := Lib.hid hq
          first
            | have q1 : ((ar : Int) != (k : Int)) = false := by simp [hq]
            | have q1 : ((ar : Int) != (k : Int)) = true := by rw [bne_iff_ne]; omega
          clear hq
          go_enter Tryz.func63, Tryz.ntmps63
          go_wp2_with fail
          refine HN.out.mono ?_
          rintro e w' ⟨rfl, rfl⟩
          go_wp2_with fail
          refine HNR.out.mono ?_
          rintro e w1 ⟨v, rfl, hk1, rfl, hrows⟩
          have HK1 := Lib.hid hk1
          clear hk1 hrows
          go_wp2_with fail
          refine (refBRows_any (H.out.1.ext HK1.out) s).mono ?_
          rintro e w2 ⟨v, rfl, hk2, hv⟩
          rw [HE.out] at hv
          replace hv : v = .pointer (some ⟨g.c, 0, none⟩) := hv
          rw [HR.out.2.2] at hv
          subst hv
          have HK2 := Lib.hid (HK1.out.trans hk2)
          have d1 := HK2.out.cell hcell id
          clear hk2 hcell
          go_wp2
          go_ret
          refine RetF.mk (Ext.kp HK2.out) ⟨?_, RefBTo.same H.out.1 H.out.2.1 HK2.out HR.out.2.1⟩
          rw [HR.out.1]
          first
            | rw [if_pos (by rw [HQ.out])]; rfl
            | rw [if_neg (fun q => HQ.out (by omega))]; rfl
theorem refBAdd_same (h : RefB S w cb G) (ho : RefOk G) (hk : Ext w w1) {n : Nat} (hR : addR (cntR G) s ss = (false, n)) (hn : n ≠ 0) :
    RetF (OwnG cb G) w (fun w' v => v = .tuple #[.bool (addR (cntR G) s ss).1, .int .i64 ((addR (cntR G) s ss).2 : Nat)] ∧ RefBTo S w cb G (addC (cntR G) s ss) w') (.returned (.tuple #[.bool false, .int .i64 (n : Nat)])) w1 :=
  RetF.mk (Ext.kp hk) ⟨by rw [hR], RefBTo.same h ho hk (addC_not (by rw [hR]; exact hn))⟩
theorem rowsAdd_ok {n : Nat} {LL : List (List ByteArray)} (h1 : ss.length = n) (h2 : textsC ss = true) (h3 : ¬ (65536 ≤ LL.length ∧ isIn cmpRow LL ss = false)) : rowsAddR n LL ss = (!isIn cmpRow LL ss, 0) ∧ rowsAddL n LL ss = addS cmpRow LL ss := by
  have e : rowsAddR n LL ss = (!isIn cmpRow LL ss, 0) := by
    unfold rowsAddR
    rw [if_neg (by simp [h1]), if_neg (by simp [h2]), if_neg h3]
  exact ⟨e, by unfold rowsAddL; rw [e, if_pos rfl]⟩
/-- A row under a name that is there. -/
theorem refBAdd_old {g : REnt} (h : RefB S w cb G) (ho : RefOk G) (hf : findR2 G s = some g) (hR : addR (cntR G) s ss = (!isIn cmpRow g.LL ss, 0)) (har : g.ar = ss.length) (hx : Ext w w2) (hk : Kp (fun k => k = g.c) w2 w3) (hS : Grows w2 S S') (hr : RefRows S' w3 g.c g.ar (addS cmpRow g.LL ss)) :
    RetF (OwnG cb G) w (fun w' v => v = .tuple #[.bool (addR (cntR G) s ss).1, .int .i64 ((addR (cntR G) s ss).2 : Nat)] ∧ RefBTo S w cb G (addC (cntR G) s ss) w') (.returned (.tuple #[.bool (!isIn cmpRow g.LL ss), .int .i64 0])) w3 := by
  obtain ⟨g1, g2⟩ := findR2_cnt hf
  obtain ⟨hm, hn⟩ := findR2_some hf
  obtain ⟨pre, post, e⟩ := findR2_split hf
  have hC : addC (cntR G) s ss = setC (cntR G) s (g.ar, addS cmpRow g.LL ss) := by
    unfold addC
    rw [hR, if_pos rfl, g2, har]
  have hbo := ok_add ho.ok s ss
  rw [hC] at hbo ⊢
  have hx2 := (h.ext hx)
  subst e
  have hs := cntR_set ho.ok.nodup (addS cmpRow g.LL ss)
  rw [← hn, hs] at hbo ⊢
  have en : (pre ++ { g with LL := addS cmpRow g.LL ss } :: post).map REnt.name = (pre ++ g :: post).map REnt.name := by simp
  refine RetF.mk ((Ext.kp hx).trans (hk.mono fun k _ e => .inr ⟨g, hm, e⟩)) ⟨by rw [hn, hR]; rfl, S', _, (Grows.refl w S).trans hS hx.size, hx2.turn hk hS hr, ⟨hbo, by rw [en]; exact ho.names⟩, SameC.refl _, by simp, ?_⟩
  rintro k (e | ⟨x, hx, e⟩)
  · exact .inl (.inl e)
  · rcases List.mem_append.1 hx with hx | hx
    · exact .inl (.inr ⟨x, by simp [hx], e⟩)
    · rcases List.mem_cons.1 hx with rfl | hx
      · exact .inl (.inr ⟨g, hm, e⟩)
      · exact .inl (.inr ⟨x, by simp [hx], e⟩)
/-- The first row under a new name. -/
theorem refBAdd_new {S2 : Nat → Prop} {c : Nat} (h : RefB S w cb G) (ho : RefOk G) (hf : findR2 G s = none) (hn : namedC s = true) (hl : ss.length ≤ 64) (hR : addR (cntR G) s ss = (true, 0)) (hx : Ext w w1) (hc : w.heap.size ≤ c) (hr1 : RefRows S w1 c ss.length []) (hk2 : Kp (fun k => k = cb) w1 w2) (hS2 : Grows w1 S S2) (hb : RefB S2 w2 cb (insN REnt.name G ⟨s, c, ss.length, []⟩))
    (hk : Kp (fun k => k = c) w2 w3) (hS : Grows w2 S2 S') (hr : RefRows S' w3 c ss.length (addS cmpRow [] ss)) :
    RetF (OwnG cb G) w (fun w' v => v = .tuple #[.bool (addR (cntR G) s ss).1, .int .i64 ((addR (cntR G) s ss).2 : Nat)] ∧ RefBTo S w cb G (addC (cntR G) s ss) w') (.returned (.tuple #[.bool true, .int .i64 0])) w3 := by
  obtain ⟨g1, g2⟩ := findR2_none hf
  obtain ⟨f1, f2, f3, f4, f5, f6⟩ := refB_fresh h ho hn hf hl hx hc hr1 w2 hk2 hS2 hb
  have hC : addC (cntR G) s ss = setC (cntR G) s (ss.length, addS cmpRow [] ss) := by
    unfold addC
    rw [hR, if_pos rfl, rows_none g1]
  have hsame : SameC (cntR (insN REnt.name G ⟨s, c, ss.length, addS cmpRow [] ss⟩)) (addC (cntR G) s ss) := by
    have hp := cntR_ins ho.ok.nodup (g := ⟨s, c, ss.length, addS cmpRow [] ss⟩) g2
    rw [hC]
    have e : setC (cntR G) s (ss.length, addS cmpRow [] ss) = cntR G ++ [(s, ss.length, addS cmpRow [] ss)] := by
      unfold setC
      rw [g1]; rfl
    have hbo := ok_add ho.ok s ss
    rw [hC, e] at hbo
    rw [e]
    exact (perm_same hp.symm hbo.nodup).symm
  have hbo := ok_add ho.ok s ss
  have hbo2 : BaseOk (cntR (insN REnt.name G ⟨s, c, ss.length, addS cmpRow [] ss⟩)) := by
    have hp := cntR_ins ho.ok.nodup (g := ⟨s, c, ss.length, addS cmpRow [] ss⟩) g2
    refine perm_ok hp.symm ?_
    have e : setC (cntR G) s (ss.length, addS cmpRow [] ss) = cntR G ++ [(s, ss.length, addS cmpRow [] ss)] := by
      unfold setC
      rw [g1]; rfl
    rw [hC, e] at hbo
    exact hbo
  have hturn : RefB S' w3 cb (insN REnt.name G ⟨s, c, ss.length, addS cmpRow [] ss⟩) := by
    unfold insN at hb ⊢
    exact hb.turn hk hS hr
  refine RetF.mk ((f1.mono fun k _ e => .inl e).trans' hk fun k hk e => by omega) ⟨by rw [hR]; rfl, S', _, f2.trans hS f1.size, hturn, ⟨hbo2, ?_⟩, hsame, ?_, ?_⟩
  · exact insN_strict REnt.name ho.names g2
  · have := (insN_perm REnt.name G ⟨s, c, ss.length, addS cmpRow [] ss⟩).length_eq
    rw [this]; simp
  · rintro k (e | ⟨x, hx, e⟩)
    · exact .inl (.inl e)
    · rcases List.mem_append.1 ((insN_perm REnt.name G _).mem_iff.1 hx) with hx | hx
      · exact .inl (.inr ⟨x, hx, e⟩)
      · obtain rfl := List.mem_singleton.1 hx
        rw [e]; exact .inr hc
set_option maxRecDepth 100000 in
set_option maxHeartbeats 4000000 in
theorem refBAdd_anyE (h : RefB S w cb G) (ho : RefOk G) (s : ByteArray) {xo : Option Addr} {m xc : Nat} {ss : List ByteArray} (hm : m = ss.length) (hx : CellsAt w xo (strs ss)) (hss : ss.length ≤ 8796093021952) (hxo : ss ≠ [] → Off (fun k => k = cb) xo) (hl : G.length < 4194304) :
    Calls Tryz.prog 64 #[.pointer (some ⟨cb, 0, none⟩), .string s, .slice xo m xc] w (RetF (OwnG cb G) w fun w' v => v = .tuple #[.bool (addR (cntR G) s ss).1, .int .i64 ((addR (cntR G) s ss).2 : Nat)] ∧ RefBTo S w cb G (addC (cntR G) s ss) w') := by
  have H := Lib.hid (And.intro h (And.intro ho hl))
  have HN := Lib.hid (refNamed_any s w)
  have HX := Lib.hid (And.intro hm (And.intro hx (And.intro hss hxo)))
  have HT := Lib.hid (fun W (hW : Ext w W) => refTexts_any ss xo m xc W hm (hx.ext hW) (by omega))
  have hm8 : m ≤ 8796093021952 := by omega
  clear h ho hl hm hx hss hxo
  cases hn : namedC s with
  | false =>
    rw [hn] at HN
    have HNM := Lib.hid hn
    clear hn
    go_enter Tryz.func64, Tryz.ntmps64
    go_wp2_with fail
    refine HN.out.mono ?_
    rintro e w' ⟨rfl, rfl⟩
    go_wp2
    go_ret2
    exact refBAdd_same H.out.1 H.out.2.1 (Kp.refl _) (addR_name ss HNM.out) (by decide)
  | true =>
    rw [hn] at HN
    have HNM := Lib.hid hn
    clear hn
    cases hf : findR2 G s with
    | some g =>
      obtain ⟨hmem, hname⟩ := findR2_some hf
      obtain ⟨hget, hrows⟩ := findR2_cnt hf
      have hrr := H.out.1.rows g hmem
      have hok := H.out.2.1.ok.all g.cnt (List.mem_map.2 ⟨g, hmem, rfl⟩)
      have har64 : g.ar ≤ 64 := hok.ar
      have hst : Strict cmpRow g.LL := hok.strict
      have hfew : g.LL.length ≤ 65536 := hok.few
      obtain ⟨d0, lo, lc, d1⟩ := refRows_cell hrr
      have HF := Lib.hid (And.intro hf (And.intro hget (And.intro hrows (And.intro hrr hst))))
      have HB := Lib.hid (refBRows_any H.out.1 s)
      have HFind := Lib.hid (fun W (hW : Ext w W) => refRowFind_any (hrr.ext hW) hst (xc := xc) HX.out.1 (HX.out.2.1.ext hW) HX.out.2.2.1)
      have HAdd := Lib.hid (fun W (hW : Ext w W) => refAdd_any (hrr.ext hW) hst (xc := xc) HX.out.1 (HX.out.2.1.ext hW) HX.out.2.2.1 (by omega))
      have HLen := Lib.hid (fun W (hW : Ext w W) => refBLen_any (H.out.1.ext hW) (by have := H.out.2.1.ok.few; omega))
      obtain ⟨c, ec⟩ : ∃ c, g.c = c := ⟨_, rfl⟩
      obtain ⟨ar, ear⟩ : ∃ ar, g.ar = ar := ⟨_, rfl⟩
      obtain ⟨ln, eln⟩ : ∃ ln, g.LL.length = ln := ⟨_, rfl⟩
      have hB2 : Calls Tryz.prog 79 #[.pointer (some ⟨cb, 0, none⟩), .string s] w (RetN w fun w' v => v = .pointer (some ⟨c, 0, none⟩)) := by
        rw [← ec]; have := HB.out; rw [hf] at this; exact this
      have HB2 := Lib.hid hB2
      rw [ec] at d0 d1 HFind HAdd
      rw [ear] at d0 har64
      rw [eln] at d1 hfew
      have HE := Lib.hid (And.intro ec (And.intro ear eln))
      clear hf hmem hname hget hrows hrr hok hst HB hB2 ec ear eln
      by_cases h64 : m ≤ 64
      · by_cases har : ar = m
        · have q1 : ((ar : Int) != (m : Int)) = false := by simp [har]
          have t1 : decide ((m : Int) > 64) = false := by simp; omega
          have t2 : decide (64 < (m : Int)) = false := by simp; omega
          have HAr := Lib.hid har
          have hlen : ss.length = g.ar := by rw [HE.out.2.1, HAr.out, HX.out.1]
          have hao : arOk (cntR G) s ss = true := ar_some HF.out.2.1 hlen.symm
          have HAo := Lib.hid (And.intro hlen hao)
          clear har hlen hao h64 hm8 har64
          cases ht : textsC ss with
          | false =>
            have HT2 := Lib.hid ht
            rw [ht] at HT
            clear ht
            go_enter Tryz.func64, Tryz.ntmps64
            go_wp2_with fail
            refine HN.out.mono ?_
            rintro e w' ⟨rfl, rfl⟩
            go_wp2_with fail
            refine HB2.out.mono ?_
            rintro e w1 ⟨v, rfl, hk1, rfl⟩
            have d01 := hk1.cell d0 id
            have HK1 := Lib.hid hk1
            clear hk1 d0 d1
            go_wp2_with fail
            refine (HT.out w1 HK1.out).mono ?_
            rintro e w' ⟨rfl, rfl⟩
            go_wp2
            go_ret2
            exact refBAdd_same H.out.1 H.out.2.1 HK1.out (addR_text HNM.out HAo.out.2 HT2.out) (by decide)
          | true =>
            have HT2 := Lib.hid ht
            rw [ht] at HT
            clear ht
            cases hin : isIn cmpRow g.LL ss with
            | true =>
              have hRR := addR_rest (C := cntR G) (row := ss) HNM.out HAo.out.2 HT2.out (by rw [HF.out.2.2.1, hin]; simp)
              rw [HF.out.2.2.1, hin, if_neg (by simp)] at hRR
              have hadd := rowsAdd_ok (n := g.ar) (LL := g.LL) (ss := ss) HAo.out.1 HT2.out (by rw [hin]; simp)
              have ef : findR g.LL ss = (below cmpRow g.LL ss : Nat) := by unfold findR; rw [if_pos hin]
              rw [ef] at HFind
              obtain ⟨bl, ebl⟩ : ∃ bl, below cmpRow g.LL ss = bl := ⟨_, rfl⟩
              rw [ebl] at HFind
              have HIn := Lib.hid (And.intro hRR (And.intro hadd hin))
              have t1' : decide ((bl : Int) < 0) = false := by simp
              clear hRR hadd hin ef ebl
              go_enter Tryz.func64, Tryz.ntmps64
              go_wp2_with fail
              refine HN.out.mono ?_
              rintro e w' ⟨rfl, rfl⟩
              go_wp2_with fail
              refine HB2.out.mono ?_
              rintro e w1 ⟨v, rfl, hk1, rfl⟩
              have d01 := hk1.cell d0 id
              have HK1 := Lib.hid hk1
              clear hk1 d0 d1
              go_wp2_with fail
              refine (HT.out w1 HK1.out).mono ?_
              rintro e w' ⟨rfl, rfl⟩
              go_wp2_with fail
              refine (HFind.out w1 HK1.out).mono ?_
              rintro e w2 ⟨v, rfl, hk2, rfl⟩
              have HK2 := Lib.hid (HK1.out.trans hk2)
              clear hk2
              go_wp2_with fail
              refine (HAdd.out w2 HK2.out).mono ?_
              rintro e w3 ⟨v, rfl, hk3, hv, S', hS', hr3⟩
              rw [HIn.out.2.1.1, HIn.out.2.2] at hv
              subst hv
              have HK3 := Lib.hid (And.intro hk3 (And.intro hS' hr3))
              clear hk3 hS' hr3
              go_wp2
              go_ret2
              have hfin := refBAdd_old (ss := ss) H.out.1 H.out.2.1 HF.out.1 (by rw [HIn.out.1, HIn.out.2.2]) HAo.out.1.symm HK2.out (by rw [HE.out.1]; exact HK3.out.1) HK3.out.2.1 (by rw [HE.out.1]; rw [← HIn.out.2.1.2]; exact HK3.out.2.2)
              rw [HIn.out.2.2] at hfin
              exact hfin
            | false =>
              have ef : findR g.LL ss = -1 := by unfold findR; rw [if_neg (by simp [hin])]
              rw [ef] at HFind
              have hir : isIn cmpRow (rowsC (cntR G) s) ss = false := by rw [HF.out.2.2.1]; exact hin
              obtain ⟨tot, etot⟩ : ∃ tot, totalC (cntR G) = tot := ⟨_, rfl⟩
              rw [etot] at HLen
              by_cases hmany : 262144 ≤ tot
              · have t3 : decide ((tot : Int) ≥ 262144) = true := by simp; omega
                have t4 : decide ((262144 : Int) ≤ (tot : Int)) = true := by simp; omega
                have hR := addR_many (C := cntR G) HNM.out HAo.out.2 HT2.out (by rw [etot]; exact hmany) hir
                have HR := Lib.hid hR
                clear hin ef hir etot hmany hR
                go_enter Tryz.func64, Tryz.ntmps64
                go_wp2_with fail
                refine HN.out.mono ?_
                rintro e w' ⟨rfl, rfl⟩
                go_wp2_with fail
                refine HB2.out.mono ?_
                rintro e w1 ⟨v, rfl, hk1, rfl⟩
                have d01 := hk1.cell d0 id
                have HK1 := Lib.hid hk1
                clear hk1 d0 d1
                go_wp2_with fail
                refine (HT.out w1 HK1.out).mono ?_
                rintro e w' ⟨rfl, rfl⟩
                go_wp2_with fail
                refine (HFind.out w1 HK1.out).mono ?_
                rintro e w2 ⟨v, rfl, hk2, rfl⟩
                have HK2 := Lib.hid (HK1.out.trans hk2)
                clear hk2
                go_wp2_with fail
                refine (HLen.out w2 HK2.out).mono ?_
                rintro e w3 ⟨v, rfl, hk3, rfl⟩
                have HK3 := Lib.hid (HK2.out.trans hk3)
                clear hk3
                go_wp2
                go_ret2
                exact refBAdd_same H.out.1 H.out.2.1 HK3.out HR.out (by decide)
              · have t3 : decide ((tot : Int) ≥ 262144) = false := by simp; omega
                have t4 : decide ((262144 : Int) ≤ (tot : Int)) = false := by simp; omega
                have hRR := addR_rest (C := cntR G) (row := ss) HNM.out HAo.out.2 HT2.out (by rw [etot]; omega)
                rw [HF.out.2.2.1, hin] at hRR
                by_cases hfull : 65536 ≤ ln
                · have t5 : decide ((ln : Int) ≥ 65536) = true := by simp; omega
                  have t6 : decide ((65536 : Int) ≤ (ln : Int)) = true := by simp; omega
                  rw [if_pos ⟨by rw [HE.out.2.2]; exact hfull, rfl⟩] at hRR
                  have HR := Lib.hid hRR
                  clear hin ef hir etot hmany hRR hfull hfew
                  go_enter Tryz.func64, Tryz.ntmps64
                  go_wp2_with fail
                  refine HN.out.mono ?_
                  rintro e w' ⟨rfl, rfl⟩
                  go_wp2_with fail
                  refine HB2.out.mono ?_
                  rintro e w1 ⟨v, rfl, hk1, rfl⟩
                  have d01 := hk1.cell d0 id
                  have HK1 := Lib.hid hk1
                  clear hk1 d0
                  go_wp2_with fail
                  refine (HT.out w1 HK1.out).mono ?_
                  rintro e w' ⟨rfl, rfl⟩
                  go_wp2_with fail
                  refine (HFind.out w1 HK1.out).mono ?_
                  rintro e w2 ⟨v, rfl, hk2, rfl⟩
                  have HK2 := Lib.hid (HK1.out.trans hk2)
                  clear hk2
                  go_wp2_with fail
                  refine (HLen.out w2 HK2.out).mono ?_
                  rintro e w3 ⟨v, rfl, hk3, rfl⟩
                  have HK3 := Lib.hid (HK2.out.trans hk3)
                  have d13 := HK3.out.cell d1 id
                  clear hk3 d1
                  go_wp2
                  go_ret2
                  exact refBAdd_same H.out.1 H.out.2.1 HK3.out HR.out (by decide)
                · have t5 : decide ((ln : Int) ≥ 65536) = false := by simp; omega
                  have t6 : decide ((65536 : Int) ≤ (ln : Int)) = false := by simp; omega
                  rw [if_neg (fun h => hfull (by rw [← HE.out.2.2]; exact h.1))] at hRR
                  have hadd := rowsAdd_ok (n := g.ar) (LL := g.LL) (ss := ss) HAo.out.1 HT2.out (fun h => hfull (by rw [← HE.out.2.2]; exact h.1))
                  have HIn := Lib.hid (And.intro hRR (And.intro hadd hin))
                  clear hin ef hir etot hmany hRR hfull hfew hadd
                  go_enter Tryz.func64, Tryz.ntmps64
                  go_wp2_with fail
                  refine HN.out.mono ?_
                  rintro e w' ⟨rfl, rfl⟩
                  go_wp2_with fail
                  refine HB2.out.mono ?_
                  rintro e w1 ⟨v, rfl, hk1, rfl⟩
                  have d01 := hk1.cell d0 id
                  have HK1 := Lib.hid hk1
                  clear hk1 d0
                  go_wp2_with fail
                  refine (HT.out w1 HK1.out).mono ?_
                  rintro e w' ⟨rfl, rfl⟩
                  go_wp2_with fail
                  refine (HFind.out w1 HK1.out).mono ?_
                  rintro e w2 ⟨v, rfl, hk2, rfl⟩
                  have HK2 := Lib.hid (HK1.out.trans hk2)
                  clear hk2
                  go_wp2_with fail
                  refine (HLen.out w2 HK2.out).mono ?_
                  rintro e w3 ⟨v, rfl, hk3, rfl⟩
                  have HK3 := Lib.hid (HK2.out.trans hk3)
                  have d13 := HK3.out.cell d1 id
                  clear hk3 d1
                  go_wp2_with fail
                  refine (HAdd.out w3 HK3.out).mono ?_
                  rintro e w4 ⟨v, rfl, hk4, hv, S', hS', hr4⟩
                  rw [HIn.out.2.1.1, HIn.out.2.2] at hv
                  subst hv
                  have HK4 := Lib.hid (And.intro hk4 (And.intro hS' hr4))
                  clear hk4 hS' hr4
                  go_wp2
                  go_ret2
                  have hfin := refBAdd_old (ss := ss) H.out.1 H.out.2.1 HF.out.1 (by rw [HIn.out.1, HIn.out.2.2]) HAo.out.1.symm HK3.out (by rw [HE.out.1]; exact HK4.out.1) HK4.out.2.1 (by rw [HE.out.1]; rw [← HIn.out.2.1.2]; exact HK4.out.2.2)
                  rw [HIn.out.2.2] at hfin
                  exact hfin
        · have q1 : ((ar : Int) != (m : Int)) = true := by rw [bne_iff_ne]; omega
          have t1 : decide ((m : Int) > 64) = false := by simp; omega
          have t2 : decide (64 < (m : Int)) = false := by simp; omega
          have hR := addR_arity (row := ss) HNM.out HF.out.2.1 (by rw [← HX.out.1]; show g.ar ≠ m; rw [HE.out.2.1]; exact har)
          have HR := Lib.hid hR
          clear har hR h64 hm8 har64 d1
          go_enter Tryz.func64, Tryz.ntmps64
          go_wp2_with fail
          refine HN.out.mono ?_
          rintro e w' ⟨rfl, rfl⟩
          go_wp2_with fail
          refine HB2.out.mono ?_
          rintro e w1 ⟨v, rfl, hk1, rfl⟩
          have d01 := hk1.cell d0 id
          have HK1 := Lib.hid hk1
          clear hk1 d0
          go_wp2
          go_ret2
          exact refBAdd_same H.out.1 H.out.2.1 HK1.out HR.out (by decide)
      · have t1 : decide ((m : Int) > 64) = true := by simp; omega
        have t2 : decide (64 < (m : Int)) = true := by simp; omega
        have hR := addR_arity (row := ss) HNM.out HF.out.2.1 (by rw [← HX.out.1]; show g.ar ≠ m; rw [HE.out.2.1]; omega)
        have HR := Lib.hid hR
        clear hR h64 hm8 har64 d0 d1
        go_enter Tryz.func64, Tryz.ntmps64
        go_wp2_with fail
        refine HN.out.mono ?_
        rintro e w' ⟨rfl, rfl⟩
        go_wp2_with fail
        refine HB2.out.mono ?_
        rintro e w1 ⟨v, rfl, hk1, rfl⟩
        have HK1 := Lib.hid hk1
        clear hk1
        go_wp2
        go_ret2
        exact refBAdd_same H.out.1 H.out.2.1 HK1.out HR.out (by decide)
    | none =>
      obtain ⟨hget, hno⟩ := findR2_none hf
      have HB := Lib.hid (refBRows_any H.out.1 s)
      rw [hf] at HB
      have HB2 := Lib.hid (show Calls Tryz.prog 79 #[.pointer (some ⟨cb, 0, none⟩), .string s] w (RetN w fun w' v => v = .pointer none) from HB.out)
      have HLen := Lib.hid (fun W (hW : Ext w W) => refBLen_any (H.out.1.ext hW) (by have := H.out.2.1.ok.few; omega))
      have HF := Lib.hid (And.intro hf (And.intro hget hno))
      clear hf hget hno HB
      by_cases h64 : m ≤ 64
      · have t1 : decide ((m : Int) > 64) = false := by simp; omega
        have t2 : decide (64 < (m : Int)) = false := by simp; omega
        have hss : ss.length ≤ 64 := by rw [← HX.out.1]; exact h64
        have hao : arOk (cntR G) s ss = true := ar_none HF.out.2.1 hss
        have HAo := Lib.hid (And.intro hss hao)
        clear hss hao h64 hm8
        cases ht : textsC ss with
        | false =>
          have HT2 := Lib.hid ht
          rw [ht] at HT
          clear ht
          go_enter Tryz.func64, Tryz.ntmps64
          go_wp2_with fail
          refine HN.out.mono ?_
          rintro e w' ⟨rfl, rfl⟩
          go_wp2_with fail
          refine HB2.out.mono ?_
          rintro e w1 ⟨v, rfl, hk1, rfl⟩
          have HK1 := Lib.hid hk1
          clear hk1
          go_wp2_with fail
          refine (HT.out w1 HK1.out).mono ?_
          rintro e w' ⟨rfl, rfl⟩
          go_wp2
          go_ret2
          exact refBAdd_same H.out.1 H.out.2.1 HK1.out (addR_text HNM.out HAo.out.2 HT2.out) (by decide)
        | true =>
          have HT2 := Lib.hid ht
          rw [ht] at HT
          clear ht
          have hir : isIn cmpRow (rowsC (cntR G) s) ss = false := by rw [rows_none HF.out.2.1]; rfl
          obtain ⟨tot, etot⟩ : ∃ tot, totalC (cntR G) = tot := ⟨_, rfl⟩
          rw [etot] at HLen
          by_cases hmany : 262144 ≤ tot
          · have t3 : decide ((tot : Int) ≥ 262144) = true := by simp; omega
            have t4 : decide ((262144 : Int) ≤ (tot : Int)) = true := by simp; omega
            have HR := Lib.hid (addR_many (C := cntR G) HNM.out HAo.out.2 HT2.out (by rw [etot]; exact hmany) hir)
            clear hir etot hmany
            go_enter Tryz.func64, Tryz.ntmps64
            go_wp2_with fail
            refine HN.out.mono ?_
            rintro e w' ⟨rfl, rfl⟩
            go_wp2_with fail
            refine HB2.out.mono ?_
            rintro e w1 ⟨v, rfl, hk1, rfl⟩
            have HK1 := Lib.hid hk1
            clear hk1
            go_wp2_with fail
            refine (HT.out w1 HK1.out).mono ?_
            rintro e w' ⟨rfl, rfl⟩
            go_wp2_with fail
            refine (refRowFind_nil _ w1).mono ?_
            rintro e w' ⟨rfl, rfl⟩
            go_wp2_with fail
            refine (HLen.out w1 HK1.out).mono ?_
            rintro e w3 ⟨v, rfl, hk3, rfl⟩
            have HK3 := Lib.hid (HK1.out.trans hk3)
            clear hk3
            go_wp2
            go_ret2
            exact refBAdd_same H.out.1 H.out.2.1 HK3.out HR.out (by decide)
          · have t3 : decide ((tot : Int) ≥ 262144) = false := by simp; omega
            have t4 : decide ((262144 : Int) ≤ (tot : Int)) = false := by simp; omega
            have hRR := addR_rest (C := cntR G) (row := ss) HNM.out HAo.out.2 HT2.out (by rw [etot]; omega)
            rw [rows_none HF.out.2.1, if_neg (by simp)] at hRR
            have hadd := rowsAdd_ok (n := ss.length) (LL := []) (ss := ss) rfl HT2.out (by simp)
            have HIn := Lib.hid (And.intro hRR hadd)
            clear hir etot hmany hRR hadd
            have hcb : cb < w.heap.size := by obtain ⟨na, nc, aa, ac, hB, _⟩ := H.out.1.blk; exact hB.lt
            have HCb := Lib.hid hcb
            clear hcb
            go_enter Tryz.func64, Tryz.ntmps64
            go_wp2_with fail
            refine HN.out.mono ?_
            rintro e w' ⟨rfl, rfl⟩
            go_wp2_with fail
            refine HB2.out.mono ?_
            rintro e w1 ⟨v, rfl, hk1, rfl⟩
            have HK1 := Lib.hid hk1
            clear hk1
            go_wp2_with fail
            refine (HT.out w1 HK1.out).mono ?_
            rintro e w' ⟨rfl, rfl⟩
            go_wp2_with fail
            refine (refRowFind_nil _ w1).mono ?_
            rintro e w' ⟨rfl, rfl⟩
            go_wp2_with fail
            refine (HLen.out w1 HK1.out).mono ?_
            rintro e w3 ⟨v, rfl, hk3, rfl⟩
            have HK3 := Lib.hid (HK1.out.trans hk3)
            clear hk3
            go_wp2_with fail
            obtain ⟨gc, egc⟩ : ∃ gc, w3.heap.size = gc := ⟨_, rfl⟩
            obtain ⟨w4, ew4⟩ : ∃ w4, w3.alloc (.cells #[.int .i64 m, .slice none 0 0] 152) = w4 := ⟨_, rfl⟩
            rw [egc, ew4]
            have hz3 := HK3.out.size
            have hB4 : Blk w4 gc [.int .i64 m, .slice none 0 0] 152 := by rw [← ew4, ← egc]; exact Blk.new w3 [_, _] _
            have hk4 : Ext w w4 := by rw [← ew4]; exact HK3.out.alloc _
            have hr4 : RefRows S w4 gc m [] := ⟨none, 0, hB4, RowsIn.nil _ _, ⟨Nat.le_refl _, by decide, .inl ⟨rfl, rfl⟩⟩, fun h => by have := H.out.1.inS _ h; omega, fun k h => Nat.lt_of_lt_of_le (H.out.1.inS k h) hk4.size, by simp⟩
            have HK4 := Lib.hid (And.intro hk4 (And.intro hr4 (show w.heap.size ≤ gc by omega)))
            have HP := Lib.hid (refBPut_any (H.out.1.ext hk4) H.out.2.1.names ⟨s, gc, m, []⟩ hr4 (fun x hx e => by have := (H.out.1.rows x hx).lt; simp only at e; omega) (fun e => by have := HCb.out; simp only at e; omega) H.out.2.2)
            clear hB4 hk4 hr4 ew4 egc hz3
            refine HP.out.mono ?_
            rintro e w5 ⟨v, rfl, hk5, S2, hS2, hb5⟩
            have hgm : (⟨s, gc, m, []⟩ : REnt) ∈ insN REnt.name G ⟨s, gc, m, []⟩ := (insN_perm REnt.name G _).mem_iff.2 (by simp)
            have hr5 : RefRows S2 w5 gc m [] := hb5.rows _ hgm
            have hx5 : CellsAt w5 xo (strs ss) := by
              by_cases e0 : ss = []
              · rw [e0]; exact CellsAt.nil _ _
              · exact (HX.out.2.1.ext HK4.out.1).kp hk5 fun a e f => HX.out.2.2.2 e0 a e f
            have HK5 := Lib.hid (And.intro hk5 (And.intro hS2 (And.intro hb5 (And.intro hr5 hx5))))
            clear hk5 hS2 hb5 hr5 hx5 hgm
            go_wp2_with fail
            refine (refAdd_any HK5.out.2.2.2.1 strict_nil (xc := xc) HX.out.1 HK5.out.2.2.2.2 HX.out.2.2.1 (by simp)).mono ?_
            rintro e w6 ⟨v, rfl, hk6, hv, S', hS', hr6⟩
            have hm2 := HX.out.1
            rw [hm2, HIn.out.2.1] at hv
            subst hv
            have HK6 := Lib.hid (And.intro hk6 (And.intro hS' hr6))
            clear hk6 hS' hr6 hm2
            go_wp2
            go_ret2
            have hm2 := HX.out.1
            have hr6 := HK6.out.2.2
            have hb5 := HK5.out.2.2.1
            have hr4 := HK4.out.2.1
            rw [hm2] at hr4 hb5 hr6
            rw [HIn.out.2.2] at hr6
            exact refBAdd_new H.out.1 H.out.2.1 HF.out.1 HNM.out HAo.out.1 HIn.out.1 HK4.out.1 HK4.out.2.2 hr4 HK5.out.1 HK5.out.2.1 hb5 HK6.out.1 HK6.out.2.1 hr6
      · have t1 : decide ((m : Int) > 64) = true := by simp; omega
        have t2 : decide (64 < (m : Int)) = true := by simp; omega
        have HR := Lib.hid (addR_long (row := ss) HNM.out HF.out.2.1 (by rw [← HX.out.1]; omega))
        clear h64 hm8
        go_enter Tryz.func64, Tryz.ntmps64
        go_wp2_with fail
        refine HN.out.mono ?_
        rintro e w' ⟨rfl, rfl⟩
        go_wp2_with fail
        refine HB2.out.mono ?_
        rintro e w1 ⟨v, rfl, hk1, rfl⟩
        have HK1 := Lib.hid hk1
        clear hk1
        go_wp2
        go_ret2
        exact refBAdd_same H.out.1 H.out.2.1 HK1.out HR.out (by decide)
theorem refBAdd_any (h : RefB S w cb G) (ho : RefOk G) (s : ByteArray) {xo : Option Addr} {m xc : Nat} {ss : List ByteArray} (hm : m = ss.length) (hx : CellsAt w xo (strs ss)) (hss : ss.length ≤ 8796093021952) (hxo : Off (fun k => k = cb) xo) (hl : G.length < 4194304) :
    Calls Tryz.prog 64 #[.pointer (some ⟨cb, 0, none⟩), .string s, .slice xo m xc] w (RetF (OwnG cb G) w fun w' v => v = .tuple #[.bool (addR (cntR G) s ss).1, .int .i64 ((addR (cntR G) s ss).2 : Nat)] ∧ RefBTo S w cb G (addC (cntR G) s ss) w') :=
  refBAdd_anyE h ho s hm hx hss (fun _ => hxo) hl
end
end Go.Proofs.YtfkhelihepbehaaGreat

/- The document's Base: Drop, Same. -/
namespace Go.Proofs.YtfkhelihepbehaaGreat
open Go.RowKit
set_option linter.unusedVariables false

theorem cntR_len' (G : List REnt) : (cntR G).length = G.length := by unfold cntR; simp
section
variable {S S' : Nat → Prop} {w w1 w2 w3 : World} {cb : Nat} {G : List REnt} {s : ByteArray} {ss : List ByteArray}
set_option maxRecDepth 100000 in
set_option maxHeartbeats 4000000 in
theorem refBDrop_any (h : RefB S w cb G) (ho : RefOk G) (s : ByteArray) {xo : Option Addr} {m xc : Nat} {ss : List ByteArray} (hm : m = ss.length) (hx : CellsAt w xo (strs ss)) (hss : ss.length ≤ 8796093021952) :
    Calls Tryz.prog 66 #[.pointer (some ⟨cb, 0, none⟩), .string s, .slice xo m xc] w (RetF (OwnG cb G) w fun w' v => v = .tuple #[.bool (dropR (cntR G) s ss).1, .int .i64 ((dropR (cntR G) s ss).2 : Nat)] ∧ RefBTo S w cb G (dropC (cntR G) s ss) w') := by
  have H := Lib.hid (And.intro h ho)
  have HN := Lib.hid (refNamed_any s w)
  have HX := Lib.hid (And.intro hm (And.intro hx hss))
  clear h ho hm hx hss
  cases hn : namedC s with
  | false =>
    rw [hn] at HN
    have hR : dropR (cntR G) s ss = (false, 32) := if_pos hn
    have hC : dropC (cntR G) s ss = cntR G := if_pos hn
    have HR := Lib.hid (And.intro hR hC)
    clear hn hR hC
    go_enter Tryz.func66, Tryz.ntmps66
    go_wp2_with fail
    refine HN.out.mono ?_
    rintro e w' ⟨rfl, rfl⟩
    go_wp2
    go_ret2
    exact RetF.mk (Kp.refl _) ⟨by rw [HR.out.1]; rfl, RefBTo.same H.out.1 H.out.2 (Kp.refl _) HR.out.2⟩
  | true =>
    rw [hn] at HN
    have HB := Lib.hid (refBRows_any H.out.1 s)
    cases hf : findR2 G s with
    | none =>
      rw [hf] at HB
      have HB2 := Lib.hid (show Calls Tryz.prog 79 #[.pointer (some ⟨cb, 0, none⟩), .string s] w (RetN w fun w' v => v = .pointer none) from HB.out)
      have hg := (findR2_none hf).1
      have hR : dropR (cntR G) s ss = (false, 0) := by unfold dropR; rw [if_neg (by rw [hn]; simp), hg]
      have hC : dropC (cntR G) s ss = cntR G := by unfold dropC; rw [if_neg (by rw [hn]; simp), hg]
      have HR := Lib.hid (And.intro hR hC)
      clear hn hR hC hg hf HB
      go_enter Tryz.func66, Tryz.ntmps66
      go_wp2_with fail
      refine HN.out.mono ?_
      rintro e w' ⟨rfl, rfl⟩
      go_wp2_with fail
      refine HB2.out.mono ?_
      rintro e w1 ⟨v, rfl, hk1, rfl⟩
      have HK1 := Lib.hid hk1
      clear hk1
      go_wp2
      go_ret2
      exact RetF.mk (Ext.kp HK1.out) ⟨by rw [HR.out.1]; rfl, RefBTo.same H.out.1 H.out.2 HK1.out HR.out.2⟩
    | some g =>
      rw [hf] at HB
      have HB2 := Lib.hid (show Calls Tryz.prog 79 #[.pointer (some ⟨cb, 0, none⟩), .string s] w (RetN w fun w' v => v = .pointer (some ⟨g.c, 0, none⟩)) from HB.out)
      obtain ⟨hm, hname⟩ := findR2_some hf
      have hg := (findR2_cnt hf).1
      have hst : Strict cmpRow g.LL := (H.out.2.ok.all g.cnt (List.mem_map.2 ⟨g, hm, rfl⟩)).strict
      have hR : dropR (cntR G) s ss = rowsDropR g.ar g.LL ss := by unfold dropR; rw [if_neg (by rw [hn]; simp), hg]
      have hC : dropC (cntR G) s ss = setC (cntR G) s (g.ar, rowsDropL g.ar g.LL ss) := by unfold dropC; rw [if_neg (by rw [hn]; simp), hg]
      have HD := Lib.hid (fun W (hW : Ext w W) => refDrop_any ((H.out.1.rows g hm).ext hW) hst (xc := xc) HX.out.1 (HX.out.2.1.ext hW) HX.out.2.2)
      have HR := Lib.hid (And.intro hR (And.intro hC (And.intro hf (And.intro hm hname))))
      clear hn hR hC hg hf HB hm hname hst
      go_enter Tryz.func66, Tryz.ntmps66
      go_wp2_with fail
      refine HN.out.mono ?_
      rintro e w' ⟨rfl, rfl⟩
      go_wp2_with fail
      refine HB2.out.mono ?_
      rintro e w1 ⟨v, rfl, hk1, rfl⟩
      have HK1 := Lib.hid hk1
      clear hk1
      go_wp2_with fail
      refine (HD.out w1 HK1.out).mono ?_
      rintro e w2 ⟨v, rfl, hk2, hv, S', hS', hr2⟩
      rw [← HR.out.1] at hv
      subst hv
      have HK2 := Lib.hid (And.intro hk2 (And.intro hS' hr2))
      clear hk2 hS' hr2
      go_wp2
      go_ret2
      obtain ⟨hR, hC, hf, hm, hname⟩ := HR.out
      obtain ⟨pre, post, e⟩ := findR2_split hf
      have hbo := ok_drop H.out.2.ok s ss
      rw [hC] at hbo ⊢
      have hx2 := H.out.1.ext HK1.out
      obtain ⟨h1, h2⟩ := H.out
      subst e
      have hs := cntR_set h2.ok.nodup (rowsDropL g.ar g.LL ss)
      rw [← hname, hs] at hbo ⊢
      have en : (pre ++ { g with LL := rowsDropL g.ar g.LL ss } :: post).map REnt.name = (pre ++ g :: post).map REnt.name := by simp
      refine RetF.mk ((Ext.kp HK1.out).trans (HK2.out.1.mono fun k _ e => .inr ⟨g, hm, e⟩)) ⟨rfl, _, _, (Grows.refl w S).trans HK2.out.2.1 HK1.out.size, hx2.turn HK2.out.1 HK2.out.2.1 HK2.out.2.2, ⟨hbo, by rw [en]; exact h2.names⟩, SameC.refl _, by simp, ?_⟩
      rintro k (e | ⟨x, hx, e⟩)
      · exact .inl (.inl e)
      · rcases List.mem_append.1 hx with hx | hx
        · exact .inl (.inr ⟨x, by simp [hx], e⟩)
        · rcases List.mem_cons.1 hx with rfl | hx
          · exact .inl (.inr ⟨g, hm, e⟩)
          · exact .inl (.inr ⟨x, by simp [hx], e⟩)
/-- The same names with the same rows. -/
def sameG (G1 G2 : List REnt) : Bool := decide (cntR G1 = cntR G2)
theorem refBSame_nil1 (v : Value) (w : World) : Calls Tryz.prog 88 #[.pointer none, v] w (RetD (.bool false) w) := by
  go_enter Tryz.func88, Tryz.ntmps88
  go_wp2
  go_quiet (fail)
  go_wp2
  go_ret
  exact RetD.mk rfl _
theorem refBSame_nil2 (a : Addr) (w : World) : Calls Tryz.prog 88 #[.pointer (some a), .pointer none] w (RetD (.bool false) w) := by
  go_enter Tryz.func88, Tryz.ntmps88
  go_wp2
  go_quiet (fail)
  go_wp2
  go_ret
  exact RetD.mk rfl _
set_option maxRecDepth 100000 in
set_option maxHeartbeats 4000000 in
theorem refBSame_any {c1 c2 : Nat} {G1 G2 : List REnt} (h1 : RefB S w c1 G1) (h2 : RefB S w c2 G2) :
    Calls Tryz.prog 88 #[.pointer (some ⟨c1, 0, none⟩), .pointer (some ⟨c2, 0, none⟩)] w (RetN w fun w' v => v = .bool (sameG G1 G2)) := by
  have H := Lib.hid (And.intro h1 h2)
  obtain ⟨na1, nc1, aa1, ac1, hB1, hN1, hA1, _, _⟩ := h1.blk
  obtain ⟨na2, nc2, aa2, ac2, hB2, hN2, hA2, _, _⟩ := h2.blk
  obtain ⟨n1, en1⟩ : ∃ n, G1.length = n := ⟨_, rfl⟩
  obtain ⟨n2, en2⟩ : ∃ n, G2.length = n := ⟨_, rfl⟩
  have hl1 := h1.len
  have hl2 := h2.len
  rw [en1] at hB1 hl1
  rw [en2] at hB2 hl2
  have c0 : w.cell? ⟨c1, 0, none⟩ = some (.slice na1 n1 nc1) := by rw [hB1.cell']; rfl
  have c1' : w.cell? ⟨c1, 1, none⟩ = some (.slice aa1 n1 ac1) := by rw [hB1.cell']; rfl
  have d0 : w.cell? ⟨c2, 0, none⟩ = some (.slice na2 n2 nc2) := by rw [hB2.cell']; rfl
  have d1 : w.cell? ⟨c2, 1, none⟩ = some (.slice aa2 n2 ac2) := by rw [hB2.cell']; rfl
  have HG := Lib.hid (And.intro en1 (And.intro en2 (And.intro hN1 (And.intro hN2 (And.intro hA1 hA2)))))
  clear h1 h2 hB1 hB2 hN1 hN2 hA1 hA2 en1 en2
  by_cases hn : n1 = n2
  · subst hn
    have q0 : ((n1 : Int) != (n1 : Int)) = false := by simp
    have HC := Lib.hid (fun W (hW : Ext w W) => (⟨hW.cell c0 id, hW.cell c1' id, hW.cell d0 id, hW.cell d1 id⟩ : W.cell? ⟨c1, 0, none⟩ = some (.slice na1 n1 nc1) ∧ W.cell? ⟨c1, 1, none⟩ = some (.slice aa1 n1 ac1) ∧ W.cell? ⟨c2, 0, none⟩ = some (.slice na2 n1 nc2) ∧ W.cell? ⟨c2, 1, none⟩ = some (.slice aa2 n1 ac2)))
    go_enter Tryz.func88, Tryz.ntmps88
    go_wp2
    go_quiet (fail)
    go_wp2
    clear c0 c1' d0 d1
    generalize hwz : World.drewN _ _ = wz
    have HZ := Lib.hid (show Ext w wz by rw [← hwz]; exact (Kp.refl w).drewN _)
    clear hwz
    go_loopw [5] (fun kv wr => ∃ i : Nat, i ≤ n1 ∧ kv = .int .i64 i ∧ Hid (Ext w wr) ∧ Hid ((cntR G1).take i = (cntR G2).take i)) (fun k _ => n1 - (intOf k).toNat)
    case atStart => exact ⟨0, Nat.zero_le _, rfl, HZ, Lib.hid rfl⟩
    case round =>
      obtain ⟨i, hi, rfl, hex, hin⟩ := hrel
      obtain ⟨c0, c1', d0, d1⟩ := HC.out wr hex.out
      by_cases hlt : i < n1
      · obtain ⟨x, hx⟩ : ∃ x, G1[i]? = some x := ⟨_, List.getElem?_eq_getElem (by rw [HG.out.1]; exact hlt)⟩
        obtain ⟨y, hy⟩ : ∃ y, G2[i]? = some y := ⟨_, List.getElem?_eq_getElem (by rw [HG.out.2.1]; exact hlt)⟩
        obtain ⟨nb, no, e1, f0⟩ := HG.out.2.2.1 i (.string x.name) (by simp [strs, hx])
        obtain ⟨mb, mo, e2, f1⟩ := HG.out.2.2.2.1 i (.string y.name) (by simp [strs, hy])
        obtain ⟨ab, ao, e3, f2⟩ := HG.out.2.2.2.2.1 i x.ptr (by simp [hx])
        obtain ⟨bb, bo, e4, f3⟩ := HG.out.2.2.2.2.2 i y.ptr (by simp [hy])
        subst e1 e2 e3 e4
        have HR := Lib.hid (fun W (hW : Ext w W) => refSame_any ((H.out.1.rows x (List.mem_of_getElem? hx)).ext hW) ((H.out.2.rows y (List.mem_of_getElem? hy)).ext hW))
        obtain ⟨xs, exs⟩ : ∃ xs, x.name = xs := ⟨_, rfl⟩
        obtain ⟨ys, eys⟩ : ∃ ys, y.name = ys := ⟨_, rfl⟩
        obtain ⟨xp, exp⟩ : ∃ xp, x.c = xp := ⟨_, rfl⟩
        obtain ⟨yp, eyp⟩ : ∃ yp, y.c = yp := ⟨_, rfl⟩
        rw [exp, eyp] at HR
        rw [exs] at f0
        rw [eys] at f1
        have ept : x.ptr = .pointer (some ⟨xp, 0, none⟩) := by rw [← exp]; rfl
        have ept2 : y.ptr = .pointer (some ⟨yp, 0, none⟩) := by rw [← eyp]; rfl
        rw [ept] at f2
        rw [ept2] at f3
        have HCells := Lib.hid (show ∀ w', Ext wr w' → (fun w' : World => w'.cell? ⟨c1, 0, none⟩ = some (.slice (some ⟨nb, no, none⟩) n1 nc1) ∧ w'.cell? ⟨c1, 1, none⟩ = some (.slice (some ⟨ab, ao, none⟩) n1 ac1) ∧ w'.cell? ⟨c2, 0, none⟩ = some (.slice (some ⟨mb, mo, none⟩) n1 nc2) ∧ w'.cell? ⟨c2, 1, none⟩ = some (.slice (some ⟨bb, bo, none⟩) n1 ac2) ∧ w'.cell? ⟨nb, no + i, none⟩ = some (.string xs) ∧ w'.cell? ⟨mb, mo + i, none⟩ = some (.string ys) ∧ w'.cell? ⟨ab, ao + i, none⟩ = some (.pointer (some ⟨xp, 0, none⟩)) ∧ w'.cell? ⟨bb, bo + i, none⟩ = some (.pointer (some ⟨yp, 0, none⟩))) w' from fun w' hw => ⟨hw.cell c0 id, hw.cell c1' id, hw.cell d0 id, hw.cell d1 id, hw.cell (hex.out.cell f0 id) id, hw.cell (hex.out.cell f1 id) id, hw.cell (hex.out.cell f2 id) id, hw.cell (hex.out.cell f3 id) id⟩)
        have hg1 : (cntR G1)[i]? = some (xs, x.ar, x.LL) := by unfold cntR; rw [List.getElem?_map, hx, ← exs]; rfl
        have hg2 : (cntR G2)[i]? = some (ys, y.ar, y.LL) := by unfold cntR; rw [List.getElem?_map, hy, ← eys]; rfl
        have hsame : (cntR G1).take (i + 1) = (cntR G2).take (i + 1) ↔ (xs = ys ∧ x.ar = y.ar ∧ x.LL = y.LL) := by
          rw [List.take_add_one, List.take_add_one, hin.out, hg1, hg2]
          constructor
          · intro h
            have := List.append_cancel_left h
            simpa using this
          · rintro ⟨h1, h2, h3⟩
            rw [h1, h2, h3]
        have hno : ¬ (xs = ys ∧ x.ar = y.ar ∧ x.LL = y.LL) → sameG G1 G2 = false := fun h => by
          unfold sameG
          refine decide_eq_false fun h2 => h (hsame.1 (by rw [h2]))
        have HS := Lib.hid (And.intro hsame hno)
        have f0r := hex.out.cell f0 id
        have f1r := hex.out.cell f1 id
        have f2r := hex.out.cell f2 id
        have f3r := hex.out.cell f3 id
        clear hx hy exs eys exp eyp ept ept2 hg1 hg2 hsame hno f0 f1 f2 f3 hin
        by_cases hxy : xs = ys
        · subst hxy
          have q1 : (xs.toList == xs.toList) = true := by simp
          have q2 : (xs.toList != xs.toList) = false := by simp
          obtain ⟨same, esm⟩ : ∃ b, decide (x.ar = y.ar ∧ x.LL = y.LL) = b := ⟨_, rfl⟩
          rw [esm] at HR
          have HE := Lib.hid esm
          clear esm
          go_wp2
          refine draw_begin (fun w' : World => w'.cell? ⟨c1, 0, none⟩ = some (.slice (some ⟨nb, no, none⟩) n1 nc1) ∧ w'.cell? ⟨c1, 1, none⟩ = some (.slice (some ⟨ab, ao, none⟩) n1 ac1) ∧ w'.cell? ⟨c2, 0, none⟩ = some (.slice (some ⟨mb, mo, none⟩) n1 nc2) ∧ w'.cell? ⟨c2, 1, none⟩ = some (.slice (some ⟨bb, bo, none⟩) n1 ac2) ∧ w'.cell? ⟨nb, no + i, none⟩ = some (.string xs) ∧ w'.cell? ⟨mb, mo + i, none⟩ = some (.string xs) ∧ w'.cell? ⟨ab, ao + i, none⟩ = some (.pointer (some ⟨xp, 0, none⟩)) ∧ w'.cell? ⟨bb, bo + i, none⟩ = some (.pointer (some ⟨yp, 0, none⟩))) [] (by kernel_rfl) (HCells.out _ (Kp.refl wr).drew) (fun hHeld => ?_)
          (refine draw_free (i := 0) (v := ?_) rfl ?_ ?_; rotate_left; (intro w; go_simp; try with_reducible rfl)); (try simp only [Act.put, List.setIfInBounds_toArray, List.set_cons_zero, List.set_cons_succ])
          (refine draw_free (i := 1) (v := ?_) rfl ?_ ?_; rotate_left; (intro w; go_simp; try with_reducible rfl)); (try simp only [Act.put, List.setIfInBounds_toArray, List.set_cons_zero, List.set_cons_succ])
          (refine draw_free (i := 2) (v := ?_) rfl ?_ ?_; rotate_left; (intro w; go_simp; try with_reducible rfl)); (try simp only [Act.put, List.setIfInBounds_toArray, List.set_cons_zero, List.set_cons_succ])
          (refine draw_in (i := 3) (v := ?_) rfl ?_ ?_; rotate_left; (intro w hSw; (try dsimp only at hSw); go_simp; try with_reducible rfl)); (try simp only [Act.put, List.setIfInBounds_toArray, List.set_cons_zero, List.set_cons_succ])
          (refine draw_free (i := 4) (v := ?_) rfl ?_ ?_; rotate_left; (intro w; go_simp; try with_reducible rfl)); (try simp only [Act.put, List.setIfInBounds_toArray, List.set_cons_zero, List.set_cons_succ])
          (refine draw_in (i := 5) (v := ?_) rfl ?_ ?_; rotate_left; (intro w hSw; (try dsimp only at hSw); go_simp; try with_reducible rfl)); (try simp only [Act.put, List.setIfInBounds_toArray, List.set_cons_zero, List.set_cons_succ])
          (refine draw_in (i := 6) (v := ?_) rfl ?_ ?_; rotate_left; (intro w hSw; (try dsimp only at hSw); go_simp; try with_reducible rfl)); (try simp only [Act.put, List.setIfInBounds_toArray, List.set_cons_zero, List.set_cons_succ])
          (refine draw_free (i := 7) (v := ?_) rfl ?_ ?_; rotate_left; (intro w; go_simp; try with_reducible rfl)); (try simp only [Act.put, List.setIfInBounds_toArray, List.set_cons_zero, List.set_cons_succ])
          (refine draw_free (i := 8) (v := ?_) rfl ?_ ?_; rotate_left; (intro w; go_simp; try with_reducible rfl)); (try simp only [Act.put, List.setIfInBounds_toArray, List.set_cons_zero, List.set_cons_succ])
          (refine draw_free (i := 9) (v := ?_) rfl ?_ ?_; rotate_left; (intro w; go_simp; try with_reducible rfl)); (try simp only [Act.put, List.setIfInBounds_toArray, List.set_cons_zero, List.set_cons_succ])
          (refine draw_in (i := 10) (v := ?_) rfl ?_ ?_; rotate_left; (intro w hSw; (try dsimp only at hSw); go_simp; try with_reducible rfl)); (try simp only [Act.put, List.setIfInBounds_toArray, List.set_cons_zero, List.set_cons_succ])
          (refine draw_free (i := 11) (v := ?_) rfl ?_ ?_; rotate_left; (intro w; go_simp; try with_reducible rfl)); (try simp only [Act.put, List.setIfInBounds_toArray, List.set_cons_zero, List.set_cons_succ])
          (refine draw_in (i := 12) (v := ?_) rfl ?_ ?_; rotate_left; (intro w hSw; (try dsimp only at hSw); go_simp; try with_reducible rfl)); (try simp only [Act.put, List.setIfInBounds_toArray, List.set_cons_zero, List.set_cons_succ])
          (refine draw_in (i := 13) (v := ?_) rfl ?_ ?_; rotate_left; (intro w hSw; (try dsimp only at hSw); go_simp; try with_reducible rfl)); (try simp only [Act.put, List.setIfInBounds_toArray, List.set_cons_zero, List.set_cons_succ])
          (refine draw_free (i := 14) (v := ?_) rfl ?_ ?_; rotate_left; (intro w; go_simp; try with_reducible rfl)); (try simp only [Act.put, List.setIfInBounds_toArray, List.set_cons_zero, List.set_cons_succ])
          (refine draw_free (i := 15) (v := ?_) rfl ?_ ?_; rotate_left; (intro w; go_simp; try with_reducible rfl)); (try simp only [Act.put, List.setIfInBounds_toArray, List.set_cons_zero, List.set_cons_succ])
          (first | (refine draw_free (i := 16) (v := ?_) rfl ?_ ?_; rotate_left; (intro w; go_simp; try with_reducible rfl)) | (refine draw_out (i := 16) rfl ?_)); (try simp only [Act.put, List.setIfInBounds_toArray, List.set_cons_zero, List.set_cons_succ])
          (first | (refine draw_free (i := 17) (v := ?_) rfl ?_ ?_; rotate_left; (intro w; go_simp; try with_reducible rfl)) | (refine draw_out (i := 17) rfl ?_)); (try simp only [Act.put, List.setIfInBounds_toArray, List.set_cons_zero, List.set_cons_succ])
          (first | (refine draw_free (i := 18) (v := ?_) rfl ?_ ?_; rotate_left; (intro w; go_simp; try with_reducible rfl)) | (refine draw_out (i := 18) rfl ?_)); (try simp only [Act.put, List.setIfInBounds_toArray, List.set_cons_zero, List.set_cons_succ])
          (first | (refine draw_in (i := 19) (v := ?_) rfl ?_ ?_; rotate_left; (intro w hSw; (try dsimp only at hSw); go_simp; try with_reducible rfl)) | (refine draw_out (i := 19) rfl ?_)); (try simp only [Act.put, List.setIfInBounds_toArray, List.set_cons_zero, List.set_cons_succ])
          (first | (refine draw_free (i := 20) (v := ?_) rfl ?_ ?_; rotate_left; (intro w; go_simp; try with_reducible rfl)) | (refine draw_out (i := 20) rfl ?_)); (try simp only [Act.put, List.setIfInBounds_toArray, List.set_cons_zero, List.set_cons_succ])
          (first | (refine draw_in (i := 21) (v := ?_) rfl ?_ ?_; rotate_left; (intro w hSw; (try dsimp only at hSw); go_simp; try with_reducible rfl)) | (refine draw_out (i := 21) rfl ?_)); (try simp only [Act.put, List.setIfInBounds_toArray, List.set_cons_zero, List.set_cons_succ])
          (first | (refine draw_in (i := 22) (v := ?_) rfl ?_ ?_; rotate_left; (intro w hSw; (try dsimp only at hSw); go_simp; try with_reducible rfl)) | (refine draw_out (i := 22) rfl ?_)); (try simp only [Act.put, List.setIfInBounds_toArray, List.set_cons_zero, List.set_cons_succ])
          (first | (refine draw_free (i := 23) (v := ?_) rfl ?_ ?_; rotate_left; (intro w; go_simp; try with_reducible rfl)) | (refine draw_out (i := 23) rfl ?_)); (try simp only [Act.put, List.setIfInBounds_toArray, List.set_cons_zero, List.set_cons_succ])
          (first | (refine draw_free (i := 24) (v := ?_) rfl ?_ ?_; rotate_left; (intro w; go_simp; try with_reducible rfl)) | (refine draw_out (i := 24) rfl ?_)); (try simp only [Act.put, List.setIfInBounds_toArray, List.set_cons_zero, List.set_cons_succ])
          (first | (refine draw_free (i := 25) (v := ?_) rfl ?_ ?_; rotate_left; (intro w; go_simp; try with_reducible rfl)) | (refine draw_out (i := 25) rfl ?_)); (try simp only [Act.put, List.setIfInBounds_toArray, List.set_cons_zero, List.set_cons_succ])
          (first | (refine draw_in (i := 26) (v := ?_) rfl ?_ ?_; rotate_left; (intro w hSw; (try dsimp only at hSw); go_simp; try with_reducible rfl)) | (refine draw_out (i := 26) rfl ?_)); (try simp only [Act.put, List.setIfInBounds_toArray, List.set_cons_zero, List.set_cons_succ])
          (first | (refine draw_free (i := 27) (v := ?_) rfl ?_ ?_; rotate_left; (intro w; go_simp; try with_reducible rfl)) | (refine draw_out (i := 27) rfl ?_)); (try simp only [Act.put, List.setIfInBounds_toArray, List.set_cons_zero, List.set_cons_succ])
          (first | (refine draw_in (i := 28) (v := ?_) rfl ?_ ?_; rotate_left; (intro w hSw; (try dsimp only at hSw); go_simp; try with_reducible rfl)) | (refine draw_out (i := 28) rfl ?_)); (try simp only [Act.put, List.setIfInBounds_toArray, List.set_cons_zero, List.set_cons_succ])
          (first | (refine draw_in (i := 29) (v := ?_) rfl ?_ ?_; rotate_left; (intro w hSw; (try dsimp only at hSw); go_simp; try with_reducible rfl)) | (refine draw_out (i := 29) rfl ?_)); (try simp only [Act.put, List.setIfInBounds_toArray, List.set_cons_zero, List.set_cons_succ])
          refine draw_one (i := 30) ?_
          refine comes_turn (i := 30) rfl (fun K hK => ?_)
          go_simp
          (refine (HR.out _ (hex.out.drew)).mono ?_; rintro e w5 ⟨v, rfl, hk3, rfl⟩; have X5 := Lib.hid (show Ext wr w5 from ((Kp.refl wr).drew).trans hk3); clear hk3)
          go_wp2_with fail
          refine hK.out _ _ ?_ (fun hHeld => ?_)
          · (try dsimp only); (exact HCells.out _ X5.out)
          clear hK K; (try simp only [Act.put, List.setIfInBounds_toArray, List.set_cons_zero, List.set_cons_succ])
          (first | (refine draw_free (i := 31) (v := ?_) rfl ?_ ?_; rotate_left; (intro w; go_simp; try with_reducible rfl)) | (refine draw_out (i := 31) rfl ?_)); (try simp only [Act.put, List.setIfInBounds_toArray, List.set_cons_zero, List.set_cons_succ])
          (refine draw_free (i := 32) (v := ?_) rfl ?_ ?_; rotate_left; (intro w; go_simp; try with_reducible rfl)); (try simp only [Act.put, List.setIfInBounds_toArray, List.set_cons_zero, List.set_cons_succ])
          refine wpAnyD_done (by kernel_rfl) ?_ _
          clear hHeld f0r f1r f2r f3r c0 c1' d0 d1 HCells
          cases same with
          | true =>
            go_wp2
            go_roundw
            case rel => exact ⟨i + 1, by omega, by first | rfl | (congr 1; done) | (congr 1; omega), Lib.hid (hex.out.trans X5.out), Lib.hid (HS.out.1.2 ⟨by first | rfl | trivial, of_decide_eq_true HE.out⟩)⟩
            case measure => simp [intOf]; omega
          | false =>
            go_wp2
            go_ret
            exact RetN.mk (hex.out.trans X5.out) (by rw [HS.out.2 (fun h => of_decide_eq_false HE.out h.2)]; rfl)
        · have q1 : (xs.toList == ys.toList) = false := by
            cases h : (xs.toList == ys.toList)
            · rfl
            · exact absurd (toList_inj (eq_of_beq h)) hxy
          have HXY := Lib.hid hxy
          clear hxy
          go_wp2
          go_quiet (fail)
          go_wp2
          go_ret
          exact RetN.mk (hex.out.drewN _) (by rw [HS.out.2 (fun h => HXY.out h.1)]; rfl)
      · obtain rfl : i = n1 := by omega
        have hs : sameG G1 G2 = true := by
          unfold sameG
          have := hin.out
          rw [List.take_of_length_le (by rw [cntR_len', HG.out.1]; exact Nat.le_refl _), List.take_of_length_le (by rw [cntR_len', HG.out.2.1]; exact Nat.le_refl _)] at this
          exact decide_eq_true this
        have HS := Lib.hid hs
        clear hs
        go_wp2
        go_ret
        exact RetN.mk hex.out (by rw [HS.out]; rfl)
  · have q0 : ((n1 : Int) != (n2 : Int)) = true := by rw [bne_iff_ne]; omega
    have hs : sameG G1 G2 = false := by
      unfold sameG
      refine decide_eq_false fun h => hn ?_
      have := congrArg List.length h
      rw [cntR_len', cntR_len', HG.out.1, HG.out.2.1] at this
      exact this
    have HS := Lib.hid hs
    clear hs hn
    go_enter Tryz.func88, Tryz.ntmps88
    go_wp2
    go_quiet (fail)
    go_wp2
    go_ret
    exact RetN.mk ((Kp.refl w).drewN _) (by rw [HS.out]; rfl)
end
end Go.Proofs.YtfkhelihepbehaaGreat

/- The document's Base: Copy. -/
namespace Go.Proofs.YtfkhelihepbehaaGreat
open Go.RowKit
set_option linter.unusedVariables false

/-- A base in the making: its lists are its own. -/
structure RefOut (S0 S : Nat → Prop) (w0 w : World) (c2 : Nat) (v1 v2 : Value) (G : List REnt) : Prop where
  box : Blk w c2 [v1, v2] 106
  names : Row w 9 1 v1 G.length (strs (G.map REnt.name)) (New w0)
  ptrs : Row w 116 1 v2 G.length (G.map REnt.ptr) (New w0)
  rows : ∀ g ∈ G, RefRows S w g.c g.ar g.LL
  apart : G.Pairwise fun g h => g.c ≠ h.c
  notS : ¬ S c2
  off : ∀ g ∈ G, g.c ≠ c2
  inS : ∀ k, S k → k < w.heap.size
  new : ∀ g ∈ G, w0.heap.size ≤ g.c
  pool : Grows w0 S0 S
  sep1 : ∀ k, S k → v1.ownBlock ≠ some k
  sep2 : ∀ k, S k → v2.ownBlock ≠ some k
/-- The append's law in a region that draws its order, with all that is known of the block. -/
theorem draw_appM {P : Program} {t e : TypeId} {k bytes : Nat} {z : Value} (E : ElemT P t e k bytes z) {l : List Oper} {a : Act} {w : World} {Q : Exit → Act → World → Prop} {o : Oper} {K : Act → World → Prop} {El : Prop} (hgd : o.guard = none) (s x : Operand)
    (ho : o.op = .call { callee := .builtin .append, args := #[s, x], argTypes := #[t, t] })
    {v : Value} {n : Nat} {xs : List Value} {M : Nat → Prop} (hs : a.eval s = v) (hr : Row w e k v n xs M)
    {ao : Option Addr} {m c : Nat} {news : List Value} (hx : a.eval x = .slice ao m c) (hsrc : CellsAt w ao news) (hl : news.length = m * k) (h1 : ∀ u ∈ news, u.oneCell' = true)
    (hb : (n + m) * bytes ≤ 140737488355328) (h63 : n + m ≤ maxLen)
    (h : ∀ v' w', Row w' e k v' (n + m) (xs ++ news) (fun g => v.ownBlock = some g ∨ w.heap.size ≤ g) → Kp (fun g => v.ownBlock = some g) w w' → K (a.put o.dst v') w') :
    if Region.wanted o (yielded l.toArray a.tmps) = true then Oper.wp P o a w K Q else El := by
  obtain ⟨v', w', hrun, h2, h3, h4⟩ := run_app (P := P) E o.type hr hl hsrc h1 hb h63 (c := c)
  exact draw_app hgd s x ho hs hx hrun (h v' w' h2 h3)
section
variable {S0 S S' : Nat → Prop} {w0 w w1 w2 : World} {c2 : Nat} {v1 v2 : Value} {G : List REnt}
theorem RefRows.box {c n : Nat} {LL : List (List ByteArray)} (h : RefRows S w c n LL) : ∃ cs, Blk w c cs 152 := by
  obtain ⟨ao, cap, h1, _⟩ := h
  exact ⟨_, h1⟩
theorem RefOut.done (h : RefOut S0 S w0 w c2 v1 v2 G) (hl : G.length ≤ 4194304) : ∃ S', Grows w0 S0 S' ∧ RefB S' w c2 G := by
  obtain ⟨na, nc, e1, c1, f1, b1⟩ := h.names.form
  obtain ⟨aa, ac, e2, c3, f2, b2⟩ := h.ptrs.form
  have hn1 : ∀ g cs e, Blk w g cs e → 9 ≠ e → v1.ownBlock ≠ some g := fun g cs e hb hne ho => by
    obtain ⟨cs', hb'⟩ := h.names.blkOf ho
    exact hne (blk_ne hb' hb)
  have hn2 : ∀ g cs e, Blk w g cs e → 116 ≠ e → v2.ownBlock ≠ some g := fun g cs e hb hne ho => by
    obtain ⟨cs', hb'⟩ := h.ptrs.blkOf ho
    exact hne (blk_ne hb' hb)
  have hS2 : ∀ k, (S k ∨ v1.ownBlock = some k ∨ v2.ownBlock = some k) → k < w.heap.size := fun k hk => by
    rcases hk with hk | hk | hk
    · exact h.inS k hk
    · exact h.names.lt k hk
    · exact h.ptrs.lt k hk
  refine ⟨fun k => S k ∨ v1.ownBlock = some k ∨ v2.ownBlock = some k, ⟨fun k hk => .inl (h.pool.1 k hk), fun k hk => ?_⟩, ⟨⟨na, nc, aa, ac, by rw [← e1, ← e2]; exact h.box, c1, c3, fun a e => ?_, fun a e => ?_, f1, f2⟩, fun g hg => ?_, h.apart, ?_, h.off, hS2, hl⟩⟩
  · rcases hk with hk | hk | hk
    · exact h.pool.2 k hk
    · exact .inr (h.names.block k hk)
    · exact .inr (h.ptrs.block k hk)
  · subst e
    rcases f1.2.2 with ⟨e, _⟩ | ⟨g, e⟩
    · cases e
    · cases e
      exact .inr (.inl (by rw [e1]; rfl))
  · subst e
    rcases f2.2.2 with ⟨e, _⟩ | ⟨g, e⟩
    · cases e
    · cases e
      exact .inr (.inr (by rw [e2]; rfl))
  · obtain ⟨cs, hb⟩ := (h.rows g hg).box
    refine (h.rows g hg).wide (fun k hk => .inl hk) (fun hk => ?_) hS2
    rcases hk with hk | hk | hk
    · exact (h.rows g hg).notS hk
    · exact hn1 _ _ _ hb (by decide) hk
    · exact hn2 _ _ _ hb (by decide) hk
  · intro hk
    rcases hk with hk | hk | hk
    · exact h.notS hk
    · exact hn1 _ _ _ h.box (by decide) hk
    · exact hn2 _ _ _ h.box (by decide) hk
def RefCopyTo (S0 : Nat → Prop) (w0 : World) (c2 : Nat) (G : List REnt) (n : Nat) (iv : Value) (w : World) : Prop := ∃ i : Nat, i ≤ n ∧ iv = .int .i64 i ∧ Hid (Ext w0 w) ∧ Hid (∃ S v1 v2 G', RefOut S0 S w0 w c2 v1 v2 G' ∧ cntR G' = (cntR G).take i)
/-- One more name and its rows. -/
theorem RefOut.next {w3 : World} {g : REnt} {u1 u2 : Value} (h : RefOut S0 S w0 w c2 v1 v2 G) (hc2 : w0.heap.size ≤ c2) (hz : w0.heap.size ≤ w.heap.size)
    (hk1 : Kp (fun k => v1.ownBlock = some k) w w1) (hr1 : Row w1 9 1 u1 (G.length + 1) (strs (G.map REnt.name) ++ [.string g.name]) (fun k => v1.ownBlock = some k ∨ w.heap.size ≤ k))
    (hk2 : Ext (w1.setCell ⟨c2, 0, none⟩ u1) w2) (hg : RefRows S' w2 g.c g.ar g.LL) (hS : Grows w1 S S') (hgc : w1.heap.size ≤ g.c)
    (hk3 : Kp (fun k => v2.ownBlock = some k) w2 w3) (hr3 : Row w3 116 1 u2 (G.length + 1) (G.map REnt.ptr ++ [g.ptr]) (fun k => v2.ownBlock = some k ∨ w2.heap.size ≤ k)) :
    RefOut S0 S' w0 (w3.setCell ⟨c2, 1, none⟩ u2) c2 u1 u2 (G ++ [g]) := by
  have hne1 : ∀ {W : World} {v : Value} {n : Nat} {xs : List Value} {M : Nat → Prop} {g cs e}, Row W 9 1 v n xs M → Blk W g cs e → 9 ≠ e → v.ownBlock ≠ some g := fun hr hb hne ho => by
    obtain ⟨cs', hb'⟩ := hr.blkOf ho
    exact hne (blk_ne hb' hb)
  have hne2 : ∀ {W : World} {v : Value} {n : Nat} {xs : List Value} {M : Nat → Prop} {g cs e}, Row W 116 1 v n xs M → Blk W g cs e → 116 ≠ e → v.ownBlock ≠ some g := fun hr hb hne ho => by
    obtain ⟨cs', hb'⟩ := hr.blkOf ho
    exact hne (blk_ne hb' hb)
  have hst : 9 ≠ 116 := by decide
  have hkc : ∀ {W : World} {o : Nat} {u : Value}, Kp (fun k => k = c2) W (W.setCell ⟨c2, o, none⟩ u) := fun {W o u} => Kp.setCell (F := fun k => k = c2) (p := ⟨c2, o, none⟩) (Kp.refl W) (fun _ => rfl) u
  -- the box
  have b1 : Blk w1 c2 [v1, v2] 106 := h.box.kp hk1 (hne1 h.names h.box (by decide))
  have b1' : Blk (w1.setCell ⟨c2, 0, none⟩ u1) c2 [u1, v2] 106 := by simpa using b1.set 0 u1
  have b2 : Blk w2 c2 [u1, v2] 106 := b1'.ext hk2
  -- the pointers' list
  have p1 : Row w1 116 1 v2 G.length (G.map REnt.ptr) (New w0) := h.ptrs.kp' hk1 fun g' hg' _ hf => h.ptrs.sort_ne h.names hst.symm hg' hf
  have p1' : Row (w1.setCell ⟨c2, 0, none⟩ u1) 116 1 v2 G.length (G.map REnt.ptr) (New w0) := p1.kp' hkc fun g' hg' _ hf => hne2 p1 b1 (by decide) (hf ▸ hg')
  have p2 : Row w2 116 1 v2 G.length (G.map REnt.ptr) (New w0) := p1'.ext hk2
  have b3 : Blk w3 c2 [u1, v2] 106 := b2.kp hk3 (hne2 p2 b2 (by decide))
  have b3' : Blk (w3.setCell ⟨c2, 1, none⟩ u2) c2 [u1, u2] 106 := by simpa using b3.set 1 u2
  -- the names' list
  have n1' : Row (w1.setCell ⟨c2, 0, none⟩ u1) 9 1 u1 (G.length + 1) (strs (G.map REnt.name) ++ [.string g.name]) (fun k => v1.ownBlock = some k ∨ w.heap.size ≤ k) := hr1.kp' hkc fun g' hg' _ hf => hne1 hr1 b1 (by decide) (hf ▸ hg')
  have n2 := n1'.ext hk2
  have n3 : Row w3 9 1 u1 (G.length + 1) (strs (G.map REnt.name) ++ [.string g.name]) (fun k => v1.ownBlock = some k ∨ w.heap.size ≤ k) := n2.kp' hk3 fun g' hg' _ hf => n2.sort_ne p2 hst hg' hf
  have n3' := n3.kp' (hkc (o := 1) (u := u2)) fun g' hg' _ hf => hne1 n3 b3 (by decide) (hf ▸ hg')
  have r3' := hr3.kp' (hkc (o := 1) (u := u2)) fun g' hg' _ hf => hne2 hr3 b3 (by decide) (hf ▸ hg')
  have hz1 := hk1.size
  have hz2 := hk2.size
  have hz2' : w1.heap.size ≤ w2.heap.size := by have : (w1.setCell ⟨c2, 0, none⟩ u1).heap.size = w1.heap.size := by simp [World.setCell]
                                                omega
  have hz3 := hk3.size
  have hz4 : (w3.setCell ⟨c2, 1, none⟩ u2).heap.size = w3.heap.size := by simp [World.setCell]
  have hS'2 := hg.inS
  have hc2lt := h.box.lt
  have ho2 := p2.lt
  have ho2w := h.ptrs.lt
  have ho1w := h.names.lt
  -- the pool
  have hsepS' : ∀ k, S' k → v2.ownBlock ≠ some k := fun k hk ho => by
    rcases hS.2 k hk with hk | hk
    · exact h.sep2 k hk ho
    · have := ho2w k ho; omega
  have hc2S' : ¬ S' c2 := fun hk => by
    rcases hS.2 _ hk with hk | hk
    · exact h.notS hk
    · omega
  have hx : ∀ x, x ∈ G → RefRows S' (w3.setCell ⟨c2, 1, none⟩ u2) x.c x.ar x.LL := fun x hx => by
    obtain ⟨cs, hb⟩ := (h.rows x hx).box
    have q1 := (h.rows x hx).kp hk1 (hne1 h.names hb (by decide)) (fun k hk hs => h.sep1 k hs hk)
    have q1' := q1.kp (hkc (o := 0) (u := u1)) (h.off x hx) (fun k hk hs => h.notS (hk ▸ hs))
    have q2 := q1'.ext hk2
    have q2' := q2.wide hS.1 (fun hs => by
      rcases hS.2 _ hs with hs | hs
      · exact (h.rows x hx).notS hs
      · have := (h.rows x hx).lt; omega) hS'2
    obtain ⟨cs2, hb2⟩ := q2'.box
    have q3 := q2'.kp hk3 (hne2 p2 hb2 (by decide)) (fun k hk hs => hsepS' k hs hk)
    exact q3.kp (hkc (o := 1) (u := u2)) (h.off x hx) (fun k hk hs => hc2S' (hk ▸ hs))
  have hgx : RefRows S' (w3.setCell ⟨c2, 1, none⟩ u2) g.c g.ar g.LL := by
    obtain ⟨cs2, hb2⟩ := hg.box
    have q3 := hg.kp hk3 (hne2 p2 hb2 (by decide)) (fun k hk hs => hsepS' k hs hk)
    exact q3.kp (hkc (o := 1) (u := u2)) (by omega) (fun k hk hs => hc2S' (hk ▸ hs))
  refine ⟨b3', ?_, ?_, fun x hxm => ?_, List.pairwise_append.2 ⟨h.apart, List.pairwise_singleton _ _, fun a ha b hb => ?_⟩, hc2S', fun x hxm => ?_, fun k hk => by have := hS'2 k hk; omega, fun x hxm => ?_, ⟨fun k hk => hS.1 k (h.pool.1 k hk), fun k hk => ?_⟩, fun k hk ho => ?_, fun k hk ho => ?_⟩
  · exact (n3'.cast' (by simp) (by simp [strs])).mono fun k hk => by
      rcases hk with hk | hk
      · exact h.names.block k hk
      · exact Nat.le_trans hz hk
  · exact (r3'.cast' (by simp) (by simp)).mono fun k hk => by
      rcases hk with hk | hk
      · exact h.ptrs.block k hk
      · show w0.heap.size ≤ k; omega
  · rcases List.mem_append.1 hxm with hxm | hxm
    · exact hx x hxm
    · rw [List.mem_singleton.1 hxm]; exact hgx
  · rw [List.mem_singleton.1 hb]
    intro e
    have := (h.rows a ha).lt
    omega
  · rcases List.mem_append.1 hxm with hxm | hxm
    · exact h.off x hxm
    · rw [List.mem_singleton.1 hxm]
      intro e; omega
  · rcases List.mem_append.1 hxm with hxm | hxm
    · exact h.new x hxm
    · rw [List.mem_singleton.1 hxm]
      show w0.heap.size ≤ g.c
      omega
  · rcases hS.2 k hk with hk | hk
    · exact h.pool.2 k hk
    · right; omega
  · have h9 := n3.block k ho
    rcases hS.2 k hk with hk' | hk'
    · rcases h9 with h9 | h9
      · exact h.sep1 k hk' h9
      · have := h.inS k hk'; omega
    · have := hr1.lt k ho; omega
  · have h9 := hr3.block k ho
    rcases h9 with h9 | h9
    · exact hsepS' k hk h9
    · have := hS'2 k hk; omega
set_option maxRecDepth 100000 in
set_option maxHeartbeats 4000000 in
theorem refBCopy_any {cb : Nat} (h : RefB S0 w cb G) (hl : G.length ≤ 2097152) (h64 : ∀ g ∈ G, g.LL.length ≤ 65536) :
    Calls Tryz.prog 70 #[.pointer (some ⟨cb, 0, none⟩)] w (RetN w fun w' v => ∃ c2 S' G', v = .pointer (some ⟨c2, 0, none⟩) ∧ Grows w S0 S' ∧ RefB S' w' c2 G' ∧ cntR G' = cntR G ∧ ∀ k, OwnG c2 G' k → w.heap.size ≤ k) := by
  obtain ⟨na, nc, aa, ac, hB, hN, hA, _, _⟩ := h.blk
  obtain ⟨n, en⟩ : ∃ n, G.length = n := ⟨_, rfl⟩
  rw [en] at hB hl
  have c0 : w.cell? ⟨cb, 0, none⟩ = some (.slice na n nc) := by rw [hB.cell']; rfl
  have c1 : w.cell? ⟨cb, 1, none⟩ = some (.slice aa n ac) := by rw [hB.cell']; rfl
  have HC := Lib.hid (fun W (hW : Ext w W) => (⟨hW.cell c0 id, hW.cell c1 id⟩ : W.cell? ⟨cb, 0, none⟩ = some (.slice na n nc) ∧ W.cell? ⟨cb, 1, none⟩ = some (.slice aa n ac)))
  have HG := Lib.hid (And.intro en (And.intro hN (And.intro hA (And.intro h h64))))
  clear c0 c1 hB hN hA h en h64
  go_enter Tryz.func70, Tryz.ntmps70
  go_wp2
  obtain ⟨c2, ec2⟩ : ∃ c2, w.heap.size = c2 := ⟨_, rfl⟩
  obtain ⟨wA, ewA⟩ : ∃ wA, w.alloc (.cells #[.slice none 0 0, .slice none 0 0] 106) = wA := ⟨_, rfl⟩
  have hxA : Ext w wA := by rw [← ewA]; exact (Kp.refl w).alloc _
  have hO : RefOut S0 S0 w wA c2 (.slice none 0 0) (.slice none 0 0) [] :=
    ⟨by rw [← ewA, ← ec2]; exact Blk.new w [_, _] _, Row.nil _ _ _ _, Row.nil _ _ _ _, fun g hg => (by simp at hg), List.Pairwise.nil, fun hs => by have := HG.out.2.2.2.1.inS _ hs; omega, fun g hg => (by simp at hg), fun k hk => Nat.lt_of_lt_of_le (HG.out.2.2.2.1.inS k hk) hxA.size, fun g hg => (by simp at hg), Grows.refl _ _, fun k _ e => (by cases e), fun k _ e => (by cases e)⟩
  have HO := Lib.hid (And.intro hxA (And.intro hO ec2))
  try rw [ewA]
  try rw [ec2]
  clear hxA hO ewA ec2
  go_loopw [4] (fun iv wr => RefCopyTo S0 w c2 G n iv wr) (fun iv _ => n - (intOf iv).toNat)
  case atStart => exact ⟨0, Nat.zero_le _, rfl, Lib.hid HO.out.1, Lib.hid ⟨S0, _, _, [], HO.out.2.1, rfl⟩⟩
  case round =>
    obtain ⟨i, hi, rfl, hex, hin⟩ := hrel
    obtain ⟨c0, c1⟩ := HC.out wr hex.out
    by_cases hlt : i < n
    · obtain ⟨S, v1, v2, G', hO, hG'⟩ := hin.out
      have hil : G'.length = i := by
        have := congrArg List.length hG'
        rw [cntR_len', List.length_take, cntR_len', HG.out.1] at this
        omega
      obtain ⟨g, hg⟩ : ∃ g, G[i]? = some g := ⟨_, List.getElem?_eq_getElem (by rw [HG.out.1]; exact hlt)⟩
      have hgm := List.mem_of_getElem? hg
      obtain ⟨nb, no, e1, f0⟩ := HG.out.2.1 i (.string g.name) (by simp [strs, hg])
      obtain ⟨ab, ao, e3, f2⟩ := HG.out.2.2.1 i g.ptr (by simp [hg])
      subst e1 e3
      obtain ⟨s, es⟩ : ∃ s, g.name = s := ⟨_, rfl⟩
      obtain ⟨p, ep⟩ : ∃ p, g.c = p := ⟨_, rfl⟩
      have ept : g.ptr = .pointer (some ⟨p, 0, none⟩) := by rw [← ep]; rfl
      rw [es] at f0
      rw [ept] at f2
      obtain ⟨oa1, oc1, ev1, _, _⟩ := hO.names.shape
      obtain ⟨oa2, oc2, ev2, _, _⟩ := hO.ptrs.shape
      rw [hil] at ev1 ev2
      subst ev1 ev2
      have o0 : wr.cell? ⟨c2, 0, none⟩ = some (.slice oa1 i oc1) := by rw [hO.box.cell']; rfl
      have o1 : wr.cell? ⟨c2, 1, none⟩ = some (.slice oa2 i oc2) := by rw [hO.box.cell']; rfl
      have HD := Lib.hid (show ∀ w', Ext wr w' → (fun w' : World => w'.cell? ⟨c2, 0, none⟩ = some (.slice oa1 i oc1) ∧ w'.cell? ⟨cb, 0, none⟩ = some (.slice (some ⟨nb, no, none⟩) n nc) ∧ w'.cell? ⟨nb, no + i, none⟩ = some (.string s)) w' from fun w' hw => ⟨hw.cell o0 id, hw.cell c0 id, hw.cell (hex.out.cell f0 id) id⟩)
      have hnm := hO.names
      rw [hil] at hnm
      have HW := Lib.hid (And.intro hO (And.intro hG' (And.intro hil (And.intro hg (And.intro hgm (And.intro es (And.intro ep (And.intro f2 hnm))))))))
      clear hO hG' hil hg hgm es ep ept f0 f2 hin hnm o0 o1
      go_wp2
      refine draw_begin (fun w' : World => w'.cell? ⟨c2, 0, none⟩ = some (.slice oa1 i oc1) ∧ w'.cell? ⟨cb, 0, none⟩ = some (.slice (some ⟨nb, no, none⟩) n nc) ∧ w'.cell? ⟨nb, no + i, none⟩ = some (.string s)) [13, 16] (by kernel_rfl) (HD.out _ (Kp.refl wr).drew) (fun hHeld => ?_)
      (refine draw_free (i := 0) (v := ?_) rfl ?_ ?_; rotate_left; (intro w; go_simp; try with_reducible rfl)); (try simp only [Act.put, List.setIfInBounds_toArray, List.set_cons_zero, List.set_cons_succ])
      (refine draw_free (i := 1) (v := ?_) rfl ?_ ?_; rotate_left; (intro w; go_simp; try with_reducible rfl)); (try simp only [Act.put, List.setIfInBounds_toArray, List.set_cons_zero, List.set_cons_succ])
      (refine draw_free (i := 2) (v := ?_) rfl ?_ ?_; rotate_left; (intro w; go_simp; try with_reducible rfl)); (try simp only [Act.put, List.setIfInBounds_toArray, List.set_cons_zero, List.set_cons_succ])
      (refine draw_free (i := 3) (v := ?_) rfl ?_ ?_; rotate_left; (intro w; go_simp; try with_reducible rfl)); (try simp only [Act.put, List.setIfInBounds_toArray, List.set_cons_zero, List.set_cons_succ])
      (refine draw_in (i := 4) (v := ?_) rfl ?_ ?_; rotate_left; (intro w hSw; (try dsimp only at hSw); go_simp; try with_reducible rfl)); (try simp only [Act.put, List.setIfInBounds_toArray, List.set_cons_zero, List.set_cons_succ])
      (refine draw_free (i := 5) (v := ?_) rfl ?_ ?_; rotate_left; (intro w; go_simp; try with_reducible rfl)); (try simp only [Act.put, List.setIfInBounds_toArray, List.set_cons_zero, List.set_cons_succ])
      (refine draw_free (i := 6) (v := ?_) rfl ?_ ?_; rotate_left; (intro w; go_simp; try with_reducible rfl)); (try simp only [Act.put, List.setIfInBounds_toArray, List.set_cons_zero, List.set_cons_succ])
      (refine draw_free (i := 7) (v := ?_) rfl ?_ ?_; rotate_left; (intro w; go_simp; try with_reducible rfl)); (try simp only [Act.put, List.setIfInBounds_toArray, List.set_cons_zero, List.set_cons_succ])
      (refine draw_in (i := 8) (v := ?_) rfl ?_ ?_; rotate_left; (intro w hSw; (try dsimp only at hSw); go_simp; try with_reducible rfl)); (try simp only [Act.put, List.setIfInBounds_toArray, List.set_cons_zero, List.set_cons_succ])
      (refine draw_free (i := 9) (v := ?_) rfl ?_ ?_; rotate_left; (intro w; go_simp; try with_reducible rfl)); (try simp only [Act.put, List.setIfInBounds_toArray, List.set_cons_zero, List.set_cons_succ])
      (refine draw_in (i := 10) (v := ?_) rfl ?_ ?_; rotate_left; (intro w hSw; (try dsimp only at hSw); go_simp; try with_reducible rfl)); (try simp only [Act.put, List.setIfInBounds_toArray, List.set_cons_zero, List.set_cons_succ])
      (refine draw_in (i := 11) (v := ?_) rfl ?_ ?_; rotate_left; (intro w hSw; (try dsimp only at hSw); go_simp; try with_reducible rfl)); (try simp only [Act.put, List.setIfInBounds_toArray, List.set_cons_zero, List.set_cons_succ])
      refine draw_one (i := 12) ?_
      refine comes_turn (i := 12) rfl (fun K hK => ?_)
      go_simp
      refine hK.out _ _ ?_ (fun hHeld => ?_)
      · (try dsimp only); (exact HD.out _ ((Kp.refl wr).drew.alloc _))
      clear hK K; (try simp only [Act.put, List.setIfInBounds_toArray, List.set_cons_zero, List.set_cons_succ])
      refine draw_one (i := 13) ?_
      refine comes_late (i := 13) rfl (by kernel_rfl) (fun K hK => ?_)
      refine draw_appM elem_str rfl _ _ rfl rfl (HW.out.2.2.2.2.2.2.2.2.drew.alloc (.cells #[.string s] 9)) rfl (CellsAt.one wr.drew (.string s) 9) (by rfl) (by simp [Value.oneCell']) (by omega) (by unfold maxLen; omega) ?_; intro v1 wa hr1 hk1; obtain ⟨ua, uc, ev, _, _⟩ := hr1.shape; subst ev; have hk1' : Kp (fun k => (Value.slice oa1 i oc1).ownBlock = some k) wr wa := (Ext.kp ((Kp.refl (F := fun _ => False) wr).drew.alloc _)).trans hk1; have hbA : Blk wa c2 [.slice oa1 i oc1, .slice oa2 i oc2] 106 := HW.out.1.box.kp hk1' (fun ho => by obtain ⟨cs', hb'⟩ := HW.out.1.names.blkOf ho; exact absurd (blk_ne hb' HW.out.1.box) (by decide)); have oa0 : wa.cell? ⟨c2, 0, none⟩ = some (.slice oa1 i oc1) := (by rw [hbA.cell']; rfl); have of0 := hbA.free 0; have HA1 := Lib.hid (And.intro hk1' (And.intro hbA hr1)); clear hr1 hk1 hk1' hbA
      refine hK.out _ _ ?_
      clear hK K; (try simp only [Act.put, List.setIfInBounds_toArray, List.set_cons_zero, List.set_cons_succ])
      (refine draw_free (i := 14) (v := ?_) rfl ?_ ?_; rotate_left; (intro w; go_simp; try with_reducible rfl)); (try simp only [Act.put, List.setIfInBounds_toArray, List.set_cons_zero, List.set_cons_succ])
      (refine draw_free (i := 15) (v := ?_) rfl ?_ ?_; rotate_left; (intro w; go_simp; try with_reducible rfl)); (try simp only [Act.put, List.setIfInBounds_toArray, List.set_cons_zero, List.set_cons_succ])
      refine draw_one (i := 16) ?_
      refine comes_late (i := 16) rfl (by kernel_rfl) (fun K hK => ?_)
      go_simp
      refine hK.out _ _ ?_
      clear hK K; (try simp only [Act.put, List.setIfInBounds_toArray, List.set_cons_zero, List.set_cons_succ])
      refine wpAnyD_done (by kernel_rfl) ?_ _
      clear hHeld HD oa0 of0
      obtain ⟨wb, ewb⟩ : ∃ wb, wa.setCell ⟨c2, 0, none⟩ (.slice ua (i + 1) uc) = wb := ⟨_, rfl⟩
      rw [ewb]
      have hc2w : w.heap.size ≤ c2 := by have := HO.out.2.2; omega
      have hxa : Ext w wa := hex.out.trans' HA1.out.1 fun k hk ho => by have := HW.out.1.names.block k ho; omega
      have hxb : Ext w wb := by rw [← ewb]; exact hxa.setCell (p := ⟨c2, 0, none⟩) (fun h => by simp only at h; omega) _
      have hzb : wb.heap.size = wa.heap.size := by rw [← ewb]; simp [World.setCell]
      have hzr := HA1.out.1.size
      have hbB : Blk wb c2 [.slice ua (i + 1) uc, .slice oa2 i oc2] 106 := by rw [← ewb]; simpa using HA1.out.2.1.set 0 (.slice ua (i + 1) uc)
      have hrn : Row wa 9 1 (.slice ua (i + 1) uc) (i + 1) (strs (G'.map REnt.name) ++ [.string s]) (fun k => (Value.slice oa1 i oc1).ownBlock = some k ∨ wr.heap.size ≤ k) := HA1.out.2.2.mono fun k hk => hk.imp id fun h => Nat.le_trans (by simp) h
      have hpt : Row wb 116 1 (.slice oa2 i oc2) i (G'.map REnt.ptr) (New w) := by
        have q0 := HW.out.1.ptrs
        rw [HW.out.2.2.1] at q0
        have q1 := q0.kp' HA1.out.1 fun g' hg' _ hf => q0.sort_ne HW.out.1.names (by decide) hg' hf
        rw [← ewb]
        exact q1.kp' (Kp.setCell (F := fun k => k = c2) (p := ⟨c2, 0, none⟩) (Kp.refl wa) (fun _ => rfl) _) fun g' hg' _ hf => by
          subst hf
          obtain ⟨cs', hb'⟩ := q1.blkOf hg'
          exact absurd (blk_ne hb' HA1.out.2.1) (by decide)
      have hSp : ¬ S p := fun hs => by
        have hlt := (HG.out.2.2.2.1.rows g HW.out.2.2.2.2.1).lt
        have hnS := (HG.out.2.2.2.1.rows g HW.out.2.2.2.2.1).notS
        rw [HW.out.2.2.2.2.2.2.1] at hlt hnS
        rcases HW.out.1.pool.2 p hs with h | h
        · exact hnS h
        · omega
      have hSb : ∀ k, S k → k < wb.heap.size := fun k hk => by have := HW.out.1.inS k hk; omega
      have hsrc : RefRows S wb p g.ar g.LL := by
        have q := (HG.out.2.2.2.1.rows g HW.out.2.2.2.2.1).ext hxb
        rw [HW.out.2.2.2.2.2.2.1] at q
        exact q.wide HW.out.1.pool.1 hSp hSb
      have HCp := Lib.hid (fun W (hW : Ext wb W) => refCopy_any (hsrc.ext hW))
      obtain ⟨c0, c1⟩ := HC.out wb hxb
      have o1 : wb.cell? ⟨c2, 1, none⟩ = some (.slice oa2 i oc2) := by rw [hbB.cell']; rfl
      have hf2 := hxb.cell HW.out.2.2.2.2.2.2.2.1 id
      have HD2 := Lib.hid (show ∀ w', Ext wb w' → (fun w' : World => w'.cell? ⟨c2, 1, none⟩ = some (.slice oa2 i oc2) ∧ w'.cell? ⟨cb, 1, none⟩ = some (.slice (some ⟨ab, ao, none⟩) n ac) ∧ w'.cell? ⟨ab, ao + i, none⟩ = some (.pointer (some ⟨p, 0, none⟩))) w' from fun w' hw => ⟨hw.cell o1 id, hw.cell c1 id, hw.cell hf2 id⟩)
      have HB1 := Lib.hid (And.intro hxb (And.intro hzb (And.intro hbB (And.intro hrn (And.intro hpt (And.intro ewb hc2w))))))
      clear hxa hxb hzb hzr hbB hrn hpt hSp hSb hsrc o1 hf2 ewb hc2w
      go_wp2
      refine draw_begin (fun w' : World => w'.cell? ⟨c2, 1, none⟩ = some (.slice oa2 i oc2) ∧ w'.cell? ⟨cb, 1, none⟩ = some (.slice (some ⟨ab, ao, none⟩) n ac) ∧ w'.cell? ⟨ab, ao + i, none⟩ = some (.pointer (some ⟨p, 0, none⟩))) [14, 17] (by kernel_rfl) (HD2.out _ (Kp.refl wb).drew) (fun hHeld => ?_)
      (refine draw_free (i := 0) (v := ?_) rfl ?_ ?_; rotate_left; (intro w; go_simp; try with_reducible rfl)); (try simp only [Act.put, List.setIfInBounds_toArray, List.set_cons_zero, List.set_cons_succ])
      (refine draw_free (i := 1) (v := ?_) rfl ?_ ?_; rotate_left; (intro w; go_simp; try with_reducible rfl)); (try simp only [Act.put, List.setIfInBounds_toArray, List.set_cons_zero, List.set_cons_succ])
      (refine draw_free (i := 2) (v := ?_) rfl ?_ ?_; rotate_left; (intro w; go_simp; try with_reducible rfl)); (try simp only [Act.put, List.setIfInBounds_toArray, List.set_cons_zero, List.set_cons_succ])
      (refine draw_free (i := 3) (v := ?_) rfl ?_ ?_; rotate_left; (intro w; go_simp; try with_reducible rfl)); (try simp only [Act.put, List.setIfInBounds_toArray, List.set_cons_zero, List.set_cons_succ])
      (refine draw_in (i := 4) (v := ?_) rfl ?_ ?_; rotate_left; (intro w hSw; (try dsimp only at hSw); go_simp; try with_reducible rfl)); (try simp only [Act.put, List.setIfInBounds_toArray, List.set_cons_zero, List.set_cons_succ])
      (refine draw_free (i := 5) (v := ?_) rfl ?_ ?_; rotate_left; (intro w; go_simp; try with_reducible rfl)); (try simp only [Act.put, List.setIfInBounds_toArray, List.set_cons_zero, List.set_cons_succ])
      (refine draw_free (i := 6) (v := ?_) rfl ?_ ?_; rotate_left; (intro w; go_simp; try with_reducible rfl)); (try simp only [Act.put, List.setIfInBounds_toArray, List.set_cons_zero, List.set_cons_succ])
      (refine draw_free (i := 7) (v := ?_) rfl ?_ ?_; rotate_left; (intro w; go_simp; try with_reducible rfl)); (try simp only [Act.put, List.setIfInBounds_toArray, List.set_cons_zero, List.set_cons_succ])
      (refine draw_in (i := 8) (v := ?_) rfl ?_ ?_; rotate_left; (intro w hSw; (try dsimp only at hSw); go_simp; try with_reducible rfl)); (try simp only [Act.put, List.setIfInBounds_toArray, List.set_cons_zero, List.set_cons_succ])
      (refine draw_free (i := 9) (v := ?_) rfl ?_ ?_; rotate_left; (intro w; go_simp; try with_reducible rfl)); (try simp only [Act.put, List.setIfInBounds_toArray, List.set_cons_zero, List.set_cons_succ])
      (refine draw_in (i := 10) (v := ?_) rfl ?_ ?_; rotate_left; (intro w hSw; (try dsimp only at hSw); go_simp; try with_reducible rfl)); (try simp only [Act.put, List.setIfInBounds_toArray, List.set_cons_zero, List.set_cons_succ])
      (refine draw_in (i := 11) (v := ?_) rfl ?_ ?_; rotate_left; (intro w hSw; (try dsimp only at hSw); go_simp; try with_reducible rfl)); (try simp only [Act.put, List.setIfInBounds_toArray, List.set_cons_zero, List.set_cons_succ])
      refine draw_one (i := 12) ?_
      refine comes_turn (i := 12) rfl (fun K hK => ?_)
      go_simp
      (refine (HCp.out _ (Kp.refl wb).drew).mono ?_; rintro e wc ⟨v, rfl, hk3, p2, S', rfl, hp2, hS', hr'⟩; have X5 := Lib.hid (And.intro (show Ext wb wc from (Kp.refl wb).drew.trans hk3) (And.intro (show wb.heap.size ≤ p2 from hp2) (And.intro (show Grows wb S S' from hS') hr'))); clear hk3 hp2 hS' hr')
      go_wp2_with fail
      refine hK.out _ _ ?_ (fun hHeld => ?_)
      · (try dsimp only); (exact HD2.out _ X5.out.1)
      clear hK K; (try simp only [Act.put, List.setIfInBounds_toArray, List.set_cons_zero, List.set_cons_succ])
      refine draw_one (i := 13) ?_
      refine comes_turn (i := 13) rfl (fun K hK => ?_)
      go_simp
      refine hK.out _ _ ?_ (fun hHeld => ?_)
      · (try dsimp only); (exact HD2.out _ (X5.out.1.alloc _))
      clear hK K; (try simp only [Act.put, List.setIfInBounds_toArray, List.set_cons_zero, List.set_cons_succ])
      refine draw_one (i := 14) ?_
      refine comes_late (i := 14) rfl (by kernel_rfl) (fun K hK => ?_)
      refine draw_appM elem_ptrR rfl _ _ rfl rfl ((HB1.out.2.2.2.2.1.ext X5.out.1).alloc (.cells #[.pointer (some ⟨p2, 0, none⟩)] 116)) rfl (CellsAt.one wc (.pointer (some ⟨p2, 0, none⟩)) 116) (by rfl) (by simp [Value.oneCell']) (by omega) (by unfold maxLen; omega) ?_; intro v2 wd hr3 hk3; obtain ⟨qa, qc, ev, _, _⟩ := hr3.shape; subst ev; have hk3' : Kp (fun k => (Value.slice oa2 i oc2).ownBlock = some k) (wc.alloc (.cells #[.pointer (some ⟨p2, 0, none⟩)] 116)) wd := hk3; have hbD : Blk wd c2 [.slice ua (i + 1) uc, .slice oa2 i oc2] 106 := ((HB1.out.2.2.1.ext X5.out.1).alloc _).kp hk3' (fun ho => by obtain ⟨cs', hb'⟩ := HB1.out.2.2.2.2.1.blkOf ho; exact absurd (blk_ne hb' HB1.out.2.2.1) (by decide)); have od1 : wd.cell? ⟨c2, 1, none⟩ = some (.slice oa2 i oc2) := (by rw [hbD.cell']; rfl); have og1 := hbD.free 1; have HD1 := Lib.hid (And.intro hk3' (And.intro hbD hr3)); clear hr3 hk3 hk3' hbD
      refine hK.out _ _ ?_
      clear hK K; (try simp only [Act.put, List.setIfInBounds_toArray, List.set_cons_zero, List.set_cons_succ])
      (refine draw_free (i := 15) (v := ?_) rfl ?_ ?_; rotate_left; (intro w; go_simp; try with_reducible rfl)); (try simp only [Act.put, List.setIfInBounds_toArray, List.set_cons_zero, List.set_cons_succ])
      (refine draw_free (i := 16) (v := ?_) rfl ?_ ?_; rotate_left; (intro w; go_simp; try with_reducible rfl)); (try simp only [Act.put, List.setIfInBounds_toArray, List.set_cons_zero, List.set_cons_succ])
      refine draw_one (i := 17) ?_
      refine comes_late (i := 17) rfl (by kernel_rfl) (fun K hK => ?_)
      go_simp
      refine hK.out _ _ ?_
      clear hK K; (try simp only [Act.put, List.setIfInBounds_toArray, List.set_cons_zero, List.set_cons_succ])
      refine wpAnyD_done (by kernel_rfl) ?_ _
      clear hHeld HD2 od1 og1
      have HFin := Lib.hid (show Ext w (wd.setCell ⟨c2, 1, none⟩ (.slice qa (i + 1) qc)) ∧ ∃ S v1 v2 G', RefOut S0 S w (wd.setCell ⟨c2, 1, none⟩ (.slice qa (i + 1) qc)) c2 v1 v2 G' ∧ cntR G' = (cntR G).take (i + 1) from by
        obtain ⟨hxb, hzb, hbB, hrn, hpt, ewb, hc2w⟩ := HB1.out
        obtain ⟨hO, hG', hil, hg, hgm, es, ep, f2, hnm⟩ := HW.out
        obtain ⟨hx5, hp2, hS', hr'⟩ := X5.out
        obtain ⟨hk3, hbD, hr3⟩ := HD1.out
        have hz5 := hx5.size
        have hxd : Ext w wd := (hxb.trans (hx5.alloc _)).trans' hk3 fun k hk ho => by have := hpt.block k ho; omega
        refine ⟨hxd.setCell (p := ⟨c2, 1, none⟩) (fun h => by simp only at h; omega) _, S', _, _, G' ++ [⟨s, p2, g.ar, g.LL⟩], RefOut.next (g := ⟨s, p2, g.ar, g.LL⟩) hO hc2w hex.out.size HA1.out.1 ?_ (by rw [ewb]; exact hx5.alloc _) (hr'.ext ((Kp.refl wc).alloc _)) ?_ (by show wa.heap.size ≤ p2; omega) hk3 ?_, ?_⟩
        · rw [hil]; exact hrn
        · exact ⟨hS'.1, fun k hk => (hS'.2 k hk).imp id fun h => by omega⟩
        · rw [hil]; exact hr3
        · have e1 : cntR (G' ++ [⟨s, p2, g.ar, g.LL⟩]) = cntR G' ++ [(s, g.ar, g.LL)] := by simp [cntR, REnt.cnt]
          rw [e1, hG', List.take_add_one]
          congr 1
          unfold cntR
          rw [List.getElem?_map, hg]
          show _ = [(g.name, g.ar, g.LL)]
          rw [es])
      clear HD1 X5 HB1 HA1 HW HCp c0 c1
      go_wp2
      go_roundw
      case rel => exact ⟨i + 1, by omega, by first | rfl | (congr 1; done) | (congr 1; omega), Lib.hid HFin.out.1, Lib.hid HFin.out.2⟩
      case measure => simp [intOf]; omega
    · obtain rfl : i = n := by omega
      obtain ⟨S, v1, v2, G', hO, hG'⟩ := hin.out
      rw [List.take_of_length_le (by rw [cntR_len', HG.out.1]; exact Nat.le_refl _)] at hG'
      have hil : G'.length ≤ 4194304 := by
        have := congrArg List.length hG'
        rw [cntR_len', cntR_len', HG.out.1] at this
        omega
      obtain ⟨S', hS', hB'⟩ := hO.done hil
      have HF := Lib.hid (And.intro hS' (And.intro hB' (And.intro hG' hO.new)))
      clear hin hO hG' hil hS' hB'
      go_wp2
      go_ret
      refine RetN.mk hex.out ⟨c2, S', G', rfl, HF.out.1, HF.out.2.1, HF.out.2.2.1, fun k hk => ?_⟩
      rcases hk with hk | ⟨g, hg, hk⟩
      · have := HO.out.2.2; omega
      · rw [hk]; exact HF.out.2.2.2 g hg
end
end Go.Proofs.YtfkhelihepbehaaGreat

/- The document's Base: FromRelations. -/
namespace Go.Proofs.YtfkhelihepbehaaGreat
open Go.RowKit
set_option linter.unusedVariables false

theorem same_lenC {C D : List CntZ} (hC : (C.map (·.1)).Nodup) (hD : (D.map (·.1)).Nodup) (h : SameC C D) : C.length = D.length := by
  have h1 := (names_perm C).length_eq
  have h2 := (names_perm D).length_eq
  rw [names_same hC hD h] at h1
  rw [List.length_map] at h1 h2
  omega
theorem len_declC (C : List CntZ) (s : ByteArray) (a : Int) : (declC C s a).length ≤ C.length + 1 := by
  unfold declC
  split
  · simp
  · omega
theorem len_addC {C : List CntZ} {s : ByteArray} (row : List ByteArray) (h : ∃ v, getC C s = some v) : (addC C s row).length = C.length ∧ ∃ v, getC (addC C s row) s = some v := by
  obtain ⟨v, hv⟩ := h
  unfold addC
  split
  · refine ⟨?_, (row.length, addS cmpRow (rowsC C s) row), by rw [getC_set, if_pos rfl]⟩
    unfold setC
    rw [hv]; simp
  · exact ⟨rfl, v, hv⟩
theorem cntR_len (G : List REnt) : (cntR G).length = G.length := by unfold cntR; simp
/-- What the document's FromRelations makes. -/
def RefFromV (w : World) (L : List RelZ) (w' : World) (v : Value) : Prop :=
  ((fromC [] L).2 = 0 → ∃ cb S G, v = .tuple #[.pointer (some ⟨cb, 0, none⟩), .int .i64 0] ∧ RefB S w' cb G ∧ RefOk G ∧ SameC (cntR G) (fromC [] L).1 ∧ G.length ≤ L.length ∧ (∀ k, S k → w.heap.size ≤ k) ∧ ∀ k, OwnG cb G k → w.heap.size ≤ k) ∧
  ((fromC [] L).2 ≠ 0 → v = .tuple #[.pointer none, .int .i64 (((fromC [] L).2 : Nat) : Int)])
/-- A base of one's own. -/
structure MyRef (w0 : World) (S : Nat → Prop) (w : World) (cb : Nat) (G : List REnt) (C : List CntZ) : Prop where
  base : RefB S w cb G
  ok : RefOk G
  same : SameC (cntR G) C
  okC : BaseOk C
  ext : Ext w0 w
  pool : ∀ k, S k → w0.heap.size ≤ k
  own : ∀ k, OwnG cb G k → w0.heap.size ≤ k
theorem MyRef.len {w0 w : World} {S : Nat → Prop} {cb : Nat} {G : List REnt} {C : List CntZ} (h : MyRef w0 S w cb G C) : G.length = C.length := by
  rw [← cntR_len, same_lenC h.ok.ok.nodup h.okC.nodup h.same]
theorem MyRef.drew {w0 w w' : World} {S : Nat → Prop} {cb : Nat} {G : List REnt} {C : List CntZ} (h : MyRef w0 S w cb G C) (hk : Ext w w') : MyRef w0 S w' cb G C :=
  ⟨h.base.ext hk, h.ok, h.same, h.okC, h.ext.trans hk, h.pool, h.own⟩
theorem MyRef.next {w0 w w' : World} {S : Nat → Prop} {cb : Nat} {G : List REnt} {C D C' : List CntZ} {F : Nat → Prop} (h : MyRef w0 S w cb G C) (hk : Kp F w w') (hF : ∀ k, F k → OwnG cb G k) (ht : RefBTo S w cb G C' w') (hs : SameC C' D) (hD : BaseOk D) : ∃ S' G', MyRef w0 S' w' cb G' D := by
  obtain ⟨S', G', h1, h2, h3, h4, h5, h6⟩ := ht
  have hz := h.ext.size
  refine ⟨S', G', h2, h3, h4.trans hs, hD, h.ext.trans' hk fun k hk f => absurd (h.own k (hF k f)) (by omega), fun k hk => ?_, fun k hk => ?_⟩
  · rcases h1.2 k hk with h | h'
    · exact MyRef.pool ‹_› k h
    · omega
  · rcases h6 k hk with h' | h'
    · exact h.own k h'
    · omega
theorem cells_lt {w : World} {xa : Option Addr} {ss : List ByteArray} (h : CellsAt w xa (strs ss)) (hne : ss ≠ []) : ∀ a, xa = some a → a.block < w.heap.size := fun a e => by
  cases ss with
  | nil => exact absurd rfl hne
  | cons s ss =>
    obtain ⟨b, off, e1, hc⟩ := h 0 (.string s) rfl
    rw [e] at e1; cases e1
    exact World.block_lt_of_cell? _ _ hc
def RefFromTo (w0 : World) (cb : Nat) (L : List RelZ) (n : Nat) (iv : Value) (w : World) : Prop := ∃ i : Nat, i ≤ n ∧ iv = .int .i64 i ∧ Hid (∃ S G C, MyRef w0 S w cb G C ∧ C.length ≤ i ∧ fromC C (L.drop i) = fromC [] L)
def RefFromIn (w0 : World) (cb : Nat) (q : RelZ) (R : List CntZ × Nat) (i m : Nat) (jv : Value) (w : World) : Prop := ∃ j : Nat, j ≤ m ∧ jv = .int .i64 j ∧ Hid (∃ S G C, MyRef w0 S w cb G C ∧ C.length ≤ i + 1 ∧ (∃ v, getC C q.1 = some v) ∧ addAll C q.1 (q.2.2.1.drop j) = R)

set_option maxRecDepth 100000 in
set_option maxHeartbeats 4000000 in
theorem refFrom_any (L : List RelZ) (ao : Option Addr) (n cap : Nat) (w : World) (S0 : Nat → Prop) (hn : n = L.length) (hL : RelsIn S0 w ao L) (hl : n ≤ 2097152) (hr : ∀ q ∈ L, q.2.2.1.length ≤ 1048576) :
    Calls Tryz.prog 71 #[.slice ao n cap] w (RetN w (RefFromV w L)) := by
  have HN := Lib.hid hn
  have HL := Lib.hid hL
  have HR := Lib.hid hr
  clear hn hL hr
  go_enter Tryz.func71, Tryz.ntmps71
  go_wp2_with fail
  refine (refBNew_any (fun _ => False) w (fun _ x => x.elim)).mono ?_
  rintro e w1 ⟨v, rfl, hk1, rfl, hB⟩
  obtain ⟨cb, ecb⟩ : ∃ cb, w.heap.size = cb := ⟨_, rfl⟩
  have HM0 := Lib.hid (show MyRef w (fun _ => False) w1 cb [] [] from
    { base := by rw [← ecb]; exact hB
      ok := ⟨ok_nil, List.Pairwise.nil⟩
      same := SameC.refl _
      okC := ok_nil
      ext := hk1, pool := fun _ x => x.elim
      own := fun k hk => by
        rcases hk with rfl | ⟨e, he, _⟩
        · omega
        · simp at he })
  rw [ecb]
  clear hB hk1 ecb
  go_wp2
  go_loopw [5] (fun iv wr => RefFromTo w cb L n iv wr) (fun iv _ => n - (intOf iv).toNat)
  case atStart => exact ⟨0, Nat.zero_le _, rfl, _, [], [], HM0.out, Nat.le_refl _, rfl⟩
  case round =>
    clear HM0
    obtain ⟨i, hi, rfl, hin⟩ := hrel
    obtain ⟨S, G, C, hM, hlen, hF⟩ := hin.out
    have HM := Lib.hid hM
    have HF := Lib.hid (And.intro hF hlen)
    clear hin hM hF hlen
    by_cases hlt : i < n
    · obtain ⟨q, hq⟩ : ∃ q, L[i]? = some q := ⟨_, List.getElem?_eq_getElem (by rw [← HN.out]; exact hlt)⟩
      obtain ⟨b, off, ra, rcap, eao, hSb, c0, c1, c2, hrl, hrm, hrows⟩ := HL.out i q hq
      subst eao
      obtain ⟨s, es⟩ : ∃ s, q.1 = s := ⟨_, rfl⟩
      obtain ⟨a, ea⟩ : ∃ a, q.2.1 = a := ⟨_, rfl⟩
      obtain ⟨m, em⟩ : ∃ m, q.2.2.1.length = m := ⟨_, rfl⟩
      rw [es] at c0
      rw [ea] at c1
      rw [em] at c2 hrl
      have hm1 : m ≤ 1048576 := by rw [← em]; exact HR.out q (List.mem_of_getElem? hq)
      have HQ := Lib.hid (And.intro hq (And.intro es (And.intro ea em)))
      have HRows := Lib.hid hrows
      have HC := Lib.hid (fun W (hW : Ext w W) => (⟨hW.cell c0 id, hW.cell c1 id, hW.cell c2 id⟩ : W.cell? ⟨b, off + i * 3, none⟩ = some (.string s) ∧ W.cell? ⟨b, off + i * 3 + 1, none⟩ = some (.int .i64 a) ∧ W.cell? ⟨b, off + i * 3 + 2, none⟩ = some (.slice ra m rcap)))
      clear hq es ea em hrows hSb c0 c1 c2
      obtain ⟨c0, c1, c2⟩ := HC.out wr HM.out.ext
      go_wp2
      go_still_tail 11, (by kernel_rfl)
      go_wp2_with fail
      obtain ⟨wd, ewd⟩ : ∃ wd, wr.drew = wd := ⟨_, rfl⟩
      rw [ewd]
      have HMd := Lib.hid (show MyRef w S wd cb G C by rw [← ewd]; exact HM.out.drew (Kp.refl wr).drew)
      clear ewd
      refine (refBDecl_any HMd.out.base HMd.out.ok s a (by rw [HMd.out.len]; have := HF.out.2; omega)).mono ?_
      rintro e w2 ⟨v, rfl, hk2, rfl, hT2⟩
      obtain ⟨S1, G1, hM1⟩ := HMd.out.next hk2 (fun k e => .inl e) hT2 (same_declC HMd.out.same s a) (ok_decl HMd.out.okC s a)
      have HM1 := Lib.hid hM1
      clear hk2 hT2 hM1 c0 c1 c2
      rw [same_declR HMd.out.same]
      obtain ⟨d, ed⟩ : ∃ d, declR C s a = d := ⟨_, rfl⟩
      rw [ed]
      have ED := Lib.hid ed
      clear ed
      by_cases hd : d = 0
      · have q1 : ((d : Int) != 0) = false := by simp [hd]
        have HD := Lib.hid hd
        clear hd
        have hdr : (L.drop i) = q :: L.drop (i + 1) := drop_at HQ.out.1
        have HDr := Lib.hid hdr
        clear hdr
        go_wp2
        clear q1
        generalize hw5 : w2 = w5 at *; clear hw5
        go_loopw [7] (fun jv wk => RefFromIn w cb q (addAll (declC C s a) s q.2.2.1) i m jv wk) (fun jv _ => m - (intOf jv).toNat)
        case atStart =>
          have h0 := decl_ar (C := C) (s := s) (a := a) (by rw [ED.out]; exact HD.out)
          exact ⟨0, Nat.zero_le _, rfl, S1, G1, _, HM1.out, by have := len_declC C s a; have := HF.out.2; omega, by obtain ⟨LL, e, _⟩ := h0; exact ⟨_, by rw [HQ.out.2.1]; exact e⟩, by rw [HQ.out.2.1]; rfl⟩
        case round =>
          clear HM1 HM HMd
          obtain ⟨j, hj, rfl, hin⟩ := hrel
          obtain ⟨S2, G2, C2, hM2, hl2, hv2, hA2⟩ := hin.out
          have HM2 := Lib.hid (And.intro hM2 (And.intro hl2 (And.intro hv2 hA2)))
          clear hin hM2 hl2 hv2 hA2
          obtain ⟨c0, c1, c2⟩ := HC.out wr HM2.out.1.ext
          by_cases hlt2 : j < m
          · obtain ⟨ss, hss⟩ : ∃ ss, q.2.2.1[j]? = some ss := ⟨_, List.getElem?_eq_getElem (by rw [HQ.out.2.2.2]; exact hlt2)⟩
            obtain ⟨g, o, xa, xcap, era, d0, d1, d2, d3⟩ := HRows.out.get hss
            subst era
            obtain ⟨k, ek⟩ : ∃ k, ss.length = k := ⟨_, rfl⟩
            rw [ek] at d0
            have d0w := d0
            replace d0 := HM2.out.1.ext.cell d0 id
            obtain ⟨c0w, _, c2w⟩ := HC.out w (Kp.refl w)
            have HMd := Lib.hid (HM2.out.1.drew (Kp.refl wr).drew)
            have HSS := Lib.hid (And.intro hss ek)
            have HRow := Lib.hid (And.intro d1 (And.intro d2 d3))
            clear hss ek d1 d2 d3
            go_wp2
            have HCd := Lib.hid (fun W (hW : Ext w W) => (⟨hW.cell c0w id, hW.cell c2w id, hW.cell d0w id⟩ : W.cell? ⟨b, off + i * 3, none⟩ = some (.string s) ∧ W.cell? ⟨b, off + i * 3 + 2, none⟩ = some (.slice (some ⟨g, o, none⟩) m rcap) ∧ W.cell? ⟨g, o + j, none⟩ = some (.slice xa k xcap)))
            clear c0w c2w d0w
            refine draw_begin (fun w' : World => w'.cell? ⟨b, off + i * 3, none⟩ = some (.string s) ∧ w'.cell? ⟨b, off + i * 3 + 2, none⟩ = some (.slice (some ⟨g, o, none⟩) m rcap) ∧ w'.cell? ⟨g, o + j, none⟩ = some (.slice xa k xcap)) [] (by kernel_rfl) (HCd.out _ (HM2.out.1.ext.drew)) (fun hHeld => ?_)
            (refine draw_free (i := 0) (v := ?_) rfl ?_ ?_; rotate_left; (intro w; go_simp; try with_reducible rfl)); (try simp only [Act.put, List.setIfInBounds_toArray, List.set_cons_zero, List.set_cons_succ])
            (refine draw_free (i := 1) (v := ?_) rfl ?_ ?_; rotate_left; (intro w; go_simp; try with_reducible rfl)); (try simp only [Act.put, List.setIfInBounds_toArray, List.set_cons_zero, List.set_cons_succ])
            (refine draw_free (i := 2) (v := ?_) rfl ?_ ?_; rotate_left; (intro w; go_simp; try with_reducible rfl)); (try simp only [Act.put, List.setIfInBounds_toArray, List.set_cons_zero, List.set_cons_succ])
            (refine draw_in (i := 3) (v := ?_) rfl ?_ ?_; rotate_left; (intro w hSw; (try dsimp only at hSw); go_simp; try with_reducible rfl)); (try simp only [Act.put, List.setIfInBounds_toArray, List.set_cons_zero, List.set_cons_succ])
            (refine draw_free (i := 4) (v := ?_) rfl ?_ ?_; rotate_left; (intro w; go_simp; try with_reducible rfl)); (try simp only [Act.put, List.setIfInBounds_toArray, List.set_cons_zero, List.set_cons_succ])
            (refine draw_in (i := 5) (v := ?_) rfl ?_ ?_; rotate_left; (intro w hSw; (try dsimp only at hSw); go_simp; try with_reducible rfl)); (try simp only [Act.put, List.setIfInBounds_toArray, List.set_cons_zero, List.set_cons_succ])
            (refine draw_free (i := 6) (v := ?_) rfl ?_ ?_; rotate_left; (intro w; go_simp; try with_reducible rfl)); (try simp only [Act.put, List.setIfInBounds_toArray, List.set_cons_zero, List.set_cons_succ])
            (refine draw_free (i := 7) (v := ?_) rfl ?_ ?_; rotate_left; (intro w; go_simp; try with_reducible rfl)); (try simp only [Act.put, List.setIfInBounds_toArray, List.set_cons_zero, List.set_cons_succ])
            (refine draw_in (i := 8) (v := ?_) rfl ?_ ?_; rotate_left; (intro w hSw; (try dsimp only at hSw); go_simp; try with_reducible rfl)); (try simp only [Act.put, List.setIfInBounds_toArray, List.set_cons_zero, List.set_cons_succ])
            (refine draw_free (i := 9) (v := ?_) rfl ?_ ?_; rotate_left; (intro w; go_simp; try with_reducible rfl)); (try simp only [Act.put, List.setIfInBounds_toArray, List.set_cons_zero, List.set_cons_succ])
            (refine draw_in (i := 10) (v := ?_) rfl ?_ ?_; rotate_left; (intro w hSw; (try dsimp only at hSw); go_simp; try with_reducible rfl)); (try simp only [Act.put, List.setIfInBounds_toArray, List.set_cons_zero, List.set_cons_succ])
            (refine draw_free (i := 11) (v := ?_) rfl ?_ ?_; rotate_left; (intro w; go_simp; try with_reducible rfl)); (try simp only [Act.put, List.setIfInBounds_toArray, List.set_cons_zero, List.set_cons_succ])
            (refine draw_in (i := 12) (v := ?_) rfl ?_ ?_; rotate_left; (intro w hSw; (try dsimp only at hSw); go_simp; try with_reducible rfl)); (try simp only [Act.put, List.setIfInBounds_toArray, List.set_cons_zero, List.set_cons_succ])
            (refine draw_in (i := 13) (v := ?_) rfl ?_ ?_; rotate_left; (intro w hSw; (try dsimp only at hSw); go_simp; try with_reducible rfl)); (try simp only [Act.put, List.setIfInBounds_toArray, List.set_cons_zero, List.set_cons_succ])
            refine draw_one (i := 14) ?_
            refine comes_turn (i := 14) rfl (fun K hK => ?_)
            go_simp
            (refine (refBAdd_anyE HMd.out.base HMd.out.ok s (xo := xa) (m := k) (xc := xcap) (ss := ss) HSS.out.2.symm (HRow.out.1.ext HMd.out.ext) HRow.out.2.1 (fun hne a e ho => by have h1 := HMd.out.own _ (.inl ho); have h2 := cells_lt HRow.out.1 hne a e; omega) (by rw [HMd.out.len]; have := HM2.out.2.1; omega)).mono ?_; rintro e w3 ⟨v, rfl, hk3, rfl, hT3⟩; obtain ⟨S3, G3, hM3⟩ := HMd.out.next hk3 (fun k e => e) hT3 (same_addC HMd.out.ok.ok HMd.out.okC HMd.out.same s ss) (ok_add HMd.out.okC s ss); have HM3 := Lib.hid hM3; clear hk3 hT3 hM3; rw [same_addR HMd.out.ok.ok HMd.out.okC HMd.out.same]; obtain ⟨x1, ex1⟩ : ∃ x, (addR C2 s ss).1 = x := ⟨_, rfl⟩; obtain ⟨x2, ex2⟩ : ∃ x, (addR C2 s ss).2 = x := ⟨_, rfl⟩; rw [ex1, ex2]; have EX := Lib.hid ex2; clear ex1 ex2)
            go_wp2_with fail
            refine hK.out _ _ ?_ (fun hHeld => ?_)
            · (try dsimp only); (exact HCd.out _ HM3.out.ext)
            clear hK K; (try simp only [Act.put, List.setIfInBounds_toArray, List.set_cons_zero, List.set_cons_succ])
            (refine draw_free (i := 15) (v := ?_) rfl ?_ ?_; rotate_left; (intro w; go_simp; try with_reducible rfl)); (try simp only [Act.put, List.setIfInBounds_toArray, List.set_cons_zero, List.set_cons_succ])
            (refine draw_free (i := 16) (v := ?_) rfl ?_ ?_; rotate_left; (intro w; go_simp; try with_reducible rfl)); (try simp only [Act.put, List.setIfInBounds_toArray, List.set_cons_zero, List.set_cons_succ])
            (refine draw_free (i := 17) (v := ?_) rfl ?_ ?_; rotate_left; (intro w; go_simp; try with_reducible rfl)); (try simp only [Act.put, List.setIfInBounds_toArray, List.set_cons_zero, List.set_cons_succ])
            (refine draw_free (i := 18) (v := ?_) rfl ?_ ?_; rotate_left; (intro w; go_simp; try with_reducible rfl)); (try simp only [Act.put, List.setIfInBounds_toArray, List.set_cons_zero, List.set_cons_succ])
            (refine draw_free (i := 19) (v := ?_) rfl ?_ ?_; rotate_left; (intro w; go_simp; try with_reducible rfl)); (try simp only [Act.put, List.setIfInBounds_toArray, List.set_cons_zero, List.set_cons_succ])
            refine wpAnyD_done (by kernel_rfl) ?_ _
            clear hHeld
            have hdj : q.2.2.1.drop j = ss :: q.2.2.1.drop (j + 1) := drop_at HSS.out.1
            have HDj := Lib.hid hdj
            clear hdj
            by_cases hx : x2 = 0
            · have q1 : ((x2 : Int) != 0) = false := by simp [hx]
              have HX := Lib.hid hx
              clear hx
              go_wp2
              go_roundw
              case rel =>
                have hla := len_addC (C := C2) (s := s) ss (by rw [← HQ.out.2.1]; exact HM2.out.2.2.1)
                refine ⟨j + 1, by omega, by first | rfl | (congr 1; done) | (congr 1; omega), S3, G3, _, HM3.out, by rw [hla.1]; exact HM2.out.2.1, by rw [HQ.out.2.1]; exact hla.2, ?_⟩
                rw [← HM2.out.2.2.2, HDj.out, HQ.out.2.1]
                exact (addAll_go (by rw [EX.out]; exact HX.out)).symm
              case measure => simp [intOf]; omega
            · have q1 : ((x2 : Int) != 0) = true := by simp; omega
              have HX := Lib.hid hx
              clear hx
              go_wp2
              go_ret2
              have hall := HM2.out.2.2.2
              rw [HDj.out, HQ.out.2.1, addAll_bad (by rw [EX.out]; exact HX.out), EX.out] at hall
              have hfr : fromC [] L = (C2, x2) := by
                rw [← HF.out.1, HDr.out, from_err (by rw [HQ.out.2.1, HQ.out.2.2.1, ED.out]; exact HD.out) (by rw [HQ.out.2.1, HQ.out.2.2.1, ← hall]; exact HX.out), HQ.out.2.1, HQ.out.2.2.1, ← hall]
              exact RetN.mk HM3.out.ext ⟨fun h0 => by rw [hfr] at h0; exact absurd h0 HX.out, fun _ => by rw [hfr]; rfl⟩
          · obtain rfl : j = m := by omega
            have hall := HM2.out.2.2.2
            rw [List.drop_of_length_le (by rw [HQ.out.2.2.2]; exact Nat.le_refl _)] at hall
            have hall' : addAll (declC C s a) s q.2.2.1 = (C2, 0) := hall.symm
            have HAll := Lib.hid hall'
            clear hall hall'
            go_wp2
            go_roundw
            case rel =>
              refine ⟨i + 1, by omega, by first | rfl | (congr 1; done) | (congr 1; omega), S2, G2, C2, HM2.out.1, HM2.out.2.1, ?_⟩
              rw [← HF.out.1, HDr.out, from_go (by rw [HQ.out.2.1, HQ.out.2.2.1, ED.out]; exact HD.out) (by rw [HQ.out.2.1, HQ.out.2.2.1, HAll.out]), HQ.out.2.1, HQ.out.2.2.1, HAll.out]
            case measure => simp [intOf]; omega
      · have q1 : ((d : Int) != 0) = true := by simp; omega
        have HD := Lib.hid hd
        clear hd
        go_wp2
        go_ret2
        have hfr : fromC [] L = (C, d) := by
          rw [← HF.out.1, drop_at HQ.out.1, from_bad (by rw [HQ.out.2.1, HQ.out.2.2.1, ED.out]; exact HD.out), HQ.out.2.1, HQ.out.2.2.1, ED.out]
        exact RetN.mk HM1.out.ext ⟨fun h0 => by rw [hfr] at h0; exact absurd h0 HD.out, fun _ => by rw [hfr]; rfl⟩
    · obtain rfl : i = n := by omega
      have hfr : fromC [] L = (C, 0) := by
        rw [← HF.out.1, List.drop_of_length_le (by rw [← HN.out]; exact Nat.le_refl _)]; rfl
      have HFr := Lib.hid hfr
      clear hfr
      go_wp2
      go_ret2
      exact RetN.mk HM.out.ext ⟨fun _ => ⟨cb, S, G, rfl, HM.out.base, HM.out.ok, by rw [HFr.out]; exact HM.out.same, by rw [HM.out.len, ← HN.out]; exact HF.out.2, HM.out.pool, HM.out.own⟩, fun h0 => absurd (by rw [HFr.out]) h0⟩
end Go.Proofs.YtfkhelihepbehaaGreat

/- The document's Base: Merge. -/
namespace Go.Proofs.YtfkhelihepbehaaGreat
open Go.RowKit
set_option linter.unusedVariables false

/-- A base in the making beside others. -/
structure MyRef2 (w0 : World) (S0 S : Nat → Prop) (w : World) (cb : Nat) (G : List REnt) (C : List CntZ) : Prop where
  base : RefB S w cb G
  ok : RefOk G
  same : SameC (cntR G) C
  okC : BaseOk C
  ext : Ext w0 w
  pool : Grows w0 S0 S
  own : ∀ k, OwnG cb G k → w0.heap.size ≤ k
section
variable {w0 w w' : World} {S0 S : Nat → Prop} {cb : Nat} {G : List REnt} {C : List CntZ}
theorem MyRef2.len (h : MyRef2 w0 S0 S w cb G C) : G.length = C.length := by
  rw [← cntR_len, same_lenC h.ok.ok.nodup h.okC.nodup h.same]
theorem MyRef2.drew (h : MyRef2 w0 S0 S w cb G C) (hk : Ext w w') : MyRef2 w0 S0 S w' cb G C :=
  ⟨h.base.ext hk, h.ok, h.same, h.okC, h.ext.trans hk, h.pool, h.own⟩
theorem MyRef2.next {C' D : List CntZ} {F : Nat → Prop} (h : MyRef2 w0 S0 S w cb G C) (hk : Kp F w w') (hF : ∀ k, F k → OwnG cb G k) (ht : RefBTo S w cb G C' w') (hs : SameC C' D) (hD : BaseOk D) : ∃ S' G', MyRef2 w0 S0 S' w' cb G' D := by
  obtain ⟨S', G', h1, h2, h3, h4, h5, h6⟩ := ht
  have hz := h.ext.size
  refine ⟨S', G', h2, h3, h4.trans hs, hD, h.ext.trans' hk fun k hk f => absurd (h.own k (hF k f)) (by omega), h.pool.trans h1 hz, fun k hk => ?_⟩
  rcases h6 k hk with h' | h'
  · exact h.own k h'
  · omega
end
def RefMTo (w0 : World) (S0 : Nat → Prop) (cb : Nat) (C0 : List CntZ) (L : List RelZ) (n0 n : Nat) (iv : Value) (w : World) : Prop := ∃ i : Nat, i ≤ n ∧ iv = .int .i64 i ∧ Hid (∃ S G C, MyRef2 w0 S0 S w cb G C ∧ C.length ≤ n0 + i ∧ Agree C L ∧ fromC C (L.drop i) = fromC C0 L)
def RefMIn (w0 : World) (S0 : Nat → Prop) (cb : Nat) (L : List RelZ) (s : ByteArray) (LL : Rows2) (R : List CntZ × Nat) (n0 i m : Nat) (jv : Value) (w : World) : Prop := ∃ j : Nat, j ≤ m ∧ jv = .int .i64 j ∧ Hid (∃ S G C, MyRef2 w0 S0 S w cb G C ∧ C.length ≤ n0 + i + 1 ∧ (∃ v, getC C s = some v) ∧ Agree C L ∧ addAll C s (LL.drop j) = R)
def clashP (C : List CntZ) (p : CntZ) : Bool := match getC C p.1 with
  | some v => decide (v.1 ≠ p.2.1)
  | none => false
theorem clashC_any (C D : List CntZ) : clashC C D = D.any (clashP C) := by
  unfold clashC
  congr 1
/-- What the document's Merge leaves. -/
def RefMerged (S : Nat → Prop) (w : World) (c1 : Nat) (C D : List CntZ) (w' : World) (v : Value) : Prop :=
  v = .int .i64 ((mergeR C D : Nat) : Int) ∧ (mergeR C D ≠ 0 → Ext w w') ∧ (mergeR C D = 0 → ∃ S' G', Grows w S S' ∧ RefB S' w' c1 G' ∧ RefOk G' ∧ SameC (cntR G') (mergeL C D) ∧ ∀ k, OwnG c1 G' k → k = c1 ∨ w.heap.size ≤ k)
section
variable {w : World} {S : Nat → Prop} {c1 c2 : Nat} {G1 G2 : List REnt}
set_option maxRecDepth 100000 in
set_option maxHeartbeats 8000000 in
theorem refBMerge_any (h1 : RefB S w c1 G1) (h2 : RefB S w c2 G2) (o1 : RefOk G1) (o2 : RefOk G2) (hl1 : G1.length ≤ 1048576) (hl2 : G2.length ≤ 1048576) :
    Calls Tryz.prog 68 #[.pointer (some ⟨c1, 0, none⟩), .pointer (some ⟨c2, 0, none⟩)] w (RetF (fun k => k = c1) w (RefMerged S w c1 (cntR G1) (cntR G2))) := by
  have H := Lib.hid (And.intro h1 (And.intro h2 (And.intro o1 (And.intro o2 (And.intro hl1 hl2)))))
  obtain ⟨na, nc, aa, ac, hB, hN, hA, _, _⟩ := h2.blk
  obtain ⟨n, en⟩ : ∃ n, G2.length = n := ⟨_, rfl⟩
  rw [en] at hB hl2
  have d0 : w.cell? ⟨c2, 0, none⟩ = some (.slice na n nc) := by rw [hB.cell']; rfl
  have d1 : w.cell? ⟨c2, 1, none⟩ = some (.slice aa n ac) := by rw [hB.cell']; rfl
  have HC := Lib.hid (fun W (hW : Ext w W) => (⟨hW.cell d0 id, hW.cell d1 id⟩ : W.cell? ⟨c2, 0, none⟩ = some (.slice na n nc) ∧ W.cell? ⟨c2, 1, none⟩ = some (.slice aa n ac)))
  have HG := Lib.hid (And.intro en (And.intro hN hA))
  have HCp := Lib.hid (fun W (hW : Ext w W) => refBCopy_any (h1.ext hW) (by omega) (fun g hg => (o1.ok.all g.cnt (List.mem_map.2 ⟨g, hg, rfl⟩)).few))
  clear h1 h2 o1 o2 hl1 hB hN hA en d0 d1
  go_enter Tryz.func68, Tryz.ntmps68
  go_wp2
  go_loopw [5] (fun iv wr => ∃ i : Nat, i ≤ n ∧ iv = .int .i64 i ∧ Hid (Ext w wr) ∧ Hid (∀ (j : Nat) (y : REnt), j < i → G2[j]? = some y → clashP (cntR G1) y.cnt = false)) (fun iv _ => n - (intOf iv).toNat)
  case atStart => exact ⟨0, Nat.zero_le _, rfl, Lib.hid (Kp.refl _), Lib.hid fun j y hj => by omega⟩
  case round =>
    obtain ⟨i, hi, rfl, hex, hin⟩ := hrel
    obtain ⟨d0, d1⟩ := HC.out wr hex.out
    by_cases hlt : i < n
    · obtain ⟨y, hy⟩ : ∃ y, G2[i]? = some y := ⟨_, List.getElem?_eq_getElem (by rw [HG.out.1]; exact hlt)⟩
      have hym := List.mem_of_getElem? hy
      obtain ⟨nb, no, e1, f0⟩ := HG.out.2.1 i (.string y.name) (by simp [strs, hy])
      obtain ⟨ab, ao, e3, f2⟩ := HG.out.2.2 i y.ptr (by simp [hy])
      subst e1 e3
      obtain ⟨f3, _⟩ := refRows_cell (H.out.2.1.rows y hym)
      obtain ⟨s, es⟩ : ∃ s, y.name = s := ⟨_, rfl⟩
      obtain ⟨p, ep⟩ : ∃ p, y.c = p := ⟨_, rfl⟩
      obtain ⟨ar, ear⟩ : ∃ ar, y.ar = ar := ⟨_, rfl⟩
      have ept : y.ptr = .pointer (some ⟨p, 0, none⟩) := by rw [← ep]; rfl
      rw [es] at f0
      rw [ept] at f2
      rw [ep, ear] at f3
      have HF := Lib.hid (And.intro f0 (And.intro f2 f3))
      have HY := Lib.hid (And.intro hy (And.intro es ear))
      have f0r := hex.out.cell f0 id
      clear hy hym es ep ear ept f0 f2 f3
      go_wp2_with fail
      refine (refBRows_any (H.out.1.ext hex.out) s).mono ?_
      rintro e w1 ⟨v, rfl, hk1, hv⟩
      have hx1 := hex.out.trans hk1
      obtain ⟨d01, d11⟩ := HC.out w1 hx1
      have f2r := hx1.cell HF.out.2.1 id
      have f3r := hx1.cell HF.out.2.2 id
      have HX1 := Lib.hid hx1
      clear hk1 hx1 f0r d0 d1
      cases hf : findR2 G1 s with
      | none =>
        rw [hf] at hv
        replace hv : v = .pointer none := hv
        subst hv
        have hcl : clashP (cntR G1) (y.cnt) = false := by
          unfold clashP
          rw [show y.cnt.1 = y.name from rfl, HY.out.2.1, (findR2_none hf).1]
        have HCl := Lib.hid hcl
        clear hf hcl
        go_wp2
        go_quiet (fail)
        go_wp2
        go_roundw
        case rel => exact ⟨i + 1, by omega, by first | rfl | (congr 1; done) | (congr 1; omega), Lib.hid (HX1.out.drewN _), Lib.hid fun j z hj hz => by
          by_cases hji : j < i
          · exact hin.out j z hji hz
          · obtain rfl : j = i := by omega
            rw [HY.out.1] at hz
            cases hz
            exact HCl.out⟩
        case measure => simp [intOf]; omega
      | some g =>
        rw [hf] at hv
        replace hv : v = .pointer (some ⟨g.c, 0, none⟩) := hv
        have hgm := (findR2_some hf).1
        obtain ⟨f4, _⟩ := refRows_cell ((H.out.1.rows g hgm).ext HX1.out)
        obtain ⟨gc, egc⟩ : ∃ gc, g.c = gc := ⟨_, rfl⟩
        obtain ⟨ga, ega⟩ : ∃ ga, g.ar = ga := ⟨_, rfl⟩
        rw [egc] at hv f4
        rw [ega] at f4
        subst hv
        have hcl : clashP (cntR G1) (y.cnt) = decide (ga ≠ ar) := by
          unfold clashP
          rw [show y.cnt.1 = y.name from rfl, HY.out.2.1, (findR2_cnt hf).1]
          show decide (g.ar ≠ y.ar) = _
          rw [ega, HY.out.2.2]
        have HCl := Lib.hid hcl
        clear hf hcl hgm egc ega
        by_cases hne : ga = ar
        · have q1 : ((ga : Int) != (ar : Int)) = false := by simp [hne]
          have HNE := Lib.hid hne
          clear hne
          go_wp2
          go_quiet (fail)
          go_wp2
          go_roundw
          case rel => exact ⟨i + 1, by omega, by first | rfl | (congr 1; done) | (congr 1; omega), Lib.hid (HX1.out.drewN _), Lib.hid fun j z hj hz => by
            by_cases hji : j < i
            · exact hin.out j z hji hz
            · obtain rfl : j = i := by omega
              rw [HY.out.1] at hz
              cases hz
              rw [HCl.out, HNE.out]; simp⟩
          case measure => simp [intOf]; omega
        · have q1 : ((ga : Int) != (ar : Int)) = true := by rw [bne_iff_ne]; omega
          have hR : mergeR (cntR G1) (cntR G2) = 30 := by
            unfold mergeR
            rw [if_pos]
            rw [clashC_any, List.any_eq_true]
            exact ⟨y.cnt, List.mem_map.2 ⟨y, List.mem_of_getElem? HY.out.1, rfl⟩, by rw [HCl.out]; exact decide_eq_true hne⟩
          have HR := Lib.hid hR
          clear hne hR
          go_wp2
          go_quiet (fail)
          go_wp2
          go_ret
          exact RetF.mk (Ext.kp (HX1.out.drewN _)) ⟨by rw [HR.out]; rfl, fun _ => HX1.out.drewN _, fun h => by rw [HR.out] at h; cases h⟩
    · obtain rfl : i = n := by omega
      have hno : clashC (cntR G1) (cntR G2) = false := by
        rw [clashC_any, List.any_eq_false]
        intro p hp h
        obtain ⟨y, hy, rfl⟩ := List.mem_map.1 hp
        obtain ⟨j, hj, e⟩ := List.getElem_of_mem hy
        have := hin.out j y (by rw [← HG.out.1]; exact hj) (by rw [List.getElem?_eq_getElem hj, e])
        rw [this] at h; cases h
      have HNo := Lib.hid hno
      clear hno hin hlt hi
      go_wp2_with fail
      refine (HCp.out wr hex.out).mono ?_
      rintro e wc ⟨v, rfl, hkc, c3, S3, G3, rfl, hg3, hb3, hc3, ho3⟩
      have hxc := hex.out.trans hkc
      have hzr := hex.out.size
      obtain ⟨L, eL⟩ : ∃ L, relsD (cntR G2) = L := ⟨_, rfl⟩
      have hn3 : G3.map REnt.name = G1.map REnt.name := by rw [← cntR_names, hc3, cntR_names]
      have HM0 := Lib.hid (show MyRef2 w S S3 wc c3 G3 (cntR G1) ∧ Agree (cntR G1) L from ⟨⟨hb3, ⟨by rw [hc3]; exact H.out.2.2.1.ok, by rw [hn3]; exact H.out.2.2.1.names⟩, by rw [hc3]; exact SameC.refl _, H.out.2.2.1.ok, hxc, (Grows.refl w S).trans hg3 hzr, fun k hk => by have := ho3 k hk; omega⟩, by rw [← eL]; exact agree_start H.out.2.2.2.1.ok HNo.out⟩)
      have HLr := Lib.hid (show (∀ r ∈ L, ∀ q ∈ L, r.1 = q.1 → r.2.1 = q.2.1) ∧ (∀ r ∈ L, RelOk r) ∧ L.length = i ∧ (fromC (cntR G1) L).2 = mergeR (cntR G1) (cntR G2) ∧ (mergeR (cntR G1) (cntR G2) = 0 → SameC (fromC (cntR G1) L).1 (mergeL (cntR G1) (cntR G2))) ∧ ∀ (j : Nat) (y : REnt), G2[j]? = some y → L[j]? = some (y.name, (y.ar : Int), y.LL, ()) from by
        have hm := merge_from H.out.2.2.1.ok H.out.2.2.2.1.ok HNo.out
        rw [eL] at hm
        refine ⟨by rw [← eL]; exact rels_con H.out.2.2.2.1.ok, by rw [← eL]; exact rels_ok H.out.2.2.2.1.ok, by rw [← eL]; unfold relsD; rw [List.length_map, cntR_len', HG.out.1], hm.1, hm.2, fun j y hy => ?_⟩
        rw [← eL]
        unfold relsD cntR
        rw [List.getElem?_map, List.getElem?_map, hy]; rfl)
      obtain ⟨n0, en0⟩ : ∃ n0, (cntR G1).length = n0 := ⟨_, rfl⟩
      have hn0 : n0 ≤ 1048576 := by rw [← en0, cntR_len']; exact H.out.2.2.2.2.1
      have EN0 := Lib.hid en0
      clear hkc hg3 hb3 hc3 ho3 hxc hzr eL hn3 en0 HCp HNo hex d0 d1
      generalize hwc : wr = wr0 at *; clear hwc
      obtain ⟨n, en⟩ : ∃ n, i = n := ⟨_, rfl⟩
      subst en
      go_wp2
      go_loopw [8] (fun iv wr => RefMTo w S c3 (cntR G1) L n0 i iv wr) (fun iv _ => i - (intOf iv).toNat)
      case atStart => exact ⟨0, Nat.zero_le _, rfl, Lib.hid ⟨S3, G3, cntR G1, HM0.out.1, by rw [EN0.out]; exact Nat.le_refl _, HM0.out.2, rfl⟩⟩
      case round =>
        clear HM0
        obtain ⟨k, hk, rfl, hin⟩ := hrel
        obtain ⟨Sk, Gk, C, hM, hlen, hag, hF⟩ := hin.out
        have HM := Lib.hid hM
        have HF := Lib.hid (And.intro hF (And.intro hlen hag))
        clear hin hM hF hlen hag
        obtain ⟨d0, d1⟩ := HC.out wr HM.out.ext
        by_cases hlt : k < i
        · obtain ⟨y, hy⟩ : ∃ y, G2[k]? = some y := ⟨_, List.getElem?_eq_getElem (by rw [HG.out.1]; exact hlt)⟩
          have hym := List.mem_of_getElem? hy
          have hq := HLr.out.2.2.2.2.2 k y hy
          obtain ⟨nb, no, e1, f0⟩ := HG.out.2.1 k (.string y.name) (by simp [strs, hy])
          obtain ⟨ab, ao, e3, f2⟩ := HG.out.2.2 k y.ptr (by simp [hy])
          subst e1 e3
          have hrr := H.out.2.1.rows y hym
          have hfew : y.LL.length ≤ 65536 := (H.out.2.2.2.1.ok.all y.cnt (List.mem_map.2 ⟨y, hym, rfl⟩)).few
          obtain ⟨f3, _⟩ := refRows_cell hrr
          obtain ⟨lo, lc, hBr, hrows, _⟩ := hrr
          have f4 : w.cell? ⟨y.c, 1, none⟩ = some (.slice lo y.LL.length lc) := by rw [hBr.cell']; rfl
          obtain ⟨s, es⟩ : ∃ s, y.name = s := ⟨_, rfl⟩
          obtain ⟨p, ep⟩ : ∃ p, y.c = p := ⟨_, rfl⟩
          obtain ⟨ar, ear⟩ : ∃ ar, y.ar = ar := ⟨_, rfl⟩
          obtain ⟨LL, eLL⟩ : ∃ LL, y.LL = LL := ⟨_, rfl⟩
          obtain ⟨m, em⟩ : ∃ m, LL.length = m := ⟨_, rfl⟩
          have ept : y.ptr = .pointer (some ⟨p, 0, none⟩) := by rw [← ep]; rfl
          rw [es] at f0 hq
          rw [ept] at f2
          rw [ep, ear] at f3
          rw [ear, eLL] at hq
          rw [ep, eLL, em] at f4
          rw [eLL] at hrows hfew
          have hm1 : m ≤ 65536 := by rw [← em]; exact hfew
          have HCk := Lib.hid (fun W (hW : Ext w W) => (⟨(HC.out W hW).1, (HC.out W hW).2, hW.cell f0 id, hW.cell f2 id, hW.cell f3 id, hW.cell f4 id⟩ : W.cell? ⟨c2, 0, none⟩ = some (.slice (some ⟨nb, no, none⟩) i nc) ∧ W.cell? ⟨c2, 1, none⟩ = some (.slice (some ⟨ab, ao, none⟩) i ac) ∧ W.cell? ⟨nb, no + k, none⟩ = some (.string s) ∧ W.cell? ⟨ab, ao + k, none⟩ = some (.pointer (some ⟨p, 0, none⟩)) ∧ W.cell? ⟨p, 0, none⟩ = some (.int .i64 ar) ∧ W.cell? ⟨p, 1, none⟩ = some (.slice lo m lc)))
          have hqm := List.mem_of_getElem? hq
          have hdec : declR C s (ar : Int) = 0 := decl_ok0 (HLr.out.2.1 _ hqm) (HF.out.2.2 _ hqm)
          have HQ := Lib.hid (And.intro hq (And.intro hqm (And.intro hdec em)))
          have HRows := Lib.hid hrows
          clear hy hym hq hqm hdec f0 f2 f3 f4 hrows hfew hBr es ep ear eLL em ept d0 d1
          obtain ⟨d0, d1, f0, f2, f3, f4⟩ := HCk.out wr HM.out.ext
          go_wp2
          go_still_tail 18, (by kernel_rfl)
          go_wp2_with fail
          obtain ⟨wd, ewd⟩ : ∃ wd, wr.drew = wd := ⟨_, rfl⟩
          rw [ewd]
          have HMd := Lib.hid (show MyRef2 w S Sk wd c3 Gk C by rw [← ewd]; exact HM.out.drew (Kp.refl wr).drew)
          clear ewd
          refine (refBDecl_any HMd.out.base HMd.out.ok s (ar : Int) (by rw [HMd.out.len]; have := HF.out.2.1; omega)).mono ?_
          rintro e w2 ⟨v, rfl, hk2, rfl, hT2⟩
          obtain ⟨S1, Gd, hM1⟩ := HMd.out.next hk2 (fun k e => .inl e) hT2 (same_declC HMd.out.same s (ar : Int)) (ok_decl HMd.out.okC s (ar : Int))
          have HM1 := Lib.hid (And.intro hM1 (show Agree (declC C s (ar : Int)) L from agree_decl (r := (s, (ar : Int), LL, ())) HLr.out.1 HQ.out.2.1 HF.out.2.2 HQ.out.2.2.1))
          clear hk2 hT2 hM1 d0 d1 f0 f2 f3 f4
          go_wp2
          generalize hw5 : w2 = w5 at *; clear hw5
          go_loopw [9] (fun jv wk => RefMIn w S c3 L s LL (addAll (declC C s (ar : Int)) s LL) n0 k m jv wk) (fun jv _ => m - (intOf jv).toNat)
          case atStart =>
            have h0 := decl_ar HQ.out.2.2.1
            exact ⟨0, Nat.zero_le _, rfl, Lib.hid ⟨S1, Gd, _, HM1.out.1, by have := len_declC C s (ar : Int); have := HF.out.2.1; omega, by obtain ⟨LL, e, _⟩ := h0; exact ⟨_, e⟩, HM1.out.2, rfl⟩⟩
          case round =>
            clear HM1 HM HMd
            obtain ⟨j, hj, rfl, hin⟩ := hrel
            obtain ⟨S2, Gj, C2, hM2, hl2, hv2, hag2, hA2⟩ := hin.out
            have HM2 := Lib.hid (And.intro hM2 (And.intro hl2 (And.intro hv2 (And.intro hag2 hA2))))
            clear hin hM2 hl2 hv2 hA2 hag2
            obtain ⟨d0, d1, f0, f2, f3, f4⟩ := HCk.out wr HM2.out.1.ext
            by_cases hlt2 : j < m
            · obtain ⟨ss, hss⟩ : ∃ ss, LL[j]? = some ss := ⟨_, List.getElem?_eq_getElem (by rw [HQ.out.2.2.2]; exact hlt2)⟩
              obtain ⟨g, o, xa, xcap, era, g0, g1, g2, g3⟩ := HRows.out.get hss
              subst era
              obtain ⟨kk, ek⟩ : ∃ kk, ss.length = kk := ⟨_, rfl⟩
              rw [ek] at g0
              have HCj := Lib.hid (fun W (hW : Ext w W) => (⟨(HCk.out W hW).1, (HCk.out W hW).2.1, (HCk.out W hW).2.2.1, (HCk.out W hW).2.2.2.1, (HCk.out W hW).2.2.2.2.2, hW.cell g0 id⟩ : W.cell? ⟨c2, 0, none⟩ = some (.slice (some ⟨nb, no, none⟩) i nc) ∧ W.cell? ⟨c2, 1, none⟩ = some (.slice (some ⟨ab, ao, none⟩) i ac) ∧ W.cell? ⟨nb, no + k, none⟩ = some (.string s) ∧ W.cell? ⟨ab, ao + k, none⟩ = some (.pointer (some ⟨p, 0, none⟩)) ∧ W.cell? ⟨p, 1, none⟩ = some (.slice (some ⟨g, o, none⟩) m lc) ∧ W.cell? ⟨g, o + j, none⟩ = some (.slice xa kk xcap)))
              have HSS := Lib.hid (And.intro hss ek)
              have HRow := Lib.hid (And.intro g1 (And.intro g2 g3))
              have g0r := HM2.out.1.ext.cell g0 id
              have HMd := Lib.hid (HM2.out.1.drew (Kp.refl wr).drew)
              clear hss ek g0 g1 g2 g3
              go_wp2
              refine draw_begin (fun w' : World => w'.cell? ⟨c2, 0, none⟩ = some (.slice (some ⟨nb, no, none⟩) i nc) ∧ w'.cell? ⟨c2, 1, none⟩ = some (.slice (some ⟨ab, ao, none⟩) i ac) ∧ w'.cell? ⟨nb, no + k, none⟩ = some (.string s) ∧ w'.cell? ⟨ab, ao + k, none⟩ = some (.pointer (some ⟨p, 0, none⟩)) ∧ w'.cell? ⟨p, 1, none⟩ = some (.slice (some ⟨g, o, none⟩) m lc) ∧ w'.cell? ⟨g, o + j, none⟩ = some (.slice xa kk xcap)) [] (by kernel_rfl) (HCj.out _ (HM2.out.1.ext.drew)) (fun hHeld => ?_)
              (refine draw_free (i := 0) (v := ?_) rfl ?_ ?_; rotate_left; (intro w; go_simp; try with_reducible rfl)); (try simp only [Act.put, List.setIfInBounds_toArray, List.set_cons_zero, List.set_cons_succ])
              (refine draw_free (i := 1) (v := ?_) rfl ?_ ?_; rotate_left; (intro w; go_simp; try with_reducible rfl)); (try simp only [Act.put, List.setIfInBounds_toArray, List.set_cons_zero, List.set_cons_succ])
              (refine draw_free (i := 2) (v := ?_) rfl ?_ ?_; rotate_left; (intro w; go_simp; try with_reducible rfl)); (try simp only [Act.put, List.setIfInBounds_toArray, List.set_cons_zero, List.set_cons_succ])
              (refine draw_free (i := 3) (v := ?_) rfl ?_ ?_; rotate_left; (intro w; go_simp; try with_reducible rfl)); (try simp only [Act.put, List.setIfInBounds_toArray, List.set_cons_zero, List.set_cons_succ])
              (refine draw_in (i := 4) (v := ?_) rfl ?_ ?_; rotate_left; (intro w hSw; (try dsimp only at hSw); go_simp; try with_reducible rfl)); (try simp only [Act.put, List.setIfInBounds_toArray, List.set_cons_zero, List.set_cons_succ])
              (refine draw_free (i := 5) (v := ?_) rfl ?_ ?_; rotate_left; (intro w; go_simp; try with_reducible rfl)); (try simp only [Act.put, List.setIfInBounds_toArray, List.set_cons_zero, List.set_cons_succ])
              (refine draw_in (i := 6) (v := ?_) rfl ?_ ?_; rotate_left; (intro w hSw; (try dsimp only at hSw); go_simp; try with_reducible rfl)); (try simp only [Act.put, List.setIfInBounds_toArray, List.set_cons_zero, List.set_cons_succ])
              (refine draw_in (i := 7) (v := ?_) rfl ?_ ?_; rotate_left; (intro w hSw; (try dsimp only at hSw); go_simp; try with_reducible rfl)); (try simp only [Act.put, List.setIfInBounds_toArray, List.set_cons_zero, List.set_cons_succ])
              (refine draw_free (i := 8) (v := ?_) rfl ?_ ?_; rotate_left; (intro w; go_simp; try with_reducible rfl)); (try simp only [Act.put, List.setIfInBounds_toArray, List.set_cons_zero, List.set_cons_succ])
              (refine draw_free (i := 9) (v := ?_) rfl ?_ ?_; rotate_left; (intro w; go_simp; try with_reducible rfl)); (try simp only [Act.put, List.setIfInBounds_toArray, List.set_cons_zero, List.set_cons_succ])
              (refine draw_free (i := 10) (v := ?_) rfl ?_ ?_; rotate_left; (intro w; go_simp; try with_reducible rfl)); (try simp only [Act.put, List.setIfInBounds_toArray, List.set_cons_zero, List.set_cons_succ])
              (refine draw_in (i := 11) (v := ?_) rfl ?_ ?_; rotate_left; (intro w hSw; (try dsimp only at hSw); go_simp; try with_reducible rfl)); (try simp only [Act.put, List.setIfInBounds_toArray, List.set_cons_zero, List.set_cons_succ])
              (refine draw_free (i := 12) (v := ?_) rfl ?_ ?_; rotate_left; (intro w; go_simp; try with_reducible rfl)); (try simp only [Act.put, List.setIfInBounds_toArray, List.set_cons_zero, List.set_cons_succ])
              (refine draw_in (i := 13) (v := ?_) rfl ?_ ?_; rotate_left; (intro w hSw; (try dsimp only at hSw); go_simp; try with_reducible rfl)); (try simp only [Act.put, List.setIfInBounds_toArray, List.set_cons_zero, List.set_cons_succ])
              (refine draw_in (i := 14) (v := ?_) rfl ?_ ?_; rotate_left; (intro w hSw; (try dsimp only at hSw); go_simp; try with_reducible rfl)); (try simp only [Act.put, List.setIfInBounds_toArray, List.set_cons_zero, List.set_cons_succ])
              (refine draw_free (i := 15) (v := ?_) rfl ?_ ?_; rotate_left; (intro w; go_simp; try with_reducible rfl)); (try simp only [Act.put, List.setIfInBounds_toArray, List.set_cons_zero, List.set_cons_succ])
              (refine draw_free (i := 16) (v := ?_) rfl ?_ ?_; rotate_left; (intro w; go_simp; try with_reducible rfl)); (try simp only [Act.put, List.setIfInBounds_toArray, List.set_cons_zero, List.set_cons_succ])
              (refine draw_in (i := 17) (v := ?_) rfl ?_ ?_; rotate_left; (intro w hSw; (try dsimp only at hSw); go_simp; try with_reducible rfl)); (try simp only [Act.put, List.setIfInBounds_toArray, List.set_cons_zero, List.set_cons_succ])
              (refine draw_free (i := 18) (v := ?_) rfl ?_ ?_; rotate_left; (intro w; go_simp; try with_reducible rfl)); (try simp only [Act.put, List.setIfInBounds_toArray, List.set_cons_zero, List.set_cons_succ])
              (refine draw_in (i := 19) (v := ?_) rfl ?_ ?_; rotate_left; (intro w hSw; (try dsimp only at hSw); go_simp; try with_reducible rfl)); (try simp only [Act.put, List.setIfInBounds_toArray, List.set_cons_zero, List.set_cons_succ])
              (refine draw_in (i := 20) (v := ?_) rfl ?_ ?_; rotate_left; (intro w hSw; (try dsimp only at hSw); go_simp; try with_reducible rfl)); (try simp only [Act.put, List.setIfInBounds_toArray, List.set_cons_zero, List.set_cons_succ])
              refine draw_one (i := 21) ?_
              refine comes_turn (i := 21) rfl (fun K hK => ?_)
              go_simp
              (refine (refBAdd_any HMd.out.base HMd.out.ok s (xo := xa) (m := kk) (xc := xcap) (ss := ss) HSS.out.2.symm (HRow.out.1.ext HMd.out.ext) HRow.out.2.1 (fun a e ho => by have h1 := HMd.out.own _ (.inl ho); have h2 := H.out.1.inS _ (HRow.out.2.2 a e); omega) (by rw [HMd.out.len]; have := HM2.out.2.1; omega)).mono ?_; rintro e w3 ⟨v, rfl, hk3, rfl, hT3⟩; obtain ⟨S3', G3', hM3⟩ := HMd.out.next hk3 (fun k e => e) hT3 (same_addC HMd.out.ok.ok HMd.out.okC HMd.out.same s ss) (ok_add HMd.out.okC s ss); have HM3 := Lib.hid (And.intro hM3 True.intro); clear hk3 hT3 hM3; rw [same_addR HMd.out.ok.ok HMd.out.okC HMd.out.same]; obtain ⟨x1, ex1⟩ : ∃ x, (addR C2 s ss).1 = x := ⟨_, rfl⟩; obtain ⟨x2, ex2⟩ : ∃ x, (addR C2 s ss).2 = x := ⟨_, rfl⟩; rw [ex1, ex2]; have EX := Lib.hid ex2; clear ex1 ex2)
              go_wp2_with fail
              refine hK.out _ _ ?_ (fun hHeld => ?_)
              · (try dsimp only); (exact HCj.out _ HM3.out.1.ext)
              clear hK K; (try simp only [Act.put, List.setIfInBounds_toArray, List.set_cons_zero, List.set_cons_succ])
              (refine draw_free (i := 22) (v := ?_) rfl ?_ ?_; rotate_left; (intro w; go_simp; try with_reducible rfl)); (try simp only [Act.put, List.setIfInBounds_toArray, List.set_cons_zero, List.set_cons_succ])
              (refine draw_free (i := 23) (v := ?_) rfl ?_ ?_; rotate_left; (intro w; go_simp; try with_reducible rfl)); (try simp only [Act.put, List.setIfInBounds_toArray, List.set_cons_zero, List.set_cons_succ])
              (refine draw_free (i := 24) (v := ?_) rfl ?_ ?_; rotate_left; (intro w; go_simp; try with_reducible rfl)); (try simp only [Act.put, List.setIfInBounds_toArray, List.set_cons_zero, List.set_cons_succ])
              (refine draw_free (i := 25) (v := ?_) rfl ?_ ?_; rotate_left; (intro w; go_simp; try with_reducible rfl)); (try simp only [Act.put, List.setIfInBounds_toArray, List.set_cons_zero, List.set_cons_succ])
              (refine draw_free (i := 26) (v := ?_) rfl ?_ ?_; rotate_left; (intro w; go_simp; try with_reducible rfl)); (try simp only [Act.put, List.setIfInBounds_toArray, List.set_cons_zero, List.set_cons_succ])
              refine wpAnyD_done (by kernel_rfl) ?_ _
              clear hHeld
              have hdj : LL.drop j = ss :: LL.drop (j + 1) := drop_at HSS.out.1
              have HDj := Lib.hid hdj
              clear hdj
              by_cases hx : x2 = 0
              · have q1 : ((x2 : Int) != 0) = false := by simp [hx]
                have HX := Lib.hid hx
                clear hx
                go_wp2
                go_roundw
                case rel =>
                  have hla := len_addC (C := C2) (s := s) ss HM2.out.2.2.1
                  refine ⟨j + 1, by omega, by first | rfl | (congr 1; done) | (congr 1; omega), Lib.hid ⟨S3', G3', _, HM3.out.1, by rw [hla.1]; exact HM2.out.2.1, hla.2, agree_add HM2.out.1.okC HM2.out.2.2.2.1 (by rw [EX.out]; exact HX.out) HM2.out.2.2.1, ?_⟩⟩
                  rw [← HM2.out.2.2.2.2, HDj.out]
                  exact (addAll_go (by rw [EX.out]; exact HX.out)).symm
                case measure => simp [intOf]; omega
              · have q1 : ((x2 : Int) != 0) = true := by simp; omega
                have HX := Lib.hid hx
                clear hx
                go_wp2
                go_ret
                have hall := HM2.out.2.2.2.2
                rw [HDj.out, addAll_bad (by rw [EX.out]; exact HX.out), EX.out] at hall
                have hfr : fromC (cntR G1) L = (C2, x2) := by
                  rw [← HF.out.1, drop_at HQ.out.1, from_err HQ.out.2.2.1 (by rw [← hall]; exact HX.out), ← hall]
                have hR : mergeR (cntR G1) (cntR G2) = x2 := by rw [← HLr.out.2.2.2.1, hfr]
                exact RetF.mk (Ext.kp HM3.out.1.ext) ⟨by rw [hR]; rfl, fun _ => HM3.out.1.ext, fun h => absurd (hR.symm.trans h) HX.out⟩
            · obtain rfl : j = m := by omega
              have hall := HM2.out.2.2.2.2
              rw [List.drop_of_length_le (by rw [HQ.out.2.2.2]; exact Nat.le_refl _)] at hall
              have hall' : addAll (declC C s (ar : Int)) s LL = (C2, 0) := hall.symm
              have HAll := Lib.hid hall'
              clear hall hall'
              go_wp2
              go_roundw
              case rel =>
                refine ⟨k + 1, by omega, by first | rfl | (congr 1; done) | (congr 1; omega), Lib.hid ⟨S2, Gj, C2, HM2.out.1, HM2.out.2.1, HM2.out.2.2.2.1, ?_⟩⟩
                rw [← HF.out.1, drop_at HQ.out.1, from_go HQ.out.2.2.1 (by rw [HAll.out]), HAll.out]
              case measure => simp [intOf]; omega
        · obtain rfl : k = i := by omega
          have hfr : fromC (cntR G1) L = (C, 0) := by
            rw [← HF.out.1, List.drop_of_length_le (by rw [HLr.out.2.2.1]; exact Nat.le_refl _)]; rfl
          have hR : mergeR (cntR G1) (cntR G2) = 0 := by rw [← HLr.out.2.2.2.1, hfr]
          have hsm := HLr.out.2.2.2.2.1 hR
          rw [hfr] at hsm
          obtain ⟨na3, nc3, aa3, ac3, hB3, hN3, hA3, hs3, hs4, hf3⟩ := HM.out.base.blk
          obtain ⟨n3, en3⟩ : ∃ n3, Gk.length = n3 := ⟨_, rfl⟩
          rw [en3] at hB3
          have e0 : wr.cell? ⟨c3, 0, none⟩ = some (.slice na3 n3 nc3) := by rw [hB3.cell']; rfl
          have e1 : wr.cell? ⟨c3, 1, none⟩ = some (.slice aa3 n3 ac3) := by rw [hB3.cell']; rfl
          obtain ⟨na1, nc1, aa1, ac1, hB1, _⟩ := H.out.1.blk
          have hB1r := hB1.ext HM.out.ext
          have a0 : wr.cell? ⟨c1, 0, none⟩ = some (.slice na1 G1.length nc1) := by rw [hB1r.cell']; rfl
          have a1 : wr.cell? ⟨c1, 1, none⟩ = some (.slice aa1 G1.length ac1) := by rw [hB1r.cell']; rfl
          have b0 := hB1r.free 0
          have b1 := hB1r.free 1
          have hc13 : c1 ≠ c3 := by have := hB1.lt; have := HM.out.own c3 (.inl rfl); omega
          have hc31 : c3 ≠ c1 := hc13.symm
          have HFn := Lib.hid (And.intro hR (And.intro hsm (And.intro hB1r (And.intro hB1.lt (And.intro hN3 (And.intro hA3 (And.intro hs3 (And.intro hs4 (And.intro hf3 en3)))))))))
          clear hfr hR hsm hB3 hN3 hA3 hs3 hs4 hf3 en3 hB1 hB1r
          go_wp2
          go_ret
          obtain ⟨hR, hsm, hB1r, hlt1, hN3, hA3, hs3, hs4, hf3, en3⟩ := HFn.out
          have hk : Kp (fun k => k = c1) wr ((wr.setCell ⟨c1, 0, none⟩ (.slice na3 n3 nc3)).setCell ⟨c1, 1, none⟩ (.slice aa3 n3 ac3)) := ((Kp.refl wr).setCell (F := fun k => k = c1) (p := ⟨c1, 0, none⟩) (fun _ => rfl) _).setCell (p := ⟨c1, 1, none⟩) (fun _ => rfl) _
          have hB' := (hB1r.set 0 (.slice na3 n3 nc3)).set 1 (.slice aa3 n3 ac3)
          generalize hW : (wr.setCell ⟨c1, 0, none⟩ (.slice na3 n3 nc3)).setCell ⟨c1, 1, none⟩ (.slice aa3 n3 ac3) = W at *
          have hSc : ¬ Sk c1 := fun hs => by
            rcases HM.out.pool.2 c1 hs with h | h
            · exact H.out.1.notS h
            · omega
          have hSk : ∀ k, k = c1 → ¬ Sk k := fun k e hs => hSc (e ▸ hs)
          refine RetF.mk ((Ext.kp HM.out.ext).trans hk) ⟨by rw [hR]; rfl, fun h => absurd hR h, fun _ => ⟨Sk, Gk, HM.out.pool, ⟨⟨na3, nc3, aa3, ac3, by rw [en3]; simpa using hB', hN3.kp hk (fun a e h => hSk _ h (hs3 a e)), hA3.kp hk (fun a e h => hSk _ h (hs4 a e)), hs3, hs4, hf3⟩, fun g hg => (HM.out.base.rows g hg).kp hk (fun e => by have := HM.out.own g.c (.inr ⟨g, hg, rfl⟩); omega) hSk, HM.out.base.apart, hSc, fun g hg e => by have := HM.out.own g.c (.inr ⟨g, hg, rfl⟩); omega, fun k hk' => Nat.lt_of_lt_of_le (HM.out.base.inS k hk') hk.size, HM.out.base.len⟩, HM.out.ok, HM.out.same.trans hsm, fun k hk' => ?_⟩⟩
          rcases hk' with hk' | ⟨g, hg, hk'⟩
          · exact .inl hk'
          · right
            rw [hk']
            exact HM.out.own g.c (.inr ⟨g, hg, rfl⟩)
end
end Go.Proofs.YtfkhelihepbehaaGreat

/- The document's Base: Relations. -/
namespace Go.Proofs.YtfkhelihepbehaaGreat
open Go.RowKit
set_option linter.unusedVariables false

theorem relsC_at {G : List REnt} (ho : RefOk G) {i : Nat} {g : REnt} (hg : G[i]? = some g) : (relsC (cntR G))[i]? = some (g.name, (g.ar : Int), g.LL, ()) := by
  rw [rels_sorted (by rw [cntR_names]; exact ho.names), List.getElem?_map]
  unfold cntR
  rw [List.getElem?_map, hg]; rfl
set_option maxRecDepth 100000 in
set_option maxHeartbeats 4000000 in
theorem refBRels_any {S : Nat → Prop} {w : World} {cb : Nat} {G : List REnt} (h : RefB S w cb G) (ho : RefOk G) (hl : G.length ≤ 2097152) :
    Calls Tryz.prog 74 #[.pointer (some ⟨cb, 0, none⟩)] w (RetN w fun w' v => RelsV w.heap.size w' v (relsC (cntR G))) := by
  have H := Lib.hid (And.intro h ho)
  obtain ⟨na, nc, aa, ac, hB, hN, hA, _, _⟩ := h.blk
  obtain ⟨n, en⟩ : ∃ n, G.length = n := ⟨_, rfl⟩
  rw [en] at hB hl
  have hLn : (relsC (cntR G)).length = n := by rw [rels_sorted (by rw [cntR_names]; exact ho.names), List.length_map, cntR, List.length_map, en]
  have HAt := Lib.hid (fun i g hg => relsC_at ho (i := i) (g := g) hg)
  obtain ⟨L, eL⟩ : ∃ L, relsC (cntR G) = L := ⟨_, rfl⟩
  rw [eL] at hLn HAt ⊢
  have HL := Lib.hid (And.intro eL hLn)
  have HG := Lib.hid (And.intro en (And.intro hB (And.intro hN hA)))
  have c0 : w.cell? ⟨cb, 0, none⟩ = some (.slice na n nc) := by rw [hB.cell']; rfl
  have c1 : w.cell? ⟨cb, 1, none⟩ = some (.slice aa n ac) := by rw [hB.cell']; rfl
  have HC := Lib.hid (fun W (hW : Ext w W) => (⟨hW.cell c0 id, hW.cell c1 id⟩ : W.cell? ⟨cb, 0, none⟩ = some (.slice na n nc) ∧ W.cell? ⟨cb, 1, none⟩ = some (.slice aa n ac)))
  clear h ho eL hLn en hB hN hA
  go_enter Tryz.func74, Tryz.ntmps74
  go_wp2
  clear c0 c1
  go_loopw [4, 3] (fun iv ov wr => RelTo L w n iv ov wr) (fun iv _ _ => n - (intOf iv).toNat)
  case atStart => exact ⟨0, Nat.zero_le _, rfl, Kp.refl _, [], rfl, Row.nil _ _ _ _, fun x hx => by simp at hx⟩
  case round =>
    obtain ⟨i, hi, rfl, hex, hin⟩ := hrel
    obtain ⟨c0, c1⟩ := HC.out wr hex.out
    by_cases hlt : i < n
    · obtain ⟨g, hg⟩ : ∃ g, G[i]? = some g := ⟨_, List.getElem?_eq_getElem (by rw [HG.out.1]; exact hlt)⟩
      have hq := HAt.out i g hg
      have hgm := List.mem_of_getElem? hg
      obtain ⟨nb, no, ena, d0⟩ := HG.out.2.2.1 i (.string g.name) (by simp [strs, hg])
      obtain ⟨ab, ao, eaa, d1⟩ := HG.out.2.2.2 i g.ptr (by simp [hg])
      subst ena eaa
      have hrows := H.out.1.rows g hgm
      have hfew : g.LL.length ≤ 65536 := (H.out.2.ok.all g.cnt (List.mem_map.2 ⟨g, hgm, rfl⟩)).few
      obtain ⟨d2, _⟩ := refRows_cell hrows
      have HRA := Lib.hid (fun w' (hw : Ext wr w') => refAll_any ((hrows.ext hex.out).ext hw))
      obtain ⟨s, es⟩ : ∃ s, g.name = s := ⟨_, rfl⟩
      obtain ⟨p, ep⟩ : ∃ p, g.c = p := ⟨_, rfl⟩
      obtain ⟨ar, ear⟩ : ∃ ar, g.ar = ar := ⟨_, rfl⟩
      obtain ⟨LL, eLL⟩ : ∃ LL, g.LL = LL := ⟨_, rfl⟩
      have ept : g.ptr = .pointer (some ⟨p, 0, none⟩) := by rw [← ep]; rfl
      rw [es] at d0
      rw [ept] at d1
      rw [ep, ear] at d2
      rw [es, ear, eLL] at hq
      rw [ep, eLL] at HRA
      rw [eLL] at hfew
      have HQ := Lib.hid hq
      obtain ⟨m, em⟩ : ∃ m, LL.length = m := ⟨_, rfl⟩
      have hm : m ≤ 65536 := by rw [← em]; exact hfew
      have EM := Lib.hid em
      have HCells := Lib.hid (show ∀ w', Ext wr w' → (fun w' : World => w'.cell? ⟨cb, 0, none⟩ = some (.slice (some ⟨nb, no, none⟩) n nc) ∧ w'.cell? ⟨cb, 1, none⟩ = some (.slice (some ⟨ab, ao, none⟩) n ac) ∧ w'.cell? ⟨nb, no + i, none⟩ = some (.string s) ∧ w'.cell? ⟨ab, ao + i, none⟩ = some (.pointer (some ⟨p, 0, none⟩)) ∧ w'.cell? ⟨p, 0, none⟩ = some (.int .i64 ar)) w' from fun w' hw => ⟨hw.cell c0 id, hw.cell c1 id, hw.cell (hex.out.cell d0 id) id, hw.cell (hex.out.cell d1 id) id, hw.cell (hex.out.cell d2 id) id⟩)
      obtain ⟨vs, hvs, hrow, hds⟩ := hin.out
      obtain ⟨oa, oc, eov, _, _⟩ := hrow.shape
      subst eov
      have HRow := Lib.hid (And.intro hvs (And.intro hrow hds))
      clear hg hq hgm d0 d1 d2 hrows hfew es ep ear eLL ept em hvs hrow hds hin
      go_wp2
      refine draw_begin (fun w' : World => w'.cell? ⟨cb, 0, none⟩ = some (.slice (some ⟨nb, no, none⟩) n nc) ∧ w'.cell? ⟨cb, 1, none⟩ = some (.slice (some ⟨ab, ao, none⟩) n ac) ∧ w'.cell? ⟨nb, no + i, none⟩ = some (.string s) ∧ w'.cell? ⟨ab, ao + i, none⟩ = some (.pointer (some ⟨p, 0, none⟩)) ∧ w'.cell? ⟨p, 0, none⟩ = some (.int .i64 ar)) [28] (by kernel_rfl) (HCells.out _ (Kp.refl wr).drew) (fun hHeld => ?_)
      (refine draw_free (i := 0) (v := ?_) rfl ?_ ?_; rotate_left; (intro w; go_simp; try with_reducible rfl)); (try simp only [Act.put, List.setIfInBounds_toArray, List.set_cons_zero, List.set_cons_succ])
      (refine draw_free (i := 1) (v := ?_) rfl ?_ ?_; rotate_left; (intro w; go_simp; try with_reducible rfl)); (try simp only [Act.put, List.setIfInBounds_toArray, List.set_cons_zero, List.set_cons_succ])
      (refine draw_free (i := 2) (v := ?_) rfl ?_ ?_; rotate_left; (intro w; go_simp; try with_reducible rfl)); (try simp only [Act.put, List.setIfInBounds_toArray, List.set_cons_zero, List.set_cons_succ])
      (refine draw_free (i := 3) (v := ?_) rfl ?_ ?_; rotate_left; (intro w; go_simp; try with_reducible rfl)); (try simp only [Act.put, List.setIfInBounds_toArray, List.set_cons_zero, List.set_cons_succ])
      (refine draw_in (i := 4) (v := ?_) rfl ?_ ?_; rotate_left; (intro w hSw; (try dsimp only at hSw); go_simp; try with_reducible rfl)); (try simp only [Act.put, List.setIfInBounds_toArray, List.set_cons_zero, List.set_cons_succ])
      (refine draw_free (i := 5) (v := ?_) rfl ?_ ?_; rotate_left; (intro w; go_simp; try with_reducible rfl)); (try simp only [Act.put, List.setIfInBounds_toArray, List.set_cons_zero, List.set_cons_succ])
      (refine draw_in (i := 6) (v := ?_) rfl ?_ ?_; rotate_left; (intro w hSw; (try dsimp only at hSw); go_simp; try with_reducible rfl)); (try simp only [Act.put, List.setIfInBounds_toArray, List.set_cons_zero, List.set_cons_succ])
      (refine draw_in (i := 7) (v := ?_) rfl ?_ ?_; rotate_left; (intro w hSw; (try dsimp only at hSw); go_simp; try with_reducible rfl)); (try simp only [Act.put, List.setIfInBounds_toArray, List.set_cons_zero, List.set_cons_succ])
      (refine draw_free (i := 8) (v := ?_) rfl ?_ ?_; rotate_left; (intro w; go_simp; try with_reducible rfl)); (try simp only [Act.put, List.setIfInBounds_toArray, List.set_cons_zero, List.set_cons_succ])
      (refine draw_free (i := 9) (v := ?_) rfl ?_ ?_; rotate_left; (intro w; go_simp; try with_reducible rfl)); (try simp only [Act.put, List.setIfInBounds_toArray, List.set_cons_zero, List.set_cons_succ])
      (refine draw_free (i := 10) (v := ?_) rfl ?_ ?_; rotate_left; (intro w; go_simp; try with_reducible rfl)); (try simp only [Act.put, List.setIfInBounds_toArray, List.set_cons_zero, List.set_cons_succ])
      (refine draw_in (i := 11) (v := ?_) rfl ?_ ?_; rotate_left; (intro w hSw; (try dsimp only at hSw); go_simp; try with_reducible rfl)); (try simp only [Act.put, List.setIfInBounds_toArray, List.set_cons_zero, List.set_cons_succ])
      (refine draw_free (i := 12) (v := ?_) rfl ?_ ?_; rotate_left; (intro w; go_simp; try with_reducible rfl)); (try simp only [Act.put, List.setIfInBounds_toArray, List.set_cons_zero, List.set_cons_succ])
      (refine draw_in (i := 13) (v := ?_) rfl ?_ ?_; rotate_left; (intro w hSw; (try dsimp only at hSw); go_simp; try with_reducible rfl)); (try simp only [Act.put, List.setIfInBounds_toArray, List.set_cons_zero, List.set_cons_succ])
      (refine draw_in (i := 14) (v := ?_) rfl ?_ ?_; rotate_left; (intro w hSw; (try dsimp only at hSw); go_simp; try with_reducible rfl)); (try simp only [Act.put, List.setIfInBounds_toArray, List.set_cons_zero, List.set_cons_succ])
      (refine draw_free (i := 15) (v := ?_) rfl ?_ ?_; rotate_left; (intro w; go_simp; try with_reducible rfl)); (try simp only [Act.put, List.setIfInBounds_toArray, List.set_cons_zero, List.set_cons_succ])
      (refine draw_free (i := 16) (v := ?_) rfl ?_ ?_; rotate_left; (intro w; go_simp; try with_reducible rfl)); (try simp only [Act.put, List.setIfInBounds_toArray, List.set_cons_zero, List.set_cons_succ])
      (refine draw_in (i := 17) (v := ?_) rfl ?_ ?_; rotate_left; (intro w hSw; (try dsimp only at hSw); go_simp; try with_reducible rfl)); (try simp only [Act.put, List.setIfInBounds_toArray, List.set_cons_zero, List.set_cons_succ])
      (refine draw_free (i := 18) (v := ?_) rfl ?_ ?_; rotate_left; (intro w; go_simp; try with_reducible rfl)); (try simp only [Act.put, List.setIfInBounds_toArray, List.set_cons_zero, List.set_cons_succ])
      (refine draw_free (i := 19) (v := ?_) rfl ?_ ?_; rotate_left; (intro w; go_simp; try with_reducible rfl)); (try simp only [Act.put, List.setIfInBounds_toArray, List.set_cons_zero, List.set_cons_succ])
      (refine draw_free (i := 20) (v := ?_) rfl ?_ ?_; rotate_left; (intro w; go_simp; try with_reducible rfl)); (try simp only [Act.put, List.setIfInBounds_toArray, List.set_cons_zero, List.set_cons_succ])
      (refine draw_in (i := 21) (v := ?_) rfl ?_ ?_; rotate_left; (intro w hSw; (try dsimp only at hSw); go_simp; try with_reducible rfl)); (try simp only [Act.put, List.setIfInBounds_toArray, List.set_cons_zero, List.set_cons_succ])
      (refine draw_free (i := 22) (v := ?_) rfl ?_ ?_; rotate_left; (intro w; go_simp; try with_reducible rfl)); (try simp only [Act.put, List.setIfInBounds_toArray, List.set_cons_zero, List.set_cons_succ])
      (refine draw_in (i := 23) (v := ?_) rfl ?_ ?_; rotate_left; (intro w hSw; (try dsimp only at hSw); go_simp; try with_reducible rfl)); (try simp only [Act.put, List.setIfInBounds_toArray, List.set_cons_zero, List.set_cons_succ])
      (refine draw_in (i := 24) (v := ?_) rfl ?_ ?_; rotate_left; (intro w hSw; (try dsimp only at hSw); go_simp; try with_reducible rfl)); (try simp only [Act.put, List.setIfInBounds_toArray, List.set_cons_zero, List.set_cons_succ])
      refine draw_one (i := 25) ?_
      refine comes_turn (i := 25) rfl (fun K hK => ?_)
      go_simp
      (refine (HRA.out _ (Kp.refl wr).drew).mono ?_; rintro e w5 ⟨v, rfl, hk3, hown⟩; have X5 := Lib.hid (show Ext wr w5 from ((Kp.refl wr).drew).trans hk3); obtain ⟨ya, yc, rfl, _, _⟩ := hown.slice; rw [EM.out] at hown; rw [EM.out]; have HO := Lib.hid hown; clear hk3 hown)
      go_wp2_with fail
      refine hK.out _ _ ?_ (fun hHeld => ?_)
      · (try dsimp only); (exact HCells.out _ X5.out)
      clear hK K; (try simp only [Act.put, List.setIfInBounds_toArray, List.set_cons_zero, List.set_cons_succ])
      (refine draw_free (i := 26) (v := ?_) rfl ?_ ?_; rotate_left; (intro w; go_simp; try with_reducible rfl)); (try simp only [Act.put, List.setIfInBounds_toArray, List.set_cons_zero, List.set_cons_succ])
      refine draw_one (i := 27) ?_
      refine comes_turn (i := 27) rfl (fun K hK => ?_)
      go_simp
      refine hK.out _ _ ?_ (fun hHeld => ?_)
      · (try dsimp only); (exact HCells.out _ (X5.out.alloc _))
      clear hK K; (try simp only [Act.put, List.setIfInBounds_toArray, List.set_cons_zero, List.set_cons_succ])
      refine draw_one (i := 28) ?_
      refine comes_late (i := 28) rfl (by kernel_rfl) (fun K hK => ?_)
      refine draw_appN elem_rel rfl _ _ rfl ((hex.out.trans X5.out).alloc _) rfl ((HRow.out.2.1.ext X5.out).alloc _) rfl (CellsAt.new w5 [.string s, .int .i64 ar, .slice ya m yc] 52) (by rfl) (by simp [Value.oneCell']) (by omega) (by unfold maxLen; omega) ?_; intro v1 w6 hr1 hk1 hk2
      refine hK.out _ _ ?_
      clear hK K; (try simp only [Act.put, List.setIfInBounds_toArray, List.set_cons_zero, List.set_cons_succ])
      (refine draw_free (i := 29) (v := ?_) rfl ?_ ?_; rotate_left; (intro w; go_simp; try with_reducible rfl)); (try simp only [Act.put, List.setIfInBounds_toArray, List.set_cons_zero, List.set_cons_succ])
      refine wpAnyD_done (by kernel_rfl) ?_ _
      have HFin := Lib.hid (show ∃ vs, vs.length = i + 1 ∧ Row w6 52 3 v1 (i + 1) (((L.take (i + 1)).zip vs).flatMap relCells) (New w) ∧ ∀ x ∈ (L.take (i + 1)).zip vs, RelAt w w6 x by
        have hlen : (L.take i).length = vs.length := by rw [List.length_take, HRow.out.1]; have := HL.out.2; omega
        have et := takeSnoc HQ.out
        have hrA := (HRow.out.2.1.ext X5.out).alloc (.cells #[.string s, .int .i64 ar, .slice ya m yc] 52)
        refine ⟨vs ++ [(ya, yc)], by rw [List.length_append, HRow.out.1]; rfl, ?_, ?_⟩
        · rw [et, List.zip_append hlen, List.flatMap_append]
          have e2 : (([(s, (ar : Int), LL, ())].zip [(ya, yc)]).flatMap relCells) = [.string s, .int .i64 ar, .slice ya m yc] := by
            show relCells ((s, (ar : Int), LL, ()), (ya, yc)) ++ [] = _
            rw [List.append_nil]
            show [Value.string s, .int .i64 ar, .slice ya LL.length yc] = _
            rw [EM.out]
          rw [e2]; exact hr1
        · intro x hx
          rw [et, List.zip_append hlen, List.mem_append] at hx
          rcases hx with hx | hx
          · exact RelAt.row (OwnRows.ext (OwnRows.ext (HRow.out.2.2 x hx) X5.out) ((Kp.refl _).alloc _)) hrA hk2
          · have hx' : x = ((s, (ar : Int), LL, ()), (ya, yc)) := by simpa using hx
            subst hx'
            have ho : RelAt w w5 ((s, (ar : Int), LL, ()), (ya, yc)) := by
              show OwnRows w.heap.size w5 (.slice ya LL.length yc) LL
              rw [EM.out]
              exact OwnRows.mono HO.out hex.out.size
            exact RelAt.row (OwnRows.ext ho ((Kp.refl _).alloc _)) hrA hk2)
      have HX6 := Lib.hid hk1
      clear hr1 hk1 hk2 hHeld HCells HO X5 HRow c0 c1
      go_wp2
      go_roundw
      case rel => exact ⟨i + 1, by omega, by first | rfl | (congr 1; done) | (congr 1; omega), HX6.out, HFin.out⟩
      case measure => simp [intOf]; omega
    · obtain rfl : i = n := by omega
      obtain ⟨vs, hvs, hrow, hds⟩ := hin.out
      have hall : L.take i = L := List.take_of_length_le (by have := HL.out.2; omega)
      rw [hall] at hrow hds
      rw [← HL.out.2] at hrow hvs
      have hV := rels_own hvs hrow hds
      have HV := Lib.hid hV
      clear hin hvs hrow hds hall hV
      go_wp2
      go_ret
      exact RetN.mk hex.out HV.out
end Go.Proofs.YtfkhelihepbehaaGreat
