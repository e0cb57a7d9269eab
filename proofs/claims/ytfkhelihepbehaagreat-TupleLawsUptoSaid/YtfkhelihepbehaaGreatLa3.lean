/- Texts joined for a claim (GenStr, SetStr, NewStr, InsertStr, DeleteStr, SetOpsStr, SetCopyStr, SetPickStr, SetMeetStr, SetAtStr, IndexStr, Rising, TextSet, SwapRow, InsRow). -/
import Derived.Test.YtfkhelihepbehaaGreatLa2
import Derived.Deep.RegionHeld3
import Derived.Deep.RegionWith
import Derived.Test.YtfkhelihepbehaaGreatProg
import Derived.BigRegion
import Derived.StillTailTactics
import Derived.Deep.QuietTactic
import Derived.BigQuiet
/- slices.Clone, EqualFunc, Grow, Concat at string. -/
namespace Go.Proofs.YtfkhelihepbehaaGreat
open Go.RowKit
set_option linter.unusedVariables false

theorem cloneStr_any (vs : List Value) (ao : Option Addr) (cap : Nat) (w : World) (n : Nat) (hn : n = vs.length) (hc : CellsAt w ao vs) (h1 : ∀ u ∈ vs, u.oneCell' = true) (hm : n * 16 ≤ 140737488355328) :
    Calls Tryz.prog 49 #[.slice ao n cap] w (RetN w fun w' v => Row w' 9 1 v n vs (New w)) := by
  have hq : ∀ w : World, (binOp .eql 29 (.slice ao n cap) (.slice none 0 0)).run Tryz.prog w = .ok (.bool ao.isNone) w := fun w => Lib.run_eql_slice_nil w _ _ _ _ _ _ _ Tryz.underlying29
  have HNN := Lib.hid hn; clear hn
  have hl : n ≤ maxLen := by unfold maxLen; omega
  cases ao with
  | none =>
    have hv : vs = [] := by
      cases vs with
      | nil => rfl
      | cons x vs => obtain ⟨b, o, h, _⟩ := hc.off (by simp); cases h
    subst hv
    have h0 : n = 0 := HNN.out
    subst h0
    go_enter Tryz.func49, Tryz.ntmps49
    go_wp2
    go_ret
    exact RetN.mk (Kp.refl _) (Row.nil _ _ _ _)
  | some a =>
    go_enter Tryz.func49, Tryz.ntmps49
    go_wp2_with (first | (at_builtin; refine Halted.out ?_))
    refine Halted.mk (wp_appN elemStr rfl _ _ rfl ((Kp.refl (F := fun _ => False) w).alloc _) rfl (Row.empty w 9 1 (New w) (Nat.le_refl _)) rfl (hc.alloc _) (by rw [HNN.out, Nat.mul_one]) h1 (by omega) (by omega) ?_)
    intro v1 w1 hr1 hk1 _ _
    have HR := Lib.hid hr1; clear hr1
    go_wp2
    go_ret
    exact RetN.mk hk1 (by simpa using HR.out)

def EqEachStr (P : Program) (f : FuncId) (first captured : Array Value) (w0 : World) (us vs : List Value) (q : Nat → Bool) : Prop :=
  (∀ args w, (callFunc f args).run P w = .ok (Next.enter f args) w) ∧ ∀ w, Ext w0 w → ∀ i u v, us[i]? = some u → vs[i]? = some v → Calls P f (first ++ (#[u, v] ++ captured)) w fun e w' => e = .returned (.bool (q i)) ∧ Ext w w'
def EqAtStr (n : Nat) (q : Nat → Bool) (w0 : World) (iv : Value) (w : World) : Prop :=
  ∃ i : Nat, i ≤ n ∧ iv = .int .i64 i ∧ (∀ j, j < i → q j = true) ∧ Ext w0 w

set_option maxRecDepth 100000 in
set_option maxHeartbeats 2000000 in
theorem equalFuncStr_any (us vs : List Value) (ao bo : Option Addr) (c d : Nat) (f : FuncId) (first captured : Array Value) (q : Nat → Bool) (w : World) (n m : Nat) (hn : n = us.length) (hm : m = vs.length)
    (ha : CellsAt w ao us) (hb : CellsAt w bo vs) (hcmp : EqEachStr Tryz.prog f first captured w us vs q) (hbig : n ≤ 4611686018427387904) (hbig2 : m ≤ 4611686018427387904) :
    Calls Tryz.prog 47 #[.slice ao n c, .slice bo m d, .func (Fn.func f) first captured] w
      (RetF (fun _ => False) w fun w' v => ∃ r : Bool, v = .bool r ∧ (r = true ↔ n = m ∧ ∀ i, i < n → q i = true)) := by
  by_cases hnm : n = m
  · subst hnm
    have hent := hcmp.1
    have HC := Lib.hid hcmp.2; clear hcmp
    have HA := Lib.hid ha; have HB := Lib.hid hb; clear ha hb
    have HN := Lib.hid hn; have HM := Lib.hid hm; clear hn hm
    have hne : ((n : Int) != (n : Int)) = false := by simp
    go_enter Tryz.func47, Tryz.ntmps47
    go_wp2
    go_loopw [17] (EqAtStr n q w) (fun i _ => n - (intOf i).toNat)
    case atStart => exact ⟨0, Nat.zero_le _, rfl, by simp, Kp.refl _⟩
    case round =>
      obtain ⟨i, hi, rfl, hq, hkp⟩ := hrel
      have HQ := Lib.hid hq; clear hq
      by_cases hlt : i < n
      · have g1 : us[i]? = some (us[i]'(by have := HN.out; omega)) := List.getElem?_eq_getElem _
        have g2 : vs[i]? = some (vs[i]'(by have := HM.out; omega)) := List.getElem?_eq_getElem _
        obtain ⟨b1, o1, rfl, c1⟩ := (HA.out.ext hkp) i _ g1
        obtain ⟨b2, o2, rfl, c2⟩ := (HB.out.ext hkp) i _ g2
        have hcall := fun W hW => HC.out W hW i _ _ g1 g2
        have HCall := Lib.hid hcall; clear hcall
        have HG := Lib.hid (And.intro g1 g2); clear g1 g2
        generalize us[i]'(by have := HN.out; omega) = u at *
        generalize vs[i]'(by have := HM.out; omega) = v at *
        cases hqi : q i
        · rw [hqi] at HCall
          have HI := Lib.hid hqi; clear hqi
          go_wp2_with fail
          refine (HCall.out _ hkp).mono ?_
          rintro e w1 ⟨rfl, hk2⟩
          have hkp2 := hkp.ext hk2
          clear hk2 c1 c2
          go_wp2
          go_ret
          refine RetF.mk hkp2 ⟨false, rfl, by simp, fun h => ?_⟩
          have := h.2 i hlt; rw [HI.out] at this; cases this
        · rw [hqi] at HCall
          have HI := Lib.hid hqi; clear hqi
          go_wp2_with fail
          refine (HCall.out _ hkp).mono ?_
          rintro e w1 ⟨rfl, hk2⟩
          have hkp2 := hkp.ext hk2
          clear hk2 c1 c2
          go_wp2
          go_roundw
          case rel =>
            refine ⟨i + 1, by omega, by first | rfl | (congr 1; done) | (congr 1; omega), fun j hj => ?_, hkp2⟩
            by_cases e : j = i
            · subst e; exact HI.out
            · exact HQ.out j (by omega)
          case measure => simp [intOf]; omega
      · go_wp2
        go_ret
        exact RetF.mk hkp ⟨true, rfl, by simp only [true_iff]; exact ⟨trivial, fun i hi => HQ.out i (by omega)⟩⟩
  · have hne : ((n : Int) != (m : Int)) = true := by rw [bne_iff_ne]; omega
    clear hcmp hn hm ha hb
    go_enter Tryz.func47, Tryz.ntmps47
    go_wp2
    go_ret
    exact RetF.mk (Kp.refl _) ⟨false, rfl, by simp; omega⟩

theorem growStr_nil (k : Nat) (w : World) (hm : k * 16 ≤ 140737488355328) :
    Calls Tryz.prog 102 #[.slice none 0 0, .int .i64 k] w (RetN w fun w' v => Row w' 9 1 v 0 [] (New w)) := by
  have hl : k ≤ maxLen := by unfold maxLen; omega
  by_cases h0 : k = 0
  · subst h0
    go_enter Tryz.func102, Tryz.ntmps102
    go_wp2
    go_ret
    exact RetN.mk (Kp.refl _) (Row.nil _ _ _ _)
  · obtain ⟨w', G, hrun, hG, hGm, hext, hsz, hB⟩ := run_app_zeros (w := w) elemStr rfl Tryz.underlying3 (ao := none) (n := 0) (cap := 0) (olds := []) (CellsAt.nil _ _) rfl (k := k) (by omega) (by omega) (by omega) (by omega)
    simp only [Nat.zero_add, List.nil_append, Nat.sub_zero] at hrun hG hB
    have hG0 : ¬ G = 0 := by omega
    have HB := Lib.hid hB
    have HE := Lib.hid hext
    clear hB hext hsz
    unfold maxLen at hl hGm
    go_enter Tryz.func102, Tryz.ntmps102
    go_wp2_with (first | (at_builtin; refine Halted.out ?_))
    refine Halted.mk (wp_appRun rfl _ _ rfl rfl rfl hrun ?_)
    clear hrun
    go_wp2
    go_ret
    exact RetN.mk HE.out ⟨by simp, .inr ⟨_, G, List.replicate G (.string ⟨#[]⟩), rfl, Nat.le_refl _, HB.out.congrL (by simp), by simp, Nat.zero_le _, by unfold maxLen; omega⟩⟩

/-- A list of slices as a call is handed it. -/
def partsStr (ps : List (Option Addr × Nat × List Value)) : List Value := ps.map fun p => .slice p.1 p.2.2.length p.2.1
def totalStr (ps : List (Option Addr × Nat × List Value)) : Nat := (ps.map fun p => p.2.2.length).sum
theorem total_snocStr (ps : List (Option Addr × Nat × List Value)) (p : Option Addr × Nat × List Value) : totalStr (ps ++ [p]) = totalStr ps + p.2.2.length := by simp [totalStr]
theorem total_takeStr (ps : List (Option Addr × Nat × List Value)) (i : Nat) : totalStr (ps.take i) ≤ totalStr ps := by
  have : totalStr ps = totalStr (ps.take i) + totalStr (ps.drop i) := by
    conv => lhs; rw [← List.take_append_drop i ps]
    simp only [totalStr, List.map_append, List.sum_append]
  omega
def ConcatAStr (ps : List (Option Addr × Nat × List Value)) (iv sv : Value) : Prop := ∃ i : Nat, i ≤ ps.length ∧ iv = .int .i64 i ∧ sv = .int .i64 (totalStr (ps.take i))
def ConcatBStr (ps : List (Option Addr × Nat × List Value)) (w0 : World) (e : TypeId) (iv sv : Value) (w : World) : Prop :=
  ∃ i : Nat, i ≤ ps.length ∧ iv = .int .i64 i ∧ Ext w0 w ∧ Row w e 1 sv (totalStr (ps.take i)) ((ps.take i).flatMap fun p => p.2.2) (New w0)

set_option maxRecDepth 100000 in
set_option maxHeartbeats 2000000 in
theorem concatStr_any (ps : List (Option Addr × Nat × List Value)) (oa : Option Addr) (oc : Nat) (w : World) (k : Nat) (hk : k = ps.length) (ho : CellsAt w oa (partsStr ps)) (hps : ∀ p ∈ ps, CellsAt w p.1 p.2.2 ∧ ∀ u ∈ p.2.2, u.oneCell' = true)
    (hm : totalStr ps * 16 ≤ 140737488355328) (hk2 : k ≤ 4611686018427387904) :
    Calls Tryz.prog 43 #[.slice oa k oc] w (RetN w fun w' v => Row w' 9 1 v (totalStr ps) (ps.flatMap fun p => p.2.2) (New w)) := by
  have hbig : totalStr ps ≤ 4611686018427387904 := by omega
  have HK := Lib.hid hk; clear hk
  have HO := Lib.hid ho; clear ho
  have HP := Lib.hid hps; clear hps
  have tt := total_takeStr ps
  go_enter Tryz.func43, Tryz.ntmps43
  go_wp2
  go_loop [11, 3] (ConcatAStr ps) (fun i _ => k - (intOf i).toNat)
  case atStart => exact ⟨0, Nat.zero_le _, rfl, rfl⟩
  case round =>
    obtain ⟨i, hi, rfl, rfl⟩ := hrel
    by_cases hlt : i < k
    · have hi' : i < ps.length := by have := HK.out; omega
      obtain ⟨b, off, rfl, c1⟩ := HO.out i (.slice ps[i].1 ps[i].2.2.length ps[i].2.1) (by simp [partsStr, hi'])
      have t1 := tt i
      have t2 := tt (i + 1)
      have e2 : totalStr (ps.take (i + 1)) = totalStr (ps.take i) + ps[i].2.2.length := by rw [List.take_succ_eq_append_getElem hi', total_snocStr]
      have E2 := Lib.hid e2; rw [e2] at t2; clear e2
      generalize hT : totalStr (ps.take i) = T at *
      generalize ps[i].2.2.length = m at *
      have HT := Lib.hid hT; clear hT tt
      have hT0 : ¬ ((T : Int) + m < 0) := by omega
      go_wp2
      go_round
      case rel => exact ⟨i + 1, by omega, by first | rfl | (congr 1; done) | (congr 1; omega), by rw [E2.out]; go_num⟩
      case measure => simp [intOf]; omega
    · have hik : i = ps.length := by have := HK.out; omega
      subst hik
      rw [List.take_length] 
      clear tt
      go_wp2_with fail
      refine (growStr_nil (totalStr ps) w hm).mono ?_
      rintro e w1 ⟨v, rfl, hk1, hr1⟩
      have tt := total_takeStr ps
      go_wp2
      go_loopw [27, 6] (ConcatBStr ps w 9) (fun i _ _ => ps.length - (intOf i).toNat)
      case atStart => exact ⟨0, Nat.zero_le _, rfl, hk1, by simpa [totalStr] using hr1⟩
      case round =>
        obtain ⟨i, hi2, rfl, hkp, hr⟩ := hrel
        by_cases hlt2 : i < ps.length
        · have hlt3 : i < k := by have := HK.out; omega
          obtain ⟨b, off, rfl, c1⟩ := (HO.out.ext hkp) i (.slice ps[i].1 ps[i].2.2.length ps[i].2.1) (by simp [partsStr, hlt2])
          obtain ⟨hs, h1⟩ := HP.out ps[i] (List.getElem_mem hlt2)
          have hs' := hs.ext hkp
          have t2 := tt (i + 1)
          have e2 : totalStr (ps.take (i + 1)) = totalStr (ps.take i) + ps[i].2.2.length := by rw [List.take_succ_eq_append_getElem hlt2, total_snocStr]
          have E2 := Lib.hid e2; rw [e2] at t2; clear e2
          have e3 : (ps.take (i + 1)).flatMap (fun p => p.2.2) = (ps.take i).flatMap (fun p => p.2.2) ++ ps[i].2.2 := by rw [List.take_succ_eq_append_getElem hlt2, List.flatMap_append, List.flatMap_singleton]
          have E3 := Lib.hid e3; clear e3
          have H1 := Lib.hid h1
          clear h1 hs
          generalize hT : totalStr (ps.take i) = T at *
          have HT := Lib.hid hT; clear hT tt
          generalize (ps.take i).flatMap (fun p => p.2.2) = X at *
          generalize hY : ps[i].2.2 = Y at *
          have HY := Lib.hid hY; clear hY
          generalize ps[i].1 = ya at *
          generalize ps[i].2.1 = yc at *
          go_wp2_with (first | (at_builtin; refine Halted.out ?_))
          refine Halted.mk (wp_appN elemStr rfl _ _ rfl hkp rfl hr rfl hs' (by rw [Nat.mul_one]) H1.out (by omega) (by unfold maxLen; omega) ?_)
          intro v2 w2 hr2 hk2' _ _
          have HR2 := Lib.hid hr2; clear hr2 hr hs' c1
          go_wp2
          go_roundw
          case rel => exact ⟨i + 1, by omega, by first | rfl | (congr 1; done) | (congr 1; omega), hk2', by rw [E2.out, E3.out]; exact HR2.out⟩
          case measure => simp [intOf]; omega
        · have hik : i = ps.length := by omega
          have hlt3 : ¬ i < k := by have := HK.out; omega
          subst hik
          rw [List.take_length] at hr
          have HR := Lib.hid hr; clear hr
          go_wp2
          go_ret
          exact RetN.mk hkp HR.out
end Go.Proofs.YtfkhelihepbehaaGreat

/- tuple.Set at string: what a set is in memory; cmp, alike, Len, Items, find. -/
namespace Go.Proofs.YtfkhelihepbehaaGreat
open Go.RowKit
set_option linter.unusedVariables false

/-- A value that a set may have for its order: nil where all are alike, or a function that holds two of D against each other, in every world in which the blocks of S are as they were. -/
def OrdVStr (P : Program) (S : Nat → Prop) (w0 : World) (ov : Value) (D : ByteArray → Prop) (c : ByteArray → ByteArray → Int) : Prop :=
  (ov = .nilFunc ∧ ∀ x y, D x → D y → c x y = 0) ∨ ∃ f first cap, ov = .func (Fn.func f) first cap ∧ (∀ args w, (callFunc f args).run P w = .ok (Next.enter f args) w) ∧
    ∀ w, Same S w0 w → ∀ x y, D x → D y → Calls P f (first ++ (#[(Value.string (x)), (Value.string (y))] ++ cap)) w fun e w' => e = .returned (.int .i64 (c x y)) ∧ Ext w w'

theorem OrdVStr.same {P : Program} {S : Nat → Prop} {w0 w1 : World} {ov : Value} {D : ByteArray → Prop} {c : ByteArray → ByteArray → Int} (h : OrdVStr P S w0 ov D c) (hs : Same S w0 w1) : OrdVStr P S w1 ov D c := by
  rcases h with h | ⟨f, first, cap, e, he, h⟩
  · exact .inl h
  · exact .inr ⟨f, first, cap, e, he, fun w hw => h w (hs.trans hw)⟩
theorem OrdVStr.mono {P : Program} {S S' : Nat → Prop} {w0 : World} {ov : Value} {D : ByteArray → Prop} {c : ByteArray → ByteArray → Int} (h : OrdVStr P S w0 ov D c) (hs : ∀ k, S k → S' k) : OrdVStr P S' w0 ov D c := by
  rcases h with h | ⟨f, first, cap, e, he, h⟩
  · exact .inl h
  · exact .inr ⟨f, first, cap, e, he, fun w hw => h w (hw.mono hs)⟩

/-- A set in memory: its order, its row, what lies behind them in the same struct. -/
structure SetAtStr (P : Program) (S : Nat → Prop) (w : World) (b : Nat) (ov iv : Value) (tail : List Value) (te : TypeId) (D : ByteArray → Prop) (c : ByteArray → ByteArray → Int) (zs : List (ByteArray)) : Prop where
  blk : Blk w b (ov :: iv :: tail) te
  row : Row w 9 1 iv zs.length (zs.map fun x => (Value.string (x))) (fun k => iv.ownBlock = some k)
  apart : iv.ownBlock ≠ some b
  inS : ∀ k, S k → k < w.heap.size
  notS : ∀ k, Owns b iv k → ¬ S k
  ord : OrdVStr P S w ov D c
  all : ∀ x ∈ zs, D x
  len : zs.length ≤ 8388000 * 1048576

section
variable {P : Program} {S : Nat → Prop} {w w' : World} {b : Nat} {ov iv : Value} {tail : List Value} {te : TypeId} {D : ByteArray → Prop} {c : ByteArray → ByteArray → Int} {zs : List (ByteArray)}
theorem SetAtStr.kp {F : Nat → Prop} (h : SetAtStr P S w b ov iv tail te D c zs) (hk : Kp F w w') (hF : ∀ k, F k → ¬ Owns b iv k) (hS : ∀ k, F k → ¬ S k) : SetAtStr P S w' b ov iv tail te D c zs :=
  ⟨h.blk.kp hk fun hf => hF _ hf (.inl rfl), h.row.kp hk fun g hg hf => hF _ hf (.inr hg), h.apart, fun k hk' => Nat.lt_of_lt_of_le (h.inS k hk') hk.size, h.notS, h.ord.same (hk.same h.inS fun k hk' hf => hS k hf hk'), h.all, h.len⟩
theorem SetAtStr.ext (h : SetAtStr P S w b ov iv tail te D c zs) (hk : Ext w w') : SetAtStr P S w' b ov iv tail te D c zs := h.kp hk (fun _ x => x.elim) (fun _ x => x.elim)
theorem SetAtStr.cells (h : SetAtStr P S w b ov iv tail te D c zs) : w.cell? ⟨b, 0, none⟩ = some ov ∧ w.cell? ⟨b, 1, none⟩ = some iv := ⟨by rw [h.blk.cell']; rfl, by rw [h.blk.cell']; rfl⟩
end

set_option maxRecDepth 100000 in
theorem setCmpStr_any (S : Nat → Prop) (w : World) (b : Nat) (ov : Value) (cs : List Value) (te : TypeId) (D : ByteArray → Prop) (c : ByteArray → ByteArray → Int) (x y : ByteArray) (hx : D x) (hy : D y) (hB : Blk w b (ov :: cs) te)
    (hS : ∀ k, S k → k < w.heap.size) (ho : OrdVStr Tryz.prog S w ov D c) :
    Calls Tryz.prog 54 #[.pointer (some ⟨b, 0, none⟩), (Value.string (x)), (Value.string (y))] w (fun e w' => e = .returned (.int .i64 (c x y)) ∧ Ext w w') := by
  have c1 : w.cell? ⟨b, 0, none⟩ = some ov := by rw [hB.cell']; rfl
  clear hB
  rcases ho with ⟨rfl, h0⟩ | ⟨f, first, cap, rfl, hent, hc⟩
  · have h00 := Lib.hid (h0 x y hx hy); clear h0
    have hq : ∀ w : World, (binOp .eql 37 .nilFunc .nilFunc).run Tryz.prog w = .ok (.bool true) w := fun _ => by kernel_rfl
    go_enter Tryz.func54, Tryz.ntmps54
    go_wp2
    go_ret
    exact ⟨by rw [h00.out]; rfl, Kp.refl _⟩
  · have HC := Lib.hid hc; clear hc
    have hq : ∀ w : World, (binOp .eql 37 (.func (Fn.func f) first cap) .nilFunc).run Tryz.prog w = .ok (.bool false) w := fun _ => by kernel_rfl
    go_enter Tryz.func54, Tryz.ntmps54
    go_wp2_with fail
    refine (HC.out w (Same.refl hS) x y hx hy).mono ?_
    rintro e w1 ⟨rfl, hk⟩
    have HK := Lib.hid hk; clear hk
    go_wp2
    go_ret
    exact ⟨rfl, HK.out⟩

set_option maxRecDepth 100000 in
theorem setAlikeStr_any (S : Nat → Prop) (w : World) (b : Nat) (ov : Value) (cs : List Value) (te : TypeId) (D : ByteArray → Prop) (c : ByteArray → ByteArray → Int) (x y : ByteArray) (hx : D x) (hy : D y) (hB : Blk w b (ov :: cs) te)
    (hS : ∀ k, S k → k < w.heap.size) (ho : OrdVStr Tryz.prog S w ov D c) :
    Calls Tryz.prog 48 #[.pointer (some ⟨b, 0, none⟩), (Value.string (x)), (Value.string (y))] w (fun e w' => e = .returned (.bool (decide (c x y = 0))) ∧ Ext w w') := by
  go_enter Tryz.func48, Tryz.ntmps48
  go_wp2_with fail
  refine (setCmpStr_any S w b ov cs te D c x y hx hy hB hS ho).mono ?_
  rintro e w1 ⟨rfl, hk⟩
  have HK := Lib.hid hk; clear hk hB ho
  go_wp2
  go_ret
  exact ⟨rfl, HK.out⟩

set_option maxRecDepth 100000 in
theorem setLenStr_any {S : Nat → Prop} {w : World} {b : Nat} {ov iv : Value} {tail : List Value} {te : TypeId} {D : ByteArray → Prop} {c : ByteArray → ByteArray → Int} {zs : List (ByteArray)} (h : SetAtStr Tryz.prog S w b ov iv tail te D c zs) :
    Calls Tryz.prog 11 #[.pointer (some ⟨b, 0, none⟩)] w (Ret (.int .i64 (zs.length : Nat)) w) := by
  obtain ⟨c1, c2⟩ := h.cells
  obtain ⟨ao, cap, rfl, _, _⟩ := h.row.shape
  clear h
  go_enter Tryz.func11, Tryz.ntmps11
  go_wp2
  go_ret
  exact Ret.mk rfl
theorem setLenStr_nil (w : World) : Calls Tryz.prog 11 #[.pointer none] w (Ret (.int .i64 0) w) := by
  go_enter Tryz.func11, Tryz.ntmps11
  go_wp2
  go_ret
  exact Ret.mk rfl

set_option maxRecDepth 100000 in
theorem setItemsStr_any {S : Nat → Prop} {w : World} {b : Nat} {ov iv : Value} {tail : List Value} {te : TypeId} {D : ByteArray → Prop} {c : ByteArray → ByteArray → Int} {zs : List (ByteArray)} (h : SetAtStr Tryz.prog S w b ov iv tail te D c zs) :
    Calls Tryz.prog 13 #[.pointer (some ⟨b, 0, none⟩)] w (RetN w fun w' v => Row w' 9 1 v zs.length (zs.map fun x => (Value.string (x))) (New w)) := by
  obtain ⟨c1, c2⟩ := h.cells
  obtain ⟨ao, cap, rfl, hc, _⟩ := h.row.shape
  have hl := h.len
  have HC := Lib.hid hc; clear h hc
  go_enter Tryz.func13, Tryz.ntmps13
  go_wp2_with fail
  refine (cloneStr_any (zs.map fun x => (Value.string (x))) ao cap w zs.length (by simp) HC.out (by intro u hu; obtain ⟨x, _, rfl⟩ := List.mem_map.1 hu; rfl) (by omega)).mono ?_
  rintro e w1 ⟨v, rfl, hk, hr⟩
  have HR := Lib.hid (And.intro hk hr); clear hk hr
  go_wp2
  go_ret
  exact RetN.mk HR.out.1 HR.out.2
theorem setItemsStr_nil (w : World) : Calls Tryz.prog 13 #[.pointer none] w (Ret (.slice none 0 0) w) := by
  go_enter Tryz.func13, Tryz.ntmps13
  go_wp2
  go_ret
  exact Ret.mk rfl

set_option maxRecDepth 100000 in
set_option maxHeartbeats 1000000 in
theorem setFindStr_any {S : Nat → Prop} {w : World} {b : Nat} {ov iv : Value} {tail : List Value} {te : TypeId} {D : ByteArray → Prop} {c : ByteArray → ByteArray → Int} {zs : List (ByteArray)} (O : OrdLaw c) (x : ByteArray) (hx : D x) (hs : Strict c zs) (h : SetAtStr Tryz.prog S w b ov iv tail te D c zs) :
    Calls Tryz.prog 50 #[.pointer (some ⟨b, 0, none⟩), (Value.string (x))] w
      (RetF (fun _ => False) w fun w' v => v = .tuple #[.int .i64 (below c zs x : Nat), .bool (isIn c zs x)]) := by
  obtain ⟨c1, c2⟩ := h.cells
  obtain ⟨ao, cap, eiv, hc, _⟩ := h.row.shape
  subst eiv
  have hl := h.len
  obtain ⟨n, en⟩ : ∃ n, n = zs.length := ⟨_, rfl⟩
  have get : ∀ i (hi : i < n), zs.getD i x = zs[i]'(by omega) := fun i hi => by simp [List.getD, show i < zs.length by omega]
  have evals : (List.range n).map (fun i => (Value.string (zs.getD i x))) = zs.map fun x => (Value.string (x)) := by
    refine List.ext_getElem (by simp [en]) fun i h1 h2 => ?_
    simp only [List.getElem_map, List.getElem_range]
    rw [get i (by simpa using h1)]
  have hent : ∀ args w, (callFunc 54 args).run Tryz.prog w = .ok (.enter 54 args) w := enters_of Tryz.func54 (by kernel_rfl) rfl
  have hcmp : CmpToStr Tryz.prog 54 #[.pointer (some ⟨b, 0, none⟩)] #[] w ((List.range n).map fun i => (Value.string (zs.getD i x))) ((Value.string (x))) (fun i => c (zs.getD i x) x) := by
    refine ⟨hent, fun w' hw i v hv => ?_⟩
    have hi : i < n := by simpa using (List.getElem?_eq_some_iff.1 hv).1
    have ev : v = (Value.string (zs.getD i x)) := by simp [hi] at hv; rw [← hv, List.getD_eq_getElem?_getD]
    subst ev
    have h' := h.ext hw
    exact setCmpStr_any S w' b ov _ te D c (zs.getD i x) x (by rw [get i hi]; exact h.all _ (List.getElem_mem _)) hx h'.blk h'.inS h'.ord
  have hbin := binSearchStr_any zs (fun i => zs.getD i x) ao cap ((Value.string (x))) 54 #[.pointer (some ⟨b, 0, none⟩)] #[] (fun i => c (zs.getD i x) x) w n (by rw [evals]; exact hc) hcmp (by omega)
  rw [en] at hbin
  have HB := Lib.hid hbin
  have HH := Lib.hid (And.intro en get)
  clear hbin hcmp hc evals hent h get
  go_enter Tryz.func50, Tryz.ntmps50
  go_wp2_with fail
  refine HB.out.mono ?_
  rintro e w1 ⟨v, rfl, hk, i, hi, h1, h2, rfl⟩
  have ei : i = below c zs x := by
    refine hs.place O hi (fun y hp hy => ?_) (fun y hy => ?_)
    · have e := (List.getElem?_eq_some_iff.1 hy).2
      rcases h1 with h1 | h1
      · omega
      · rw [HH.out.2 _ (by rw [HH.out.1]; omega), e] at h1; exact h1
    · obtain ⟨hl', e⟩ := List.getElem?_eq_some_iff.1 hy
      rcases h2 with h2 | h2
      · omega
      · rw [HH.out.2 _ (by rw [HH.out.1]; omega), e] at h2; exact h2
  have eb : decide (i < zs.length ∧ c (zs.getD i x) x = 0) = isIn c zs x := by
    rw [Bool.eq_iff_iff, decide_eq_true_iff, hs.there O x, ← ei]
    constructor
    · rintro ⟨a1, a2⟩
      exact ⟨zs[i], List.getElem?_eq_getElem a1, by rw [HH.out.2 _ (by rw [HH.out.1]; omega)] at a2; exact a2⟩
    · rintro ⟨y, hy, hz⟩
      obtain ⟨hl', e⟩ := List.getElem?_eq_some_iff.1 hy
      exact ⟨hl', by rw [HH.out.2 _ (by rw [HH.out.1]; omega), e]; exact hz⟩
  rw [eb, ei]
  have HK := Lib.hid hk
  clear hk h1 h2 eb ei hi
  go_wp2
  go_ret2
  exact RetF.mk HK.out (tup_ib rfl)
end Go.Proofs.YtfkhelihepbehaaGreat

/- tuple.NewSet at string. -/
namespace Go.Proofs.YtfkhelihepbehaaGreat
open Go.RowKit
set_option linter.unusedVariables false

theorem compactStr_nil (fv : Value) (w : World) : Calls Tryz.prog 55 #[.slice none 0 0, fv] w (Ret (.slice none 0 0) w) := by
  go_enter Tryz.func55, Tryz.ntmps55
  go_wp2
  go_ret
  exact Ret.mk rfl

/-- A new row laid into a set's struct. -/
theorem setAtStr_store {P : Program} {S : Nat → Prop} {w : World} {b : Nat} {ov iv0 iv : Value} {tail : List Value} {te : TypeId} {D : ByteArray → Prop} {c : ByteArray → ByteArray → Int} {zs : List (ByteArray)} {M : Nat → Prop}
    (hB : Blk w b (ov :: iv0 :: tail) te) (hr : Row w 9 1 iv zs.length (zs.map fun x => (Value.string (x))) M) (hap : iv.ownBlock ≠ some b) (hS : ∀ k, S k → k < w.heap.size) (hn : ∀ k, Owns b iv k → ¬ S k)
    (ho : OrdVStr P S w ov D c) (hD : ∀ x ∈ zs, D x) (hl : zs.length ≤ 8388000 * 1048576) : SetAtStr P S (w.setCell ⟨b, 1, none⟩ iv) b ov iv tail te D c zs := by
  have hk : Kp (fun k => k = b) w (w.setCell ⟨b, 1, none⟩ iv) := Kp.setCell (F := fun k => k = b) (Kp.refl w) (fun _ => rfl) iv
  exact ⟨hB.set 1 iv, hr.own.kp hk fun g hg e => hap (by rw [hg, e]), hap, fun k h => Nat.lt_of_lt_of_le (hS k h) hk.size, hn, ho.same (hk.same hS fun k h e => hn k (.inl e) h), hD, hl⟩

theorem newWStr {P : Program} {S : Nat → Prop} {w w1 : World} {ov : Value} {D : ByteArray → Prop} {c : ByteArray → ByteArray → Int} {g : Nat} {cs : List Value} {e : TypeId} (ho : OrdVStr P S w ov D c) (hk : Ext w w1) (hS : ∀ k, S k → k < w.heap.size) (hB : Blk w1 g cs e) (iv : Value) (te : TypeId) :
    ∃ w2, w1.alloc (.cells #[ov, iv] te) = w2 ∧ Ext w w2 ∧ Blk w2 w1.heap.size [ov, iv] te ∧ Blk w2 g cs e ∧ OrdVStr P S w2 ov D c ∧ ∀ k, S k → k < w2.heap.size :=
  ⟨_, rfl, hk.alloc _, Blk.new w1 [ov, iv] te, hB.alloc _, ho.same ((hk.alloc _).same hS fun _ _ => id), fun k h => Nat.lt_of_lt_of_le (hS k h) (hk.alloc _).size⟩

set_option maxRecDepth 100000 in
set_option maxHeartbeats 2000000 in
theorem newSetStr_any (S : Nat → Prop) (w : World) (ov : Value) (ao : Option Addr) (n cap : Nat) (D : ByteArray → Prop) (c : ByteArray → ByteArray → Int) (O : OrdLaw c) (zs : List (ByteArray)) (hn : n = zs.length) (hc : CellsAt w ao (zs.map fun x => (Value.string (x))))
    (hS : ∀ k, S k → k < w.heap.size) (ho : OrdVStr Tryz.prog S w ov D c) (hD : ∀ x ∈ zs, D x) (hl : n ≤ 8388000 * 1048576) :
    Calls Tryz.prog 20 #[ov, .slice ao n cap] w
      (RetN w fun w' v => ∃ b iv, v = .pointer (some ⟨b, 0, none⟩) ∧ w.heap.size ≤ b ∧ (∀ k, iv.ownBlock = some k → w.heap.size ≤ k) ∧ SetAtStr Tryz.prog S w' b ov iv [] 81 D c (newS c zs)) := by
  have hform : ov = .nilFunc ∨ ∃ f first cap, ov = .func f first cap := by
    rcases ho with ⟨h, _⟩ | ⟨f, first, cap, h, _⟩
    · exact .inl h
    · exact .inr ⟨_, _, _, h⟩
  have HO := Lib.hid ho; clear ho
  have HN := Lib.hid (And.intro hn hD); clear hn hD
  have HC := Lib.hid hc; clear hc
  rcases hform with rfl | ⟨f1, first1, cap2, rfl⟩
  all_goals
    go_enter Tryz.func20, Tryz.ntmps20
    go_wp2_with fail
    refine (cloneStr_any (zs.map fun x => (Value.string (x))) ao cap w n (by rw [HN.out.1, List.length_map]) HC.out (by intro u hu; obtain ⟨x, _, rfl⟩ := List.mem_map.1 hu; rfl) (by omega)).mono ?_
    rintro e w1 ⟨v, rfl, hk, hr⟩
    have HK := Lib.hid hk; clear hk
    obtain ⟨h1, ⟨rfl, h0⟩ | ⟨g, cap1, rest, rfl, hg, hB, hlen, hnc, hcm⟩⟩ := hr
    · have HZ := Lib.hid h0; clear h0 h1
      go_wp2_with fail
      refine (sortStableStr_nil none 0 _ _).mono ?_
      rintro e w' ⟨rfl, rfl⟩
      go_wp2_with fail
      refine (compactStr_nil _ _).mono ?_
      rintro e w' ⟨rfl, rfl⟩
      go_wp2
      go_ret
      have hz : zs = [] := List.eq_nil_of_length_eq_zero (by rw [← HN.out.1]; exact HZ.out)
      subst hz
      have hk1 := HK.out
      refine RetN.mk (hk1.alloc _) ⟨w1.heap.size, .slice none 0 0, rfl, hk1.size, (fun k hk => by cases hk), ?_⟩
      refine ⟨Blk.new w1 [_, _] _, Row.nil _ _ _ _, (fun h => by cases h), (fun k h => Nat.lt_of_lt_of_le (hS k h) (hk1.alloc _).size), (fun k h hs => ?_), HO.out.same ((hk1.alloc _).same hS fun _ _ => id), by simp [newS], by simp [newS]⟩
      have := hS k hs; have := hk1.size
      rcases h with h | h
      · omega
      · cases h
    · have HB := Lib.hid hB; clear hB
      have HG := Lib.hid hg; clear hg
      have hLN := Lib.hid hlen; clear hlen
      obtain ⟨b, eb⟩ : ∃ b, b = w1.heap.size := ⟨_, rfl⟩
      have hgb : g < b := by rw [eb]; exact HB.out.lt
      have hentc : ∀ args w, (callFunc 54 args).run Tryz.prog w = .ok (.enter 54 args) w := enters_of Tryz.func54 (by kernel_rfl) rfl
      have henta : ∀ args w, (callFunc 48 args).run Tryz.prog w = .ok (.enter 48 args) w := enters_of Tryz.func48 (by kernel_rfl) rfl
      have HE := Lib.hid (And.intro hentc henta); clear hentc henta
      have get : ∀ i, i < n → ∃ h : i < zs.length, zs.getD i default = zs[i] := fun i hi => ⟨by rw [← HN.out.1]; exact hi, by simp [List.getD, show i < zs.length by rw [← HN.out.1]; exact hi]⟩
      have inD : ∀ i, i < n → D (zs.getD i default) := fun i hi => by obtain ⟨h, e⟩ := get i hi; rw [e]; exact HN.out.2 _ (List.getElem_mem _)
      have evals : zs.map (fun x => (Value.string (x))) = (List.range n).map (valStr fun i => zs.getD i default) := by
        refine List.ext_getElem (by simp [HN.out.1]) fun i h1 h2 => ?_
        simp only [List.getElem_map, List.getElem_range]
        obtain ⟨h, e⟩ := get i (by simpa using h2)
        show (Value.string (zs[i])) = (Value.string (zs.getD i default))
        rw [e]
      have ezs : (List.range n).map (fun i => zs.getD i default) = zs := by
        refine List.ext_getElem (by simp [HN.out.1]) fun i h1 h2 => ?_
        simp only [List.getElem_map, List.getElem_range]
        exact (get i (by simpa using h1)).2
      have HV := Lib.hid (And.intro evals ezs)
      have HI := Lib.hid inD
      clear evals ezs inD get
      have OL := (O.idx fun i : Nat => zs.getD i default)
      go_wp2_with fail
      obtain ⟨w2, hw2, hk2, hB2, hG2, ho2, hS2⟩ := newWStr HO.out HK.out hS HB.out (.slice (some ⟨g, 0, none⟩) n cap1) 81
      rw [← eb] at hB2
      rw [HV.out.1] at hG2
      have hsz : w.heap.size ≤ b := by rw [eb]; exact HK.out.size
      rw [← eb, hw2]
      clear hw2 eb
      have hSg : ∀ k, S k → ¬ k = g := fun k h e => by have := hS k h; have := HG.out; simp only [New] at this; omega
      have hSb : ∀ k, S k → ¬ k = b := fun k h e => by have := hS k h; omega
      have hcmp : CmpOn Tryz.prog 54 #[.pointer (some ⟨b, 0, none⟩)] #[] g n w2 (valStr fun i => zs.getD i default) (fun i j => c (zs.getD i default) (zs.getD j default)) :=
        ⟨HE.out.1, fun w' hw i j hi hj => setCmpStr_any S w' b _ _ _ D c _ _ (HI.out i hi) (HI.out j hj) (hB2.kp hw (by omega)) (fun k h => Nat.lt_of_lt_of_le (hS2 k h) hw.size) (ho2.same (hw.same hS2 hSg))⟩
      refine (sortStableStr_any (fun i => zs.getD i default) g n cap1 rest 54 #[.pointer (some ⟨b, 0, none⟩)] #[] (fun i j => c (zs.getD i default) (zs.getD j default)) OL.nat w2 hcmp (by omega) hG2).mono ?_
      clear hcmp
      rintro e w3 ⟨v, rfl, hk3, rfl, C, hp, hs, hG3⟩
      have hB3 := hB2.kp hk3 (by omega)
      have ho3 := ho2.same (hk3.same hS2 hSg)
      have hS3 : ∀ k, S k → k < w3.heap.size := fun k h => Nat.lt_of_lt_of_le (hS2 k h) hk3.size
      have hCl : C.length = n := by simpa using hp.length_eq
      have c1 : w3.cell? ⟨b, 1, none⟩ = some (.slice (some ⟨g, 0, none⟩) n cap1) := by rw [hB3.cell']; rfl
      have hlike : LikeOn Tryz.prog 48 #[.pointer (some ⟨b, 0, none⟩)] #[] g n w3 (valStr fun i => zs.getD i default) (fun i j => decide (c (zs.getD i default) (zs.getD j default) = 0)) :=
        ⟨HE.out.2, fun w' hw i j hi hj => setAlikeStr_any S w' b _ _ _ D c _ _ (HI.out i hi) (HI.out j hj) (hB3.kp hw (by omega)) (fun k h => Nat.lt_of_lt_of_le (hS3 k h) hw.size) (ho3.same (hw.same hS3 hSg))⟩
      have hcomp := compactStr_any (fun i => zs.getD i default) C g n cap1 n rest 48 #[.pointer (some ⟨b, 0, none⟩)] #[] _ w3 hlike hCl.symm (fun i hi => List.mem_range.1 (hp.subset hi)) (by omega) hG3 (by have := hLN.out; simp only [List.length_append, List.length_map, hCl] at this ⊢; rw [← HN.out.1] at this; omega) hcm
      have hkeep := keep_new OL hp hs
      rw [hkeep] at hcomp
      have HCOMP := Lib.hid hcomp
      have HCM := Lib.hid hcm
      have HP := Lib.hid (And.intro hk2 (And.intro hk3 (And.intro hB3 (And.intro ho3 hS3))))
      clear hlike hcomp hkeep hk2 hk3 hB3 ho3 hS3 hp hs hG3 hB2 hG2 ho2 hS2 hcm
      go_wp2_with fail
      refine HCOMP.out.mono ?_
      rintro e w4 ⟨v, rfl, hk4, rest', rfl, hG4, hl4⟩
      obtain ⟨hk2, hk3, hB3, ho3, hS3⟩ := HP.out
      have hB4 := hB3.kp hk4 (by omega)
      have ho4 := ho3.same (hk4.same hS3 hSg)
      have hS4 : ∀ k, S k → k < w4.heap.size := fun k h => Nat.lt_of_lt_of_le (hS3 k h) hk4.size
      have d0 : w4.cell? ⟨b, 1, none⟩ = some (.slice (some ⟨g, 0, none⟩) n cap1) := by rw [hB4.cell']; rfl
      have f0 := hB4.free 1
      have hkk : Kp (fun k => k = g) w w4 := (hk2.kp.trans hk3).trans hk4
      have HQ := Lib.hid (And.intro hB4 (And.intro ho4 (And.intro hS4 (And.intro hG4 (And.intro hl4 hkk)))))
      clear hk2 hk3 hB3 ho3 hS3 hk4 hG4 hl4 hB4 ho4 hS4 hkk c1
      go_wp2
      go_ret
      obtain ⟨hB4, ho4, hS4, hG4, hl4, hkk⟩ := HQ.out
      have eN : (newS (fun i j => c (zs.getD i default) (zs.getD j default)) (List.range n)).map (fun i => zs.getD i default) = newS c zs := by rw [← newS_map, HV.out.2]
      have eL : (newS (fun i j => c (zs.getD i default) (zs.getD j default)) (List.range n)).length = (newS c zs).length := by rw [← eN, List.length_map]
      have eV : (newS (fun i j => c (zs.getD i default) (zs.getD j default)) (List.range n)).map (valStr fun i => zs.getD i default) = (newS c zs).map fun x => (Value.string (x)) := by
        rw [← eN, List.map_map]; rfl
      rw [eV] at hG4 hl4
      have hgw : w.heap.size ≤ g := HG.out
      have hex : Ext w w4 := hkk.mono fun k hk e => by omega
      refine RetN.mk (hex.setCell (fun h => absurd hsz (Nat.not_le.2 h)) _) ⟨b, .slice (some ⟨g, 0, none⟩) (newS (fun i j => c (zs.getD i default) (zs.getD j default)) (List.range n)).length cap1, rfl, hsz, (fun k hk => by have e : g = k := Option.some.inj hk; omega), ?_⟩
      have hlen := newS_len (c := c) zs
      refine setAtStr_store hB4 (M := fun _ => True) ⟨by simp, .inr ⟨g, cap1, rest', congrArg (fun t => Value.slice (some ⟨g, 0, none⟩) t cap1) eL, trivial, hG4, by rw [hl4, Nat.mul_one], by rw [← hl4]; simp, HCM.out⟩⟩ (fun h => by have e : g = b := Option.some.inj h; omega) hS4 (fun k h hs => ?_) ho4 (fun x hx => HN.out.2 x (newS_mem hx)) (by rw [← HN.out.1] at hlen; omega)
      rcases h with h | h
      · exact hSb k hs h
      · have e : g = k := Option.some.inj h
        exact hSg _ hs e.symm
end Go.Proofs.YtfkhelihepbehaaGreat

/- slices.Insert of one element at string. -/
namespace Go.Proofs.YtfkhelihepbehaaGreat
open Go.RowKit
set_option linter.unusedVariables false

set_option maxRecDepth 100000 in
set_option maxHeartbeats 4000000 in
theorem insertStr_any (xs : List Value) (iv : Value) (M : Nat → Prop) (n i : Nat) (x : Value) (vb : Nat) (ve : TypeId) (w : World) (hn : n = xs.length) (hr : Row w 9 1 iv n xs M) (hi : i ≤ n) (hx : x.oneCell' = true) (hxs : ∀ u ∈ xs, u.oneCell' = true)
    (hv : Blk w vb [x] ve) (hne : iv.ownBlock ≠ some vb) (hb : (n + 1) * 16 ≤ 140737488355328) :
    Calls Tryz.prog 51 #[iv, .int .i64 i, .slice (some ⟨vb, 0, none⟩) 1 1] w
      (RetF (fun g => iv.ownBlock = some g) w fun w' v => Row w' 9 1 v (n + 1) (xs.take i ++ x :: xs.drop i) (fun g => iv.ownBlock = some g ∨ w.heap.size ≤ g)) := by
  have hsrc : CellsAt w (some ⟨vb, 0, none⟩) [x] := CellsAt.pre (rest := []) hv
  have hl : n + 1 ≤ 9223372036854775807 := by omega
  obtain ⟨ao, cap, rfl, hcells, hcap⟩ := hr.shape
  by_cases hin : i = n
  · subst hin
    have HNN := Lib.hid hn; clear hn
    have hrM : Row w 9 1 (.slice ao i cap) i xs (fun g => (Value.slice ao i cap).ownBlock = some g ∨ w.heap.size ≤ g) := hr.own.mono fun g h => .inl h
    clear hr
    by_cases hci : cap = i
    all_goals
      first | (subst hci) | skip
      go_enter Tryz.func51, Tryz.ntmps51
      go_wp2_with (first | (at_builtin; refine Halted.out ?_))
      refine Halted.mk (wp_app elemStr rfl _ _ rfl (Kp.refl (F := fun g => (Value.slice ao _ _).ownBlock = some g) w) (M := fun g => (Value.slice ao _ _).ownBlock = some g ∨ w.heap.size ≤ g) (fun g h h' => by rcases h with h | h; exact h; omega) (fun g h => .inr h) rfl hrM rfl rfl hsrc (by simpa using hx) hb (by unfold maxLen; omega) ?_)
      intro v1 w1 hr1 hk1 _ _
      have HR := Lib.hid hr1; clear hr1 hcells hrM
      go_wp2
      go_ret
      refine RetF.mk hk1 ?_
      have := HNN.out
      rw [List.take_of_length_le (by omega), List.drop_of_length_le (by omega)]
      exact HR.out
  · have hlt : i < n := by omega
    obtain ⟨h1, ⟨h2, h3⟩ | ⟨g, cap', rest, h2, hM, hB, hlen, hnc, hcm⟩⟩ := hr
    · omega
    cases h2
    have hgv : g ≠ vb := fun e => hne (by simp [Value.ownBlock, e])
    have hfree := hv.free
    have hov : ∀ (W : World), Blk W vb [x] ve → (∀ cs, Blk w g cs 9 → True) → ∀ off lb cb (kB : Nat) (eB : TypeId), W.shape? g = some (eB, kB) → kB ≠ 0 →
        (callFunc 104 #[.slice (some ⟨vb, 0, none⟩) 1 1, .slice (some ⟨g, off, none⟩) lb cb]).run Tryz.prog W = .ok (.value (.bool false)) W := fun W hW _ off lb cb kB eB hs hk => by
      rw [run_callFunc_extern Tryz.func104 (by kernel_rfl) (by kernel_rfl) (by kernel_rfl) (e := Extern.SlicesOverlaps.overlaps #[29, 29] #[4]) (by kernel_rfl),
        Lib.run_overlaps_apart W 29 4 9 Tryz.underlying29 1 (fun w => by kernel_rfl) ⟨vb, 0, none⟩ ⟨g, off, none⟩ 1 1 lb cb (fun e => hgv e.symm) ve eB 1 kB hW.shape hs hk (hW.free 0) (hW.free 1)]
      rfl
    by_cases hroom : n + 1 ≤ cap
    · have hrest : ∃ y rest', rest = y :: rest' := by
        cases rest with
        | nil => simp at hlen h1; omega
        | cons y r => exact ⟨y, r, rfl⟩
      obtain ⟨y, rest', rfl⟩ := hrest
      have hov1 := fun off lb cb => hov w hv (fun _ _ => trivial) off lb cb _ _ hB.shape (by simp)
      have ncap : ¬ cap = i + 1 := by omega
      have ncap2 : ¬ cap = i := by omega
      have hi1 : ((i : Int) + 1).toNat = i + 1 := by omega
      have hw1 : IntKind.i64.wrap ((i : Int) + 1) = (i : Int) + 1 := IntWalk.i64_in _ (by omega)
      have hp1 : (0 : Int) ≤ (i : Int) + 1 := by omega
      have hp2 : (i : Int) ≤ (n : Int) + 1 := by omega
      have HNN := Lib.hid hn; clear hn
      have HB := Lib.hid hB; clear hB
      have HS := Lib.hid hsrc; clear hsrc
      have HV := Lib.hid hv; clear hv hov hfree
      have HXS := Lib.hid hxs; clear hxs
      have HC := Lib.hid hcells; clear hcells
      have HLN := Lib.hid (And.intro h1 hlen); clear h1 hlen
      have hcm' := hcm
      clear hM hcm hne
      unfold maxLen at hcm'
      go_enter Tryz.func51, Tryz.ntmps51
      go_wp2_with (simp only [hov1])
      go_still_tail 8, (by kernel_rfl)
      refine wp_copyB elemStr rfl _ _ rfl (w := w.drew) (HB.out.drew) (g := g) (off := i + 1) rfl rfl (cs := xs.drop i) (by have := HNN.out; simp [Nat.min_def]; first | omega | (split <;> omega)) (fun _ => rfl) (fun j u hu => ⟨g, i, rfl, by
          have hb := HB.out
          rw [hb.drew.cell']
          rw [List.getElem?_drop] at hu
          rw [List.getElem?_append_left (List.getElem?_eq_some_iff.1 hu).1]; exact hu⟩) (by have := HNN.out; simp; omega) (fun u hu => HXS.out u (List.mem_of_mem_drop hu)) ?_
      intro w2 hk2 hB2
      have hsv := (HS.out.drewN 1).kp hk2 (fun a ha e => by cases ha; exact hgv e.symm)
      obtain ⟨w3, hrun3, hk3, hB3⟩ := run_copyB elemStr (w := w2) hB2 (g := g) (off := i) (dp := some ⟨g, i, none⟩) (dLen := n + 1 - i) (dCap := cap - i) (sp := some ⟨vb, 0, none⟩) (sLen := 1) (sCap := 1) (cs := [x]) (by simp [Nat.min_def]; omega) (fun _ => rfl) hsv (by have := HNN.out; simp [splice]; omega) (by simpa using hx)
      have HK2 := Lib.hid hk2; have HK3 := Lib.hid hk3; have HB3 := Lib.hid hB3
      clear hk2 hk3 hB3 hB2 hsv hw1 hi1 hp1
      go_wp2
      go_ret
      have hk23 : Kp (fun k => k = g) w w3 := (((Kp.refl w).drew).trans (HK2.out)).trans HK3.out
      refine RetF.mk (hk23.mono fun k _ e => by rw [e]; rfl) ⟨?_, .inr ⟨g, cap, rest', rfl, .inl rfl, ?_, ?_, hroom, by unfold maxLen; omega⟩⟩
      · have := HNN.out; simp; omega
      · have := splice_ins xs rest' x y i (by have := HNN.out; omega)
        rw [← this]; exact HB3.out
      · have := HLN.out.2; have := HNN.out; simp at *; omega
    · have hcap' : n = cap := by omega
      subst hcap'
      have hk0 : 0 < n + 1 - i := by omega
      obtain ⟨w1, G, hrun1, hG, hGm, hext1, hsz1, hB1⟩ := run_app_zeros (w := w) elemStr rfl Tryz.underlying3 (ao := some ⟨g, 0, none⟩) (n := i) (cap := n) (olds := xs.take i) (fun j u hu => by
          rw [List.getElem?_take] at hu
          split at hu
          · exact hcells j u hu
          · cases hu) (by simp; omega) (k := n + 1 - i) hk0 (by omega) (by rw [show i + (n + 1 - i) = n + 1 by omega]; exact hb) (by unfold maxLen; omega)
      rw [show i + (n + 1 - i) = n + 1 by omega] at hrun1 hG
      have rk : (n : Int) + 1 - i = ((n + 1 - i : Nat) : Int) := by omega
      rw [← rk] at hrun1
      clear rk
      have hv1 := hsrc.ext hext1
      have hgh : g < w.heap.size := hB.lt
      obtain ⟨w2, hrun2, hk2, hB2⟩ := run_copyB elemStr (w := w1) hB1 (off := i) (dp := some ⟨w.heap.size, i, none⟩) (dLen := n + 1 - i) (dCap := G - i) (sp := some ⟨vb, 0, none⟩) (sLen := 1) (sCap := 1) (cs := [x]) (by simp [Nat.min_def]; omega) (fun _ => rfl) hv1 (by simp; omega) (by simpa using hx)
      have hB' : Blk w2 g (xs ++ rest) 9 := (hB.ext hext1).kp hk2 (by omega)
      have HB' := Lib.hid hB'; have HB2 := Lib.hid hB2; have HK2 := Lib.hid hk2; have HE1 := Lib.hid hext1
      have HNN := Lib.hid hn
      have HXS := Lib.hid hxs
      have HLN := Lib.hid (And.intro h1 hlen)
      have ncG : ¬ G = i := by omega
      have ncG1 : ¬ G = i + 1 := by omega
      have nci : ¬ n = i := by omega
      have hi1 : ((i : Int) + 1).toNat = i + 1 := by omega
      have hw1 : IntKind.i64.wrap ((i : Int) + 1) = (i : Int) + 1 := IntWalk.i64_in _ (by omega)
      have hp1 : (0 : Int) ≤ (i : Int) + 1 := by omega
      have hp2 : (i : Int) ≤ (n : Int) + 1 := by omega
      have hp3 : (i : Int) ≤ (n : Int) := by omega
      clear hB hB' hB2 hk2 hext1 hn hxs h1 hlen hv1 hB1 hM hcm hne hv hov hfree hsrc hcells
      unfold maxLen at hGm
      go_enter Tryz.func51, Tryz.ntmps51
      go_wp2_with (first | (at_builtin; refine Halted.out ?_))
      refine Halted.mk (wp_appRun rfl _ _ rfl rfl rfl hrun1 ?_)
      clear hrun1
      go_wp2
      go_still_tail 8, (by kernel_rfl)
      refine wp_copyB elemStr rfl _ _ rfl (w := w2.drew) (HB2.out.drew) (g := w.heap.size) (off := i + 1) rfl rfl (cs := xs.drop i) (by have := HNN.out; simp [Nat.min_def]; first | omega | (split <;> omega)) (fun _ => rfl) (fun j u hu => ⟨g, i, rfl, by
          have hb := HB'.out
          rw [hb.drew.cell']
          rw [List.getElem?_drop] at hu
          rw [List.getElem?_append_left (List.getElem?_eq_some_iff.1 hu).1]; exact hu⟩) (by have := HNN.out; simp [splice]; omega) (fun u hu => HXS.out u (List.mem_of_mem_drop hu)) ?_
      intro w3 hk3 hB3
      have HK3 := Lib.hid hk3; have HB3 := Lib.hid hB3
      clear hk3 hB3 hw1 hi1 hp1 hp2 hp3
      go_wp2
      go_ret
      have hext2 : Ext w w2 := HE1.out.trans' HK2.out (fun k hk e => by omega)
      have hext3 : Ext w w3 := (hext2.drew).trans' HK3.out (fun k hk e => by omega)
      refine RetF.mk hext3.kp ⟨?_, .inr ⟨w.heap.size, G, List.replicate (G - (n + 1)) (.string ⟨#[]⟩), rfl, .inr (Nat.le_refl _), ?_, ?_, hG, by unfold maxLen; omega⟩⟩
      · have := HNN.out; simp; omega
      · have h := splice_ins2 xs x (.string ⟨#[]⟩) i G (by have := HNN.out; omega) (by have := HNN.out; omega)
        have := HB3.out
        rw [h] at this
        exact this.congrL (by rw [HNN.out])
      · have := HNN.out; simp; omega
end Go.Proofs.YtfkhelihepbehaaGreat

/- slices.Delete of one element at string. -/
namespace Go.Proofs.YtfkhelihepbehaaGreat
open Go.RowKit
set_option linter.unusedVariables false

set_option maxRecDepth 100000 in
set_option maxHeartbeats 4000000 in
theorem deleteStr_any (xs : List Value) (iv : Value) (M : Nat → Prop) (n i : Nat) (w : World) (hn : n = xs.length) (hr : Row w 9 1 iv n xs M) (hi : i < n) (hxs : ∀ u ∈ xs, u.oneCell' = true) (hb : n ≤ 4611686018427387904) :
    Calls Tryz.prog 52 #[iv, .int .i64 i, .int .i64 ((i : Int) + 1)] w
      (RetF (fun g => iv.ownBlock = some g) w fun w' v => v.ownBlock = iv.ownBlock ∧ Row w' 9 1 v (n - 1) (xs.take i ++ xs.drop (i + 1)) (fun g => iv.ownBlock = some g)) := by
  obtain ⟨h1, ⟨h2, h3⟩ | ⟨g, cap, rest, rfl, hM, hB, hlen, hnc, hcm⟩⟩ := hr
  · omega
  obtain ⟨n, rfl⟩ : ∃ n', n = n' + 1 := ⟨n - 1, by omega⟩
  have hl1 : (xs.drop (i + 1)).length = n - i := by simp; omega
  have hsrc : CellsAt w.drew (if cap = i + 1 then some ⟨g, 0, none⟩ else some ⟨g, i + 1, none⟩) (xs.drop (i + 1)) := by
    intro j u hu
    have hlt := (List.getElem?_eq_some_iff.1 hu).1
    by_cases hc : cap = i + 1
    · rw [hl1] at hlt; omega
    · rw [if_neg hc]
      refine ⟨g, i + 1, rfl, ?_⟩
      rw [hB.drew.cell', List.getElem?_append_left (by rw [hl1] at hlt; omega), ← List.getElem?_drop]; exact hu
  obtain ⟨w1, hrun1, hk1, hB1⟩ := run_app_room (w := w.drew) elemStr hB.drew (k := i) (cap := cap) (c := cap - (i + 1)) hl1 hsrc (fun u hu => hxs u (List.mem_of_mem_drop hu)) (by omega) (by simp; omega)
  rw [show i + (n - i) = n by omega] at hrun1
  have hlen1 : (splice (xs ++ rest) i (xs.drop (i + 1))).length = cap := by
    have := hlen; simp [splice] at this ⊢; omega
  obtain ⟨w2, hrun2, hk2, hB2⟩ := run_clearB (w := w1) elemStr rfl (fun w => by kernel_rfl) hB1 (off := n) (n := 1) (c := cap - n) (sp := some ⟨g, n, none⟩) (fun _ => rfl) (by rw [hlen1]; omega)
  have HB2 := Lib.hid hB2
  have HK := Lib.hid (And.intro hk1 hk2)
  have HN := Lib.hid (And.intro hn (And.intro h1 hlen))
  clear hB1 hB2 hk1 hk2 hn h1 hlen hlen1 hsrc hl1 hB hxs hM
  have hne : ((i : Int) == (i : Int) + 1) = false := by simp; omega
  have nc1 : ¬ cap = i := by omega
  have nc2 : ¬ cap = n := by omega
  have hcm' := hcm
  unfold maxLen at hcm'
  have hi1 : ((i : Int) + 1).toNat = i + 1 := by omega
  have hp1 : (0 : Int) ≤ (i : Int) + 1 := by omega
  have hp2 : (i : Int) ≤ (cap : Int) := by omega
  have hp3 : (i : Int) ≤ (n : Int) := by omega
  have hs1 : n + 1 - (i + 1) = n - i := by omega
  have hs2 : n + 1 - n = 1 := by omega
  by_cases hci : cap = i + 1
  · have hni : n = i := by omega
    subst hni
    subst hci
    simp only [if_pos, Nat.sub_self] at hrun1
    simp only [hs2] at hrun2
    have hp4 : (n : Int) ≤ (n : Int) + 1 := by omega
    have hp5 : n ≤ n + 1 := by omega
    go_enter Tryz.func52, Tryz.ntmps52
    go_wp2
    go_still_tail 6, (by kernel_rfl)
    refine wp_appRun rfl _ _ rfl rfl rfl hrun1 ?_
    clear hrun1
    go_wp2
    go_ret
    have hk12 : Kp (fun k => k = g) w w2 := ((Kp.refl w).drew.trans HK.out.1).trans HK.out.2
    obtain ⟨q1, q2, q3⟩ := HN.out
    refine RetF.mk (hk12.mono fun k _ e => by rw [e]; rfl) ⟨rfl, ?_, .inr ⟨g, _, (.string ⟨#[]⟩) :: rest, rfl, rfl, HB2.out.congrL ?_, ?_, by omega, hcm⟩⟩
    · simp; omega
    · have e1 : xs = xs.take n ++ [xs[n]'(by omega)] ++ xs.drop (n + 1) := by
        rw [List.append_assoc, List.singleton_append, ← List.drop_eq_getElem_cons (by omega), List.take_append_drop]
      have l1 : (xs.take n).length = n := by simp; omega
      have l2 : (xs.drop (n + 1)).length = n - n := by simp; omega
      have e2 : splice (xs ++ rest) n (xs.drop (n + 1)) = xs.take n ++ xs.drop (n + 1) ++ (xs ++ rest).drop n := by
        unfold splice
        rw [List.take_append_of_le_length (by omega), l2, show n + (n - n) = n by omega, List.append_assoc]
      have e3 : (xs ++ rest).drop n = [xs[n]'(by omega)] ++ rest := by
        rw [List.drop_append_of_le_length (by omega), List.drop_eq_getElem_cons (by omega), List.drop_of_length_le (by omega)] <;> rfl
      rw [e2, e3, ← List.append_assoc, splice_at _ _ _ _ _ (by simp; omega) (by simp)]
      simp
    · simp at q3 ⊢; omega
  · simp only [if_neg hci] at hrun1
    go_enter Tryz.func52, Tryz.ntmps52
    go_wp2
    go_still_tail 6, (by kernel_rfl)
    refine wp_appRun rfl _ _ rfl rfl rfl hrun1 ?_
    clear hrun1
    go_wp2
    go_ret
    have hk12 : Kp (fun k => k = g) w w2 := ((Kp.refl w).drew.trans HK.out.1).trans HK.out.2
    obtain ⟨q1, q2, q3⟩ := HN.out
    refine RetF.mk (hk12.mono fun k _ e => by rw [e]; rfl) ⟨rfl, ?_, .inr ⟨g, _, (.string ⟨#[]⟩) :: rest, rfl, rfl, HB2.out.congrL ?_, ?_, by omega, hcm⟩⟩
    · simp; omega
    · have e1 : xs = xs.take i ++ [xs[i]'(by omega)] ++ xs.drop (i + 1) := by
        rw [List.append_assoc, List.singleton_append, ← List.drop_eq_getElem_cons (by omega), List.take_append_drop]
      have l1 : (xs.take i).length = i := by simp; omega
      have l2 : (xs.drop (i + 1)).length = n - i := by simp; omega
      have e2 : splice (xs ++ rest) i (xs.drop (i + 1)) = xs.take i ++ xs.drop (i + 1) ++ (xs ++ rest).drop n := by
        unfold splice
        rw [List.take_append_of_le_length (by omega), l2, show i + (n - i) = n by omega, List.append_assoc]
      have e3 : (xs ++ rest).drop n = [xs[n]'(by omega)] ++ rest := by
        rw [List.drop_append_of_le_length (by omega), List.drop_eq_getElem_cons (by omega), List.drop_of_length_le (by omega)] <;> rfl
      rw [e2, e3, ← List.append_assoc, splice_at _ _ _ _ _ (by first | (simp; done) | (simp; omega)) (by simp)]
      simp
    · simp at q3 ⊢; omega
end Go.Proofs.YtfkhelihepbehaaGreat

/- tuple.Set at string: Has, Below, At, Add, Drop, Copy. -/
namespace Go.Proofs.YtfkhelihepbehaaGreat
open Go.RowKit
set_option linter.unusedVariables false

section
variable {S : Nat → Prop} {w : World} {b : Nat} {ov iv : Value} {tail : List Value} {te : TypeId} {D : ByteArray → Prop} {c : ByteArray → ByteArray → Int} {zs : List (ByteArray)}

theorem setHasStr_nil (x : Value) (w : World) : Calls Tryz.prog 15 #[.pointer none, x] w (Ret (.bool false) w) := by
  go_enter Tryz.func15, Tryz.ntmps15
  go_wp2
  go_ret
  exact Ret.mk rfl
set_option maxRecDepth 100000 in
theorem setHasStr_any (O : OrdLaw c) (x : ByteArray) (hx : D x) (hs : Strict c zs) (h : SetAtStr Tryz.prog S w b ov iv tail te D c zs) :
    Calls Tryz.prog 15 #[.pointer (some ⟨b, 0, none⟩), (Value.string (x))] w (RetF (fun _ => False) w fun w' v => v = .bool (isIn c zs x)) := by
  have HF := Lib.hid (setFindStr_any O x hx hs h); clear h
  go_enter Tryz.func15, Tryz.ntmps15
  go_wp2_with fail
  refine HF.out.mono ?_
  rintro e w1 ⟨v, rfl, hk, rfl⟩
  have HK := Lib.hid hk; clear hk
  go_wp2
  go_ret
  exact RetF.mk HK.out rfl
theorem setBelowStr_nil (x : Value) (w : World) : Calls Tryz.prog 14 #[.pointer none, x] w (Ret (.int .i64 0) w) := by
  go_enter Tryz.func14, Tryz.ntmps14
  go_wp2
  go_ret
  exact Ret.mk rfl
set_option maxRecDepth 100000 in
theorem setBelowStr_any (O : OrdLaw c) (x : ByteArray) (hx : D x) (hs : Strict c zs) (h : SetAtStr Tryz.prog S w b ov iv tail te D c zs) :
    Calls Tryz.prog 14 #[.pointer (some ⟨b, 0, none⟩), (Value.string (x))] w (RetF (fun _ => False) w fun w' v => v = .int .i64 (below c zs x : Nat)) := by
  have HF := Lib.hid (setFindStr_any O x hx hs h); clear h
  go_enter Tryz.func14, Tryz.ntmps14
  go_wp2_with fail
  refine HF.out.mono ?_
  rintro e w1 ⟨v, rfl, hk, rfl⟩
  have HK := Lib.hid hk; clear hk
  go_wp2
  go_ret
  exact RetF.mk HK.out rfl
theorem setCopyStr_nil (w : World) : Calls Tryz.prog 17 #[.pointer none] w (Ret (.pointer none) w) := by
  go_enter Tryz.func17, Tryz.ntmps17
  go_wp2
  go_ret
  exact Ret.mk rfl
theorem setAddStr_nil (x : Value) (w : World) : Calls Tryz.prog 18 #[.pointer none, x] w (Ret (.bool false) w) := by
  go_enter Tryz.func18, Tryz.ntmps18
  go_wp2
  go_ret
  exact Ret.mk rfl
set_option maxRecDepth 100000 in
set_option maxHeartbeats 1000000 in
theorem setAddStr_any (O : OrdLaw c) (x : ByteArray) (hx : D x) (hs : Strict c zs) (h : SetAtStr Tryz.prog S w b ov iv tail te D c zs) (hl : zs.length + 1 ≤ 8388000 * 1048576) :
    Calls Tryz.prog 18 #[.pointer (some ⟨b, 0, none⟩), (Value.string (x))] w
      (RetF (Owns b iv) w fun w' v => v = .bool (!isIn c zs x) ∧ ∃ iv', SetAtStr Tryz.prog S w' b ov iv' tail te D c (addS c zs x) ∧ ∀ k, iv'.ownBlock = some k → iv.ownBlock = some k ∨ w.heap.size ≤ k) := by
  have HF := Lib.hid (setFindStr_any O x hx hs h)
  have HH := Lib.hid h; clear h
  go_enter Tryz.func18, Tryz.ntmps18
  go_wp2_with fail
  refine HF.out.mono ?_
  rintro e w1 ⟨v, rfl, hk, rfl⟩
  have h1 := HH.out.ext hk
  have HK := Lib.hid hk; clear hk
  cases hin : isIn c zs x
  · obtain ⟨c1, c2⟩ := h1.cells
    have H1 := Lib.hid h1; clear h1
    go_wp2_with fail
    have hb := below_le (c := c) zs x
    have hbw : b < w1.heap.size := H1.out.blk.lt
    refine (insertStr_any (zs.map fun x => (Value.string (x))) iv _ zs.length (below c zs x) ((Value.string (x))) w1.heap.size 9 _ (by simp) (H1.out.row.alloc _) hb rfl (by intro u hu; obtain ⟨y, _, rfl⟩ := List.mem_map.1 hu; rfl) (Blk.new w1 [(Value.string (x))] 9) (fun e => by
        have := H1.out.row
        obtain ⟨q1, ⟨q2, _⟩ | ⟨g, cap, rest, q2, _, q3, _⟩⟩ := this
        · rw [q2] at e; cases e
        · rw [q2] at e; have e' : g = w1.heap.size := Option.some.inj e
          have := q3.lt; omega) (by omega)).mono ?_
    rintro e w2 ⟨iv', rfl, hk2, hr⟩
    obtain ⟨ao', cap', eiv, _, _⟩ := hr.shape
    subst eiv
    have hk02 := ((Kp.refl (F := fun k => iv.ownBlock = some k) w1).alloc (.cells #[(Value.string (x))] 9)).trans hk2
    have hB2 := H1.out.blk.kp hk02 H1.out.apart
    have f1 := hB2.free 1
    have d1 : w2.cell? ⟨b, 1, none⟩ = some iv := by rw [hB2.cell']; rfl
    have HR := Lib.hid (And.intro hk02 (And.intro hB2 hr))
    clear hk02 hB2 hr hk2 c1 c2
    go_wp2
    go_ret
    obtain ⟨hk02, hB2, hr⟩ := HR.out
    have h1 := H1.out
    have hz : addS c zs x = zs.take (below c zs x) ++ x :: zs.drop (below c zs x) := by unfold addS; rw [hin]; rfl
    have hlz : (addS c zs x).length = zs.length + 1 := by rw [addS_len, hin]; rfl
    have hown : ∀ k, (Value.slice ao' (zs.length + 1) cap').ownBlock = some k → iv.ownBlock = some k ∨ w.heap.size ≤ k := fun k hk => by
      rcases hr.block k hk with hh | hh
      · exact .inl hh
      · have := HK.out.size; simp only [alloc_size] at hh; exact .inr (by omega)
    have hownb : (Value.slice ao' (zs.length + 1) cap').ownBlock ≠ some b := fun hk => by
      rcases hr.block b hk with hh | hh
      · exact h1.apart hh
      · simp only [alloc_size] at hh; omega
    have hK : Kp (Owns b iv) w w2 := ((Ext.kp HK.out).trans (hk02.mono fun k _ hk => .inr hk))
    refine RetF.mk (hK.setCell (fun _ => .inl rfl) _) ⟨by rw [hin]; rfl, .slice ao' (zs.length + 1) cap', ?_, hown⟩
    refine setAtStr_store hB2 (M := fun _ => True) ?_ hownb (fun k hk => Nat.lt_of_lt_of_le (h1.inS k hk) hk02.size) (fun k hk hS => ?_) (h1.ord.same (hk02.same h1.inS fun k hk hk' => h1.notS k (.inr hk') hk)) (fun y hy => ?_) (by rw [hlz]; exact hl)
    · rw [hlz, hz]
      have := hr.mono (M' := fun _ => True) fun _ _ => trivial
      simpa using this
    · rcases hk with hk | hk
      · exact h1.notS k (.inl hk) hS
      · rcases hr.block k hk with hh | hh
        · exact h1.notS k (.inr hh) hS
        · have := h1.inS k hS; simp only [alloc_size] at hh; omega
    · rcases mem_addS.1 hy with hy | ⟨rfl, _⟩
      · exact h1.all y hy
      · exact hx
  · have H1 := Lib.hid h1; clear h1
    go_wp2
    go_ret
    have hz : addS c zs x = zs := by unfold addS; rw [hin]; rfl
    refine RetF.mk (Ext.kp HK.out) ⟨by rw [hin]; rfl, iv, ?_, fun k hk => .inl hk⟩
    rw [hz]; exact H1.out
theorem setDropStr_nil (x : Value) (w : World) : Calls Tryz.prog 19 #[.pointer none, x] w (Ret (.bool false) w) := by
  go_enter Tryz.func19, Tryz.ntmps19
  go_wp2
  go_ret
  exact Ret.mk rfl
set_option maxRecDepth 100000 in
set_option maxHeartbeats 1000000 in
theorem setDropStr_any (O : OrdLaw c) (x : ByteArray) (hx : D x) (hs : Strict c zs) (h : SetAtStr Tryz.prog S w b ov iv tail te D c zs) :
    Calls Tryz.prog 19 #[.pointer (some ⟨b, 0, none⟩), (Value.string (x))] w
      (RetF (Owns b iv) w fun w' v => v = .bool (isIn c zs x) ∧ ∃ iv', SetAtStr Tryz.prog S w' b ov iv' tail te D c (dropS c zs x) ∧ iv'.ownBlock = iv.ownBlock) := by
  have HF := Lib.hid (setFindStr_any O x hx hs h)
  have HH := Lib.hid h; clear h
  go_enter Tryz.func19, Tryz.ntmps19
  go_wp2_with fail
  refine HF.out.mono ?_
  rintro e w1 ⟨v, rfl, hk, rfl⟩
  have h1 := HH.out.ext hk
  have HK := Lib.hid hk; clear hk
  cases hin : isIn c zs x
  · have H1 := Lib.hid h1; clear h1
    go_wp2
    go_ret
    have hz : dropS c zs x = zs := by unfold dropS; rw [hin]; rfl
    refine RetF.mk (Ext.kp HK.out) ⟨by rw [hin]; rfl, iv, ?_, rfl⟩
    rw [hz]; exact H1.out
  · obtain ⟨c1, c2⟩ := h1.cells
    have H1 := Lib.hid h1; clear h1
    have hb : below c zs x < zs.length := by
      obtain ⟨y, hy, _⟩ := (hs.there O x).1 hin
      exact (List.getElem?_eq_some_iff.1 hy).1
    have hlen := H1.out.len
    have hw1 : IntKind.i64.wrap (((below c zs x : Nat) : Int) + 1) = ((below c zs x : Nat) : Int) + 1 := IntWalk.i64_in _ (by omega)
    go_wp2_with fail
    refine (deleteStr_any (zs.map fun x => (Value.string (x))) iv _ zs.length (below c zs x) w1 (by simp) H1.out.row hb (by intro u hu; obtain ⟨y, _, rfl⟩ := List.mem_map.1 hu; rfl) (by omega)).mono ?_
    rintro e w2 ⟨iv', rfl, hk2, hov, hr⟩
    obtain ⟨ao', cap', eiv, _, _⟩ := hr.shape
    subst eiv
    have hB2 := H1.out.blk.kp hk2 H1.out.apart
    have f1 := hB2.free 1
    have d1 : w2.cell? ⟨b, 1, none⟩ = some iv := by rw [hB2.cell']; rfl
    have HR := Lib.hid (And.intro hk2 (And.intro hB2 (And.intro hov hr)))
    clear hB2 hr hk2 hov c1 c2
    go_wp2
    go_ret
    obtain ⟨hk2, hB2, hov, hr⟩ := HR.out
    have h1 := H1.out
    have hz : dropS c zs x = zs.take (below c zs x) ++ zs.drop (below c zs x + 1) := by unfold dropS; rw [hin]; rfl
    have hlz : (dropS c zs x).length = zs.length - 1 := by rw [hz]; simp; omega
    have hK : Kp (Owns b iv) w w2 := (Ext.kp HK.out).trans (hk2.mono fun k _ hk => .inr hk)
    refine RetF.mk (hK.setCell (fun _ => .inl rfl) _) ⟨by rw [hin]; rfl, .slice ao' (zs.length - 1) cap', ?_, hov⟩
    refine setAtStr_store hB2 (M := fun _ => True) ?_ (by rw [hov]; exact h1.apart) (fun k hk => Nat.lt_of_lt_of_le (h1.inS k hk) hk2.size) (fun k hk hS => ?_) (h1.ord.same (hk2.same h1.inS fun k hk hk' => h1.notS k (.inr hk') hk)) (fun y hy => ?_) (by rw [hlz]; omega)
    · rw [hlz, hz]
      have := hr.mono (M' := fun _ => True) fun _ _ => trivial
      simpa using this
    · rcases hk with hk | hk
      · exact h1.notS k (.inl hk) hS
      · rw [hov] at hk; exact h1.notS k (.inr hk) hS
    · rw [hz] at hy
      rcases List.mem_append.1 hy with hy | hy
      · exact h1.all y (List.mem_of_mem_take hy)
      · exact h1.all y (List.mem_of_mem_drop hy)
end
end Go.Proofs.YtfkhelihepbehaaGreat

/- tuple.Set at string: Copy, At, under: what makes sets out of sets. -/
namespace Go.Proofs.YtfkhelihepbehaaGreat
open Go.RowKit
set_option linter.unusedVariables false

/-- A set that a pointer names; nil: no items. -/
def PtrSetStr (P : Program) (S : Nat → Prop) (w : World) (v : Value) (zs : List (ByteArray)) : Prop :=
  (v = .pointer none ∧ zs = []) ∨ ∃ b ov iv tail te D c, v = .pointer (some ⟨b, 0, none⟩) ∧ SetAtStr P S w b ov iv tail te D c zs
theorem PtrSetStr.ext {P : Program} {S : Nat → Prop} {w w' : World} {v : Value} {zs : List (ByteArray)} (h : PtrSetStr P S w v zs) (hk : Ext w w') : PtrSetStr P S w' v zs := by
  rcases h with h | ⟨b, ov, iv, tail, te, D, c, h1, h2⟩
  · exact .inl h
  · exact .inr ⟨b, ov, iv, tail, te, D, c, h1, h2.ext hk⟩
theorem PtrSetStr.len {P : Program} {S : Nat → Prop} {w : World} {v : Value} {zs : List (ByteArray)} (h : PtrSetStr P S w v zs) : zs.length ≤ 8388000 * 1048576 := by
  rcases h with ⟨_, rfl⟩ | ⟨b, ov, iv, tail, te, D, c, h1, h2⟩
  · simp
  · exact h2.len

theorem setItemsStr_ptr {S : Nat → Prop} {w : World} {v : Value} {zs : List (ByteArray)} (h : PtrSetStr Tryz.prog S w v zs) :
    Calls Tryz.prog 13 #[v] w (RetN w fun w' r => Row w' 9 1 r zs.length (zs.map fun x => (Value.string (x))) (New w)) := by
  rcases h with ⟨rfl, rfl⟩ | ⟨b, ov, iv, tail, te, D, c, rfl, h2⟩
  · refine (setItemsStr_nil w).mono ?_
    rintro e w' ⟨rfl, rfl⟩
    exact RetN.mk (Kp.refl _) (Row.nil _ _ _ _)
  · exact setItemsStr_any h2

theorem OrdVStr.form {P : Program} {S : Nat → Prop} {w0 : World} {ov : Value} {D : ByteArray → Prop} {c : ByteArray → ByteArray → Int} (h : OrdVStr P S w0 ov D c) : ov = .nilFunc ∨ ∃ f first cap, ov = .func f first cap := by
  rcases h with ⟨h, _⟩ | ⟨f, first, cap, h, _⟩
  · exact .inl h
  · exact .inr ⟨_, _, _, h⟩

theorem setAtStr_new {P : Program} {S : Nat → Prop} {w w1 : World} {ov iv : Value} {D : ByteArray → Prop} {c : ByteArray → ByteArray → Int} {zs : List (ByteArray)} {M : Nat → Prop} (ho : OrdVStr P S w ov D c) (hS : ∀ k, S k → k < w.heap.size) (hex : Ext w w1)
    (hr : Row w1 9 1 iv zs.length (zs.map fun x => (Value.string (x))) M) (hD : ∀ x ∈ zs, D x) (hl : zs.length ≤ 8388000 * 1048576) (te : TypeId) (hM : ∀ k, M k → w.heap.size ≤ k := by exact fun k h => h) :
    SetAtStr P S (w1.alloc (.cells #[ov, iv] te)) w1.heap.size ov iv [] te D c zs := by
  refine ⟨Blk.new w1 [ov, iv] te, (hr.own).alloc _, fun h => by have := hr.lt _ h; omega, fun k h => Nat.lt_of_lt_of_le (hS k h) (hex.alloc _).size, fun k h hs => ?_, ho.same ((hex.alloc _).same hS fun _ _ => id), hD, hl⟩
  have h1 := hS k hs
  have h2 := hex.size
  rcases h with h | h
  · omega
  · have := hM k (hr.block k h); omega

section
variable {S : Nat → Prop} {w : World} {b : Nat} {ov iv : Value} {tail : List Value} {te : TypeId} {D : ByteArray → Prop} {c : ByteArray → ByteArray → Int} {zs : List (ByteArray)}

set_option maxRecDepth 100000 in
set_option maxHeartbeats 2000000 in
theorem setCopyStr_any (h : SetAtStr Tryz.prog S w b ov iv tail te D c zs) :
    Calls Tryz.prog 17 #[.pointer (some ⟨b, 0, none⟩)] w
      (RetN w fun w' v => ∃ b' iv', v = .pointer (some ⟨b', 0, none⟩) ∧ w.heap.size ≤ b' ∧ (∀ k, iv'.ownBlock = some k → w.heap.size ≤ k) ∧ SetAtStr Tryz.prog S w' b' ov iv' [] 81 D c zs) := by
  obtain ⟨c1, c2⟩ := h.cells
  obtain ⟨ao, cap, rfl, hc, _⟩ := h.row.shape
  have hform := h.ord.form
  have hl := h.len
  have HC := Lib.hid hc; clear hc
  have HH := Lib.hid h; clear h
  rcases hform with rfl | ⟨f1, first1, cap1, rfl⟩
  · go_enter Tryz.func17, Tryz.ntmps17
    go_wp2
    go_region_held3 (fun w' => w'.cell? ⟨b, 0, none⟩ = some .nilFunc ∧ w'.cell? ⟨b, 1, none⟩ = some (.slice ao zs.length cap)) (first | exact ⟨by assumption, by assumption⟩ | go_keep)
      (first | (go_at_call 49; refine (cloneStr_any (zs.map fun x => (Value.string (x))) ao cap _ zs.length (by simp) (HC.out.drewN 1) (by intro u hu; obtain ⟨x, _, rfl⟩ := List.mem_map.1 hu; rfl) (by omega)).mono ?_; rintro e w1 ⟨v, rfl, hk, hr⟩; obtain ⟨ao1, cap2, ev, _, _⟩ := hr.shape; subst ev; have d1 := hk.cell c1 id; have d2 := hk.cell c2 id))
    go_wp2
    go_ret
    have hex : Ext w w1 := (Kp.refl w).drew.trans hk
    exact RetN.mk (hex.alloc _) ⟨w1.heap.size, .slice ao1 zs.length cap2, rfl, hex.size, (fun k hk' => hr.block k hk'), setAtStr_new HH.out.ord HH.out.inS hex hr HH.out.all hl _⟩
  · go_enter Tryz.func17, Tryz.ntmps17
    go_wp2
    go_region_held3 (fun w' => w'.cell? ⟨b, 0, none⟩ = some (.func f1 first1 cap1) ∧ w'.cell? ⟨b, 1, none⟩ = some (.slice ao zs.length cap)) (first | exact ⟨by assumption, by assumption⟩ | go_keep)
      (first | (go_at_call 49; refine (cloneStr_any (zs.map fun x => (Value.string (x))) ao cap _ zs.length (by simp) (HC.out.drewN 1) (by intro u hu; obtain ⟨x, _, rfl⟩ := List.mem_map.1 hu; rfl) (by omega)).mono ?_; rintro e w1 ⟨v, rfl, hk, hr⟩; obtain ⟨ao1, cap2, ev, _, _⟩ := hr.shape; subst ev; have d1 := hk.cell c1 id; have d2 := hk.cell c2 id))
    go_wp2
    go_ret
    have hex : Ext w w1 := (Kp.refl w).drew.trans hk
    exact RetN.mk (hex.alloc _) ⟨w1.heap.size, .slice ao1 zs.length cap2, rfl, hex.size, (fun k hk' => hr.block k hk'), setAtStr_new HH.out.ord HH.out.inS hex hr HH.out.all hl _⟩

set_option maxRecDepth 100000 in
set_option maxHeartbeats 2000000 in
theorem setUnderStr_any (O : OrdLaw c) {vo : Value} {zs2 : List (ByteArray)} (h : SetAtStr Tryz.prog S w b ov iv tail te D c zs) (h2 : PtrSetStr Tryz.prog S w vo zs2) (hD : ∀ x ∈ zs2, D x) :
    Calls Tryz.prog 45 #[.pointer (some ⟨b, 0, none⟩), vo] w
      (RetN w fun w' v => ∃ b' iv', v = .pointer (some ⟨b', 0, none⟩) ∧ w.heap.size ≤ b' ∧ (∀ k, iv'.ownBlock = some k → w.heap.size ≤ k) ∧ SetAtStr Tryz.prog S w' b' ov iv' [] 81 D c (newS c zs2)) := by
  obtain ⟨c1, c2⟩ := h.cells
  have hl := h2.len
  have HH := Lib.hid h; clear h
  have H2 := Lib.hid h2; clear h2
  go_enter Tryz.func45, Tryz.ntmps45
  go_wp2
  go_region_held3 (fun w' => w'.cell? ⟨b, 0, none⟩ = some ov) (first | assumption | go_keep)
    (first
      | (go_at_call 13; refine (setItemsStr_ptr (H2.out.ext (Kp.refl w).drew)).mono ?_; rintro e w1 ⟨v, rfl, hk, hr⟩; obtain ⟨ao1, cap2, ev, hcc, _⟩ := hr.shape; subst ev; have d1 := hk.cell c1 id; have hex : Ext w w1 := (Kp.refl w).drew.trans hk)
      | (go_at_call 20; refine (newSetStr_any S _ ov ao1 zs2.length cap2 D c O zs2 rfl hcc (fun k hk => Nat.lt_of_lt_of_le (HH.out.inS k hk) hex.size) (HH.out.ord.same (hex.same HH.out.inS fun _ _ => id)) hD hl).mono ?_; rintro e w2 ⟨v2, rfl, hk2, b', iv', rfl, hb', hiv', hset⟩; have d2 := hk2.cell d1 id))
  go_wp2
  go_ret
  exact RetN.mk (hex.trans hk2) ⟨b', iv', rfl, Nat.le_trans hex.size hb', fun k h => Nat.le_trans hex.size (hiv' k h), hset⟩
end
end Go.Proofs.YtfkhelihepbehaaGreat

/- tuple.Set at string: pick, Minus, Meet, Same. -/
namespace Go.Proofs.YtfkhelihepbehaaGreat
open Go.RowKit
set_option linter.unusedVariables false

/-- A test that pick may ask: of any of zs, in every world in which all old blocks are as they were. -/
def TestOnStr (P : Program) (f : FuncId) (first captured : Array Value) (w0 : World) (zs : List (ByteArray)) (p : ByteArray → Bool) : Prop :=
  (∀ args w, (callFunc f args).run P w = .ok (Next.enter f args) w) ∧ ∀ w, Ext w0 w → ∀ x ∈ zs, Calls P f (first.push ((Value.string (x))) ++ captured) w fun e w' => e = .returned (.bool (p x)) ∧ Ext w w'

/-- Between two rounds of pick. -/
def PickAtStr (n : Nat) (w0 : World) (b : Nat) (ov : Value) (te : TypeId) (p : ByteArray → Bool) (zs : List (ByteArray)) (kv : Value) (w : World) : Prop :=
  ∃ i : Nat, i ≤ n ∧ kv = .int .i64 i ∧ Ext w0 w ∧ ∃ rv, Blk w b [ov, rv] te ∧ Row w 9 1 rv ((zs.take i).filter p).length (((zs.take i).filter p).map fun x => (Value.string (x))) (fun g => w0.heap.size ≤ g ∧ g ≠ b)

section
variable {S : Nat → Prop} {w : World} {b : Nat} {ov iv : Value} {tail : List Value} {te : TypeId} {D : ByteArray → Prop} {c : ByteArray → ByteArray → Int} {zs : List (ByteArray)}

set_option maxRecDepth 100000 in
set_option maxHeartbeats 4000000 in
theorem setPickStr_any (h : SetAtStr Tryz.prog S w b ov iv tail te D c zs) (f : FuncId) (first captured : Array Value) (p : ByteArray → Bool) (hp : TestOnStr Tryz.prog f first captured w zs p) :
    Calls Tryz.prog 44 #[.pointer (some ⟨b, 0, none⟩), .func (Fn.func f) first captured] w
      (RetN w fun w' v => ∃ b' iv', v = .pointer (some ⟨b', 0, none⟩) ∧ w.heap.size ≤ b' ∧ (∀ k, iv'.ownBlock = some k → w.heap.size ≤ k) ∧ SetAtStr Tryz.prog S w' b' ov iv' [] 81 D c (zs.filter p)) := by
  obtain ⟨c1, c2⟩ := h.cells
  obtain ⟨ao, cap, rfl, hc, hcap⟩ := h.row.shape
  have hform := h.ord.form
  have hl := h.len
  obtain ⟨n, en⟩ : ∃ n, n = zs.length := ⟨_, rfl⟩
  rw [← en] at c2 hl hcap
  have hent := hp.1
  have HP := Lib.hid hp.2; clear hp
  have HC := Lib.hid hc; clear hc
  have EN := Lib.hid en
  have HH := Lib.hid h; clear h
  have hb0 : b < w.heap.size := HH.out.blk.lt
  clear en
  rcases hform with rfl | ⟨f1, first1, cap1, rfl⟩
  · go_enter Tryz.func44, Tryz.ntmps44
    go_wp2
    obtain ⟨b', eb⟩ : ∃ b', b' = w.heap.size := ⟨_, rfl⟩
    rw [← eb]
    have hbw : w.heap.size ≤ b' := by omega
    have EB := Lib.hid eb; clear eb
    go_loopw [19] (PickAtStr n w b' .nilFunc 81 p zs) (fun k _ => n - (intOf k).toNat)
    case atStart => exact ⟨0, Nat.zero_le _, rfl, (Kp.refl w).alloc _, .slice none 0 0, by rw [EB.out]; exact Blk.new w [_, _] _, by simpa using Row.nil _ _ _ _⟩
    case round =>
      obtain ⟨i, hi, rfl, hex, rv, hB, hr⟩ := hrel
      by_cases hlt : i < n
      · obtain ⟨x, ex⟩ : ∃ x, x = zs[i]'(by have := EN.out; omega) := ⟨_, rfl⟩
        have hx : zs[i]? = some x := by rw [ex]; exact List.getElem?_eq_getElem _
        have hmem : x ∈ zs := List.mem_of_getElem? hx
        obtain ⟨g1, o1, eao, c3⟩ := (HC.out.ext hex) i ((Value.string (x))) (by rw [List.getElem?_map, hx]; rfl)
        subst eao
        have hstep := pick_step p zs i x hx
        have HX := Lib.hid (And.intro hx hstep); clear hx hstep ex
        obtain ⟨ao2, cap2, erv, _, _⟩ := hr.shape
        subst erv
        have hcall := HP.out _ hex x hmem
        cases hpx : p x
        · rw [hpx] at hcall
          have HPX := Lib.hid hpx; clear hpx
          have HB := Lib.hid (And.intro hB hr); clear hB hr
          go_wp2_with fail
          refine hcall.mono ?_
          clear hcall
          rintro e w1 ⟨rfl, hk1⟩
          have hex1 := hex.trans hk1
          have HB1 := Lib.hid (And.intro (HB.out.1.ext hk1) (HB.out.2.ext hk1))
          clear hk1 c3
          go_wp2
          go_roundw
          case rel =>
            refine ⟨i + 1, by omega, by first | rfl | (congr 1; done) | (congr 1; omega), hex1, _, HB1.out.1, ?_⟩
            rw [HX.out.2, HPX.out]
            simpa using HB1.out.2
          case measure => simp [intOf]; omega
        · rw [hpx] at hcall
          have HPX := Lib.hid hpx; clear hpx
          have HB := Lib.hid (And.intro hB hr); clear hB hr
          go_wp2_with fail
          refine hcall.mono ?_
          clear hcall
          rintro e w1 ⟨rfl, hk1⟩
          have hex1 := hex.trans hk1
          have hB1 := HB.out.1.ext hk1
          have hr1 := HB.out.2.ext hk1
          have d1 : w1.cell? ⟨b', 1, none⟩ = some (.slice ao2 ((zs.take i).filter p).length cap2) := by rw [hB1.cell']; rfl
          have hbl : b' < w1.heap.size := hB1.lt
          have hfl := List.length_filter_le p (zs.take i)
          have htl : (zs.take i).length ≤ n := by have := EN.out; simp; omega
          have HB1 := Lib.hid (And.intro hB1 hr1)
          clear hB1 hr1 hk1 c3
          go_wp2_with (first | (at_builtin; refine Halted.out ?_))
          refine Halted.mk (wp_app elemStr rfl _ _ rfl (F := fun _ => False) (w0 := w) (hex1.alloc (.cells #[(Value.string (x))] 9)) (M := fun g => w.heap.size ≤ g ∧ g ≠ b') (fun g h h' => by omega) (fun g h => by rw [alloc_size] at h; have := hex1.size; exact ⟨by omega, by omega⟩) rfl (HB1.out.2.alloc _) rfl rfl (CellsAt.one w1 ((Value.string (x))) 9) (by simp; rfl) (by omega) (by unfold maxLen; omega) ?_)
          intro v1 w2 hr2 hk2 hk3 _
          obtain ⟨ao3, cap3, ev1, _, _⟩ := hr2.shape
          subst ev1
          have hB2 : Blk w2 b' [_, .slice ao2 ((zs.take i).filter p).length cap2] 81 := (HB1.out.1.alloc _).kp hk3 (fun e => (HB1.out.2.block _ e).2 rfl)
          have d2 : w2.cell? ⟨b', 1, none⟩ = some (.slice ao2 ((zs.take i).filter p).length cap2) := by rw [hB2.cell']; rfl
          have f2 := hB2.free 1
          have HB2 := Lib.hid (And.intro hB2 hr2)
          clear hB2 hr2 hk3 d1
          go_wp2
          go_roundw
          case rel =>
            obtain ⟨hB2, hr2⟩ := HB2.out
            refine ⟨i + 1, by omega, by first | rfl | (congr 1; done) | (congr 1; omega), hk2.setCell (fun h => by exfalso; simp only at h; omega) _, _, hB2.set 1 _, ?_⟩
            rw [HX.out.2, HPX.out]
            have hr3 := hr2.kp (Kp.setCell (F := fun k => k = b') (Kp.refl w2) (p := ⟨b', 1, none⟩) (fun _ => rfl) (.slice ao3 (((zs.take i).filter p).length + 1) cap3)) (fun g h => h.2)
            simpa using hr3
          case measure => simp [intOf]; omega
      · go_wp2
        go_ret
        have hi' : zs.take i = zs := List.take_of_length_le (by have := EN.out; omega)
        rw [hi'] at hr
        have hle := List.length_filter_le p zs
        refine RetN.mk hex ⟨b', rv, rfl, by omega, (fun k hk => (hr.block k hk).1), hB, hr.own, (fun e => (hr.block _ e).2 rfl), (fun k h => Nat.lt_of_lt_of_le (HH.out.inS k h) hex.size), (fun k h hs => ?_), HH.out.ord.same (hex.same HH.out.inS fun _ _ => id), (fun x hx => HH.out.all x (List.mem_filter.1 hx).1), by have := EN.out; omega⟩
        have h1 := HH.out.inS k hs
        rcases h with h | h
        · omega
        · have := (hr.block k h).1; omega
  · go_enter Tryz.func44, Tryz.ntmps44
    go_wp2
    obtain ⟨b', eb⟩ : ∃ b', b' = w.heap.size := ⟨_, rfl⟩
    rw [← eb]
    have hbw : w.heap.size ≤ b' := by omega
    have EB := Lib.hid eb; clear eb
    go_loopw [19] (PickAtStr n w b' (.func f1 first1 cap1) 81 p zs) (fun k _ => n - (intOf k).toNat)
    case atStart => exact ⟨0, Nat.zero_le _, rfl, (Kp.refl w).alloc _, .slice none 0 0, by rw [EB.out]; exact Blk.new w [_, _] _, by simpa using Row.nil _ _ _ _⟩
    case round =>
      obtain ⟨i, hi, rfl, hex, rv, hB, hr⟩ := hrel
      by_cases hlt : i < n
      · obtain ⟨x, ex⟩ : ∃ x, x = zs[i]'(by have := EN.out; omega) := ⟨_, rfl⟩
        have hx : zs[i]? = some x := by rw [ex]; exact List.getElem?_eq_getElem _
        have hmem : x ∈ zs := List.mem_of_getElem? hx
        obtain ⟨g1, o1, eao, c3⟩ := (HC.out.ext hex) i ((Value.string (x))) (by rw [List.getElem?_map, hx]; rfl)
        subst eao
        have hstep := pick_step p zs i x hx
        have HX := Lib.hid (And.intro hx hstep); clear hx hstep ex
        obtain ⟨ao2, cap2, erv, _, _⟩ := hr.shape
        subst erv
        have hcall := HP.out _ hex x hmem
        cases hpx : p x
        · rw [hpx] at hcall
          have HPX := Lib.hid hpx; clear hpx
          have HB := Lib.hid (And.intro hB hr); clear hB hr
          go_wp2_with fail
          refine hcall.mono ?_
          clear hcall
          rintro e w1 ⟨rfl, hk1⟩
          have hex1 := hex.trans hk1
          have HB1 := Lib.hid (And.intro (HB.out.1.ext hk1) (HB.out.2.ext hk1))
          clear hk1 c3
          go_wp2
          go_roundw
          case rel =>
            refine ⟨i + 1, by omega, by first | rfl | (congr 1; done) | (congr 1; omega), hex1, _, HB1.out.1, ?_⟩
            rw [HX.out.2, HPX.out]
            simpa using HB1.out.2
          case measure => simp [intOf]; omega
        · rw [hpx] at hcall
          have HPX := Lib.hid hpx; clear hpx
          have HB := Lib.hid (And.intro hB hr); clear hB hr
          go_wp2_with fail
          refine hcall.mono ?_
          clear hcall
          rintro e w1 ⟨rfl, hk1⟩
          have hex1 := hex.trans hk1
          have hB1 := HB.out.1.ext hk1
          have hr1 := HB.out.2.ext hk1
          have d1 : w1.cell? ⟨b', 1, none⟩ = some (.slice ao2 ((zs.take i).filter p).length cap2) := by rw [hB1.cell']; rfl
          have hbl : b' < w1.heap.size := hB1.lt
          have hfl := List.length_filter_le p (zs.take i)
          have htl : (zs.take i).length ≤ n := by have := EN.out; simp; omega
          have HB1 := Lib.hid (And.intro hB1 hr1)
          clear hB1 hr1 hk1 c3
          go_wp2_with (first | (at_builtin; refine Halted.out ?_))
          refine Halted.mk (wp_app elemStr rfl _ _ rfl (F := fun _ => False) (w0 := w) (hex1.alloc (.cells #[(Value.string (x))] 9)) (M := fun g => w.heap.size ≤ g ∧ g ≠ b') (fun g h h' => by omega) (fun g h => by rw [alloc_size] at h; have := hex1.size; exact ⟨by omega, by omega⟩) rfl (HB1.out.2.alloc _) rfl rfl (CellsAt.one w1 ((Value.string (x))) 9) (by simp; rfl) (by omega) (by unfold maxLen; omega) ?_)
          intro v1 w2 hr2 hk2 hk3 _
          obtain ⟨ao3, cap3, ev1, _, _⟩ := hr2.shape
          subst ev1
          have hB2 : Blk w2 b' [_, .slice ao2 ((zs.take i).filter p).length cap2] 81 := (HB1.out.1.alloc _).kp hk3 (fun e => (HB1.out.2.block _ e).2 rfl)
          have d2 : w2.cell? ⟨b', 1, none⟩ = some (.slice ao2 ((zs.take i).filter p).length cap2) := by rw [hB2.cell']; rfl
          have f2 := hB2.free 1
          have HB2 := Lib.hid (And.intro hB2 hr2)
          clear hB2 hr2 hk3 d1
          go_wp2
          go_roundw
          case rel =>
            obtain ⟨hB2, hr2⟩ := HB2.out
            refine ⟨i + 1, by omega, by first | rfl | (congr 1; done) | (congr 1; omega), hk2.setCell (fun h => by exfalso; simp only at h; omega) _, _, hB2.set 1 _, ?_⟩
            rw [HX.out.2, HPX.out]
            have hr3 := hr2.kp (Kp.setCell (F := fun k => k = b') (Kp.refl w2) (p := ⟨b', 1, none⟩) (fun _ => rfl) (.slice ao3 (((zs.take i).filter p).length + 1) cap3)) (fun g h => h.2)
            simpa using hr3
          case measure => simp [intOf]; omega
      · go_wp2
        go_ret
        have hi' : zs.take i = zs := List.take_of_length_le (by have := EN.out; omega)
        rw [hi'] at hr
        have hle := List.length_filter_le p zs
        refine RetN.mk hex ⟨b', rv, rfl, by omega, (fun k hk => (hr.block k hk).1), hB, hr.own, (fun e => (hr.block _ e).2 rfl), (fun k h => Nat.lt_of_lt_of_le (HH.out.inS k h) hex.size), (fun k h hs => ?_), HH.out.ord.same (hex.same HH.out.inS fun _ _ => id), (fun x hx => HH.out.all x (List.mem_filter.1 hx).1), by have := EN.out; omega⟩
        have h1 := HH.out.inS k hs
        rcases h with h | h
        · omega
        · have := (hr.block k h).1; omega
end
end Go.Proofs.YtfkhelihepbehaaGreat

/- tuple.Set at string: Minus, Meet, Same, Union. -/
namespace Go.Proofs.YtfkhelihepbehaaGreat
open Go.RowKit
set_option linter.unusedVariables false

section
variable {S : Nat → Prop} {w : World} {b : Nat} {ov iv : Value} {tail : List Value} {te : TypeId} {D : ByteArray → Prop} {c : ByteArray → ByteArray → Int} {zs : List (ByteArray)}

set_option maxRecDepth 100000 in
theorem setMinusFnStr_any (O : OrdLaw c) (bu : Nat) (eu : TypeId) (x : ByteArray) (hx : D x) (hs : Strict c zs) (h : SetAtStr Tryz.prog S w b ov iv tail te D c zs) (hB : Blk w bu [.pointer (some ⟨b, 0, none⟩)] eu) :
    Calls Tryz.prog 46 #[(Value.string (x)), .pointer (some ⟨bu, 0, none⟩)] w (fun e w' => e = .returned (.bool (!isIn c zs x)) ∧ Ext w w') := by
  have HF := Lib.hid (setHasStr_any O x hx hs h); clear h
  have c1 : w.cell? ⟨bu, 0, none⟩ = some (.pointer (some ⟨b, 0, none⟩)) := by rw [hB.cell']; rfl
  clear hB
  go_enter Tryz.func46, Tryz.ntmps46
  go_wp2_with fail
  refine HF.out.mono ?_
  rintro e w1 ⟨v, rfl, hk, rfl⟩
  have HK := Lib.hid hk; clear hk
  go_wp2
  go_ret
  exact ⟨rfl, HK.out⟩
theorem setMinusStr_nil (v : Value) (w : World) : Calls Tryz.prog 10 #[.pointer none, v] w (Ret (.pointer none) w) := by
  go_enter Tryz.func10, Tryz.ntmps10
  go_wp2
  go_ret
  exact Ret.mk rfl
set_option maxRecDepth 100000 in
set_option maxHeartbeats 2000000 in
theorem setMinusStr_any (O : OrdLaw c) {vo : Value} {zs2 : List (ByteArray)} (h : SetAtStr Tryz.prog S w b ov iv tail te D c zs) (h2 : PtrSetStr Tryz.prog S w vo zs2) (hD : ∀ x ∈ zs2, D x) :
    Calls Tryz.prog 10 #[.pointer (some ⟨b, 0, none⟩), vo] w
      (RetN w fun w' v => ∃ b' iv', v = .pointer (some ⟨b', 0, none⟩) ∧ w.heap.size ≤ b' ∧ (∀ k, iv'.ownBlock = some k → w.heap.size ≤ k) ∧ SetAtStr Tryz.prog S w' b' ov iv' [] 81 D c (zs.filter fun x => !isIn c (newS c zs2) x)) := by
  have HU := Lib.hid (setUnderStr_any O h h2 hD)
  have HH := Lib.hid h; clear h h2
  go_enter Tryz.func10, Tryz.ntmps10
  go_wp2_with fail
  refine HU.out.mono ?_
  rintro e w1 ⟨v, rfl, hk, b1, iv1, rfl, hb1, hiv1, hset⟩
  have HS := Lib.hid (And.intro hk hset); clear hk hset
  go_wp2_with fail
  have hent : ∀ args w, (callFunc 46 args).run Tryz.prog w = .ok (.enter 46 args) w := enters_of Tryz.func46 (by kernel_rfl) rfl
  have hex := HS.out.1.alloc (.cells #[.pointer (some ⟨b1, 0, none⟩)] 24)
  have hsz := HS.out.1.size
  have hBu := Blk.new w1 [.pointer (some ⟨b1, 0, none⟩)] 24
  have hset2 := HS.out.2.ext ((Kp.refl (F := fun _ => False) w1).alloc (.cells #[.pointer (some ⟨b1, 0, none⟩)] 24))
  refine (setPickStr_any (HH.out.ext hex) 46 #[] #[.pointer (some ⟨w1.heap.size, 0, none⟩)] _ ⟨hent, fun w' hw x hx => setMinusFnStr_any O w1.heap.size _ x (HH.out.all x hx) (Strict.new O zs2) (hset2.ext hw) (hBu.ext hw)⟩).mono ?_
  rintro e w2 ⟨v, rfl, hk2, b2, iv2, rfl, hb2, hiv2, hset3⟩
  have HR := Lib.hid hset3; clear hset3 hBu hset2
  go_wp2
  go_ret
  rw [alloc_size] at hb2 hiv2
  exact RetN.mk (hex.trans hk2) ⟨b2, iv2, rfl, by omega, fun k hk => by have := hiv2 k hk; omega, HR.out⟩
theorem setMeetStr_nil (v : Value) (w : World) : Calls Tryz.prog 9 #[.pointer none, v] w (Ret (.pointer none) w) := by
  go_enter Tryz.func9, Tryz.ntmps9
  go_wp2
  go_ret
  exact Ret.mk rfl
set_option maxRecDepth 100000 in
set_option maxHeartbeats 2000000 in
theorem setMeetStr_any (O : OrdLaw c) {vo : Value} {zs2 : List (ByteArray)} (h : SetAtStr Tryz.prog S w b ov iv tail te D c zs) (h2 : PtrSetStr Tryz.prog S w vo zs2) (hD : ∀ x ∈ zs2, D x) :
    Calls Tryz.prog 9 #[.pointer (some ⟨b, 0, none⟩), vo] w
      (RetN w fun w' v => ∃ b' iv', v = .pointer (some ⟨b', 0, none⟩) ∧ w.heap.size ≤ b' ∧ (∀ k, iv'.ownBlock = some k → w.heap.size ≤ k) ∧ SetAtStr Tryz.prog S w' b' ov iv' [] 81 D c (zs.filter fun x => isIn c (newS c zs2) x)) := by
  have HU := Lib.hid (setUnderStr_any O h h2 hD)
  have HH := Lib.hid h; clear h h2
  go_enter Tryz.func9, Tryz.ntmps9
  go_wp2_with fail
  refine HU.out.mono ?_
  rintro e w1 ⟨v, rfl, hk, b1, iv1, rfl, hb1, hiv1, hset⟩
  have HS := Lib.hid (And.intro hk hset); clear hk hset
  go_wp2_with fail
  have hent : ∀ args w, (callFunc 15 args).run Tryz.prog w = .ok (.enter 15 args) w := enters_of Tryz.func15 (by kernel_rfl) rfl
  have hsz := HS.out.1.size
  refine (setPickStr_any (HH.out.ext HS.out.1) 15 #[.pointer (some ⟨b1, 0, none⟩)] #[] _ ⟨hent, fun w' hw x hx => (setHasStr_any O x (HH.out.all x hx) (Strict.new O zs2) (HS.out.2.ext hw)).mono (by rintro e w2 ⟨v, rfl, hk, rfl⟩; exact ⟨rfl, hk⟩)⟩).mono ?_
  rintro e w2 ⟨v, rfl, hk2, b2, iv2, rfl, hb2, hiv2, hset3⟩
  have HR := Lib.hid hset3; clear hset3
  go_wp2
  go_ret
  exact RetN.mk (HS.out.1.trans hk2) ⟨b2, iv2, rfl, by omega, fun k hk => by have := hiv2 k hk; omega, HR.out⟩
theorem setLenStr_ptr {v : Value} (h : PtrSetStr Tryz.prog S w v zs) : Calls Tryz.prog 11 #[v] w (Ret (.int .i64 (zs.length : Nat)) w) := by
  rcases h with ⟨rfl, rfl⟩ | ⟨b, ov, iv, tail, te, D, c, rfl, h2⟩
  · exact setLenStr_nil w
  · exact setLenStr_any h2
theorem setSameStr_nil {v : Value} (h : PtrSetStr Tryz.prog S w v zs) : Calls Tryz.prog 12 #[.pointer none, v] w (Ret (.bool (decide (zs.length = 0))) w) := by
  have HL := Lib.hid (setLenStr_ptr h); clear h
  have key : ((zs.length : Int) == 0) = decide (zs.length = 0) := by
    rw [Bool.eq_iff_iff]; simp
  have HK := Lib.hid key; clear key
  go_enter Tryz.func12, Tryz.ntmps12
  go_wp2_with fail
  refine HL.out.mono ?_
  rintro e w' ⟨rfl, rfl⟩
  go_wp2
  go_ret
  exact Ret.mk (congrArg Value.bool HK.out.symm)
set_option maxRecDepth 100000 in
set_option maxHeartbeats 2000000 in
theorem setSameStr_any {vo : Value} {zs2 : List (ByteArray)} (h : SetAtStr Tryz.prog S w b ov iv tail te D c zs) (h2 : PtrSetStr Tryz.prog S w vo zs2) (hD : ∀ x ∈ zs2, D x) :
    Calls Tryz.prog 12 #[.pointer (some ⟨b, 0, none⟩), vo] w
      (RetF (fun _ => False) w fun w' v => ∃ r : Bool, v = .bool r ∧ (r = true ↔ zs.length = zs2.length ∧ ∀ (i : Nat) x y, zs[i]? = some x → zs2[i]? = some y → c x y = 0)) := by
  obtain ⟨c1, c2⟩ := h.cells
  obtain ⟨ao, cap, rfl, hc, _⟩ := h.row.shape
  have hl := h.len
  have hl2 := h2.len
  have hent : ∀ args w, (callFunc 48 args).run Tryz.prog w = .ok (.enter 48 args) w := enters_of Tryz.func48 (by kernel_rfl) rfl
  have HE := Lib.hid hent; clear hent
  have HC := Lib.hid hc; clear hc
  have HH := Lib.hid h; clear h
  have H2 := Lib.hid h2; clear h2
  have heq : ∀ w1, Ext w w1 → EqEachStr Tryz.prog 48 #[.pointer (some ⟨b, 0, none⟩)] #[] w1 (zs.map fun x => (Value.string (x))) (zs2.map fun x => (Value.string (x))) (fun i => decide (c (zs.getD i default) (zs2.getD i default) = 0)) := by
    intro w1 h1
    refine ⟨HE.out, fun w2 hw2 i u v hu hv => ?_⟩
    rw [List.getElem?_map] at hu hv
    cases hx : zs[i]? with
    | none => rw [hx] at hu; cases hu
    | some x =>
      cases hy : zs2[i]? with
      | none => rw [hy] at hv; cases hv
      | some y =>
        rw [hx] at hu; rw [hy] at hv
        have eu : u = (Value.string (x)) := by have := Option.some.inj hu; exact this.symm
        have ev : v = (Value.string (y)) := by have := Option.some.inj hv; exact this.symm
        subst eu ev
        have hh := HH.out.ext (h1.trans hw2)
        have e1 : zs.getD i default = x := by simp [List.getD, hx]
        have e2 : zs2.getD i default = y := by simp [List.getD, hy]
        simp only [e1, e2]
        exact setAlikeStr_any S w2 b ov _ te D c x y (HH.out.all x (List.mem_of_getElem? hx)) (hD y (List.mem_of_getElem? hy)) hh.blk hh.inS hh.ord
  have HEQ := Lib.hid heq; clear heq
  go_enter Tryz.func12, Tryz.ntmps12
  go_wp2
  go_region_held3 (fun w' => w'.cell? ⟨b, 1, none⟩ = some (.slice ao zs.length cap)) (first | assumption | go_keep)
    (first
      | (go_at_call 13; refine (setItemsStr_ptr (H2.out.ext (Kp.refl w).drew)).mono ?_; rintro e w1 ⟨v, rfl, hk, hr⟩; obtain ⟨ao1, cap2, ev, hcc, _⟩ := hr.shape; subst ev; have d1 := hk.cell c2 id; have hex : Ext w w1 := (Kp.refl w).drew.trans hk)
      | (go_at_call 47; refine (equalFuncStr_any (zs.map fun x => (Value.string (x))) (zs2.map fun x => (Value.string (x))) ao ao1 cap cap2 _ _ _ _ _ zs.length zs2.length (by simp) (by simp) (HC.out.ext hex) hcc (HEQ.out _ hex) (by omega) (by omega)).mono ?_; rintro e w2 ⟨v2, rfl, hk2, r, rfl, hr2⟩; have d2 := hk2.cell d1 id))
  all_goals
    go_wp2
    go_ret
    refine RetF.mk (hex.trans hk2) ⟨r, rfl, ?_⟩
    rw [hr2]
    refine and_congr_right fun hlen => ⟨fun H i x y hx hy => ?_, fun H i hi => ?_⟩
    · have hi := (List.getElem?_eq_some_iff.1 hx).1
      have := of_decide_eq_true (H i hi)
      rw [show zs.getD i default = x by simp [List.getD, hx], show zs2.getD i default = y by simp [List.getD, hy]] at this
      exact this
    · have g1 : zs[i]? = some (zs[i]'hi) := List.getElem?_eq_getElem _
      have g2 : zs2[i]? = some (zs2[i]'(by omega)) := List.getElem?_eq_getElem _
      have := H i _ _ g1 g2
      rw [show zs.getD i default = zs[i] by simp [List.getD, g1], show zs2.getD i default = zs2[i]'(by omega) by simp [List.getD, g2]]
      exact decide_eq_true this
theorem setUnionStr_nil (v : Value) (w : World) : Calls Tryz.prog 8 #[.pointer none, v] w (Ret (.pointer none) w) := by
  go_enter Tryz.func8, Tryz.ntmps8
  go_wp2
  go_ret
  exact Ret.mk rfl
set_option maxRecDepth 100000 in
set_option maxHeartbeats 2000000 in
theorem setUnionStr_any (O : OrdLaw c) {vo : Value} {zs2 : List (ByteArray)} (h : SetAtStr Tryz.prog S w b ov iv tail te D c zs) (h2 : PtrSetStr Tryz.prog S w vo zs2) (hD : ∀ x ∈ zs2, D x) (hll : zs.length + zs2.length ≤ 8388000 * 1048576) :
    Calls Tryz.prog 8 #[.pointer (some ⟨b, 0, none⟩), vo] w
      (RetN w fun w' v => ∃ b' iv', v = .pointer (some ⟨b', 0, none⟩) ∧ w.heap.size ≤ b' ∧ (∀ k, iv'.ownBlock = some k → w.heap.size ≤ k) ∧ SetAtStr Tryz.prog S w' b' ov iv' [] 81 D c (newS c (zs ++ zs2))) := by
  obtain ⟨c1, c2⟩ := h.cells
  obtain ⟨ao, cap, rfl, hc, _⟩ := h.row.shape
  have HC := Lib.hid hc; clear hc
  have HH := Lib.hid h; clear h
  have H2 := Lib.hid h2; clear h2
  have one : ∀ (l : List (ByteArray)), ∀ u ∈ l.map (fun x => (Value.string (x))), u.oneCell' = true := by intro l u hu; obtain ⟨x, _, rfl⟩ := List.mem_map.1 hu; rfl
  have ONE := Lib.hid one; clear one
  have conc : ∀ (w1 : World) (ao1 : Option Addr) (cap2 : Nat), Ext w w1 → CellsAt w1 ao1 (zs2.map fun x => (Value.string (x))) →
      Calls Tryz.prog 43 #[.slice (some ⟨w1.heap.size, 0, none⟩) 2 2] (w1.alloc (.cells #[.slice ao zs.length cap, .slice ao1 zs2.length cap2] 29))
        (RetN (w1.alloc (.cells #[.slice ao zs.length cap, .slice ao1 zs2.length cap2] 29)) fun w' v => ∃ ao3 cap3, v = .slice ao3 (zs.length + zs2.length) cap3 ∧ CellsAt w' ao3 ((zs ++ zs2).map fun x => (Value.string (x)))) := by
    intro w1 ao1 cap2 h1 hc1
    have hcs : CellsAt (w1.alloc (.cells #[.slice ao zs.length cap, .slice ao1 zs2.length cap2] 29)) (some ⟨w1.heap.size, 0, none⟩) (partsStr [(ao, cap, zs.map fun x => (Value.string (x))), (ao1, cap2, zs2.map fun x => (Value.string (x)))]) := by
      have := CellsAt.two w1 (.slice ao zs.length cap) (.slice ao1 zs2.length cap2) 29
      simpa [partsStr] using this
    have ht : totalStr [(ao, cap, zs.map fun x => (Value.string (x))), (ao1, cap2, zs2.map fun x => (Value.string (x)))] = zs.length + zs2.length := by simp [totalStr]
    refine (concatStr_any [(ao, cap, zs.map fun x => (Value.string (x))), (ao1, cap2, zs2.map fun x => (Value.string (x)))] _ 2 _ 2 rfl hcs ?_ (by rw [ht]; omega) (by omega)).mono ?_
    · intro q hq
      rcases List.mem_cons.1 hq with rfl | hq
      · exact ⟨(HC.out.ext h1).alloc _, ONE.out zs⟩
      · rcases List.mem_cons.1 hq with rfl | hq
        · exact ⟨hc1.alloc _, ONE.out zs2⟩
        · cases hq
    · rintro e w2 ⟨v, rfl, hk, hr⟩
      obtain ⟨ao3, cap3, ev, hcc, _⟩ := hr.shape
      refine RetN.mk hk ⟨ao3, cap3, by rw [ev, ht], ?_⟩
      simpa using hcc
  have HCONC := Lib.hid conc; clear conc
  go_enter Tryz.func8, Tryz.ntmps8
  go_wp2
  go_region_held3 (fun w' => w'.cell? ⟨b, 0, none⟩ = some ov ∧ w'.cell? ⟨b, 1, none⟩ = some (.slice ao zs.length cap)) (first | exact ⟨by assumption, by assumption⟩ | go_keep)
    (first
      | (go_at_call 13; refine (setItemsStr_ptr (H2.out.ext (Kp.refl w).drew)).mono ?_; rintro e w1 ⟨v, rfl, hk, hr⟩; obtain ⟨ao1, cap2, ev, hcc, _⟩ := hr.shape; subst ev; have d1 := hk.cell c1 id; have d2 := hk.cell c2 id; have hex : Ext w w1 := (Kp.refl w).drew.trans hk)
      | (go_at_call 43; refine (HCONC.out w1 ao1 cap2 hex hcc).mono ?_; rintro e w2 ⟨v2, rfl, hk2, ao3, cap3, rfl, hcc3⟩; have hex2 := (hex.alloc (.cells #[.slice ao zs.length cap, .slice ao1 zs2.length cap2] 29)).trans hk2; have e1 := hex2.cell c1 id; have e2 := hex2.cell c2 id)
      | (go_at_call 20; refine (newSetStr_any S _ ov ao3 (zs.length + zs2.length) cap3 D c O (zs ++ zs2) (by simp) hcc3 (fun k hk => Nat.lt_of_lt_of_le (HH.out.inS k hk) hex2.size) (HH.out.ord.same (hex2.same HH.out.inS fun _ _ => id)) (by intro x hx; rcases List.mem_append.1 hx with hx | hx; exact HH.out.all x hx; exact hD x hx) hll).mono ?_; rintro e w3 ⟨v3, rfl, hk3, b', iv', rfl, hb', hiv', hset⟩; have g1 := hk3.cell e1 id; have g2 := hk3.cell e2 id))
  all_goals
    go_wp2
    go_ret
    exact RetN.mk (hex2.trans hk3) ⟨b', iv', rfl, Nat.le_trans hex2.size hb', fun k h => Nat.le_trans hex2.size (hiv' k h), hset⟩
end
end Go.Proofs.YtfkhelihepbehaaGreat

/- tuple.Set at string: At, Each. -/
namespace Go.Proofs.YtfkhelihepbehaaGreat
open Go.RowKit
set_option linter.unusedVariables false

section
variable {S : Nat → Prop} {w : World} {b : Nat} {ov iv : Value} {tail : List Value} {te : TypeId} {D : ByteArray → Prop} {c : ByteArray → ByteArray → Int} {zs : List (ByteArray)}

set_option maxRecDepth 100000 in
theorem setAtStr_in (h : SetAtStr Tryz.prog S w b ov iv tail te D c zs) (k : Nat) (x : ByteArray) (hx : zs[k]? = some x) :
    Calls Tryz.prog 16 #[.pointer (some ⟨b, 0, none⟩), .int .i64 k] w (Ret (.tuple #[(Value.string (x)), .bool true]) w) := by
  obtain ⟨c1, c2⟩ := h.cells
  obtain ⟨ao, cap, rfl, hc, hcap⟩ := h.row.shape
  have HL := Lib.hid (setLenStr_any h)
  have hl := h.len
  have hk := (List.getElem?_eq_some_iff.1 hx).1
  obtain ⟨g, o, eao, c3⟩ := hc k ((Value.string (x))) (by rw [List.getElem?_map, hx]; rfl)
  subst eao
  clear h hc
  have t1 : decide ((k : Int) < 0) = false := by simp
  have t2 : decide ((k : Int) ≥ (zs.length : Int)) = false := by simp; omega
  have t3 : decide ((zs.length : Int) ≤ (k : Int)) = false := by simp; omega
  have t4 : (k : Int) < (zs.length : Int) := by omega
  go_enter Tryz.func16, Tryz.ntmps16
  go_wp2_with fail
  refine HL.out.mono ?_
  rintro e w' ⟨rfl, rfl⟩
  go_wp2
  go_ret2
  exact Ret.mk rfl
set_option maxRecDepth 100000 in
theorem setAtStr_out {v : Value} (h : PtrSetStr Tryz.prog S w v zs) (i : Int) (hi : i < 0 ∨ zs.length ≤ i) :
    Calls Tryz.prog 16 #[v, .int .i64 i] w (Ret (.tuple #[.string ⟨#[]⟩, .bool false]) w) := by
  have HL := Lib.hid (setLenStr_ptr h); clear h
  by_cases h0 : i < 0
  · have t1 : decide (i < 0) = true := by simp [h0]
    go_enter Tryz.func16, Tryz.ntmps16
    go_wp2
    go_ret2
    exact Ret.mk rfl
  · have t1 : decide (i < 0) = false := by simp; omega
    have t2 : decide (i ≥ (zs.length : Int)) = true := by simp; omega
    have t3 : decide ((zs.length : Int) ≤ i) = true := by simp; omega
    go_enter Tryz.func16, Tryz.ntmps16
    go_wp2_with fail
    refine HL.out.mono ?_
    rintro e w' ⟨rfl, rfl⟩
    go_wp2
    go_ret2
    exact Ret.mk rfl
end
end Go.Proofs.YtfkhelihepbehaaGreat

/- slices.IndexFunc, ContainsFunc at string. -/
namespace Go.Proofs.YtfkhelihepbehaaGreat
open Go.RowKit
set_option linter.unusedVariables false

/-- A function that tells of each element. -/
def TellEachStr (P : Program) (f : FuncId) (first captured : Array Value) (w0 : World) (vs : List Value) (q : Nat → Bool) : Prop :=
  (∀ args w, (callFunc f args).run P w = .ok (Next.enter f args) w) ∧ ∀ w, Ext w0 w → ∀ i u, vs[i]? = some u → Calls P f (first.push u ++ captured) w fun e w' => e = .returned (.bool (q i)) ∧ Ext w w'
/-- Between two rounds: none so far. -/
def NoneAtStr (n : Nat) (q : Nat → Bool) (w0 : World) (iv : Value) (w : World) : Prop :=
  ∃ i : Nat, i ≤ n ∧ iv = .int .i64 i ∧ (∀ j, j < i → q j = false) ∧ Ext w0 w
/-- The first place at which it holds; none: -1. -/
def FirstIsStr (n : Nat) (q : Nat → Bool) (v : Value) : Prop := (∃ i : Nat, i < n ∧ v = .int .i64 i ∧ q i = true ∧ ∀ j, j < i → q j = false) ∨ (v = .int .i64 (-1) ∧ ∀ j, j < n → q j = false)

set_option maxRecDepth 100000 in
set_option maxHeartbeats 2000000 in
theorem indexFuncStr_any (vs : List Value) (ao : Option Addr) (c : Nat) (f : FuncId) (first captured : Array Value) (q : Nat → Bool) (w : World) (n : Nat) (hn : n = vs.length)
    (ha : CellsAt w ao vs) (hcmp : TellEachStr Tryz.prog f first captured w vs q) (hbig : n ≤ 4611686018427387904) :
    Calls Tryz.prog 161 #[.slice ao n c, .func (Fn.func f) first captured] w (RetN w fun w' v => FirstIsStr n q v) := by
  have hent := hcmp.1
  have HC := Lib.hid hcmp.2; clear hcmp
  have HA := Lib.hid ha; clear ha
  have HN := Lib.hid hn; clear hn
  go_enter Tryz.func161, Tryz.ntmps161
  go_wp2
  go_loopw [8] (NoneAtStr n q w) (fun i _ => n - (intOf i).toNat)
  case atStart => exact ⟨0, Nat.zero_le _, rfl, by simp, Kp.refl _⟩
  case round =>
    obtain ⟨i, hi, rfl, hq, hkp⟩ := hrel
    have HQ := Lib.hid hq; clear hq
    by_cases hlt : i < n
    · have g1 : vs[i]? = some (vs[i]'(by have := HN.out; omega)) := List.getElem?_eq_getElem _
      obtain ⟨b1, o1, eao, c1⟩ := (HA.out.ext hkp) i _ g1
      have hcall := fun W hW => HC.out W hW i _ g1
      have HCall := Lib.hid hcall; clear hcall
      clear g1
      generalize vs[i]'(by have := HN.out; omega) = u at *
      subst eao
      cases hqi : q i
      · rw [hqi] at HCall
        have HI := Lib.hid hqi; clear hqi
        go_wp2_with fail
        refine (HCall.out _ hkp).mono ?_
        rintro e w1 ⟨rfl, hk2⟩
        have hkp2 := hkp.ext hk2
        clear hk2 c1
        go_wp2
        go_roundw
        case rel =>
          refine ⟨i + 1, by omega, by first | rfl | (congr 1; done) | (congr 1; omega), fun j hj => ?_, hkp2⟩
          by_cases e : j = i
          · subst e; exact HI.out
          · exact HQ.out j (by omega)
        case measure => first | (simp [intOf]; done) | (simp [intOf]; omega)
      · rw [hqi] at HCall
        have HI := Lib.hid hqi; clear hqi
        go_wp2_with fail
        refine (HCall.out _ hkp).mono ?_
        rintro e w1 ⟨rfl, hk2⟩
        have hkp2 := hkp.ext hk2
        clear hk2 c1
        go_wp2
        go_ret
        exact RetN.mk hkp2 (.inl ⟨i, hlt, rfl, HI.out, HQ.out⟩)
    · have e : n = i := by omega
      subst e
      clear hlt hi
      go_wp2
      go_ret
      exact RetN.mk hkp (.inr ⟨rfl, HQ.out⟩)

theorem containsFuncStr_any (vs : List Value) (ao : Option Addr) (c : Nat) (f : FuncId) (first captured : Array Value) (q : Nat → Bool) (w : World) (n : Nat) (hn : n = vs.length)
    (ha : CellsAt w ao vs) (hcmp : TellEachStr Tryz.prog f first captured w vs q) (hbig : n ≤ 4611686018427387904) :
    Calls Tryz.prog 135 #[.slice ao n c, .func (Fn.func f) first captured] w (RetN w fun w' v => v = .bool ((List.range n).any q)) := by
  have HI := Lib.hid (indexFuncStr_any vs ao c f first captured q w n hn ha hcmp hbig); clear ha hcmp hn
  go_enter Tryz.func135, Tryz.ntmps135
  go_wp2_with fail
  refine HI.out.mono ?_
  rintro e w1 ⟨v, rfl, hk, ⟨i, hi, rfl, hq, _⟩ | ⟨rfl, hq⟩⟩
  · have t : (List.range n).any q = true := List.any_eq_true.2 ⟨i, List.mem_range.2 hi, hq⟩
    have HK := Lib.hid (And.intro hk t); clear hk hq t
    go_wp2
    go_ret
    exact RetN.mk HK.out.1 (by rw [HK.out.2]; first | rfl | simp)
  · have t : (List.range n).any q = false := by
      rw [List.any_eq_false]
      intro i hi
      simp [hq i (List.mem_range.1 hi)]
    have HK := Lib.hid (And.intro hk t); clear hk hq t
    go_wp2
    go_ret
    exact RetN.mk HK.out.1 (by rw [HK.out.2]; first | rfl | simp)
end Go.Proofs.YtfkhelihepbehaaGreat

/- TupleLaws: the shapes of texts and lists of texts; rising: a set of the first texts of rows. -/
namespace Go.Proofs.YtfkhelihepbehaaGreat
open Go.RowKit
set_option linter.unusedVariables false

def shS : Shp Tryz.prog ByteArray := shStr 9 Tryz.underlying9 (by kernel_rfl)
def shL : Shp Tryz.prog (List ByteArray) := shSlice 29 shS Tryz.underlying29 (by kernel_rfl) (by decide)
def shLL : Shp Tryz.prog (List (List ByteArray)) := shSlice 22 shL Tryz.underlying22 (by kernel_rfl) (by decide)

/-- One row of a list of rows. -/
theorem rows_at {w : World} {G : Nat → Prop} {ao : Option Addr} {rs : List (List ByteArray)} (h : ElemsAt shL w G ao rs) {i : Nat} {row : List ByteArray} (hi : rs[i]? = some row) :
    ∃ b off a1 c1, ao = some ⟨b, off, none⟩ ∧ w.cell? ⟨b, off + i, none⟩ = some (.slice a1 row.length c1) ∧ CellsAt w a1 (strs row) ∧ row.length ≤ c1 := by
  obtain ⟨b, off, es, e, _, _, ⟨a1, c1, ee, hl, _, hc⟩, hcell⟩ := h i row hi
  refine ⟨b, off, a1, c1, e, ?_, elems_strs (hu := Tryz.underlying9) (hc := by kernel_rfl) hc, hl⟩
  have := hcell 0 (.slice a1 row.length c1) (by rw [ee]; rfl)
  rw [show shL.n = 1 from rfl, Nat.mul_one, Nat.add_zero] at this
  exact this

/-- The first texts. -/
def firsts (rs : List (List ByteArray)) : List ByteArray := rs.filterMap List.head?
theorem firsts_cons {rs : List (List ByteArray)} {i : Nat} {x : ByteArray} {xs : List ByteArray} (h : rs[i]? = some (x :: xs)) : firsts (rs.take (i + 1)) = firsts (rs.take i) ++ [x] := by
  rw [List.take_add_one, h]; simp [firsts]
theorem firsts_nil {rs : List (List ByteArray)} {i : Nat} (h : rs[i]? = some []) : firsts (rs.take (i + 1)) = firsts (rs.take i) := by
  rw [List.take_add_one, h]; simp [firsts]
theorem firsts_len (rs : List (List ByteArray)) : (firsts rs).length ≤ rs.length := List.length_filterMap_le _ _

/-- The order of texts. -/
def cS (a b : ByteArray) : Int := cmpRow [a] [b]
theorem cS_law : OrdLaw cS := ⟨fun x y => by unfold cS; have := cmpRow_swap [x] [y]; omega, fun x y z h h' => cmpRow_trans h h'⟩
theorem cS_tight : Tight cS := fun x y h => by have := cmpRow_zero h; simpa using this

theorem risingFn_any (x y : ByteArray) (w : World) : Calls Tryz.prog 42 #[.string x, .string y] w (fun e w' => e = .returned (.int .i64 (cS x y)) ∧ Ext w w') := by
  go_enter Tryz.func42, Tryz.ntmps42
  go_wp2_with fail
  have g1 := (Blk.new w [Value.string x] 9).alloc (.cells #[.string y] 9)
  have g2 := Blk.new (w.alloc (.cells #[.string x] 9)) [Value.string y] 9
  rw [alloc_size] at g2
  refine (tupleCompare_any [x] [y] _ _ 1 1 _ (CellsAt.pre (rest := []) g1) (CellsAt.pre (rest := []) g2) (by simp [maxLen]) (by simp [maxLen])).mono ?_
  rintro e w' ⟨rfl, rfl⟩
  clear g1 g2
  go_wp2
  go_ret
  exact ⟨rfl, ((Kp.refl w).alloc _).alloc _⟩
theorem rising_ord (S : Nat → Prop) (w : World) : OrdVStr Tryz.prog S w (.func (Fn.func 42) #[] #[]) (fun _ => True) cS := by
  refine .inr ⟨_, _, _, rfl, enters_of Tryz.func42 (by kernel_rfl) rfl, fun w' hw x y hx hy => risingFn_any x y w'⟩

/-- A set of texts that came since lo. -/
def TS (lo : Nat) (w : World) (v : Value) (zs : List ByteArray) : Prop :=
  ∃ b iv, v = .pointer (some ⟨b, 0, none⟩) ∧ lo ≤ b ∧ (∀ k, iv.ownBlock = some k → lo ≤ k) ∧ SetAtStr Tryz.prog (fun _ => False) w b (.func (Fn.func 42) #[] #[]) iv [] 81 (fun _ => True) cS zs
theorem TS.ext {lo : Nat} {w w' : World} {v : Value} {zs : List ByteArray} (h : TS lo w v zs) (hk : Ext w w') : TS lo w' v zs := by
  obtain ⟨b, iv, h1, h2, h3, h4⟩ := h
  exact ⟨b, iv, h1, h2, h3, h4.ext hk⟩
theorem TS.mono {lo lo' : Nat} {w : World} {v : Value} {zs : List ByteArray} (h : TS lo w v zs) (hl : lo' ≤ lo) : TS lo' w v zs := by
  obtain ⟨b, iv, h1, h2, h3, h4⟩ := h
  exact ⟨b, iv, h1, Nat.le_trans hl h2, fun k hk => Nat.le_trans hl (h3 k hk), h4⟩
/-- Blocks ahead of it may turn. -/
theorem TS.kp {lo : Nat} {w w' : World} {v : Value} {zs : List ByteArray} {F : Nat → Prop} (h : TS lo w v zs) (hk : Kp F w w') (hF : ∀ k, F k → lo ≤ k → False) : TS lo w' v zs := by
  obtain ⟨b, iv, h1, h2, h3, h4⟩ := h
  exact ⟨b, iv, h1, h2, h3, h4.kp hk (fun k hf ho => hF k hf (by rcases ho with rfl | ho; exact h2; exact h3 k ho)) (fun _ _ h => h)⟩
theorem TS.ptr {lo : Nat} {w : World} {v : Value} {zs : List ByteArray} (h : TS lo w v zs) : PtrSetStr Tryz.prog (fun _ => False) w v zs := by
  obtain ⟨b, iv, h1, _, _, h4⟩ := h
  exact .inr ⟨_, _, _, _, _, _, _, h1, h4⟩

set_option maxRecDepth 100000 in
set_option maxHeartbeats 2000000 in
theorem rising_any (rs : List (List ByteArray)) (ao : Option Addr) (n cap : Nat) (w : World) (G : Nat → Prop) (hn : n = rs.length) (h : ElemsAt shL w G ao rs) (hl : n ≤ 1048576) :
    Calls Tryz.prog 7 #[.slice ao n cap] w (RetN w fun w' v => TS w.heap.size w' v (newS cS (firsts rs))) := by
  have HN := Lib.hid hn; clear hn
  have HE := Lib.hid h; clear h
  go_enter Tryz.func7, Tryz.ntmps7
  go_wp2
  go_loopw [3, 4] (fun tv iv wr => ∃ i : Nat, i ≤ n ∧ iv = .int .i64 i ∧ Hid (Ext w wr) ∧ Hid (Row wr 9 1 tv (firsts (rs.take i)).length (strs (firsts (rs.take i))) (New w))) (fun _ iv _ => n - (intOf iv).toNat)
  case atStart => exact ⟨0, Nat.zero_le _, rfl, Kp.refl w, Row.nil _ _ _ _⟩
  case round =>
    obtain ⟨i, hi, rfl, hex, hr⟩ := hrel
    by_cases hlt : i < n
    · have hlt' : i < rs.length := by rw [← HN.out]; exact hlt
      obtain ⟨row, hrow⟩ : ∃ row, rs[i]? = some row := ⟨_, List.getElem?_eq_getElem hlt'⟩
      obtain ⟨b, off, a1, c1, eao, hcell, hcs, _⟩ := rows_at (HE.out.ext hex.out) hrow
      subst eao
      cases row with
      | nil =>
        have HF := Lib.hid (firsts_nil hrow)
        clear hrow hcs hlt'
        simp only [List.length_nil] at hcell
        go_wp2
        go_roundw
        case rel => exact ⟨i + 1, by omega, by first | rfl | (congr 1; done) | (congr 1; omega), hex, by rw [HF.out]; exact hr⟩
        case measure => simp [intOf]; omega
      | cons x xs =>
        have HF := Lib.hid (firsts_cons hrow)
        obtain ⟨m, em⟩ : ∃ m, m = xs.length := ⟨_, rfl⟩
        obtain ⟨b2, o2, ea1, hc2⟩ := hcs.str (k := 0) (by simp)
        subst ea1
        simp only [List.length_cons, List.getElem_cons_zero, Nat.add_zero] at hcell hc2
        rw [← em] at hcell
        have q1 : (0 : Int) < (m : Int) + 1 := by omega
        have q2 : (0 : Int) < ((m + 1 : Nat) : Int) := by omega
        have HR := Lib.hid hr.out
        obtain ⟨ao2, cap2, erv, _, _⟩ := hr.out.shape
        subst erv
        have hfl := firsts_len (rs.take i)
        have htl : (rs.take i).length ≤ n := by simp; omega
        clear hrow hcs hlt' em hr
        go_wp2_with (first | (at_builtin; refine Halted.out ?_))
        refine Halted.mk (wp_appN elemStr rfl _ _ rfl (hex.out.alloc (.cells #[.string x] 9)) rfl (HR.out.alloc _) rfl (CellsAt.one wr (.string x) 9) rfl (by simp; rfl) (by omega) (by unfold maxLen; omega) ?_)
        intro v1 w2 hr2 hk2 hk3 _
        obtain ⟨ao3, cap3, ev1, _, _⟩ := hr2.shape
        subst ev1
        have HR2 := Lib.hid (And.intro hk2 hr2)
        clear hr2 hk2 hk3 hcell hc2
        go_wp2
        go_roundw
        case rel =>
          refine ⟨i + 1, by omega, by first | rfl | (congr 1; done) | (congr 1; omega), HR2.out.1, ?_⟩
          have h := HR2.out.2
          rw [HF.out]
          refine Lib.hid ?_
          simpa [strs] using h
        case measure => simp [intOf]; omega
    · have ei : rs.take i = rs := List.take_of_length_le (by rw [← HN.out]; omega)
      rw [ei] at hr
      have hfl := firsts_len rs
      obtain ⟨ao2, cap2, erv, hc2, _⟩ := hr.out.shape
      subst erv
      have hz := hex.out.size
      have HS := Lib.hid (newSetStr_any (fun _ => False) wr (.func (Fn.func 42) #[] #[]) ao2 (firsts rs).length cap2 (fun _ => True) cS cS_law (firsts rs) rfl hc2 (fun _ h => h.elim) (rising_ord _ _) (fun _ _ => trivial) (by have := HN.out; omega))
      clear hc2 hr ei hfl
      go_wp2_with fail
      refine HS.out.mono ?_
      rintro e w2 ⟨v, rfl, hk, b, iv, rfl, hb, hi2, hs⟩
      have HH := Lib.hid (And.intro hk hs); clear hk hs
      go_wp2
      go_ret
      exact RetN.mk (hex.out.trans HH.out.1) ⟨b, iv, rfl, by omega, fun k hk => by have := hi2 k hk; omega, HH.out.2⟩
end Go.Proofs.YtfkhelihepbehaaGreat

/- Sets of texts behind pointers: each operation as one contract. -/
namespace Go.Proofs.YtfkhelihepbehaaGreat
open Go.RowKit
set_option linter.unusedVariables false

section
variable {lo lo2 : Nat} {w0 w : World} {v vo : Value} {zs zo : List ByteArray}
/-- What is written is newer. -/
theorem TS.old {w' : World} {F : Nat → Prop} (h : TS lo w v zs) (hk : Kp F w w') (hF : ∀ k, F k → w.heap.size ≤ k) : TS lo w' v zs := by
  obtain ⟨b, iv, h1, h2, h3, h4⟩ := h
  refine ⟨b, iv, h1, h2, h3, h4.kp hk (fun k hf ho => ?_) (fun _ _ h => h)⟩
  have := hF k hf
  rcases ho with rfl | ho
  · have := h4.blk.lt; omega
  · have := h4.row.lt _ ho; omega
theorem TS.strs_one (zs : List ByteArray) : (zs.map fun x => Value.string x) = strs zs := rfl
theorem ts_len (h : TS lo w v zs) {n : Nat} (e : zs.length = n) : Calls Tryz.prog 11 #[v] w (Ret (.int .i64 (n : Nat)) w) := by
  subst e; exact setLenStr_ptr h.ptr
theorem ts_items (h : TS lo w v zs) : Calls Tryz.prog 13 #[v] w (RetN w fun w' r => Row w' 9 1 r zs.length (strs zs) (New w)) := setItemsStr_ptr h.ptr
theorem ts_union (h : TS lo w v zs) (ho : TS lo2 w vo zo) (hl : zs.length + zo.length ≤ 8388000 * 1048576) : Calls Tryz.prog 8 #[v, vo] w (RetN w fun w' r => TS w.heap.size w' r (newS cS (zs ++ zo))) := by
  obtain ⟨b, iv, rfl, _, _, h4⟩ := h
  refine (setUnionStr_any cS_law h4 ho.ptr (fun _ _ => trivial) hl).mono ?_
  rintro e w' ⟨v, rfl, hk, b', iv', rfl, h1, h2, h3⟩
  exact RetN.mk hk ⟨b', iv', rfl, h1, h2, h3⟩
theorem ts_meet (h : TS lo w v zs) (ho : PtrSetStr Tryz.prog (fun _ => False) w vo zo) : Calls Tryz.prog 9 #[v, vo] w (RetN w fun w' r => TS w.heap.size w' r (meetS cS zs zo)) := by
  obtain ⟨b, iv, rfl, _, _, h4⟩ := h
  refine (setMeetStr_any cS_law h4 ho (fun _ _ => trivial)).mono ?_
  rintro e w' ⟨v, rfl, hk, b', iv', rfl, h1, h2, h3⟩
  exact RetN.mk hk ⟨b', iv', rfl, h1, h2, h3⟩
theorem ts_minus (h : TS lo w v zs) (ho : PtrSetStr Tryz.prog (fun _ => False) w vo zo) : Calls Tryz.prog 10 #[v, vo] w (RetN w fun w' r => TS w.heap.size w' r (minusS cS zs zo)) := by
  obtain ⟨b, iv, rfl, _, _, h4⟩ := h
  refine (setMinusStr_any cS_law h4 ho (fun _ _ => trivial)).mono ?_
  rintro e w' ⟨v, rfl, hk, b', iv', rfl, h1, h2, h3⟩
  exact RetN.mk hk ⟨b', iv', rfl, h1, h2, h3⟩
theorem ts_same (h : TS lo w v zs) (ho : TS lo2 w vo zo) (e : zs = zo) : Calls Tryz.prog 12 #[v, vo] w (RetN w fun w' r => r = .bool true) := by
  subst e
  obtain ⟨b, iv, rfl, _, _, h4⟩ := h
  refine (setSameStr_any h4 ho.ptr (fun _ _ => trivial)).mono ?_
  rintro e w' ⟨v, rfl, hk, r, rfl, hr⟩
  have : r = true := hr.2 ⟨rfl, fun i x y hx hy => by rw [hx] at hy; cases hy; exact cS_law.refl x⟩
  subst this
  exact RetN.mk hk rfl
theorem ts_has (h : TS lo w v zs) (hs : Strict cS zs) (x : ByteArray) {r : Bool} (e : isIn cS zs x = r) : Calls Tryz.prog 15 #[v, .string x] w (RetN w fun w' r' => r' = .bool r) := by
  subst e
  obtain ⟨b, iv, rfl, _, _, h4⟩ := h
  exact setHasStr_any cS_law x trivial hs h4
theorem ts_below (h : TS lo w v zs) (hs : Strict cS zs) (x : ByteArray) {i : Nat} (e : below cS zs x = i) : Calls Tryz.prog 14 #[v, .string x] w (RetN w fun w' r => r = .int .i64 i) := by
  subst e
  obtain ⟨b, iv, rfl, _, _, h4⟩ := h
  exact setBelowStr_any cS_law x trivial hs h4
theorem ts_at (h : TS lo w v zs) (i : Nat) (x : ByteArray) (hx : zs[i]? = some x) : Calls Tryz.prog 16 #[v, .int .i64 i] w (Ret (.tuple #[.string x, .bool true]) w) := by
  obtain ⟨b, iv, rfl, _, _, h4⟩ := h
  exact setAtStr_in h4 i x hx
theorem ts_out (h : TS lo w v zs) (i : Nat) (hx : zs.length ≤ i) : Calls Tryz.prog 16 #[v, .int .i64 i] w (Ret (.tuple #[.string ⟨#[]⟩, .bool false]) w) :=
  setAtStr_out h.ptr i (.inr (by omega))
theorem ts_copy (h : TS lo w v zs) : Calls Tryz.prog 17 #[v] w (RetN w fun w' r => TS w.heap.size w' r zs) := by
  obtain ⟨b, iv, rfl, _, _, h4⟩ := h
  refine (setCopyStr_any h4).mono ?_
  rintro e w' ⟨v, rfl, hk, b', iv', rfl, h1, h2, h3⟩
  exact RetN.mk hk ⟨b', iv', rfl, h1, h2, h3⟩
/-- What is written is its own. -/
theorem ts_add (h : TS lo w v zs) (hs : Strict cS zs) (x : ByteArray) {r : Bool} (e : isIn cS zs x = r) (hlo : lo ≤ w.heap.size) (hl : zs.length + 1 ≤ 8388000 * 1048576) : Calls Tryz.prog 18 #[v, .string x] w (RetF (fun k => lo ≤ k) w fun w' r' => r' = .bool (!r) ∧ TS lo w' v (addS cS zs x)) := by
  subst e
  obtain ⟨b, iv, rfl, h2, h3, h4⟩ := h
  refine (setAddStr_any cS_law x trivial hs h4 hl).mono ?_
  rintro e w' ⟨v, rfl, hk, rfl, iv', h5, h6⟩
  refine RetF.mk (hk.mono fun k _ ho => ?_) ⟨rfl, b, iv', rfl, h2, fun k hk => ?_, h5⟩
  · rcases ho with rfl | ho
    · exact h2
    · exact h3 k ho
  · rcases h6 k hk with h | h
    · exact h3 k h
    · exact Nat.le_trans hlo h
theorem ts_drop (h : TS lo w v zs) (hs : Strict cS zs) (x : ByteArray) {r : Bool} (e : isIn cS zs x = r) : Calls Tryz.prog 19 #[v, .string x] w (RetF (fun k => lo ≤ k) w fun w' r' => r' = .bool r ∧ TS lo w' v (dropS cS zs x)) := by
  subst e
  obtain ⟨b, iv, rfl, h2, h3, h4⟩ := h
  refine (setDropStr_any cS_law x trivial hs h4).mono ?_
  rintro e w' ⟨v, rfl, hk, rfl, iv', h5, h6⟩
  refine RetF.mk (hk.mono fun k _ ho => ?_) ⟨rfl, b, iv', rfl, h2, fun k hk => ?_, h5⟩
  · rcases ho with rfl | ho
    · exact h2
    · exact h3 k ho
  · rw [h6] at hk; exact h3 k hk
end

/-- A set of one text in which all are alike. -/
theorem lawsFn_any (x y : ByteArray) (w : World) : Calls Tryz.prog 21 #[.string x, .string y] w (fun e w' => e = .returned (.int .i64 0) ∧ Ext w w') := by
  go_enter Tryz.func21, Tryz.ntmps21
  go_wp2
  go_ret
  exact ⟨rfl, Kp.refl _⟩
theorem alike_law {α : Type} : OrdLaw (fun _ _ : α => (0 : Int)) := ⟨fun _ _ => by omega, fun _ _ _ _ h => h⟩
theorem laws_ord (S : Nat → Prop) (w : World) : OrdVStr Tryz.prog S w (.func (Fn.func 21) #[] #[]) (fun _ => True) (fun _ _ => (0 : Int)) := by
  refine .inr ⟨_, _, _, rfl, enters_of Tryz.func21 (by kernel_rfl) rfl, fun w' hw x y hx hy => ?_⟩
  exact lawsFn_any x y w'
theorem one_new (x : ByteArray) (w : World) (ao : Option Addr) (cap : Nat) (hc : CellsAt w ao (strs [x])) :
    Calls Tryz.prog 20 #[.func (Fn.func 21) #[] #[], .slice ao 1 cap] w (RetN w fun w' v => PtrSetStr Tryz.prog (fun _ => False) w' v [x]) := by
  refine (newSetStr_any (fun _ => False) w _ ao 1 cap (fun _ => True) (fun _ _ => 0) alike_law [x] rfl hc (fun _ h => h.elim) (laws_ord _ _) (fun _ _ => trivial) (by omega)).mono ?_
  rintro e w' ⟨v, rfl, hk, b, iv, rfl, _, _, h⟩
  exact RetN.mk hk (.inr ⟨_, _, _, _, _, _, _, rfl, h⟩)
end Go.Proofs.YtfkhelihepbehaaGreat

/- slices at []string: swapRangeCmpFunc and rotateCmpFunc: what they do to a row of cells. -/
namespace Go.Proofs.YtfkhelihepbehaaGreat
open Go.RowKit
set_option linter.unusedVariables false

def valRow (z : Nat → Option Addr × Nat × Nat) (i : Nat) : Value := (Value.slice (z (i)).1 (z (i)).2.1 (z (i)).2.2)


set_option maxHeartbeats 1000000 in
theorem swapRangeRow_any (z : Nat → Option Addr × Nat × Nat) (g n cap : Nat) (rest : List Value) (fv : Value) (w0 w : World) (hk0 : Kp (fun k => k = g) w0 w) (p X M Y q : List Nat) (hXY : X.length = Y.length)
    (hn : (p ++ X ++ M ++ Y ++ q).length = n) (hB : Blk w g ((p ++ X ++ M ++ Y ++ q).map (valRow z) ++ rest) 29) (hm : n ≤ 4611686018427387904) (a b m : Nat) (ea : a = p.length) (eb : b = (p.length + X.length + M.length : Nat)) (em : m = X.length) :
    Calls Tryz.prog 204 #[.slice (some ⟨g, 0, none⟩) n cap, .int .i64 a, .int .i64 b, .int .i64 m, fv] w
      (RetF (fun k => k = g) w0 fun w' v => v = .tuple #[] ∧ Blk w' g ((p ++ Y ++ M ++ X ++ q).map (valRow z) ++ rest) 29) := by
  simp only [List.length_append] at hn
  have b1 : a ≤ n := by omega
  have b2 : b + m ≤ n := by omega
  have b3 : a + m ≤ b := by omega
  have HX := Lib.hid hXY; clear hXY
  have HN := Lib.hid hn; clear hn
  have EA := Lib.hid ea; clear ea
  have EB := Lib.hid eb; clear eb
  have EM := Lib.hid em; clear em
  go_enter Tryz.func204, Tryz.ntmps204
  go_wp2
  go_loopw [10] (fun i wr => ∃ (k : Nat) (X1 X2 Y1 Y2 : List Nat), Hid (X = X1 ++ X2 ∧ Y = Y1 ++ Y2 ∧ X1.length = k ∧ Y1.length = k) ∧ k ≤ m ∧ i = .int .i64 k ∧ Kp (fun k => k = g) w0 wr ∧ Hid (Blk wr g ((p ++ Y1 ++ X2 ++ M ++ X1 ++ Y2 ++ q).map (valRow z) ++ rest) 29)) (fun i _ => m - (intOf i).toNat)
  case atStart => exact ⟨0, [], X, [], Y, ⟨rfl, rfl, rfl, rfl⟩, Nat.zero_le _, rfl, hk0, by show Blk _ _ _ _; simpa using hB⟩
  case round =>
    obtain ⟨k, X1, X2, Y1, Y2, HH, hkm, rfl, hkp, hb⟩ := hrel
    by_cases hlt : k < m
    · have key : ∃ x y X2' Y2', X2 = x :: X2' ∧ Y2 = y :: Y2' ∧ X2'.length + k + 1 = m := by
        obtain ⟨rfl, rfl, h3, h4⟩ := HH.out
        have h5 := EM.out; have h6 := HX.out
        simp only [List.length_append] at h5 h6
        cases X2 with
        | nil => simp at h5; omega
        | cons x X2 =>
          cases Y2 with
          | nil => simp at h6; simp at h5; omega
          | cons y Y2 => exact ⟨x, y, X2, Y2, rfl, rfl, by simp at h5; omega⟩
      obtain ⟨x, y, X2', Y2', rfl, rfl, hl2⟩ := key
      obtain ⟨s1, s2, c1, c2⟩ := swapCells (u := p ++ Y1) (v := X2' ++ M ++ X1) (t := Y2' ++ q) (x := x) (y := y) (i := a + k) (j := b + k) (by simpa using hb.out) (by
          have := EA.out; have := HH.out.2.2.2; simp; omega) (by
          have := EA.out; have := EB.out; have := EM.out; have := HH.out.2.2; simp; omega)
      have f1 := hb.out.free (a + k)
      have f2 := hb.out.free (b + k)
      have S1 := Lib.hid s1; have S2 := Lib.hid s2
      clear s1 s2
      unfold valRow at c1 c2
      have hne : ¬ (a + k = b + k) := by omega
      have hne' : ¬ (b + k = a + k) := by omega
      have HL2 := Lib.hid hl2; clear hl2
      obtain ⟨i1, i2, i3, i4⟩ := idx_facts (a := a) (b := k) (n := n) (by omega) hm
      obtain ⟨j1, j2, j3, j4⟩ := idx_facts (a := b) (b := k) (n := n) (by omega) hm
      go_wp2
      go_region
      clear i1 i2 i3 i4 j1 j2 j3 j4
      go_wp2
      go_roundw
      case rel =>
        refine ⟨k + 1, X1 ++ [x], X2', Y1 ++ [y], Y2', ⟨?_, ?_, ?_, ?_⟩, by omega, by go_num, ?_, ?_⟩
        · simpa using HH.out.1
        · simpa using HH.out.2.1
        · simpa using HH.out.2.2.1
        · simpa using HH.out.2.2.2
        · exact ((hkp.setCell (fun _ => rfl) _).setCell (fun _ => rfl) _).drew
        · exact S1.out.drew.congrL (by simp)
      case measure => simp [intOf]; omega
    · have key : X2 = [] ∧ Y2 = [] := by
        obtain ⟨rfl, rfl, h3, h4⟩ := HH.out
        have h5 := EM.out; have h6 := HX.out
        simp only [List.length_append] at h5 h6
        exact ⟨List.eq_nil_of_length_eq_zero (by omega), List.eq_nil_of_length_eq_zero (by omega)⟩
      obtain ⟨rfl, rfl⟩ := key
      go_wp2
      go_end0
      refine RetF.mk hkp ⟨rfl, ?_⟩
      obtain ⟨h1, h2, _, _⟩ := HH.out
      have h3 := hb.out
      rw [h1, h2]
      simpa using h3

theorem swapRangeRow_int (z : Nat → Option Addr × Nat × Nat) (g n cap : Nat) (rest : List Value) (fv : Value) (w0 w : World) (hk0 : Kp (fun k => k = g) w0 w) (p X M Y q : List Nat) (hXY : X.length = Y.length)
    (hn : (p ++ X ++ M ++ Y ++ q).length = n) (hB : Blk w g ((p ++ X ++ M ++ Y ++ q).map (valRow z) ++ rest) 29) (hm : n ≤ 4611686018427387904) (a b m : Int) (ea : a = (p.length : Nat)) (eb : b = (p.length + X.length + M.length : Nat)) (em : m = (X.length : Nat)) :
    Calls Tryz.prog 204 #[.slice (some ⟨g, 0, none⟩) n cap, .int .i64 a, .int .i64 b, .int .i64 m, fv] w
      (RetF (fun k => k = g) w0 fun w' v => v = .tuple #[] ∧ Blk w' g ((p ++ Y ++ M ++ X ++ q).map (valRow z) ++ rest) 29) := by
  subst ea eb em
  exact swapRangeRow_any z g n cap rest fv w0 w hk0 p X M Y q hXY hn hB hm _ _ _ rfl rfl rfl

set_option maxHeartbeats 1000000 in
theorem rotateRow_any (z : Nat → Option Addr × Nat × Nat) (g n cap : Nat) (rest : List Value) (fv : Value) (w0 w : World) (hk0 : Kp (fun k => k = g) w0 w) (p X Y q : List Nat) (hX : X ≠ []) (hY : Y ≠ [])
    (hn : (p ++ X ++ Y ++ q).length = n) (hB : Blk w g ((p ++ X ++ Y ++ q).map (valRow z) ++ rest) 29) (hm : n ≤ 4611686018427387904) (a m b : Nat) (ea : a = p.length) (em : m = p.length + X.length) (eb : b = p.length + X.length + Y.length) :
    Calls Tryz.prog 203 #[.slice (some ⟨g, 0, none⟩) n cap, .int .i64 a, .int .i64 m, .int .i64 b, fv] w
      (RetF (fun k => k = g) w0 fun w' v => v = .tuple #[] ∧ Blk w' g ((p ++ Y ++ X ++ q).map (valRow z) ++ rest) 29) := by
  have b1 : a < m := by have := List.length_pos_iff.2 hX; omega
  have b2 : m < b := by have := List.length_pos_iff.2 hY; omega
  have b3 : b ≤ n := by simp at hn; omega
  have HN := Lib.hid hn; clear hn
  have EA := Lib.hid ea; clear ea
  have EB := Lib.hid eb; clear eb
  have EM := Lib.hid em; clear em
  go_enter Tryz.func203, Tryz.ntmps203
  go_wp2
  go_loopw [10, 11] (fun i j wr => ∃ (x y : Nat) (p' X' Y' q' : List Nat), Hid (X'.length = x ∧ Y'.length = y ∧ p'.length + x = m ∧ p' ++ Y' ++ X' ++ q' = p ++ Y ++ X ++ q) ∧ 0 < x ∧ 0 < y ∧ x ≤ m ∧ m + y ≤ n ∧ i = .int .i64 x ∧ j = .int .i64 y ∧ Kp (fun k => k = g) w0 wr ∧ Hid (Blk wr g ((p' ++ X' ++ Y' ++ q').map (valRow z) ++ rest) 29)) (fun i j _ => (intOf i).toNat + (intOf j).toNat)
  case atStart =>
    have h1 := EA.out; have h2 := EB.out; have h3 := EM.out
    refine ⟨X.length, Y.length, p, X, Y, q, ⟨rfl, rfl, by omega, rfl⟩, by omega, by omega, by omega, by omega, ?_, ?_, hk0, hB⟩
    · congr 1; omega
    · congr 1; omega
  case round =>
    obtain ⟨x, y, p', X', Y', q', HH, hx, hy, hxm, hyn, rfl, rfl, hkp, hb⟩ := hrel
    have HNn : (p' ++ X' ++ Y' ++ q').length = n := by
      have h1 := congrArg List.length HH.out.2.2.2
      have h2 := HN.out
      simp at h1 h2 ⊢
      omega
    have HNN := Lib.hid HNn; clear HNn
    rcases Nat.lt_trichotomy y x with hlt | heq | hgt
    · have h1 : ((x : Int) != (y : Int)) = true := by rw [bne_iff_ne]; omega
      obtain ⟨hX1, hY1, hp1, ht⟩ := HH.out
      have HT := Lib.hid ht; clear ht
      have key : ∃ X1 X2, X' = X1 ++ X2 ∧ X1.length = y ∧ X2.length = x - y := ⟨_, _, (List.take_append_drop y X').symm, by simp; omega, by simp; omega⟩
      obtain ⟨X1, X2, rfl, lX1, lX2⟩ := key
      have HL := Lib.hid (And.intro hX1 (And.intro hY1 (And.intro hp1 (And.intro lX1 lX2))))
      clear hX1 hY1 hp1 lX1 lX2
      go_wp2_with fail
      refine (swapRangeRow_int z g n cap rest fv w0 wr hkp p' X1 X2 Y' q' (by have := HL.out; omega) (by simpa using HNN.out) (by simpa using hb.out) hm _ _ _ (by have := HL.out; omega) (by have := HL.out; omega) (by have := HL.out; omega)).mono ?_
      rintro e w1 ⟨v, rfl, hk1, rfl, hb1⟩
      have HB1 := Lib.hid hb1; clear hb1
      go_wp2
      go_roundw
      case rel =>
        refine ⟨x - y, y, p' ++ Y', X2, X1, q', ⟨by have := HL.out; omega, by have := HL.out; omega, by have := HL.out; simp; omega, by rw [← HT.out]; simp⟩, by omega, hy, by omega, hyn, ?_, rfl, hk1, HB1.out.congrL (by simp)⟩
        congr 1; omega
      case measure => simp [intOf]; omega
    · subst heq
      have h1 : ((y : Int) != (y : Int)) = false := by simp
      obtain ⟨hX1, hY1, hp1, ht⟩ := HH.out
      have HT := Lib.hid ht; clear ht
      have HL := Lib.hid (And.intro hX1 (And.intro hY1 hp1))
      clear hX1 hY1 hp1
      go_wp2_with fail
      refine (swapRangeRow_int z g n cap rest fv w0 wr hkp p' X' [] Y' q' (by have := HL.out; omega) (by simpa using HNN.out) (by simpa using hb.out) hm _ _ _ (by have := HL.out; omega) (by have := HL.out; simp; omega) (by have := HL.out; omega)).mono ?_
      rintro e w1 ⟨v, rfl, hk1, rfl, hb1⟩
      have HB1 := Lib.hid hb1; clear hb1
      go_wp2
      go_end0
      refine RetF.mk hk1 ⟨rfl, ?_⟩
      have := HT.out
      rw [← this]
      simpa using HB1.out
    · have h1 : ((x : Int) != (y : Int)) = true := by rw [bne_iff_ne]; omega
      obtain ⟨hX1, hY1, hp1, ht⟩ := HH.out
      have HT := Lib.hid ht; clear ht
      have key : ∃ Y1 Y2, Y' = Y1 ++ Y2 ∧ Y1.length = y - x ∧ Y2.length = x := ⟨_, _, (List.take_append_drop (y - x) Y').symm, by simp; omega, by simp; omega⟩
      obtain ⟨Y1, Y2, rfl, lY1, lY2⟩ := key
      have HL := Lib.hid (And.intro hX1 (And.intro hY1 (And.intro hp1 (And.intro lY1 lY2))))
      clear hX1 hY1 hp1 lY1 lY2
      go_wp2_with fail
      refine (swapRangeRow_int z g n cap rest fv w0 wr hkp p' X' Y1 Y2 q' (by have := HL.out; omega) (by simpa using HNN.out) (by simpa using hb.out) hm _ _ _ (by have := HL.out; omega) (by have := HL.out; omega) (by have := HL.out; omega)).mono ?_
      rintro e w1 ⟨v, rfl, hk1, rfl, hb1⟩
      have HB1 := Lib.hid hb1; clear hb1
      go_wp2
      go_roundw
      case rel =>
        refine ⟨x, y - x, p', Y2, Y1, X' ++ q', ⟨by have := HL.out; omega, by have := HL.out; omega, by have := HL.out; omega, by rw [← HT.out]; simp⟩, hx, by omega, by omega, by omega, rfl, ?_, hk1, HB1.out.congrL (by simp)⟩
        congr 1; omega
      case measure => simp [intOf]; omega
end Go.Proofs.YtfkhelihepbehaaGreat

/- slices.insertionSortCmpFunc at []string. -/
namespace Go.Proofs.YtfkhelihepbehaaGreat
open Go.RowKit
set_option linter.unusedVariables false

set_option maxRecDepth 100000 in
set_option maxHeartbeats 2000000 in
theorem insSortRow_any (z : Nat → Option Addr × Nat × Nat) (g n cap N : Nat) (rest : List Value) (f : FuncId) (first captured : Array Value) (c : Nat → Nat → Int) (L : CmpLaw c) (w0 w : World)
    (hcmp : CmpOn Tryz.prog f first captured g N w0 (valRow z) c) (hk0 : Kp (fun k => k = g) w0 w) (p seg q : List Nat) (hN : ∀ i ∈ seg, i < N) (hinc : seg.Pairwise (· < ·))
    (hn : (p ++ seg ++ q).length = n) (hB : Blk w g ((p ++ seg ++ q).map (valRow z) ++ rest) 29) (hm : n ≤ 4611686018427387904) (a b : Nat) (ea : a = p.length) (eb : b = p.length + seg.length) :
    Calls Tryz.prog 201 #[.slice (some ⟨g, 0, none⟩) n cap, .int .i64 a, .int .i64 b, .func (Fn.func f) first captured] w
      (RetF (fun k => k = g) w0 fun w' v => v = .tuple #[] ∧ ∃ C, C.Perm seg ∧ Sorted c C ∧ Blk w' g ((p ++ C ++ q).map (valRow z) ++ rest) 29) := by
  simp only [List.length_append] at hn
  have b1 : a ≤ b := by omega
  have b2 : b ≤ n := by omega
  have HN := Lib.hid hn; clear hn
  have EA := Lib.hid ea; clear ea
  have EB := Lib.hid eb; clear eb
  have HI := Lib.hid hinc; clear hinc
  have HNs := Lib.hid hN; clear hN
  have hent := hcmp.1
  have HC := Lib.hid hcmp.2; clear hcmp
  go_enter Tryz.func201, Tryz.ntmps201
  go_wp2
  go_loopw [8] (fun i wr => ∃ (k : Nat) (S R : List Nat), Hid ((seg = [] ∧ S = [] ∧ R = [] ∧ b < k ∨ S ≠ [] ∧ k = a + S.length ∧ S.length + R.length = seg.length) ∧ (S ++ R).Perm seg ∧ Sorted c S ∧ R.Pairwise (· < ·) ∧ ∀ s ∈ S, ∀ r ∈ R, s < r) ∧ k ≤ b + 1 ∧ i = .int .i64 k ∧ Kp (fun k => k = g) w0 wr ∧ Hid (Blk wr g ((p ++ S ++ R ++ q).map (valRow z) ++ rest) 29)) (fun i _ => b + 1 - (intOf i).toNat)
  case atStart =>
    have h1 := EA.out; have h2 := EB.out
    cases seg with
    | nil => exact ⟨a + 1, [], [], ⟨.inl ⟨rfl, rfl, rfl, by simp at h2; omega⟩, List.Perm.refl _, Sorted.nil, List.Pairwise.nil, by simp⟩, by omega, by go_num, hk0, hB.congrL (by simp)⟩
    | cons x seg =>
      have hp := List.pairwise_cons.1 HI.out
      exact ⟨a + 1, [x], seg, ⟨.inr ⟨by simp, rfl, by simp; omega⟩, List.Perm.refl _, Sorted.one x, hp.2, by simpa using hp.1⟩, by simp at h2; omega, by go_num, hk0, hB.congrL (by simp)⟩
  case round =>
    obtain ⟨k, S, R, HH, hkb, rfl, hkp, hb⟩ := hrel
    by_cases hlt : k < b
    · have key : ∃ x R', R = x :: R' ∧ k = a + S.length ∧ S ≠ [] ∧ S.length + R'.length + 1 = seg.length := by
        obtain ⟨h1, h2, h3, h4, h5⟩ := HH.out
        have e2 := EB.out; have e1 := EA.out
        rcases h1 with ⟨_, _, _, h⟩ | ⟨h, h', h''⟩
        · omega
        · cases R with
          | nil => simp at h''; omega
          | cons x R => exact ⟨x, R, rfl, h', h, by simp at h''; omega⟩
      obtain ⟨x, R', rfl, ek, hS, hSR⟩ := key
      have EK := Lib.hid ek; clear ek
      have HSR := Lib.hid hSR; clear hSR
      have HS := Lib.hid hS; clear hS
      go_wp2
      obtain ⟨wo, rfl⟩ : ∃ wo : World, wo = wr := ⟨_, rfl⟩
      go_loopw [9] (fun jv wr => ∃ (j : Nat) (S1 S2 : List Nat), Hid (S = S1 ++ S2 ∧ j = a + S1.length ∧ ∀ y ∈ S2, c x y < 0) ∧ a ≤ j ∧ j ≤ k ∧ jv = .int .i64 j ∧ Kp (fun k => k = g) w0 wr ∧ Hid (Blk wr g ((p ++ S1 ++ x :: S2 ++ R' ++ q).map (valRow z) ++ rest) 29)) (fun j _ => (intOf j).toNat)
      case atStart => exact ⟨k, S, [], ⟨by simp, EK.out, by simp⟩, by have := EK.out; omega, Nat.le_refl _, rfl, hkp, hb.out.congrL (by simp)⟩
      case round =>
        obtain ⟨j, S1, S2, HJ, haj, hjk, rfl, hkp1, hb1⟩ := hrel
        by_cases hgt : a < j
        · obtain ⟨j, rfl⟩ : ∃ j', j = j' + 1 := ⟨j - 1, by omega⟩
          have key : ∃ S1' y, S1 = S1' ++ [y] ∧ j = a + S1'.length := by
            obtain ⟨h1, h2, h3⟩ := HJ.out
            rcases List.eq_nil_or_concat S1 with rfl | ⟨l, y, rfl⟩
            · simp at h2; omega
            · exact ⟨l, y, by simp, by simp at h2; omega⟩
          obtain ⟨S1', y, rfl, ej⟩ := key
          obtain ⟨s1, s2, c1, c2⟩ := swapCells (f := valRow z) (rest := rest) (u := p ++ S1') (v := []) (t := S2 ++ R' ++ q) (x := y) (y := x) (i := j) (j := j + 1) (hb1.out.congrL (by simp)) (by have := EA.out; simp; omega) (by have := EA.out; simp; omega)
          have f1 := hb1.out.free j
          have f2 := hb1.out.free (j + 1)
          have hxN : x < N ∧ y < N := by
            have hp := HH.out.2.1
            have h1 := HJ.out.1
            refine ⟨HNs.out x (hp.subset (by simp)), HNs.out y (hp.subset (by rw [h1]; simp))⟩
          have hcall := fun W hW => HC.out W hW x y hxN.1 hxN.2
          have HCall := Lib.hid hcall; clear hcall
          have S1H := Lib.hid s1; have S2H := Lib.hid s2
          have EJ := Lib.hid ej; clear ej
          clear s1 s2 hxN
          unfold valRow at c1 c2
          obtain ⟨i1, i2, i3, i4, i5, i6, i7⟩ := idx_pred (k := j) (n := n) (by omega) hm
          have g1 : decide ((a : Int) < (j : Int) + 1) = true := by simp; omega
          generalize hcc : c x y = cc at HCall
          have HCC := Lib.hid hcc; clear hcc
          by_cases hneg : cc < 0
          · go_wp2
            go_still_tail 14, (by kernel_rfl)
            go_wp2_with fail
            refine (HCall.out _ hkp1.drew).mono ?_
            rintro e w1 ⟨rfl, hk2⟩
            have hkp2 : Kp (fun k => k = g) w0 w1 := hkp1.drew.ext hk2
            have hb2 : Blk w1 g ((p ++ (S1' ++ [y]) ++ x :: S2 ++ R' ++ q).map (valRow z) ++ rest) 29 := hb1.out.drew.ext hk2
            clear c1 c2 f1 f2 S1H S2H hk2
            obtain ⟨s1, s2, c1, c2⟩ := swapCells (f := valRow z) (rest := rest) (u := p ++ S1') (v := []) (t := S2 ++ R' ++ q) (x := y) (y := x) (i := j) (j := j + 1) (hb2.congrL (by simp)) (by have := EA.out; have := EJ.out; simp; omega) (by have := EA.out; have := EJ.out; simp; omega)
            have f1 := hb2.free j
            have f2 := hb2.free (j + 1)
            have S1H := Lib.hid s1; have S2H := Lib.hid s2
            clear s1 s2 hb2
            unfold valRow at c1 c2
            go_wp2
            go_region
            clear i1 i2 i3 i4 i5 i6 i7
            go_wp2
            go_roundw
            case rel =>
              refine ⟨j, S1', y :: S2, ⟨by have := HJ.out.1; simpa using this, EJ.out, ?_⟩, by omega, by omega, by go_num, ?_, ?_⟩
              · intro y' hy'
                rcases List.mem_cons.1 hy' with rfl | h
                · rw [HCC.out]; exact hneg
                · exact HJ.out.2.2 y' h
              · first | exact ((hkp2.setCell (fun _ => rfl) _).setCell (fun _ => rfl) _).drew | exact ((hkp2.drew.setCell (fun _ => rfl) _).setCell (fun _ => rfl) _)
              · first | exact S1H.out.drew.congrL (by simp) | exact S2H.out.drew.congrL (by simp)
            case measure => first | (simp [intOf]; done) | (simp [intOf]; omega)
          · have hneg' : ¬ (cc < 0) := hneg
            go_wp2
            go_still_tail 14, (by kernel_rfl)
            go_wp2_with fail
            refine (HCall.out _ hkp1.drew).mono ?_
            rintro e w1 ⟨rfl, hk2⟩
            have hkp2 : Kp (fun k => k = g) w0 w1 := hkp1.drew.ext hk2
            have hb2 : Blk w1 g ((p ++ (S1' ++ [y]) ++ x :: S2 ++ R' ++ q).map (valRow z) ++ rest) 29 := hb1.out.drew.ext hk2
            have HB2 := Lib.hid hb2
            clear c1 c2 f1 f2 S1H S2H hk2 hb2 i1 i2 i3 i4 i5 i6 i7
            go_wp2
            go_roundw
            case rel =>
              have hs := ins_step L HH.out.2.1 HH.out.2.2.1 HH.out.2.2.2.1 HH.out.2.2.2.2 HJ.out.1 HJ.out.2.2 (by
                intro y' hy'; simp at hy'; subst hy'; rw [HCC.out]; omega)
              refine ⟨k + 1, S1' ++ [y] ++ x :: S2, R', ⟨.inr ⟨by simp, ?_, ?_⟩, hs⟩, by omega, by go_num, hkp2, HB2.out.congrL (by simp)⟩
              · have h1 := EK.out; have h2 := congrArg List.length HJ.out.1; simp at h2 ⊢; omega
              · have h1 := HSR.out; have h2 := congrArg List.length HJ.out.1; simp at h2 ⊢; omega
            case measure => first | (simp [intOf]; done) | (simp [intOf]; omega)
        · have hja : j = a := by omega
          subst hja
          have key : S1 = [] := by
            have := HJ.out.2.1
            exact List.eq_nil_of_length_eq_zero (by omega)
          subst key
          have g1 : decide ((j : Int) < (j : Int)) = false := by simp
          have HB1 := Lib.hid hb1.out
          go_wp2
          go_quiet (fail)
          go_wp2
          go_roundw
          case rel =>
            have hs := ins_step L HH.out.2.1 HH.out.2.2.1 HH.out.2.2.2.1 HH.out.2.2.2.2 HJ.out.1 HJ.out.2.2 (by
              intro y' hy'; simp at hy')
            refine ⟨k + 1, x :: S2, R', ⟨.inr ⟨by simp, ?_, ?_⟩, by simpa using hs⟩, by omega, by go_num, hkp1.drewN _, (HB1.out.drewN _).congrL (by simp)⟩
            · have h1 := EK.out; have h2 := congrArg List.length HJ.out.1; simp at h2 ⊢; omega
            · have h1 := HSR.out; have h2 := congrArg List.length HJ.out.1; simp at h2 ⊢; omega
          case measure => first | (simp [intOf]; done) | (simp [intOf]; omega)
    · go_wp2
      go_end0
      obtain ⟨h1, h2, h3, h4, h5⟩ := HH.out
      have e2 := EB.out; have e1 := EA.out
      have hR : R = [] := by
        rcases h1 with ⟨_, _, h, _⟩ | ⟨_, h, h'⟩
        · exact h
        · exact List.eq_nil_of_length_eq_zero (by omega)
      subst hR
      exact RetF.mk hkp ⟨rfl, S, by simpa using h2, h3, hb.out.congrL (by simp)⟩
end Go.Proofs.YtfkhelihepbehaaGreat
