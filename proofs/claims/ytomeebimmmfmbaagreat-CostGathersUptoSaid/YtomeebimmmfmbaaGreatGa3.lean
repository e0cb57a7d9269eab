/- Texts joined for a claim (Law1, Draw, Flat, Body, Law2, Law3, Law4, Law5, Law6, Shelf, FloMono, ApartPlain, Apart, RefApart, OrdFns, OrdPlain). -/
import Derived.Test.YtomeebimmmfmbaaGreatGa2
import Derived.Laws.Externs
import Derived.Laws.StructEq
import Derived.Deep.RegionHeld3
import Derived.StillTailTactics
import Derived.Shelf.SlGeneric
import Derived.Ground.SlsfProg
import Derived.Ground.GgzProg
import Derived.Shelf.SlSortCmp.NoneTotal
import Derived.Shelf.SlIter.Sorted
import Derived.Test.YtomeebimmmfmbaaGreatProg
import Derived.OwnWalk
/- The law of costs: alike, great, ints, terms. -/
namespace Go.Proofs.YtomeebimmmfmbaaGreat
open Go.RowKit
set_option linter.unusedVariables false
attribute [local go_sem] run_store_float

theorem bits_run (b : Nat) (w : World) : (callFunc 30 #[.float .f64 b]).run Tryz.prog w = .ok (.value (.int .u64 b)) w := by
  rw [run_callFunc_extern (e := Extern.MathFloatBits.float64bits) Tryz.func30 (by kernel_rfl) (by kernel_rfl) (by kernel_rfl) (by kernel_rfl)]
  rfl
theorem frombits_run (b : Nat) (w : World) : (callFunc 11 #[.int .u64 b]).run Tryz.prog w = .ok (.value (.float .f64 b)) w := by
  rw [run_callFunc_extern (e := Extern.MathFloatBits.float64frombits) Tryz.func11 (by kernel_rfl) (by kernel_rfl) (by kernel_rfl) (by kernel_rfl)]
  rfl
set_option maxRecDepth 100000 in
theorem alike_any (x : Nat) (w : World) : Calls Tryz.prog 10 #[.float .f64 x, .float .f64 x] w (RetN w fun w' v => v = .bool true) := by
  have hb := bits_run
  go_enter Tryz.func10, Tryz.ntmps10
  go_wp2
  go_ret
  exact RetN.mk (Kp.refl w) (by simp)

/-- Two lists of numbers, the same. -/
def SameTo (w0 : World) (n : Nat) (iv : Value) (w : World) : Prop := ∃ i : Nat, i ≤ n ∧ iv = .int .i64 i ∧ Hid (Ext w0 w)
set_option maxRecDepth 100000 in
set_option maxHeartbeats 1000000 in
theorem ints_any (xs : List Int) (ao bo : Option Addr) (n acap bcap : Nat) (w : World) (hn : n = xs.length) (ha : CellsAt w ao (ints xs)) (hb : CellsAt w bo (ints xs)) (hl : n ≤ 4611686018427387904) :
    Calls Tryz.prog 21 #[.slice ao n acap, .slice bo n bcap] w (RetN w fun w' v => v = .bool true) := by
  have HN := Lib.hid hn; have HA := Lib.hid ha; have HB := Lib.hid hb
  have q1 : ((n : Int) != (n : Int)) = false := by simp
  clear hn ha hb
  go_enter Tryz.func21, Tryz.ntmps21
  go_wp2
  go_loopw [5] (fun iv wr => SameTo w n iv wr) (fun iv _ => n - (intOf iv).toNat)
  case atStart => exact ⟨0, Nat.zero_le _, rfl, Kp.refl w⟩
  case round =>
    obtain ⟨i, hi, rfl, hex⟩ := hrel
    by_cases hlt : i < n
    · have hli : i < xs.length := by rw [← HN.out]; exact hlt
      obtain ⟨g1, o1, e1, d1⟩ := (HA.out.ext hex.out).int hli
      obtain ⟨g2, o2, e2, d2⟩ := (HB.out.ext hex.out).int hli
      subst e1 e2
      generalize xs[i] = x at *
      have q2 : (x != x) = false := by simp
      have q3 : (x == x) = true := by simp
      clear hli
      go_wp2
      go_quiet (fail)
      go_wp2
      go_roundw
      case rel => exact ⟨i + 1, by omega, by first | rfl | (congr 1; done) | (congr 1; omega), hex.out.drewN _⟩
      case measure => simp [intOf]; omega
    · go_wp2
      go_ret
      exact RetN.mk hex.out rfl
set_option maxRecDepth 100000 in
set_option maxHeartbeats 1000000 in
theorem terms_any (ts : List TermZ) (ao bo : Option Addr) (n acap bcap : Nat) (w : World) (G H : Nat → Prop) (hn : n = ts.length) (ha : TermsAt w G ao ts) (hb : TermsAt w H bo ts) (hl : n ≤ 4611686018427387904) :
    Calls Tryz.prog 73 #[.slice ao n acap, .slice bo n bcap] w (RetN w fun w' v => v = .bool true) := by
  have HN := Lib.hid hn; have HA := Lib.hid ha; have HB := Lib.hid hb
  have q1 : ((n : Int) != (n : Int)) = false := by simp
  clear hn ha hb
  go_enter Tryz.func73, Tryz.ntmps73
  go_wp2
  go_loopw [5] (fun iv wr => SameTo w n iv wr) (fun iv _ => n - (intOf iv).toNat)
  case atStart => exact ⟨0, Nat.zero_le _, rfl, Kp.refl w⟩
  case round =>
    obtain ⟨i, hi, rfl, hex⟩ := hrel
    by_cases hlt : i < n
    · obtain ⟨t, ht⟩ : ∃ t, ts[i]? = some t := ⟨_, List.getElem?_eq_getElem (by rw [← HN.out]; exact hlt)⟩
      obtain ⟨g1, o1, e1, c0, c1, _⟩ := term_at (HA.out.ext hex.out) ht
      obtain ⟨g2, o2, e2, d0, d1, _⟩ := term_at (HB.out.ext hex.out) ht
      subst e1 e2
      obtain ⟨k, s, ⟨⟩⟩ := t
      simp only at c0 c1 d0 d1
      have q2 : (k != k) = false := by simp
      have q3 : (k == k) = true := by simp
      have q4 := str_eq s
      clear ht
      go_wp2
      go_quiet (fail)
      go_wp2
      go_roundw
      case rel => exact ⟨i + 1, by omega, by first | rfl | (congr 1; done) | (congr 1; omega), hex.out.drewN _⟩
      case measure => simp [intOf]; omega
    · go_wp2
      go_ret
      exact RetN.mk hex.out rfl

set_option maxRecDepth 100000 in
set_option maxHeartbeats 1000000 in
theorem literal25_any (ts : List TermZ) (k : Int) (p : ByteArray) (ao bo : Option Addr) (n acap bcap : Nat) (op lk : Int) (lt : ByteArray) (rk : Int) (rt : ByteArray) (w : World) (G H : Nat → Prop) (hn : n = ts.length) (ha : TermsAt w G ao ts) (hb : TermsAt w H bo ts) (hl : n ≤ 4611686018427387904) :
    Calls Tryz.prog 74 #[litV k p ao n acap op lk lt rk rt, litV k p bo n bcap op lk lt rk rt] w (RetN w fun w' v => v = .bool true) := by
  have HT := Lib.hid (fun (W : World) (hW : Ext w W) => terms_any ts ao bo n acap bcap W G H hn (ha.ext hW) (hb.ext hW) hl)
  have q1 : (k == k) = true := by simp
  have q2 : (op == op) = true := by simp
  have q3 : (lk == lk) = true := by simp
  have q4 : (rk == rk) = true := by simp
  have q5 := str_eq p
  have q6 := str_eq lt
  have q7 := str_eq rt
  clear hn ha hb
  go_enter Tryz.func74, Tryz.ntmps74
  have HB := Lib.hid (Blk.new w [.int .i64 k, .string p, .slice ao n acap, .int .i64 op, .int .i64 lk, .string lt, .int .i64 rk, .string rt] 97)
  go_wp2_with fail
  refine (HT.out _ (((Kp.refl w).alloc _).alloc _)).mono ?_
  rintro e w1 ⟨v, rfl, hk1, rfl⟩
  have X1 := Lib.hid ((((Kp.refl w).alloc _).alloc _).trans hk1)
  clear hk1
  go_wp2
  go_ret
  exact RetN.mk X1.out rfl

set_option maxRecDepth 100000 in
set_option maxHeartbeats 1000000 in
theorem same25_any (p : ByteArray) (hs : List TermZ) (ls : List LitZ) (ha hb : Option Addr) (hn hac hbc : Nat) (ba bb : Option Addr) (n bac bbc : Nat) (w : World) (G H : Nat → Prop) (hhn : hn = hs.length) (h1 : TermsAt w G ha hs) (h2 : TermsAt w H hb hs) (hhl : hn ≤ 1048576) (hbn : n = ls.length) (l1 : LitsAt w G ba ls) (l2 : LitsAt w H bb ls) (hf : Fit ls) :
    Calls Tryz.prog 38 #[ruleV p ha hn hac ba n bac, ruleV p hb hn hbc bb n bbc] w (RetN w fun w' v => v = .bool true) := by
  have HN := Lib.hid hbn; have HE := Lib.hid l1; have HE2 := Lib.hid l2; have HF := Lib.hid hf; have hl : n ≤ 1048576 := by have := hf.len; omega
  have HT := Lib.hid (fun (W : World) (hW : Ext w W) => terms_any hs ha hb hn hac hbc W G H hhn (h1.ext hW) (h2.ext hW) (by omega))
  have q1 := str_eq p
  have q2 : ((n : Int) != (n : Int)) = false := by simp
  have q3 : ((n : Int) == (n : Int)) = true := by simp
  clear hhn h1 h2 hbn l1 l2 hf
  go_enter Tryz.func38, Tryz.ntmps38
  obtain ⟨wb, eb⟩ : ∃ wb, (w.alloc (.cells #[.string p, .slice ha hn hac, .slice ba n bac] 28)).alloc (.cells #[.string p, .slice hb hn hbc, .slice bb n bbc] 28) = wb := ⟨_, rfl⟩
  have hB1 := (Blk.new w [.string p, .slice ha hn hac, .slice ba n bac] 28).alloc (.cells #[.string p, .slice hb hn hbc, .slice bb n bbc] 28)
  have hB2 := Blk.new (w.alloc (.cells #[.string p, .slice ha hn hac, .slice ba n bac] 28)) [.string p, .slice hb hn hbc, .slice bb n bbc] 28
  rw [alloc_size] at hB2
  have hB1' : Blk wb w.heap.size [.string p, .slice ha hn hac, .slice ba n bac] 28 := by rw [← eb]; exact hB1
  have hB2' : Blk wb (w.heap.size + 1) [.string p, .slice hb hn hbc, .slice bb n bbc] 28 := by rw [← eb]; exact hB2
  have hX : Ext w wb := by rw [← eb]; exact ((Kp.refl w).alloc _).alloc _
  have HB1 := Lib.hid hB1'
  have HB2 := Lib.hid hB2'
  have HX := Lib.hid hX
  have f10 : wb.cell? ⟨w.heap.size, 0, none⟩ = some (.string p) := by rw [hB1'.cell']; rfl
  have f11 : wb.cell? ⟨w.heap.size, 1, none⟩ = some (.slice ha hn hac) := by rw [hB1'.cell']; rfl
  have f12 : wb.cell? ⟨w.heap.size, 2, none⟩ = some (.slice ba n bac) := by rw [hB1'.cell']; rfl
  have f20 : wb.cell? ⟨w.heap.size + 1, 0, none⟩ = some (.string p) := by rw [hB2'.cell']; rfl
  have f21 : wb.cell? ⟨w.heap.size + 1, 1, none⟩ = some (.slice hb hn hbc) := by rw [hB2'.cell']; rfl
  have f22 : wb.cell? ⟨w.heap.size + 1, 2, none⟩ = some (.slice bb n bbc) := by rw [hB2'.cell']; rfl
  clear hB1 hB2 hB1' hB2' hX
  go_wp2_with fail
  refine (HT.out _ HX.out).mono ?_
  rintro e w1 ⟨v, rfl, hk1, rfl⟩
  have X1 := Lib.hid (HX.out.trans hk1)
  have B1 := Lib.hid (HB1.out.ext hk1)
  have B2 := Lib.hid (HB2.out.ext hk1)
  have r1 : w1.cell? ⟨w.heap.size, 2, none⟩ = some (.slice ba n bac) := by rw [B1.out.cell']; rfl
  have r2 : w1.cell? ⟨w.heap.size + 1, 2, none⟩ = some (.slice bb n bbc) := by rw [B2.out.cell']; rfl
  clear hk1 eb f10 f11 f12 f20 f21 f22
  go_wp2
  clear r1 r2
  go_loopw [5] (fun iv wr => SameTo w1 n iv wr) (fun iv _ => n - (intOf iv).toNat)
  case atStart => exact ⟨0, Nat.zero_le _, rfl, Kp.refl _⟩
  case round =>
    obtain ⟨i, hi, rfl, hex⟩ := hrel
    have XR := Lib.hid (X1.out.trans hex.out)
    have r1 : wr.cell? ⟨w.heap.size, 2, none⟩ = some (.slice ba n bac) := by rw [(B1.out.ext hex.out).cell']; rfl
    have r2 : wr.cell? ⟨w.heap.size + 1, 2, none⟩ = some (.slice bb n bbc) := by rw [(B2.out.ext hex.out).cell']; rfl
    by_cases hlt : i < n
    · obtain ⟨l, hli⟩ : ∃ l, ls[i]? = some l := ⟨_, List.getElem?_eq_getElem (by rw [← HN.out]; exact hlt)⟩
      obtain ⟨b, off, a2, cap2, eao, _, _, hL, c0, c1, c2, c3, c4, c5, c6, c7⟩ := lit_at HE.out hli
      obtain ⟨b', off', a3, cap3, eao', _, _, hL', d0, d1, d2, d3, d4, d5, d6, d7⟩ := lit_at HE2.out hli
      subst eao eao'
      replace c0 := XR.out.cell c0 id
      replace c1 := XR.out.cell c1 id
      replace c2 := XR.out.cell c2 id
      replace c3 := XR.out.cell c3 id
      replace c4 := XR.out.cell c4 id
      replace c5 := XR.out.cell c5 id
      replace c6 := XR.out.cell c6 id
      replace c7 := XR.out.cell c7 id
      replace d0 := XR.out.cell d0 id
      replace d1 := XR.out.cell d1 id
      replace d2 := XR.out.cell d2 id
      replace d3 := XR.out.cell d3 id
      replace d4 := XR.out.cell d4 id
      replace d5 := XR.out.cell d5 id
      replace d6 := XR.out.cell d6 id
      replace d7 := XR.out.cell d7 id
      obtain ⟨mm, emm⟩ : ∃ mm, mm = (termsOf l).length := ⟨_, rfl⟩
      rw [← emm] at c2 d2
      have hmm : mm ≤ 1048576 := by rw [emm]; exact HF.out.terms l (List.mem_of_getElem? hli)
      have HLit := Lib.hid (fun (k : Int) (p : ByteArray) (op lk : Int) (lt : ByteArray) (rk : Int) (rt : ByteArray) (W : World) (hW : Ext wr W) => literal25_any (termsOf l) k p a2 a3 mm cap2 cap3 op lk lt rk rt W G H emm (hL.terms.ext (XR.out.trans hW)) (hL'.terms.ext (XR.out.trans hW)) (by omega))
      generalize l.1 = k at *
      generalize predOf l = pl at *
      generalize opOf l = s3 at *
      generalize (leftOf l).1 = s4 at *
      generalize (leftOf l).2.1 = s5 at *
      generalize (rightOf l).1 = s6 at *
      generalize (rightOf l).2.1 = s7 at *
      clear hli hL hL' emm
      go_wp2
      go_still_tail 10, (by kernel_rfl)
      go_wp2_with fail
      refine (HLit.out _ _ _ _ _ _ _ _ (Kp.refl wr).drew).mono ?_
      rintro e w2 ⟨v, rfl, hk2, rfl⟩
      have X2 := Lib.hid (hex.out.drew.trans hk2)
      clear hk2 r1 r2 c0 c1 c2 c3 c4 c5 c6 c7 d0 d1 d2 d3 d4 d5 d6 d7
      go_wp2
      go_roundw
      case rel => exact ⟨i + 1, by omega, by first | rfl | (congr 1; done) | (congr 1; omega), X2⟩
      case measure => simp [intOf]; omega
    · go_wp2
      go_ret
      exact RetN.mk XR.out rfl
end Go.Proofs.YtomeebimmmfmbaaGreat

/- A region that draws its order: a condition S that holds behind every operation but the late ones (which wait for all that is taken first). The laws beneath the lines that drawn.py prints. No program in sight. -/
namespace Go.Proofs.YtomeebimmmfmbaaGreat
set_option linter.unusedVariables false

section
variable {P : Program} {ops : Array Oper} {Q : Exit → Act → World → Prop} {md : Region.Mode} {S : World → Prop} {lates : List Nat}

/-- No late operation has come up. -/
def noLate (lates : List Nat) (listed : Array Bool) : Bool := lates.all fun d => !listed.getD d true
/-- Whatever order is picked from here on; S holds till a late operation has come up. -/
def wpAnyD (P : Program) (md : Region.Mode) (ops : Array Oper) (Q : Exit → Act → World → Prop) (S : World → Prop) (lates : List Nat) : Nat → Array Bool → Act → World → Prop
  | 0, listed, a, w => Region.ready md ops listed = [] ∧ Q .normal a w
  | fuel + 1, listed, a, w => (Region.ready md ops listed = [] → Q .normal a w) ∧
    ∀ i ∈ Region.ready md ops listed, wpOp P ops Q i (fun a' w' => (noLate lates (listed.setIfInBounds i true) = true → S w') ∧ wpAnyD P md ops Q S lates fuel (listed.setIfInBounds i true) a' w') a w
theorem wpAny_of_D : ∀ (fuel : Nat) (listed : Array Bool) (a : Act) (w : World), wpAnyD P md ops Q S lates fuel listed a w → wpAny P md ops Q fuel listed a w
  | 0, _, _, _, h => h
  | fuel + 1, _, _, _, h => ⟨h.1, fun i hi => wpOp_mono (fun a' w' h' => wpAny_of_D fuel _ a' w' h'.2) (h.2 i hi)⟩

/-- All that wait for an operation, itself too. -/
def waitsOf (md : Region.Mode) (ops : Array Oper) (i : Nat) : List Nat :=
  (List.range ops.size).foldl (fun D j => if j == i || (match ops[j]? with | some o => o.after.any (fun e => Region.binds md e && D.contains e.on) | none => false) then j :: D else D) []
/-- None of these has come up, each but i waits for one of them, the late ones are among them. -/
def waitsB (md : Region.Mode) (ops : Array Oper) (listed : Array Bool) (lates : List Nat) (i : Nat) (D : List Nat) : Bool :=
  lates.all (fun d => D.contains d && d != i) && D.all fun d => !listed.getD d true && (d == i || match ops[d]? with | some o => o.after.any (fun e => Region.binds md e && D.contains e.on) | none => false)
theorem waits_spec {listed : Array Bool} {i : Nat} {D : List Nat} (h : waitsB md ops listed lates i D = true) :
    (∀ d ∈ lates, d ∈ D ∧ d ≠ i) ∧ (∀ d ∈ D, listed.getD d true = false) ∧ ∀ d ∈ D, d ≠ i → ∀ o, ops[d]? = some o → ∃ e ∈ o.after, Region.binds md e = true ∧ e.on ∈ D := by
  unfold waitsB at h
  rw [Bool.and_eq_true, List.all_eq_true, List.all_eq_true] at h
  refine ⟨fun d hd => ?_, fun d hd => ?_, fun d hd hne o ho => ?_⟩
  · have := h.1 d hd
    simp only [Bool.and_eq_true, List.contains_iff_mem, bne_iff_ne, ne_eq] at this
    exact this
  · have := h.2 d hd
    rw [Bool.and_eq_true] at this
    simpa using this.1
  · have h1 := h.2 d hd
    rw [Bool.and_eq_true, Bool.or_eq_true, ho] at h1
    rcases h1.2 with h2 | h2
    · exact absurd (by simpa using h2) hne
    · obtain ⟨e, he, hb⟩ := Array.any_eq_true'.1 h2
      rw [Bool.and_eq_true, List.contains_iff_mem] at hb
      exact ⟨e, he, hb.1, hb.2⟩

theorem noLate_of {listed : Array Bool} {D : List Nat} (hl : ∀ d ∈ lates, d ∈ D) (h : ∀ d ∈ D, listed.getD d true = false) : noLate lates listed = true := by
  unfold noLate
  rw [List.all_eq_true]
  intro d hd
  rw [h d (hl d hd)]; rfl
theorem noLate_set {listed : Array Bool} {i : Nat} (hi : i ∉ lates) : noLate lates (listed.setIfInBounds i true) = noLate lates listed := by
  unfold noLate
  rw [Bool.eq_iff_iff, List.all_eq_true, List.all_eq_true]
  have h : ∀ d ∈ lates, (listed.setIfInBounds i true).getD d true = listed.getD d true := fun d hd => getD_set_ne true (fun e => hi (e ▸ hd))
  exact ⟨fun k d hd => by rw [← h d hd]; exact k d hd, fun k d hd => by rw [h d hd]; exact k d hd⟩

theorem wpAnyD_first {i : Nat} {oi : Oper} {v : Value} {D : List Nat} (hi : ops[i]? = some oi) (hsel : ∀ (j : Nat) (o : Oper) cs b, ops[j]? = some o → o.op ≠ .select cs b)
    (hQ : ∀ c a w, Q (.panic c) (a.put oi.dst v) w → Q (.panic c) a w) (hl : ∀ d ∈ lates, d ∈ D ∧ d ≠ i) (hD : ∀ d ∈ D, d ≠ i → ∀ o, ops[d]? = some o → ∃ e ∈ o.after, Region.binds md e = true ∧ e.on ∈ D) :
    ∀ (fuel : Nat) (listed : Array Bool) (a : Act) (w : World),
      (∀ j oj, ops[j]? = some oj → j ≠ i → listed.getD j true = false → (∀ e ∈ oj.after, Region.binds md e = true → e.on ≠ i) → oi.apart ops oj = true) →
      (∀ d ∈ D, listed.getD d true = false) →
      i ∈ Region.ready md ops listed → YieldsIf P ops S oi v a → S w →
      wpAnyD P md ops Q S lates fuel (listed.setIfInBounds i true) (a.put oi.dst v) w → wpAnyD P md ops Q S lates (fuel + 1) listed a w := by
  have hil : i ∉ lates := fun h => (hl i h).2 rfl
  intro fuel
  induction fuel with
  | zero =>
    intro listed a w _ _ hr hy hS H
    refine ⟨fun h => (by rw [h] at hr; cases hr), fun j hj => ?_⟩
    by_cases hji : j = i
    · subst hji; exact hy.wpOp hi hS ⟨fun _ => hS, H⟩
    · have := ready_mono hj hji
      rw [H.1] at this
      cases this
  | succ fuel ih =>
    intro listed a w hfree hun0 hr hy hS H
    refine ⟨fun h => (by rw [h] at hr; cases hr), fun j hj => ?_⟩
    by_cases hji : j = i
    · subst hji; exact hy.wpOp hi hS ⟨fun _ => hS, H⟩
    · have h1 := H.2 j (ready_mono hj hji)
      obtain ⟨hjun, oj, hoj, hall⟩ := mem_ready.1 hj
      have hjD : j ∉ D := fun hjd => by
        obtain ⟨e, he, hb, heD⟩ := hD j hjd hji oj hoj
        have h2 := hall e he hb
        have h0 := hun0 e.on heD
        rcases Nat.lt_or_ge e.on listed.size with h' | h'
        · simp [h'] at h0 h2; rw [h0] at h2; cases h2
        · simp [Array.getElem?_eq_none h'] at h2
      have hnot : ∀ e ∈ oj.after, Region.binds md e = true → e.on ≠ i := fun e he hb heq => by
        have h1 := hall e he hb
        have h0 := (mem_ready.1 hr).1
        rw [heq] at h1
        rcases Nat.lt_or_ge i listed.size with h' | h'
        · simp [h'] at h0 h1; rw [h0] at h1; cases h1
        · simp [Array.getElem?_eq_none h'] at h1
      have h2 := wpOp_putIf hoj (hfree j oj hoj hji hjun hnot) (fun cs b => hsel i oi cs b hi) (fun cs b => hsel j oj cs b hoj) hQ hy h1
      have hfree' : ∀ k ok, ops[k]? = some ok → k ≠ i → (listed.setIfInBounds j true).getD k true = false →
          (∀ e ∈ ok.after, Region.binds md e = true → e.on ≠ i) → oi.apart ops ok = true := fun k ok hk hki hun hno => by
        refine hfree k ok hk hki ?_ hno
        by_cases hjk : j = k
        · subst hjk; exact hjun
        · rw [getD_set_ne true hjk] at hun; exact hun
      have hun' : ∀ d ∈ D, (listed.setIfInBounds j true).getD d true = false := fun d hd => by
        rw [getD_set_ne true (fun e : j = d => hjD (e.symm ▸ hd))]; exact hun0 d hd
      have hnl : noLate lates (listed.setIfInBounds j true) = true := noLate_of (fun d hd => (hl d hd).1) hun'
      have hnl2 : noLate lates ((listed.setIfInBounds i true).setIfInBounds j true) = true := by
        rw [Array.setIfInBounds_comm _ _ (Ne.symm hji), noLate_set hil]; exact hnl
      refine wpOp_mono (fun a' w' h3 => ⟨fun _ => h3.2.1 hnl2, ih (listed.setIfInBounds j true) a' w' hfree' hun' (ready_mono hr (Ne.symm hji)) h3.1 (h3.2.1 hnl2) ?_⟩) h2
      rw [Array.setIfInBounds_comm _ _ hji]
      exact h3.2.2
/-- One that yields in whatever world. -/
theorem wpAnyD_free {i : Nat} {oi : Oper} {v : Value} (hi : ops[i]? = some oi) (hsel : ∀ (j : Nat) (o : Oper) cs b, ops[j]? = some o → o.op ≠ .select cs b)
    (hQ : ∀ c a w, Q (.panic c) (a.put oi.dst v) w → Q (.panic c) a w) (hil : i ∉ lates) :
    ∀ (fuel : Nat) (listed : Array Bool) (a : Act) (w : World),
      (∀ j oj, ops[j]? = some oj → j ≠ i → listed.getD j true = false → (∀ e ∈ oj.after, Region.binds md e = true → e.on ≠ i) → oi.apart ops oj = true) →
      i ∈ Region.ready md ops listed → YieldsIf P ops (fun _ => True) oi v a → (noLate lates listed = true → S w) →
      wpAnyD P md ops Q S lates fuel (listed.setIfInBounds i true) (a.put oi.dst v) w → wpAnyD P md ops Q S lates (fuel + 1) listed a w := by
  intro fuel
  induction fuel with
  | zero =>
    intro listed a w _ hr hy hS H
    refine ⟨fun h => (by rw [h] at hr; cases hr), fun j hj => ?_⟩
    by_cases hji : j = i
    · subst hji; exact hy.wpOp hi trivial ⟨fun h => hS (by rw [noLate_set hil] at h; exact h), H⟩
    · have := ready_mono hj hji
      rw [H.1] at this
      cases this
  | succ fuel ih =>
    intro listed a w hfree hr hy hS H
    refine ⟨fun h => (by rw [h] at hr; cases hr), fun j hj => ?_⟩
    by_cases hji : j = i
    · subst hji; exact hy.wpOp hi trivial ⟨fun h => hS (by rw [noLate_set hil] at h; exact h), H⟩
    · have h1 := H.2 j (ready_mono hj hji)
      obtain ⟨hjun, oj, hoj, hall⟩ := mem_ready.1 hj
      have hnot : ∀ e ∈ oj.after, Region.binds md e = true → e.on ≠ i := fun e he hb heq => by
        have h1 := hall e he hb
        have h0 := (mem_ready.1 hr).1
        rw [heq] at h1
        rcases Nat.lt_or_ge i listed.size with h' | h'
        · simp [h'] at h0 h1; rw [h0] at h1; cases h1
        · simp [Array.getElem?_eq_none h'] at h1
      have h2 := wpOp_putIf hoj (hfree j oj hoj hji hjun hnot) (fun cs b => hsel i oi cs b hi) (fun cs b => hsel j oj cs b hoj) hQ hy h1
      have hfree' : ∀ k ok, ops[k]? = some ok → k ≠ i → (listed.setIfInBounds j true).getD k true = false →
          (∀ e ∈ ok.after, Region.binds md e = true → e.on ≠ i) → oi.apart ops ok = true := fun k ok hk hki hun hno => by
        refine hfree k ok hk hki ?_ hno
        by_cases hjk : j = k
        · subst hjk; exact hjun
        · rw [getD_set_ne true hjk] at hun; exact hun
      have hcm : noLate lates (listed.setIfInBounds j true) = true → noLate lates ((listed.setIfInBounds i true).setIfInBounds j true) = true := fun h => by
        rw [Array.setIfInBounds_comm _ _ (Ne.symm hji), noLate_set hil]; exact h
      refine wpOp_mono (fun a' w' h3 => ⟨fun h => h3.2.1 (hcm h), ih (listed.setIfInBounds j true) a' w' hfree' (ready_mono hr (Ne.symm hji)) h3.1 (fun h => h3.2.1 (hcm h)) ?_⟩) h2
      rw [Array.setIfInBounds_comm _ _ hji]
      exact h3.2.2
theorem wpAnyD_done {listed : Array Bool} {a : Act} {w : World} (hr : Region.ready md ops listed = []) (h : Q .normal a w) : ∀ fuel, wpAnyD P md ops Q S lates fuel listed a w
  | 0 => ⟨hr, h⟩
  | _ + 1 => ⟨fun _ => h, by rw [hr]; simp⟩
theorem draw_begin {id : Nat} {a : Act} {w : World} (S : World → Prop) (lates : List Nat) (hm : P.follows .mixedOrders = true) (hS : S w.drew)
    (h : S w.drew → wpAnyD P .any ops Q S lates ops.size (Array.replicate ops.size false) a w.drew) : (Code.region id ops true).wp P Q a w :=
  wp_region_any hm (wpAny_of_D _ _ _ _ (h hS))
end

section
variable {P : Program} {l : List Oper} {Q : Exit → Act → World → Prop} {md : Region.Mode} {S : World → Prop} {lates : List Nat} {fuel : Nat} {listed : Array Bool} {a : Act} {w : World}
theorem late_no {p : Prop} {b : Bool} (h : b = false) : b = true → p := fun e => by rw [h] at e; cases e
theorem and4 {a b c d : Bool} (h : (a && b && c && d) = true) : a = true ∧ b = true ∧ c = true ∧ d = true := by
  cases a <;> cases b <;> cases c <;> cases d <;> simp_all
theorem opAt {i : Nat} {oi : Oper} (hi : l[i]? = some oi) : l.toArray[i]? = some oi := by rw [List.getElem?_toArray]; exact hi
/-- It is wanted and yields v. -/
theorem draw_in {i : Nat} {oi : Oper} {v : Value} (hi : l[i]? = some oi) (hy : ∀ w, S w → (execOp a.eval oi).run P w = .ok (.value v) w)
    (h : wpAnyD P md l.toArray Q S lates fuel (listed.setIfInBounds i true) (a.put oi.dst v) w)
    (side : (Region.noSelect l.toArray && Region.free md l.toArray listed i && (Region.ready md l.toArray listed).contains i && waitsB md l.toArray listed lates i (waitsOf md l.toArray i)) = true := by kernel_rfl)
    (hw : Region.wanted oi (yielded l.toArray a.tmps) = true := by rfl) (hQ : ∀ c a w, Q (.panic c) (a.put oi.dst v) w → Q (.panic c) a w := by exact fun _ _ _ h => h) (hS : S w := by assumption) :
    wpAnyD P md l.toArray Q S lates (fuel + 1) listed a w :=
  let c := and4 side
  let z := waits_spec c.2.2.2
  wpAnyD_first (opAt hi) (Region.noSelect_spec c.1) hQ z.1 z.2.2 fuel listed a w (Region.free_spec (opAt hi) c.2.1) z.2.1 (by simpa using c.2.2.1) (.inl ⟨hw, hy⟩) hS h
/-- It is wanted and yields v in whatever world. -/
theorem draw_free {i : Nat} {oi : Oper} {v : Value} (hi : l[i]? = some oi) (hy : ∀ w, (execOp a.eval oi).run P w = .ok (.value v) w)
    (h : wpAnyD P md l.toArray Q S lates fuel (listed.setIfInBounds i true) (a.put oi.dst v) w)
    (side : (Region.noSelect l.toArray && Region.free md l.toArray listed i && (Region.ready md l.toArray listed).contains i && !lates.contains i) = true := by kernel_rfl)
    (hw : Region.wanted oi (yielded l.toArray a.tmps) = true := by rfl) (hQ : ∀ c a w, Q (.panic c) (a.put oi.dst v) w → Q (.panic c) a w := by exact fun _ _ _ h => h) (hS : noLate lates listed = true → S w := by first | exact fun _ => by assumption | exact late_no (by kernel_rfl)) :
    wpAnyD P md l.toArray Q S lates (fuel + 1) listed a w :=
  let c := and4 side
  wpAnyD_free (opAt hi) (Region.noSelect_spec c.1) hQ (by simpa using c.2.2.2) fuel listed a w (Region.free_spec (opAt hi) c.2.1) (by simpa using c.2.2.1) (.inl ⟨hw, fun w _ => hy w⟩) hS h
/-- Its guard says no. -/
theorem draw_out {i : Nat} {oi : Oper} (hi : l[i]? = some oi) (h : wpAnyD P md l.toArray Q S lates fuel (listed.setIfInBounds i true) (a.put oi.dst undef) w)
    (side : (Region.noSelect l.toArray && Region.free md l.toArray listed i && (Region.ready md l.toArray listed).contains i && !lates.contains i) = true := by kernel_rfl)
    (hw : Region.wanted oi (yielded l.toArray a.tmps) = false := by rfl) (hQ : ∀ c a w, Q (.panic c) (a.put oi.dst undef) w → Q (.panic c) a w := by exact fun _ _ _ h => h) (hS : noLate lates listed = true → S w := by first | exact fun _ => by assumption | exact late_no (by kernel_rfl)) :
    wpAnyD P md l.toArray Q S lates (fuel + 1) listed a w :=
  let c := and4 side
  wpAnyD_free (opAt hi) (Region.noSelect_spec c.1) hQ (by simpa using c.2.2.2) fuel listed a w (Region.free_spec (opAt hi) c.2.1) (by simpa using c.2.2.1) (.inr ⟨hw, rfl⟩) hS h

/-- What is asked where an operation comes up. -/
def Comes (P : Program) (md : Region.Mode) (l : List Oper) (Q : Exit → Act → World → Prop) (S : World → Prop) (lates : List Nat) (fuel : Nat) (listed : Array Bool) (a : Act) (w : World) (i : Nat) : Prop :=
  wpOp P l.toArray Q i (fun a' w' => (noLate lates (listed.setIfInBounds i true) = true → S w') ∧ wpAnyD P md l.toArray Q S lates fuel (listed.setIfInBounds i true) a' w') a w
theorem comes_turn {i : Nat} {o : Oper} (ho : l[i]? = some o)
    (h : ∀ K' : Act → World → Prop, Shut (∀ a w, S w → (S w → wpAnyD P md l.toArray Q S lates fuel (listed.setIfInBounds i true) a w) → K' a w) → if Region.wanted o (yielded l.toArray a.tmps) = true then Oper.wp P o a w K' Q else K' (a.put o.dst undef) w) : Comes P md l Q S lates fuel listed a w i :=
  wpOp_step (opAt ho) fun K' hK => h K' fun a w hS hW => hK a w ⟨fun _ => hS, hW hS⟩
theorem comes_late {i : Nat} {o : Oper} (ho : l[i]? = some o) (hi : noLate lates (listed.setIfInBounds i true) = false)
    (h : ∀ K' : Act → World → Prop, Shut (∀ a w, wpAnyD P md l.toArray Q S lates fuel (listed.setIfInBounds i true) a w → K' a w) → if Region.wanted o (yielded l.toArray a.tmps) = true then Oper.wp P o a w K' Q else K' (a.put o.dst undef) w) : Comes P md l Q S lates fuel listed a w i :=
  wpOp_step (opAt ho) fun K' hK => h K' fun a w hW => hK a w ⟨fun hn => absurd (hn.symm.trans hi) Bool.noConfusion, hW⟩
/-- It alone may come up; one of two. -/
theorem draw_one {i : Nat} (h : Comes P md l Q S lates fuel listed a w i) (hr : Region.ready md l.toArray listed = [i] := by kernel_rfl) : wpAnyD P md l.toArray Q S lates (fuel + 1) listed a w :=
  ⟨fun h0 => absurd (hr ▸ h0) (by simp), fun j hj => by rw [hr] at hj; simp at hj; subst hj; exact h⟩
theorem draw_two {i k : Nat} (h : Comes P md l Q S lates fuel listed a w i) (h' : Comes P md l Q S lates fuel listed a w k) (hr : Region.ready md l.toArray listed = [i, k] := by kernel_rfl) : wpAnyD P md l.toArray Q S lates (fuel + 1) listed a w :=
  ⟨fun h0 => absurd (hr ▸ h0) (by simp), fun j hj => by
    rw [hr] at hj; simp at hj
    rcases hj with rfl | rfl
    · exact h
    · exact h'⟩
/-- A step that appends, by what it runs to. -/
theorem draw_app {o : Oper} {K : Act → World → Prop} {E : Prop} (hgd : o.guard = none) (s x : Operand) {t1 t2 : TypeId}
    (ho : o.op = .call { callee := .builtin .append, args := #[s, x], argTypes := #[t1, t2] }) {v u v' : Value} {w' : World} (hs : a.eval s = v) (hx : a.eval x = u)
    (hr : (Builtin.append_ #[t1, t2] o.type #[v, u]).run P w = .ok v' w') (h : K (a.put o.dst v') w') :
    if Region.wanted o (yielded l.toArray a.tmps) = true then Oper.wp P o a w K Q else E := by
  have hw : Region.wanted o (yielded l.toArray a.tmps) = true := by simp [Region.wanted, hgd]
  rw [if_pos hw]
  unfold Oper.wp execOp
  simp only [ho, resolve, invoke, builtin, Sem.run_bind, Sem.run_pure, Result.andThen_ok, List.map_toArray, List.map_cons, List.map_nil, hs, hx, hr]
  exact h
end
end Go.Proofs.YtomeebimmmfmbaaGreat

/- Lists of elements of several cells; rows of one's own and their blocks; appends in a region that draws its order. No program in sight. -/
namespace Go.Proofs.YtomeebimmmfmbaaGreat
open Go.RowKit
set_option linter.unusedVariables false

/-- A list of elements of k cells each, cell by cell. -/
theorem flat_get {α : Type} (f : α → List Value) (k : Nat) (hk : ∀ x, (f x).length = k) : ∀ (L : List α) (i : Nat) (x : α) (c : Nat), L[i]? = some x → c < k → (L.flatMap f)[i * k + c]? = (f x)[c]?
  | [], i, x, c, h, _ => by simp at h
  | a :: L, 0, x, c, h, hc => by
    simp at h; subst h
    rw [List.flatMap_cons, Nat.zero_mul, Nat.zero_add, List.getElem?_append_left (by rw [hk]; exact hc)]
  | a :: L, i + 1, x, c, h, hc => by
    rw [List.flatMap_cons, List.getElem?_append_right (by rw [hk, Nat.succ_mul]; omega), hk]
    have := flat_get f k hk L i x c (by simpa using h) hc
    rw [← this]; congr 1; rw [Nat.succ_mul]; omega
theorem flat_len {α : Type} (f : α → List Value) (k : Nat) (hk : ∀ x, (f x).length = k) (L : List α) : (L.flatMap f).length = L.length * k := by
  induction L with
  | nil => simp
  | cons a L ih => rw [List.flatMap_cons, List.length_append, hk, ih, List.length_cons, Nat.succ_mul]; omega

theorem Row.blkOf {w : World} {e : TypeId} {k : Nat} {v : Value} {n : Nat} {xs : List Value} {M : Nat → Prop} (h : Row w e k v n xs M) {g : Nat} (hg : v.ownBlock = some g) : ∃ cs, Blk w g cs e := by
  obtain ⟨h1, ⟨rfl, rfl⟩ | ⟨g', cap, rest, rfl, b, c, d⟩⟩ := h
  · cases hg
  · cases hg; exact ⟨_, c⟩
theorem Row.ltB {w : World} {e : TypeId} {k : Nat} {v : Value} {n : Nat} {xs : List Value} {M : Nat → Prop} (h : Row w e k v n xs M) {g : Nat} (hg : v.ownBlock = some g) : g < w.heap.size := by
  obtain ⟨cs, hb⟩ := h.blkOf hg; exact hb.lt
theorem blk_ne {w : World} {g : Nat} {cs cs' : List Value} {e e' : TypeId} (h : Blk w g cs e) (h' : Blk w g cs' e') : e = e' := by
  unfold Blk at h h'; rw [h] at h'; injection h' with h'; injection h'
theorem CellsAt.new (w : World) (xs : List Value) (e : TypeId) : CellsAt (w.alloc (.cells xs.toArray e)) (some ⟨w.heap.size, 0, none⟩) xs := CellsAt.pre (rest := []) (by rw [List.append_nil]; exact Blk.new w xs e)
theorem takeSnoc {α : Type} {xs : List α} {k : Nat} {x : α} (h : xs[k]? = some x) : xs.take (k + 1) = xs.take k ++ [x] := by rw [List.take_add_one, h]; rfl
/-- An append in a region that draws its order. -/
theorem draw_appN {P : Program} {t e : TypeId} {k bytes : Nat} {z : Value} (E : ElemT P t e k bytes z) {l : List Oper} {a : Act} {w : World} {Q : Exit → Act → World → Prop} {o : Oper} {K : Act → World → Prop} {El : Prop} (hgd : o.guard = none) (s x : Operand)
    (ho : o.op = .call { callee := .builtin .append, args := #[s, x], argTypes := #[t, t] })
    {F : Nat → Prop} {w0 : World} (hkp : Kp F w0 w)
    {v : Value} {n : Nat} {xs : List Value} (hs : a.eval s = v) (hr : Row w e k v n xs (New w0))
    {ao : Option Addr} {m c : Nat} {news : List Value} (hx : a.eval x = .slice ao m c) (hsrc : CellsAt w ao news) (hl : news.length = m * k) (h1 : ∀ u ∈ news, u.oneCell' = true)
    (hb : (n + m) * bytes ≤ 140737488355328) (h63 : n + m ≤ maxLen)
    (h : ∀ v' w', Row w' e k v' (n + m) (xs ++ news) (New w0) → Kp F w0 w' → Kp (fun g => v.ownBlock = some g) w w' → K (a.put o.dst v') w') :
    if Region.wanted o (yielded l.toArray a.tmps) = true then Oper.wp P o a w K Q else El := by
  obtain ⟨v', w', hrun, h2, h3, h4⟩ := run_app (P := P) E o.type hr hl hsrc h1 hb h63 (c := c)
  refine draw_app hgd s x ho hs hx hrun (h v' w' (h2.mono fun g hg => ?_) (hkp.trans' h3 fun i hi hg => absurd hi (Nat.not_lt.2 (hr.block i hg))) h3)
  rcases hg with hg | hg
  · exact hr.block g hg
  · exact Nat.le_trans hkp.size hg
end Go.Proofs.YtomeebimmmfmbaaGreat

/- cost: a body in memory: its parts, its variables, the columns of each variable, of constants. -/
namespace Go.Proofs.YtomeebimmmfmbaaGreat
open Go.RowKit
set_option linter.unusedVariables false

def rowsP (S : List StatZ) (l : LitZ) : Nat := if l.1 = 1 then rowsW S l else 0
def shareP (l : LitZ) : Nat := if l.1 = 1 then 0 else shareW l
def partC (S : List StatZ) (x : LitZ × (Option Addr × Nat)) : List Value := [.bool (decide (x.1.1 = 1)), .float .f64 (rowsP S x.1), .float .f64 (shareP x.1), .slice x.2.1 (varsL x.1).length x.2.2]
def spotC (x : Nat × Nat) : List Value := [.int .i64 x.1, .float .f64 x.2]
theorem partC_len (S : List StatZ) (x : LitZ × (Option Addr × Nat)) : (partC S x).length = 4 := rfl
theorem spotC_len (x : Nat × Nat) : (spotC x).length = 2 := rfl
theorem elem_part : ElemT Tryz.prog 117 164 4 48 (.agg #[.bool false, .float .f64 0, .float .f64 0, .slice none 0 0]) := ⟨by kernel_rfl, by kernel_rfl, rfl, by decide⟩
theorem elem_spot : ElemT Tryz.prog 119 168 2 16 (.agg #[.int .i64 0, .float .f64 0]) := ⟨by kernel_rfl, by kernel_rfl, rfl, by decide⟩

theorem blk_map {w : World} {g : Nat} {cs : List Value} {e : TypeId} {m : List (ByteArray × Value)} (h : Blk w g cs e) (h' : MapIs w g m) : False := by
  obtain ⟨es, c, h1, _⟩ := h'
  unfold Blk at h; rw [h] at h1; cases h1

theorem getM_put (m : List (ByteArray × Value)) (s t : ByteArray) (v : Value) : getM (putM m s v) t = if t = s then some v else getM m t := by
  unfold putM
  by_cases hs : (getM m s).isSome
  · rw [if_pos hs]
    induction m with
    | nil => simp [getM] at hs
    | cons p m ih =>
      unfold getM at hs ih ⊢
      by_cases hp : p.1 = s
      · by_cases ht : t = s
        · subst ht; simp [hp]
        · have h1 : p.1 ≠ t := fun e => ht (e.symm.trans hp)
          simp only [List.map_cons, hp, if_true, List.find?_cons, Ne.symm ht, decide_false, if_neg ht]
          have : ∀ (m : List (ByteArray × Value)), ((m.map fun p => if p.1 = s then (p.1, v) else p).find? fun p => decide (p.1 = t)).map (·.2) = (m.find? fun p => decide (p.1 = t)).map (·.2) := fun m => by
            induction m with
            | nil => rfl
            | cons q m ih2 =>
              rw [List.map_cons]
              by_cases hq : q.1 = s
              · rw [if_pos hq, List.find?_cons_of_neg (by simp [hq, Ne.symm ht]), List.find?_cons_of_neg (by simp [hq, Ne.symm ht])]; exact ih2
              · rw [if_neg hq]
                by_cases hqt : q.1 = t
                · rw [List.find?_cons_of_pos (by simp [hqt]), List.find?_cons_of_pos (by simp [hqt])]
                · rw [List.find?_cons_of_neg (by simp [hqt]), List.find?_cons_of_neg (by simp [hqt])]; exact ih2
          exact this m
      · have hs2 : ((m.find? fun p => decide (p.1 = s)).map (·.2)).isSome := by
          rw [List.find?_cons_of_neg (by simp [hp])] at hs; exact hs
        have ih2 := ih hs2
        rw [List.map_cons, if_neg hp]
        by_cases hpt : p.1 = t
        · rw [List.find?_cons_of_pos (by simp [hpt]), List.find?_cons_of_pos (by simp [hpt]), if_neg (fun e => hp (hpt.trans e))]
        · rw [List.find?_cons_of_neg (by simp [hpt]), List.find?_cons_of_neg (by simp [hpt])]; exact ih2
  · rw [if_neg hs]
    have hn : m.find? (fun p => decide (p.1 = s)) = none := by
      unfold getM at hs
      cases h : m.find? (fun p => decide (p.1 = s)) with
      | none => rfl
      | some x => rw [h] at hs; simp at hs
    unfold getM
    rw [List.find?_append]
    by_cases ht : t = s
    · subst ht; rw [hn]; simp
    · rw [if_neg ht]
      cases h : m.find? (fun p => decide (p.1 = t)) with
      | none => simp [Ne.symm ht]
      | some x => simp

/-- A body that is being made (since w0, in the blocks gb, gm and others): the parts of pl, the columns sp of variables, cn of constants. -/
structure BodyIn (w0 w : World) (gb gm : Nat) (nv : Value) (col : Nat → Option ByteArray) (S : List StatZ) (pl : List LitZ) (sp : ByteArray → List (Nat × Nat)) (cn : List (Nat × Nat)) (pv cv : Value) (m : List (ByteArray × Value)) : Prop where
  ext : Ext w0 w
  gbn : w0.heap.size ≤ gb
  gmn : w0.heap.size ≤ gm
  blk : Blk w gb [pv, nv, .map (some gm), cv] 121
  map : MapIs w gm m
  parts : ∃ vs : List (Option Addr × Nat), vs.length = pl.length ∧ Row w 164 4 pv pl.length ((pl.zip vs).flatMap (partC S)) (New w0) ∧
    ∀ x ∈ pl.zip vs, Row w 9 1 (.slice x.2.1 (varsL x.1).length x.2.2) (varsL x.1).length (strs (varsL x.1)) (New w0)
  consts : Row w 168 2 cv cn.length (cn.flatMap spotC) (fun g => New w0 g ∧ col g = none)
  spots : ∀ v, Row w 168 2 ((getM m v).getD (.slice none 0 0)) (sp v).length ((sp v).flatMap spotC) (fun g => New w0 g ∧ col g = some v)

section
variable {w0 w w' : World} {gb gm : Nat} {nv : Value} {col : Nat → Option ByteArray} {S : List StatZ} {pl : List LitZ} {sp : ByteArray → List (Nat × Nat)} {cn : List (Nat × Nat)} {pv cv : Value} {m : List (ByteArray × Value)}
theorem BodyIn.on (h : BodyIn w0 w gb gm nv col S pl sp cn pv cv m) (hk : Ext w w') : BodyIn w0 w' gb gm nv col S pl sp cn pv cv m := by
  obtain ⟨h1, h2, h3, h4, h5, ⟨vs, h6, h7, h8⟩, h9, h10⟩ := h
  exact ⟨h1.trans hk, h2, h3, h4.ext hk, h5.ext hk, ⟨vs, h6, h7.ext hk, fun x hx => (h8 x hx).ext hk⟩, h9.ext hk, fun v => (h10 v).ext hk⟩
/-- New blocks are coloured. -/
def tint (w : World) (col : Nat → Option ByteArray) (t : Option ByteArray) (g : Nat) : Option ByteArray := if g < w.heap.size then col g else t
theorem tint_old {w : World} {col : Nat → Option ByteArray} {t : Option ByteArray} {g : Nat} (h : g < w.heap.size) : tint w col t g = col g := if_pos h
theorem tint_new {w : World} {col : Nat → Option ByteArray} {t : Option ByteArray} {g : Nat} (h : w.heap.size ≤ g) : tint w col t g = t := if_neg (Nat.not_lt.2 h)

theorem typ_ps : 164 ≠ 168 := by decide
theorem typ_pt : 164 ≠ 9 := by decide
theorem typ_pb : 164 ≠ 121 := by decide
theorem typ_st : 168 ≠ 9 := by decide
theorem typ_sb : 168 ≠ 121 := by decide
theorem typ_tb : 9 ≠ 121 := by decide

/-- Rows of unlike types share no block. -/
theorem row_apart {e e' : TypeId} {k k' : Nat} {v v' : Value} {n n' : Nat} {xs xs' : List Value} {M M' : Nat → Prop} (h : Row w e k v n xs M) (h' : Row w e' k' v' n' xs' M') (hne : e ≠ e') {g : Nat} (h1 : v.ownBlock = some g) (h2 : v'.ownBlock = some g) : False := by
  obtain ⟨c1, b1⟩ := h.blkOf h1
  obtain ⟨c2, b2⟩ := h'.blkOf h2
  exact hne (blk_ne b1 b2)

/-- One more part. -/
theorem BodyIn.part (h : BodyIn w0 w gb gm nv col S pl sp cn pv cv m) (l : LitZ) (x : Option Addr × Nat) (hx : Row w 9 1 (.slice x.1 (varsL l).length x.2) (varsL l).length (strs (varsL l)) (New w0))
    {ao : Option Addr} {c : Nat} (hsrc : CellsAt w ao (partC S (l, x))) (hl : pl.length ≤ 1048576) (ty : TypeId) :
    ∃ pv' w', (Builtin.append_ #[117, 117] ty #[pv, .slice ao 1 c]).run Tryz.prog w = .ok pv' w' ∧ w'.cell? ⟨gb, 0, none⟩ = some pv ∧ w'.frozen? ⟨gb, 0, none⟩ = false ∧ Kp (fun k => k = gb ∨ ∃ cs, Blk w k cs 164) w (w'.setCell ⟨gb, 0, none⟩ pv') ∧
      BodyIn w0 (w'.setCell ⟨gb, 0, none⟩ pv') gb gm nv col S (pl ++ [l]) sp cn pv' cv m := by
  obtain ⟨h1, h2, h3, h4, h5, ⟨vs, h6, h7, h8⟩, h9, h10⟩ := h
  obtain ⟨pv', w', hrun, hr, hk, _⟩ := run_app (m := 1) elem_part ty h7 (partC_len S (l, x)) hsrc (by intro u hu; simp [partC] at hu; rcases hu with rfl | rfl | rfl | rfl <;> rfl) (by omega) (by unfold maxLen; omega) (c := c)
  have hgbF : ¬ (pv.ownBlock = some gb) := fun e => by
    obtain ⟨cs, hb⟩ := h7.blkOf e
    exact typ_pb (blk_ne hb h4)
  have hB' : Blk w' gb [pv, nv, .map (some gm), cv] 121 := h4.kp hk hgbF
  have hkS : Kp (fun k => k = gb) w' (w'.setCell ⟨gb, 0, none⟩ pv') := Kp.setCell (F := fun k => k = gb) (Kp.refl w') (fun _ => rfl) _
  have hk0 : Ext w0 w' := h1.trans' hk fun i hi hg => by
    have := h7.block i hg; unfold New at this; omega
  have hne : ∀ {g : Nat} {cs : List Value} {e : TypeId}, Blk w g cs e → 164 ≠ e → ¬ pv.ownBlock = some g := fun hb he hg => by
    obtain ⟨cs', hb'⟩ := h7.blkOf hg
    exact he (blk_ne hb' hb)
  have rowK : ∀ {e : TypeId} {k : Nat} {v : Value} {n : Nat} {xs : List Value} {M : Nat → Prop}, Row w e k v n xs M → 164 ≠ e → e ≠ 121 → Row (w'.setCell ⟨gb, 0, none⟩ pv') e k v n xs M := fun hr1 he he2 => by
    have r1 := hr1.kp' hk fun g hg _ hp => by
      obtain ⟨cs, hb⟩ := hr1.blkOf hg
      exact hne hb he hp
    exact r1.kp' hkS fun g hg _ e => by
      obtain ⟨cs, hb⟩ := r1.blkOf hg
      subst e
      exact he2 (blk_ne hb hB')
  refine ⟨pv', w', hrun, by rw [hB'.cell']; rfl, hB'.free 0, (hk.mono fun i _ e => .inr (h7.blkOf e)).trans' hkS fun i _ e => .inl e, ?_⟩
  refine ⟨hk0.trans' hkS fun i hi e => by omega, h2, h3, hB'.set 0 pv', ?_, ?_, rowK h9 typ_ps typ_sb, fun v => rowK (h10 v) typ_ps typ_sb⟩
  · refine (h5.kp hk fun e => ?_).kp hkS fun e => ?_
    · obtain ⟨cs, hb⟩ := h7.blkOf e
      exact blk_map hb h5
    · subst e; exact blk_map h4 h5
  · refine ⟨vs ++ [x], by simp [h6], ?_, ?_⟩
    · have e1 : ((pl ++ [l]).zip (vs ++ [x])).flatMap (partC S) = (pl.zip vs).flatMap (partC S) ++ partC S (l, x) := by
        rw [List.zip_append (by omega), List.flatMap_append]; simp
      rw [e1, List.length_append]
      have r2 : Row w' 164 4 pv' (pl.length + 1) ((pl.zip vs).flatMap (partC S) ++ partC S (l, x)) (New w0) := hr.mono fun g hg => by
        rcases hg with hg | hg
        · exact h7.block g hg
        · exact Nat.le_trans h1.size hg
      exact r2.kp' hkS fun g hg _ e => by
        obtain ⟨cs, hb⟩ := r2.blkOf hg
        subst e
        exact typ_pb (blk_ne hb hB')
    · intro y hy
      rw [List.zip_append (by omega), List.mem_append] at hy
      rcases hy with hy | hy
      · exact rowK (h8 y hy) typ_pt typ_tb
      · simp at hy; subst hy; exact rowK hx typ_pt typ_tb

/-- A row of spots grows. -/
theorem spot_grow {v : Value} {xs : List (Nat × Nat)} {M : Nat → Prop} (hr : Row w 168 2 v xs.length (xs.flatMap spotC) M) (x : Nat × Nat) {ao : Option Addr} {c : Nat} (hsrc : CellsAt w ao (spotC x)) (hl : xs.length ≤ 1099513724928) (ty : TypeId) :
    ∃ v' w', (Builtin.append_ #[119, 119] ty #[v, .slice ao 1 c]).run Tryz.prog w = .ok v' w' ∧ Row w' 168 2 v' (xs ++ [x]).length ((xs ++ [x]).flatMap spotC) (fun g => v.ownBlock = some g ∨ w.heap.size ≤ g) ∧ Kp (fun g => v.ownBlock = some g) w w' := by
  obtain ⟨v', w', hrun, hr', hk, _⟩ := run_app (m := 1) elem_spot ty hr (spotC_len x) hsrc (by intro u hu; simp [spotC] at hu; rcases hu with rfl | rfl <;> rfl) (by omega) (by unfold maxLen; omega) (c := c)
  refine ⟨v', w', hrun, ?_, hk⟩
  rw [List.length_append, List.flatMap_append]
  simpa using hr'

/-- One more column of a constant. -/
theorem BodyIn.const (h : BodyIn w0 w gb gm nv col S pl sp cn pv cv m) (x : Nat × Nat) {ao : Option Addr} {c : Nat} (hsrc : CellsAt w ao (spotC x)) (hl : cn.length ≤ 1099513724928) (ty : TypeId) :
    ∃ cv' w', (Builtin.append_ #[119, 119] ty #[cv, .slice ao 1 c]).run Tryz.prog w = .ok cv' w' ∧ w'.cell? ⟨gb, 3, none⟩ = some cv ∧ w'.frozen? ⟨gb, 3, none⟩ = false ∧ Kp (fun k => k = gb ∨ ∃ cs, Blk w k cs 168) w (w'.setCell ⟨gb, 3, none⟩ cv') ∧
      ∃ col', BodyIn w0 (w'.setCell ⟨gb, 3, none⟩ cv') gb gm nv col' S pl sp (cn ++ [x]) pv cv' m := by
  obtain ⟨h1, h2, h3, h4, h5, ⟨vs, h6, h7, h8⟩, h9, h10⟩ := h
  obtain ⟨cv', w', hrun, hr, hk⟩ := spot_grow h9 x hsrc hl ty (c := c)
  have hB' : Blk w' gb [pv, nv, .map (some gm), cv] 121 := h4.kp hk fun e => by
    obtain ⟨cs, hb⟩ := h9.blkOf e
    exact typ_sb (blk_ne hb h4)
  have hkS : Kp (fun k => k = gb) w' (w'.setCell ⟨gb, 3, none⟩ cv') := Kp.setCell (F := fun k => k = gb) (Kp.refl w') (fun _ => rfl) _
  have hk0 : Ext w0 w' := h1.trans' hk fun i hi hg => by
    have := (h9.block i hg).1; unfold New at this; omega
  have rowS : ∀ {e : TypeId} {k : Nat} {v : Value} {n : Nat} {xs : List Value} {M : Nat → Prop}, Row w' e k v n xs M → e ≠ 121 → Row (w'.setCell ⟨gb, 3, none⟩ cv') e k v n xs M := fun hr1 he2 =>
    hr1.kp' hkS fun g hg _ e => by
      obtain ⟨cs, hb⟩ := hr1.blkOf hg
      subst e
      exact he2 (blk_ne hb hB')
  have rowK : ∀ {e : TypeId} {k : Nat} {v : Value} {n : Nat} {xs : List Value} {M : Nat → Prop}, Row w e k v n xs M → e ≠ 168 → e ≠ 121 → Row (w'.setCell ⟨gb, 3, none⟩ cv') e k v n xs M := fun hr1 he he2 =>
    rowS (hr1.kp' hk fun g hg _ hp => row_apart hr1 h9 he hg hp) he2
  refine ⟨cv', w', hrun, by rw [hB'.cell']; rfl, hB'.free 3, (hk.mono fun i _ e => .inr (h9.blkOf e)).trans' hkS fun i _ e => .inl e, tint w col none, hk0.trans' hkS fun i hi e => by omega, h2, h3, hB'.set 3 cv', ?_, ⟨vs, h6, rowK h7 typ_ps typ_pb, fun y hy => rowK (h8 y hy) (Ne.symm typ_st) typ_tb⟩, ?_, fun v => ?_⟩
  · refine (h5.kp hk fun e => ?_).kp hkS fun e => ?_
    · obtain ⟨cs, hb⟩ := h9.blkOf e
      exact blk_map hb h5
    · subst e; exact blk_map h4 h5
  · refine rowS (hr.mono fun g hg => ?_) typ_sb
    rcases hg with hg | hg
    · have := h9.block g hg
      exact ⟨this.1, by rw [tint_old (h9.ltB hg)]; exact this.2⟩
    · exact ⟨Nat.le_trans h1.size hg, tint_new hg⟩
  · refine rowS ((((h10 v).old).mono (fun g hg => ?_)).kp' hk fun g hg hm hp => ?_) typ_sb
    · exact ⟨hg.1.1, by rw [tint_old hg.2]; exact hg.1.2⟩
    · have a := ((h10 v).block g hg).2
      have b := (h9.block g hp).2
      rw [a] at b; cases b

/-- One more column of a variable. -/
theorem BodyIn.spot (h : BodyIn w0 w gb gm nv col S pl sp cn pv cv m) (v : ByteArray) (x : Nat × Nat) {ao : Option Addr} {c : Nat} (hsrc : CellsAt w ao (spotC x)) (hl : (sp v).length ≤ 1099513724928) (ty : TypeId) :
    ∃ v' w' w'', (Builtin.append_ #[119, 119] ty #[(getM m v).getD (.slice none 0 0), .slice ao 1 c]).run Tryz.prog w = .ok v' w' ∧ (Instr.mapUpdate 118 (.map (some gm)) (.string v) v').run Tryz.prog w' = .ok () w'' ∧
      Kp (fun g => ((getM m v).getD (.slice none 0 0)).ownBlock = some g) w w' ∧ MapIs w' gm m ∧ Kp (fun k => k = gm ∨ ∃ cs, Blk w k cs 168) w w'' ∧
      ∃ col', BodyIn w0 w'' gb gm nv col' S pl (fun u => if u = v then sp v ++ [x] else sp u) cn pv cv (putM m v v') := by
  obtain ⟨h1, h2, h3, h4, h5, ⟨vs, h6, h7, h8⟩, h9, h10⟩ := h
  obtain ⟨v', w', hrun, hr, hk⟩ := spot_grow (h10 v) x hsrc hl ty (c := c)
  have hM' : MapIs w' gm m := h5.kp hk fun e => by
    obtain ⟨cs, hb⟩ := (h10 v).blkOf e
    exact blk_map hb h5
  obtain ⟨w'', hrun2, hM2, hk2⟩ := run_update_str (P := Tryz.prog) Tryz.underlying118 Tryz.underlying9 hM' v v'
  have hB' : Blk w' gb [pv, nv, .map (some gm), cv] 121 := h4.kp hk fun e => by
    obtain ⟨cs, hb⟩ := (h10 v).blkOf e
    exact typ_sb (blk_ne hb h4)
  have hk0 : Ext w0 w' := h1.trans' hk fun i hi hg => by
    have := ((h10 v).block i hg).1; unfold New at this; omega
  have rowS : ∀ {e : TypeId} {k : Nat} {v : Value} {n : Nat} {xs : List Value} {M : Nat → Prop}, Row w' e k v n xs M → Row w'' e k v n xs M := fun hr1 =>
    hr1.kp' hk2 fun g hg _ e => by
      obtain ⟨cs, hb⟩ := hr1.blkOf hg
      subst e
      exact blk_map hb hM'
  have rowK : ∀ {e : TypeId} {k : Nat} {v2 : Value} {n : Nat} {xs : List Value} {M : Nat → Prop}, Row w e k v2 n xs M → e ≠ 168 → Row w'' e k v2 n xs M := fun hr1 he =>
    rowS (hr1.kp' hk fun g hg _ hp => row_apart hr1 (h10 v) he hg hp)
  refine ⟨v', w', w'', hrun, hrun2, hk, hM', (hk.mono fun i _ e => .inr ((h10 v).blkOf e)).trans' hk2 fun i _ e => .inl e, tint w col (some v), hk0.trans' hk2 fun i hi e => by omega, h2, h3, hB'.kp hk2 fun e => by subst e; exact blk_map hB' hM', hM2, ⟨vs, h6, rowK h7 typ_ps, fun y hy => rowK (h8 y hy) (Ne.symm typ_st)⟩, ?_, fun u => ?_⟩
  · refine rowS (((h9.old).mono (fun g hg => ?_)).kp' hk fun g hg hm hp => ?_)
    · exact ⟨hg.1.1, by rw [tint_old hg.2]; exact hg.1.2⟩
    · have a := (h9.block g hg).2
      have b := ((h10 v).block g hp).2
      rw [a] at b; cases b
  · rw [getM_put]
    by_cases hu : u = v
    · subst hu
      simp only [if_true]
      refine rowS (hr.mono fun g hg => ?_)
      rcases hg with hg | hg
      · have := (h10 u).block g hg
        exact ⟨this.1, by rw [tint_old ((h10 u).ltB hg)]; exact this.2⟩
      · exact ⟨Nat.le_trans h1.size hg, tint_new hg⟩
    · rw [if_neg hu, if_neg hu]
      refine rowS ((((h10 u).old).mono (fun g hg => ?_)).kp' hk fun g hg hm hp => ?_)
      · exact ⟨hg.1.1, by rw [tint_old hg.2]; exact hg.1.2⟩
      · have a := ((h10 u).block g hg).2
        have b := ((h10 v).block g hp).2
        rw [a] at b; cases b; exact hu rfl

/-- Blocks of other types stay where parts, columns grow. -/
theorem BodyIn.keepB (h : BodyIn w0 w gb gm nv col S pl sp cn pv cv m) {T e : TypeId} {g : Nat} {cs : List Value} (hk : Kp (fun k => k = gb ∨ ∃ cs, Blk w k cs T) w w') (hb : Blk w g cs e) (h1 : e ≠ 121) (h2 : e ≠ T) : Blk w' g cs e :=
  hb.kp hk fun x => by
    rcases x with x | ⟨cs', hb'⟩
    · subst x; exact h1 (blk_ne hb h.blk)
    · exact h2 (blk_ne hb hb')
theorem BodyIn.keepM (h : BodyIn w0 w gb gm nv col S pl sp cn pv cv m) {T e : TypeId} {g : Nat} {cs : List Value} (hk : Kp (fun k => k = gm ∨ ∃ cs, Blk w k cs T) w w') (hb : Blk w g cs e) (h2 : e ≠ T) : Blk w' g cs e :=
  hb.kp hk fun x => by
    rcases x with x | ⟨cs', hb'⟩
    · subst x; exact blk_map hb h.map
    · exact h2 (blk_ne hb hb')

/-- An empty one. -/
theorem BodyIn.zero (h1 : Ext w0 w) (h2 : w0.heap.size ≤ gb) (h3 : w0.heap.size ≤ gm) (hB : Blk w gb [.slice none 0 0, nv, .map (some gm), .slice none 0 0] 121) (hM : MapIs w gm []) : BodyIn w0 w gb gm nv (fun _ => none) S [] (fun _ => []) [] (.slice none 0 0) (.slice none 0 0) [] :=
  ⟨h1, h2, h3, hB, hM, ⟨[], rfl, Row.nil _ _ _ _, fun x hx => by simp at hx⟩, Row.nil _ _ _ _, fun v => Row.nil _ _ _ _⟩
end
end Go.Proofs.YtomeebimmmfmbaaGreat

/- The law of costs: a rule in memory of its own, with marks behind its lists: what it is; ownTerms, lent. -/
namespace Go.Proofs.YtomeebimmmfmbaaGreat
open Go.RowKit
set_option linter.unusedVariables false

def termC (t : TermZ) : List Value := [.int .i64 t.1, .string t.2.1]
theorem termC_len (t : TermZ) : (termC t).length = 2 := rfl
def tcells (ts : List TermZ) : List Value := ts.flatMap termC
theorem tcells_len (ts : List TermZ) : (tcells ts).length = ts.length * 2 := flat_len termC 2 termC_len ts
abbrev markT : TermZ := (-7, ⟨#[]⟩, ())
theorem elem_term : ElemT Tryz.prog 23 94 2 24 (.agg #[.int .i64 0, .string ⟨#[]⟩]) := ⟨by kernel_rfl, by kernel_rfl, rfl, by decide⟩
theorem elem_lit : ElemT Tryz.prog 26 97 8 104 (.agg #[.int .i64 0, .string ⟨#[]⟩, .slice none 0 0, .int .i64 0, .int .i64 0, .string ⟨#[]⟩, .int .i64 0, .string ⟨#[]⟩]) := ⟨by kernel_rfl, by kernel_rfl, rfl, by decide⟩
theorem elem_int : ElemT Tryz.prog 29 3 1 8 (.int .i64 0) := ⟨by kernel_rfl, by kernel_rfl, rfl, by decide⟩

/-- Elements by their cells. -/
theorem elems_cells {α : Type} {s : Shp Tryz.prog α} {f : α → List Value} {w : World} {G : Nat → Prop} {ao : Option Addr} {xs : List α} (hn : 0 < s.n) (hf : ∀ x, (f x).length = s.n) (hat : ∀ es x, s.At w G es x → es = f x) (h : ElemsAt s w G ao xs) : CellsAt w ao (xs.flatMap f) := fun i u hu => by
  have hq := Nat.div_add_mod i s.n
  have hm := Nat.mod_lt i hn
  have hl := (List.getElem?_eq_some_iff.1 hu).1
  rw [flat_len f s.n hf] at hl
  have hi : i / s.n < xs.length := Nat.div_lt_of_lt_mul (by rw [Nat.mul_comm]; exact hl)
  obtain ⟨b, off, es, e, _, _, ha, hc⟩ := h (i / s.n) _ (List.getElem?_eq_getElem hi)
  have hg := flat_get f s.n hf xs (i / s.n) _ (i % s.n) (List.getElem?_eq_getElem hi) hm
  have e1 : i / s.n * s.n + i % s.n = i := by rw [Nat.mul_comm]; exact hq
  rw [e1, hu] at hg
  have := hc (i % s.n) u (by rw [hat es _ ha]; exact hg.symm)
  rw [e1] at this
  exact ⟨b, off, e, this⟩
theorem terms_cells {w : World} {G : Nat → Prop} {ao : Option Addr} {ts : List TermZ} (h : TermsAt w G ao ts) : CellsAt w ao (tcells ts) :=
  elems_cells (s := shTerm) (f := termC) (by decide) (fun x => rfl) (fun es x ha => term_cells ha) h
theorem elems_of {α : Type} {s : Shp Tryz.prog α} {f : α → List Value} {w : World} {G : Nat → Prop} {g : Nat} {xs : List α} {rest : List Value} {e : TypeId} (hf : ∀ x, (f x).length = s.n) (hat : ∀ (i : Nat) x, xs[i]? = some x → s.At w G (f x) x) (hG : G g) (hB : Blk w g (xs.flatMap f ++ rest) e) : ElemsAt s w G (some ⟨g, 0, none⟩) xs := fun i x hi => by
  refine ⟨g, 0, f x, rfl, hG, hB.lt, hat i x hi, fun c u hu => ?_⟩
  have hc : c < s.n := by rw [← hf x]; exact (List.getElem?_eq_some_iff.1 hu).1
  have hg := flat_get f s.n hf xs i x c hi hc
  rw [hB.cell', Nat.zero_add, List.getElem?_append_left (by
    have := (List.getElem?_eq_some_iff.1 (hg.trans hu)).1
    exact this), hg, hu]
theorem term_mk {w : World} {G : Nat → Prop} {t : TermZ} (h : TermFit t) : shTerm.At w G (termC t) t := ⟨[.int .i64 t.1], [.string t.2.1], rfl, ⟨rfl, h.1⟩, [.string t.2.1], [], rfl, ⟨rfl, h.2⟩, rfl⟩
theorem terms_fit {w : World} {G : Nat → Prop} {ao : Option Addr} {ts : List TermZ} (h : TermsAt w G ao ts) : ∀ t ∈ ts, TermFit t := fun t ht => by
  obtain ⟨i, hi⟩ := List.mem_iff_getElem?.1 ht
  obtain ⟨b, off, es, e, _, _, ha, _⟩ := h i t hi
  exact term_fit ha

/-- Terms in a block of their own, with a mark behind them. -/
def TermsM (w0 w : World) (a : Option Addr) (n cap : Nat) (ts : List TermZ) : Prop := ∃ g rest, a = some ⟨g, 0, none⟩ ∧ n = ts.length ∧ n + 1 ≤ cap ∧ cap ≤ maxLen ∧ w0.heap.size ≤ g ∧ Blk w g (tcells (ts ++ [markT]) ++ rest) 94
theorem tcells_snoc (ts : List TermZ) (t : TermZ) : tcells (ts ++ [t]) = tcells ts ++ termC t := by unfold tcells; rw [List.flatMap_append]; simp
theorem TermsM.at {w0 w : World} {a : Option Addr} {n cap : Nat} {ts : List TermZ} (h : TermsM w0 w a n cap ts) (hf : ∀ t ∈ ts, TermFit t) : TermsAt w (New w0) a ts := by
  obtain ⟨g, rest, rfl, _, _, _, hg, hB⟩ := h
  rw [tcells_snoc, List.append_assoc] at hB
  exact elems_of (s := shTerm) (f := termC) (fun x => rfl) (fun i x hi => term_mk (hf x (List.mem_of_getElem? hi))) hg hB
theorem TermsM.mark {w0 w : World} {a : Option Addr} {n cap : Nat} {ts : List TermZ} (h : TermsM w0 w a n cap ts) : ∃ g, a = some ⟨g, 0, none⟩ ∧ w.cell? ⟨g, n * 2, none⟩ = some (.int .i64 (-7)) := by
  obtain ⟨g, rest, rfl, hn, _, _, hg, hB⟩ := h
  refine ⟨g, rfl, ?_⟩
  rw [tcells_snoc, List.append_assoc] at hB
  rw [hB.cell', hn, ← tcells_len ts, List.getElem?_append_right (Nat.le_refl _), Nat.sub_self]; rfl
theorem TermsM.kp {w0 w w' : World} {F : Nat → Prop} {a : Option Addr} {n cap : Nat} {ts : List TermZ} (h : TermsM w0 w a n cap ts) (hk : Kp F w w') (hF : ∀ k cs, Blk w k cs 94 → ¬ F k) : TermsM w0 w' a n cap ts := by
  obtain ⟨g, rest, e, hn, h1, h2, hg, hB⟩ := h
  exact ⟨g, rest, e, hn, h1, h2, hg, hB.kp hk (hF g _ hB)⟩
theorem TermsM.ext {w0 w w' : World} {a : Option Addr} {n cap : Nat} {ts : List TermZ} (h : TermsM w0 w a n cap ts) (hk : Ext w w') : TermsM w0 w' a n cap ts := h.kp hk fun _ _ _ => id
theorem TermsM.old {w0 w1 w : World} {a : Option Addr} {n cap : Nat} {ts : List TermZ} (h : TermsM w1 w a n cap ts) (hs : w0.heap.size ≤ w1.heap.size) : TermsM w0 w a n cap ts := by
  obtain ⟨g, rest, e, hn, h1, h2, hg, hB⟩ := h
  exact ⟨g, rest, e, hn, h1, h2, Nat.le_trans hs hg, hB⟩
theorem tcells_one (ts : List TermZ) : ∀ u ∈ tcells ts, u.oneCell' = true := fun u hu => by
  obtain ⟨t, _, h⟩ := List.mem_flatMap.1 hu
  simp [termC] at h
  rcases h with rfl | rfl <;> rfl

set_option maxRecDepth 100000 in
set_option maxHeartbeats 1000000 in
theorem ownTerms_any (ts : List TermZ) (ao : Option Addr) (n cap : Nat) (w : World) (G : Nat → Prop) (hn : n = ts.length) (h : TermsAt w G ao ts) (hl : n ≤ 1048576) :
    Calls Tryz.prog 70 #[.slice ao n cap] w (RetN w fun w' v => ∃ a c, v = .slice a n c ∧ TermsM w w' a n c ts) := by
  have HN := Lib.hid hn
  have HC := Lib.hid (terms_cells h)
  have HL := Lib.hid (tcells_len ts)
  clear hn h
  go_enter Tryz.func70, Tryz.ntmps70
  go_wp2_with (first | (at_builtin; refine Halted.out ?_))
  refine Halted.mk (wp_appN (m := n) (n := 0) elem_term rfl _ _ rfl (Kp.refl (F := fun _ => False) w) rfl (Row.nil _ _ _ _) rfl HC.out (by rw [HL.out, HN.out]) (tcells_one ts) (by omega) (by unfold maxLen; omega) ?_)
  intro v1 w1 hr1 hk1 _ _
  rw [Nat.zero_add, List.nil_append] at hr1
  have HR1 := Lib.hid hr1
  have X1 := Lib.hid hk1
  obtain ⟨a1, c1, e1, _, _⟩ := hr1.shape
  subst e1
  clear hr1 hk1
  go_wp2_with (first | (at_builtin; refine Halted.out ?_))
  refine Halted.mk (wp_appN (m := 1) (n := n) elem_term rfl _ _ rfl (X1.out.alloc _) rfl (HR1.out.alloc _) rfl (CellsAt.two w1 (.int .i64 (-7)) (.string ⟨#[]⟩) 94) (by rfl) (by simp [Value.oneCell']) (by omega) (by unfold maxLen; omega) ?_)
  intro v2 w2 hr2 hk2 _ _
  have HR2 := Lib.hid hr2
  have X2 := Lib.hid hk2
  obtain ⟨h1, ⟨rfl, h0⟩ | ⟨g, cap2, rest, rfl, hM, hB, hlen, hnc, hcm⟩⟩ := hr2
  · omega
  · have hcm2 : cap2 ≤ 9223372036854775807 := hcm
    have i1 : (n : Int) ≤ (cap2 : Int) := by omega
    clear h1 hk2
    go_wp2
    go_ret
    refine RetN.mk X2.out ⟨_, _, rfl, g, rest, rfl, HN.out, hnc, hcm, hM, ?_⟩
    rw [tcells_snoc]; exact hB

/-- Numbers in a block of their own, with a mark behind them. -/
def IntsM (w0 w : World) (g n cap : Nat) (xs : List Int) : Prop := ∃ rest, n = xs.length ∧ n + 1 ≤ cap ∧ cap ≤ maxLen ∧ w0.heap.size ≤ g ∧ Blk w g (ints (xs ++ [-77]) ++ rest) 3 ∧ (ints (xs ++ [-77]) ++ rest).length = cap
theorem IntsM.at {w0 w : World} {g n cap : Nat} {xs : List Int} (h : IntsM w0 w g n cap xs) : CellsAt w (some ⟨g, 0, none⟩) (ints xs) := by
  obtain ⟨rest, _, _, _, _, hB, _⟩ := h
  have e : ints (xs ++ [-77]) ++ rest = ints xs ++ ([.int .i64 (-77)] ++ rest) := by simp [ints]
  rw [e] at hB
  exact CellsAt.pre hB
theorem IntsM.mark {w0 w : World} {g n cap : Nat} {xs : List Int} (h : IntsM w0 w g n cap xs) : w.cell? ⟨g, n, none⟩ = some (.int .i64 (-77)) := by
  obtain ⟨rest, hn, _, _, _, hB, _⟩ := h
  rw [hB.cell']
  simp [ints, hn]
theorem IntsM.kp {w0 w w' : World} {F : Nat → Prop} {g n cap : Nat} {xs : List Int} (h : IntsM w0 w g n cap xs) (hk : Kp F w w') (hF : ¬ F g) : IntsM w0 w' g n cap xs := by
  obtain ⟨rest, hn, h1, h2, hg, hB, hl⟩ := h
  exact ⟨rest, hn, h1, h2, hg, hB.kp hk hF, hl⟩
theorem IntsM.ext {w0 w w' : World} {g n cap : Nat} {xs : List Int} (h : IntsM w0 w g n cap xs) (hk : Ext w w') : IntsM w0 w' g n cap xs := h.kp hk id
theorem ints_one (xs : List Int) : ∀ u ∈ ints xs, u.oneCell' = true := fun u hu => by
  obtain ⟨x, _, rfl⟩ := List.mem_map.1 hu; rfl
set_option maxRecDepth 100000 in
set_option maxHeartbeats 1000000 in
theorem lent_any (xs : List Int) (ao : Option Addr) (n cap : Nat) (w : World) (hn : n = xs.length) (h : CellsAt w ao (ints xs)) (hl : n ≤ 1048576) :
    Calls Tryz.prog 36 #[.slice ao n cap] w (RetN w fun w' v => ∃ g c, v = .slice (some ⟨g, 0, none⟩) n c ∧ IntsM w w' g n c xs) := by
  have HN := Lib.hid hn
  have HC := Lib.hid h
  clear hn h
  go_enter Tryz.func36, Tryz.ntmps36
  go_wp2_with (first | (at_builtin; refine Halted.out ?_))
  refine Halted.mk (wp_appN (m := n) (n := 0) elem_int rfl _ _ rfl (Kp.refl (F := fun _ => False) w) rfl (Row.nil _ _ _ _) rfl HC.out (by rw [ints_len, HN.out, Nat.mul_one]) (ints_one xs) (by omega) (by unfold maxLen; omega) ?_)
  intro v1 w1 hr1 hk1 _ _
  rw [Nat.zero_add, List.nil_append] at hr1
  have HR1 := Lib.hid hr1
  have X1 := Lib.hid hk1
  obtain ⟨a1, c1, e1, _, _⟩ := hr1.shape
  subst e1
  clear hr1 hk1
  go_wp2_with (first | (at_builtin; refine Halted.out ?_))
  refine Halted.mk (wp_appN (m := 1) (n := n) elem_int rfl _ _ rfl (X1.out.alloc _) rfl (HR1.out.alloc _) rfl (CellsAt.one w1 (.int .i64 (-77)) 3) (by rfl) (by simp [Value.oneCell']) (by omega) (by unfold maxLen; omega) ?_)
  intro v2 w2 hr2 hk2 _ _
  have X2 := Lib.hid hk2
  obtain ⟨h1, ⟨rfl, h0⟩ | ⟨g, cap2, rest, rfl, hM, hB, hlen, hnc, hcm⟩⟩ := hr2
  · omega
  · have hcm2 : cap2 ≤ 9223372036854775807 := hcm
    have i1 : (n : Int) ≤ (cap2 : Int) := by omega
    clear h1 hk2
    go_wp2
    go_ret
    have e : ints (xs ++ [-77]) = ints xs ++ [.int .i64 (-77)] := by simp [ints]
    refine RetN.mk X2.out ⟨_, _, rfl, rest, HN.out, hnc, hcm, hM, ?_, ?_⟩
    · rw [e]; exact hB
    · rw [e]; simpa using hlen
end Go.Proofs.YtomeebimmmfmbaaGreat

/- The law of costs: twin, stays. -/
namespace Go.Proofs.YtomeebimmmfmbaaGreat
open Go.RowKit
set_option linter.unusedVariables false

def litC (x : LitZ × (Option Addr × Nat)) : List Value := [.int .i64 x.1.1, .string (predOf x.1), .slice x.2.1 (termsOf x.1).length x.2.2, .int .i64 (opOf x.1), .int .i64 (leftOf x.1).1, .string (leftOf x.1).2.1, .int .i64 (rightOf x.1).1, .string (rightOf x.1).2.1]
theorem litC_len (x : LitZ × (Option Addr × Nat)) : (litC x).length = 8 := rfl
def markL : List Value := [.int .i64 (-7), .string ⟨#[]⟩, .slice none 0 0, .int .i64 0, .int .i64 0, .string ⟨#[]⟩, .int .i64 0, .string ⟨#[]⟩]
/-- What a literal is beyond its values. -/
structure LitAll (l : LitZ) : Prop where
  kind : (Lit.int .i64 l.1).wf = true
  pred : (predOf l).size ≤ maxLen
  terms : ∀ t ∈ termsOf l, TermFit t
  op : (Lit.int .i64 (opOf l)).wf = true
  left : TermFit (leftOf l)
  right : TermFit (rightOf l)
theorem lits_all {w : World} {G : Nat → Prop} {ao : Option Addr} {ls : List LitZ} (h : LitsAt w G ao ls) : ∀ l ∈ ls, LitAll l := fun l hl => by
  obtain ⟨i, hi⟩ := List.mem_iff_getElem?.1 hl
  obtain ⟨b, off, es, e, _, _, ha, _⟩ := h i l hi
  obtain ⟨a1, b1, e1, ⟨e2, k2⟩, ⟨a3, b3, e3, h3, ⟨a4, b4, e4, ⟨e5, k5⟩, ⟨a6, b6, e6, h6, ⟨a7, b7, e7, h7, e8⟩⟩⟩⟩⟩ := ha
  obtain ⟨c1, d1, f1, ⟨f2, g2⟩, ⟨c3, d3, f3, ⟨ao', cap, f4, g1, g3, g4⟩, f5⟩⟩ := h3
  exact ⟨k2, g2, terms_fit g4, k5, term_fit h6, term_fit h7⟩
theorem lit_mk {w : World} {G : Nat → Prop} {l : LitZ} (h : LitAll l) {a : Option Addr} {cap : Nat} (ht : TermsAt w G a (termsOf l)) (h1 : (termsOf l).length ≤ cap) (h2 : cap ≤ maxLen) : shLit.At w G (litC (l, (a, cap))) l :=
  ⟨[.int .i64 l.1], _, rfl, ⟨rfl, h.kind⟩, ⟨[.string (predOf l), .slice a (termsOf l).length cap], _, rfl, ⟨[.string (predOf l)], _, rfl, ⟨rfl, h.pred⟩, [.slice a (termsOf l).length cap], [], rfl, ⟨a, cap, rfl, h1, h2, ht⟩, rfl⟩,
    ⟨[.int .i64 (opOf l)], _, rfl, ⟨rfl, h.op⟩, ⟨termC (leftOf l), _, rfl, term_mk h.left, ⟨termC (rightOf l), [], rfl, term_mk h.right, rfl⟩⟩⟩⟩⟩
theorem lits_cells {w : World} {G : Nat → Prop} {g : Nat} {ls : List LitZ} {vs : List (Option Addr × Nat)} {rest : List Value} {e : TypeId} (hl : vs.length = ls.length) (hall : ∀ l ∈ ls, LitAll l) (ht : ∀ x ∈ ls.zip vs, TermsAt w G x.2.1 (termsOf x.1) ∧ (termsOf x.1).length ≤ x.2.2 ∧ x.2.2 ≤ maxLen) (hG : G g) (hB : Blk w g ((ls.zip vs).flatMap litC ++ rest) e) : LitsAt w G (some ⟨g, 0, none⟩) ls := fun i l hi => by
  have hv : i < vs.length := by rw [hl]; exact (List.getElem?_eq_some_iff.1 hi).1
  have hz : (ls.zip vs)[i]? = some (l, vs[i]) := by rw [List.getElem?_zip_eq_some]; exact ⟨hi, List.getElem?_eq_getElem hv⟩
  obtain ⟨t1, t2, t3⟩ := ht _ (List.mem_of_getElem? hz)
  refine ⟨g, 0, litC (l, vs[i]), rfl, hG, hB.lt, lit_mk (hall l (List.mem_of_getElem? hi)) t1 t2 t3, fun c u hu => ?_⟩
  have hc : c < 8 := (List.getElem?_eq_some_iff.1 hu).1
  have hg := flat_get litC 8 litC_len (ls.zip vs) i _ c hz hc
  rw [show shLit.n = 8 from rfl, hB.cell', Nat.zero_add, List.getElem?_append_left (List.getElem?_eq_some_iff.1 (hg.trans hu)).1, hg, hu]

/-- A rule in memory of its own, with marks behind its lists. -/
structure RuleM (w0 w : World) (hs : List TermZ) (ls : List LitZ) (ha : Option Addr) (hn hcap : Nat) (ba : Option Addr) (n bcap : Nat) : Prop where
  head : TermsM w0 w ha hn hcap hs
  body : ∃ g rest vs, ba = some ⟨g, 0, none⟩ ∧ n = ls.length ∧ n + 1 ≤ bcap ∧ bcap ≤ maxLen ∧ w0.heap.size ≤ g ∧ vs.length = ls.length ∧ Blk w g ((ls.zip vs).flatMap litC ++ (markL ++ rest)) 97 ∧ ∀ x ∈ ls.zip vs, TermsM w0 w x.2.1 (termsOf x.1).length x.2.2 (termsOf x.1)
theorem RuleM.kp {w0 w w' : World} {F : Nat → Prop} {hs : List TermZ} {ls : List LitZ} {ha : Option Addr} {hn hcap : Nat} {ba : Option Addr} {n bcap : Nat} (h : RuleM w0 w hs ls ha hn hcap ba n bcap) (hk : Kp F w w') (hF : ∀ k cs, Blk w k cs 94 ∨ Blk w k cs 97 → ¬ F k) : RuleM w0 w' hs ls ha hn hcap ba n bcap := by
  obtain ⟨h1, g, rest, vs, e, a1, a2, a3, a4, a5, hB, hx⟩ := h
  exact ⟨h1.kp hk fun k cs hb => hF k cs (.inl hb), g, rest, vs, e, a1, a2, a3, a4, a5, hB.kp hk (hF g _ (.inr hB)), fun x hxx => (hx x hxx).kp hk fun k cs hb => hF k cs (.inl hb)⟩
theorem RuleM.ext {w0 w w' : World} {hs : List TermZ} {ls : List LitZ} {ha : Option Addr} {hn hcap : Nat} {ba : Option Addr} {n bcap : Nat} (h : RuleM w0 w hs ls ha hn hcap ba n bcap) (hk : Ext w w') : RuleM w0 w' hs ls ha hn hcap ba n bcap := h.kp hk fun _ _ _ => id
theorem RuleM.lits {w0 w : World} {hs : List TermZ} {ls : List LitZ} {ha : Option Addr} {hn hcap : Nat} {ba : Option Addr} {n bcap : Nat} (h : RuleM w0 w hs ls ha hn hcap ba n bcap) (hall : ∀ l ∈ ls, LitAll l) : LitsAt w (New w0) ba ls := by
  obtain ⟨_, g, rest, vs, rfl, a1, a2, a3, a4, a5, hB, hx⟩ := h
  refine lits_cells a5 hall (fun x hxx => ?_) a4 hB
  have hm := hx x hxx
  have hl : x.1 ∈ ls := (List.of_mem_zip (show (x.1, x.2) ∈ ls.zip vs from hxx)).1
  refine ⟨hm.at (hall _ hl).terms, ?_⟩
  obtain ⟨_, _, _, _, q1, q2, _, _⟩ := hm
  exact ⟨by omega, q2⟩

def TwinTo (hs : List TermZ) (w0 : World) (gx : Nat) (p : ByteArray) (ha : Option Addr) (hn hcap : Nat) (ls : List LitZ) (n : Nat) (iv : Value) (w : World) : Prop := ∃ i : Nat, i ≤ n ∧ iv = .int .i64 i ∧ Hid (Ext w0 w) ∧ Hid (∃ bv vs, Blk w gx [.string p, .slice ha hn hcap, bv] 28 ∧ vs.length = i ∧ Row w 97 8 bv i (((ls.take i).zip vs).flatMap litC) (New w0) ∧ ∀ x ∈ (ls.take i).zip vs, TermsM w0 w x.2.1 (termsOf x.1).length x.2.2 (termsOf x.1)) ∧ Hid (TermsM w0 w ha hn hcap hs)
theorem typ_tl : 94 ≠ 97 := by decide
theorem typ_tr : 94 ≠ 28 := by decide
theorem typ_lrC : 97 ≠ 28 := by decide
theorem litC_one (x : LitZ × (Option Addr × Nat)) : ∀ u ∈ litC x, u.oneCell' = true := fun u hu => by
  simp [litC] at hu
  rcases hu with rfl | rfl | rfl | rfl | rfl | rfl | rfl | rfl <;> rfl

/-- Zeros at an address that is new since wb, whether it was made before or after the call. -/
structure Zeros (wb w3 : World) (gx : Nat) : Prop where
  blk : Blk w3 gx [.string ⟨#[]⟩, .slice none 0 0, .slice none 0 0] 28
  ext : Ext wb w3
  new : wb.heap.size ≤ gx

set_option maxRecDepth 100000 in
set_option maxHeartbeats 8000000 in
theorem twin_any (p : ByteArray) (hs : List TermZ) (ls : List LitZ) (ha : Option Addr) (hn hcap : Nat) (ba : Option Addr) (n bcap : Nat) (w : World) (G : Nat → Prop) (hhn : hn = hs.length) (hh : TermsAt w G ha hs) (hhl : hn ≤ 1048576) (hbn : n = ls.length) (h : LitsAt w G ba ls) (hf : Fit ls) :
    Calls Tryz.prog 35 #[ruleV p ha hn hcap ba n bcap] w (RetN w fun w' v => ∃ ha' hcap' ba' bcap', v = ruleV p ha' hn hcap' ba' n bcap' ∧ RuleM w w' hs ls ha' hn hcap' ba' n bcap') := by
  have HN := Lib.hid hbn; have HE := Lib.hid h; have HF := Lib.hid hf; have hl : n ≤ 1048576 := by have := hf.len; omega
  have HOwn := Lib.hid (fun (W : World) (hW : Ext w W) => ownTerms_any hs ha hn hcap W G hhn (hh.ext hW) hhl)
  clear hbn h hf hhn hh
  go_enter Tryz.func35, Tryz.ntmps35
  obtain ⟨wb, eb⟩ : ∃ wb, (w.alloc (.cells #[.string p, .slice ha hn hcap, .slice ba n bcap] 28)).alloc (.cells #[.string ⟨#[]⟩, .slice none 0 0, .slice none 0 0] 28) = wb := ⟨_, rfl⟩
  have hB1 := (Blk.new w [.string p, .slice ha hn hcap, .slice ba n bcap] 28).alloc (.cells #[.string ⟨#[]⟩, .slice none 0 0, .slice none 0 0] 28)
  have hB1' : Blk wb w.heap.size [.string p, .slice ha hn hcap, .slice ba n bcap] 28 := by rw [← eb]; exact hB1
  have hB2 := Blk.new (w.alloc (.cells #[.string p, .slice ha hn hcap, .slice ba n bcap] 28)) [.string ⟨#[]⟩, .slice none 0 0, .slice none 0 0] 28
  rw [alloc_size] at hB2
  have hB2' : Blk wb (w.heap.size + 1) [.string ⟨#[]⟩, .slice none 0 0, .slice none 0 0] 28 := by rw [← eb]; exact hB2
  have hX : Ext w wb := by rw [← eb]; exact ((Kp.refl w).alloc _).alloc _
  have r0 : wb.cell? ⟨w.heap.size, 0, none⟩ = some (.string p) := by rw [hB1'.cell']; rfl
  have r1 : wb.cell? ⟨w.heap.size, 1, none⟩ = some (.slice ha hn hcap) := by rw [hB1'.cell']; rfl
  have HB1 := Lib.hid hB1'
  have HB2 := Lib.hid hB2'
  have HX := Lib.hid hX
  clear hB1 hB2 hB1' hB2' hX
  have HCells := Lib.hid (show ∀ w', Ext wb w' → (fun w' : World => w'.cell? ⟨w.heap.size, 0, none⟩ = some (.string p) ∧ w'.cell? ⟨w.heap.size, 1, none⟩ = some (.slice ha hn hcap)) w' from fun w' hw => by
    have h := HB1.out.ext hw
    exact ⟨by rw [h.cell']; rfl, by rw [h.cell']; rfl⟩)
  clear r0 r1
  go_wp2
  clear eb
  refine draw_begin (fun w' : World => w'.cell? ⟨w.heap.size, 0, none⟩ = some (.string p) ∧ w'.cell? ⟨w.heap.size, 1, none⟩ = some (.slice ha hn hcap)) [10] (by kernel_rfl) (HCells.out _ (Kp.refl wb).drew) (fun hHeld => ?_)
  (refine draw_free (i := 0) (v := ?_) rfl ?_ ?_; rotate_left; (intro w; go_simp; try with_reducible rfl)); (try simp only [Act.put, List.setIfInBounds_toArray, List.set_cons_zero, List.set_cons_succ])
  (refine draw_free (i := 1) (v := ?_) rfl ?_ ?_; rotate_left; (intro w; go_simp; try with_reducible rfl)); (try simp only [Act.put, List.setIfInBounds_toArray, List.set_cons_zero, List.set_cons_succ])
  (refine draw_in (i := 2) (v := ?_) rfl ?_ ?_; rotate_left; (intro w hSw; (try dsimp only at hSw); go_simp; try with_reducible rfl)); (try simp only [Act.put, List.setIfInBounds_toArray, List.set_cons_zero, List.set_cons_succ])
  (refine draw_free (i := 3) (v := ?_) rfl ?_ ?_; rotate_left; (intro w; go_simp; try with_reducible rfl)); (try simp only [Act.put, List.setIfInBounds_toArray, List.set_cons_zero, List.set_cons_succ])
  (refine draw_free (i := 4) (v := ?_) rfl ?_ ?_; rotate_left; (intro w; go_simp; try with_reducible rfl)); (try simp only [Act.put, List.setIfInBounds_toArray, List.set_cons_zero, List.set_cons_succ])
  (refine draw_in (i := 5) (v := ?_) rfl ?_ ?_; rotate_left; (intro w hSw; (try dsimp only at hSw); go_simp; try with_reducible rfl)); (try simp only [Act.put, List.setIfInBounds_toArray, List.set_cons_zero, List.set_cons_succ])
  refine draw_two (i := 6) (k := 9) ?_ ?_
  · refine comes_turn (i := 6) rfl (fun K hK => ?_)
    go_simp
    ((with_reducible refine (HOwn.out _ (by first | exact HX.out.drew | exact (HX.out.alloc _).drew)).mono ?_); rintro e w1 ⟨v, rfl, hk1, ha', hcap', rfl, htm⟩; have X1 := Lib.hid (show Ext wb w1 by first | exact ((Kp.refl wb).drew).trans hk1 | exact (((Kp.refl wb).alloc _).drew).trans hk1); have HFirst := Lib.hid hk1; have TM1 := Lib.hid (show TermsM wb w1 ha' hn hcap' hs from htm.old (by first | exact (Kp.refl (F := fun _ => False) wb).drew.size | exact (((Kp.refl (F := fun _ => False) wb).alloc _).drew).size)); clear hk1 htm)
    go_wp2_with fail
    refine hK.out _ _ ?_ (fun hHeld => ?_)
    · (try dsimp only); (exact HCells.out _ (by first | exact ((Kp.refl wb).alloc _).drew | exact X1.out.alloc _ | exact X1.out))
    clear hK K; (try simp only [Act.put, List.setIfInBounds_toArray, List.set_cons_zero, List.set_cons_succ])
    (refine draw_free (i := 7) (v := ?_) rfl ?_ ?_; rotate_left; (intro w; go_simp; try with_reducible rfl)); (try simp only [Act.put, List.setIfInBounds_toArray, List.set_cons_zero, List.set_cons_succ])
    (refine draw_free (i := 8) (v := ?_) rfl ?_ ?_; rotate_left; (intro w; go_simp; try with_reducible rfl)); (try simp only [Act.put, List.setIfInBounds_toArray, List.set_cons_zero, List.set_cons_succ])
    refine draw_one (i := 9) ?_
    refine comes_turn (i := 9) rfl (fun K hK => ?_)
    go_simp
    refine hK.out _ _ ?_ (fun hHeld => ?_)
    · (try dsimp only); (exact HCells.out _ (by first | exact ((Kp.refl wb).alloc _).drew | exact X1.out.alloc _ | exact X1.out))
    clear hK K; (try simp only [Act.put, List.setIfInBounds_toArray, List.set_cons_zero, List.set_cons_succ])
    refine draw_one (i := 10) ?_
    refine comes_late (i := 10) rfl (by kernel_rfl) (fun K hK => ?_)
    ((first | (obtain ⟨w3, e3⟩ : ∃ x, w1.alloc (.cells #[.string ⟨#[]⟩, .slice none 0 0, .slice none 0 0] 28) = x := ⟨_, rfl⟩; rw [e3]; obtain ⟨gx, eg⟩ : ∃ g, g = w1.heap.size := ⟨_, rfl⟩; rw [← eg]; have HZ := Lib.hid (show Zeros wb w3 gx from by rw [← e3, eg]; exact ⟨Blk.new w1 _ _, X1.out.alloc _, X1.out.size⟩); have TM3 := Lib.hid (show TermsM wb w3 ha' hn hcap' hs by rw [← e3]; exact TM1.out.ext ((Kp.refl w1).alloc _)); clear e3 eg) | (obtain ⟨w3, e3⟩ : ∃ x, x = w1 := ⟨_, rfl⟩; subst e3; obtain ⟨gx, eg⟩ : ∃ g, g = wb.heap.size := ⟨_, rfl⟩; rw [← eg]; have HZ := Lib.hid (show Zeros wb w3 gx from by rw [eg]; exact ⟨(Blk.new wb _ _).drew.ext HFirst.out, X1.out, Nat.le_refl _⟩); have TM3 := TM1; clear eg)); have z0 : w3.cell? ⟨gx, 0, none⟩ = some (.string ⟨#[]⟩) := (by rw [HZ.out.blk.cell']; rfl); have z1 : w3.cell? ⟨gx, 1, none⟩ = some (.slice none 0 0) := (by rw [HZ.out.blk.cell']; rfl); have z2 : w3.cell? ⟨gx, 2, none⟩ = some (.slice none 0 0) := (by rw [HZ.out.blk.cell']; rfl); have f0 := HZ.out.blk.free 0; have f1 := HZ.out.blk.free 1; have f2 := HZ.out.blk.free 2)
    go_simp
    refine hK.out _ _ ?_
    clear hK K; (try simp only [Act.put, List.setIfInBounds_toArray, List.set_cons_zero, List.set_cons_succ])
    refine wpAnyD_done (by kernel_rfl) ?_ _
    obtain ⟨w2, ew2⟩ : ∃ x, ((w3.setCell ⟨gx, 0, none⟩ (.string p)).setCell ⟨gx, 1, none⟩ (.slice ha' hn hcap')).setCell ⟨gx, 2, none⟩ (.slice none 0 0) = x := ⟨_, rfl⟩
    rw [ew2]
    have HGX := Lib.hid (show Blk w2 gx [.string p, .slice ha' hn hcap', .slice none 0 0] 28 by rw [← ew2]; exact ((HZ.out.blk.set 0 _).set 1 _).set 2 _)
    have hk32 : Kp (fun k => k = gx) w3 w2 := by rw [← ew2]; exact Kp.setCell (F := fun k => k = gx) (Kp.setCell (F := fun k => k = gx) (Kp.setCell (F := fun k => k = gx) (Kp.refl w3) (fun _ => rfl) _) (fun _ => rfl) _) (fun _ => rfl) _
    have X2 := Lib.hid (show Ext wb w2 from by
      rw [← ew2]
      have hno : ∀ c, (⟨gx, c, none⟩ : Addr).block < wb.heap.size → False := fun c h => by have := HZ.out.new; simp only at h; omega
      exact ((HZ.out.ext.setCell (fun h => hno 0 h) _).setCell (fun h => hno 1 h) _).setCell (fun h => hno 2 h) _)
    have TM2 := Lib.hid (TM3.out.kp hk32 fun k cs hb e => by subst e; exact typ_tr (blk_ne hb HZ.out.blk))
    have HB2x := Lib.hid (HB2.out.ext X2.out)
    have EGX := Lib.hid HZ.out.new
    clear hk32 ew2 hHeld z0 z1 z2 f0 f1 f2 HZ TM3 TM1 X1 HFirst
    go_wp2
    go_loopw [4] (fun iv wr => TwinTo hs wb gx p ha' hn hcap' ls n iv wr) (fun iv _ => n - (intOf iv).toNat)
    case atStart => exact ⟨0, Nat.zero_le _, rfl, X2.out, ⟨.slice none 0 0, [], HGX.out, rfl, Row.nil _ _ _ _, fun x hx => by simp at hx⟩, TM2.out⟩
    case round =>
      obtain ⟨i, hi, rfl, hex, hin, htw⟩ := hrel
      obtain ⟨bv, vs, hB, hvs, hrow, hterms⟩ := hin.out
      have XR := Lib.hid (HX.out.trans hex.out)
      have b2 : wr.cell? ⟨w.heap.size, 2, none⟩ = some (.slice ba n bcap) := by rw [(HB1.out.ext hex.out).cell']; rfl
      by_cases hlt : i < n
      · have hltl : i < ls.length := by rw [← HN.out]; exact hlt
        obtain ⟨l, hli⟩ : ∃ l, ls[i]? = some l := ⟨_, List.getElem?_eq_getElem hltl⟩
        obtain ⟨b, off, a2, cap2, eao, hG, hb, hL, c0, c1, c2, c3, c4, c5, c6, c7⟩ := lit_at HE.out hli
        subst eao
        replace c0 := XR.out.cell c0 id
        replace c1 := XR.out.cell c1 id
        replace c2 := XR.out.cell c2 id
        replace c3 := XR.out.cell c3 id
        replace c4 := XR.out.cell c4 id
        replace c5 := XR.out.cell c5 id
        replace c6 := XR.out.cell c6 id
        replace c7 := XR.out.cell c7 id
        obtain ⟨mm, emm⟩ : ∃ mm, mm = (termsOf l).length := ⟨_, rfl⟩
        rw [← emm] at c2
        have hmm : mm ≤ 1048576 := by rw [emm]; exact HF.out.terms l (List.mem_of_getElem? hli)
        obtain ⟨k, ek⟩ : ∃ k, k = l.1 := ⟨_, rfl⟩
        rw [← ek] at c0
        clear hltl hG hb
        have HOL := Lib.hid (fun (W : World) (hW : Ext w W) => ownTerms_any (termsOf l) a2 mm cap2 W G emm (hL.terms.ext hW) hmm)
        obtain ⟨pl, epl⟩ : ∃ pl, pl = predOf l := ⟨_, rfl⟩
        rw [← epl] at c1
        obtain ⟨s3, e3⟩ : ∃ s3, s3 = opOf l := ⟨_, rfl⟩
        rw [← e3] at c3
        obtain ⟨s4, e4⟩ : ∃ s4, s4 = (leftOf l).1 := ⟨_, rfl⟩
        rw [← e4] at c4
        obtain ⟨s5, e5⟩ : ∃ s5, s5 = (leftOf l).2.1 := ⟨_, rfl⟩
        rw [← e5] at c5
        obtain ⟨s6, e6⟩ : ∃ s6, s6 = (rightOf l).1 := ⟨_, rfl⟩
        rw [← e6] at c6
        obtain ⟨s7, e7⟩ : ∃ s7, s7 = (rightOf l).2.1 := ⟨_, rfl⟩
        rw [← e7] at c7
        have HL := Lib.hid (And.intro hli (show ∀ a c, litC (l, (a, c)) = [.int .i64 k, .string pl, .slice a mm c, .int .i64 s3, .int .i64 s4, .string s5, .int .i64 s6, .string s7] from fun a c => by rw [ek, epl, emm, e3, e4, e5, e6, e7]; rfl))
        have EMM := Lib.hid emm
        obtain ⟨gt, egt⟩ : ∃ gt, gt = wr.heap.size := ⟨_, rfl⟩
        obtain ⟨wx, ewx⟩ : ∃ wx, wr.alloc (.cells #[.int .i64 k, .string pl, .slice a2 mm cap2, .int .i64 s3, .int .i64 s4, .string s5, .int .i64 s6, .string s7] 97) = wx := ⟨_, rfl⟩
        have hgt := Blk.new wr [.int .i64 k, .string pl, .slice a2 mm cap2, .int .i64 s3, .int .i64 s4, .string s5, .int .i64 s6, .string s7] 97
        have ewx' : wr.alloc (.cells [Value.int .i64 k, .string pl, .slice a2 mm cap2, .int .i64 s3, .int .i64 s4, .string s5, .int .i64 s6, .string s7].toArray 97) = wx := ewx
        rw [ewx', ← egt] at hgt
        have hxx : Ext wr wx := by rw [← ewx]; exact (Kp.refl wr).alloc _
        have HXX := Lib.hid hxx
        have HGT := Lib.hid hgt
        have g2 : wx.cell? ⟨gt, 2, none⟩ = some (.slice a2 mm cap2) := by rw [hgt.cell']; rfl
        have g2' : wx.cell? ⟨wr.heap.size, 2, none⟩ = some (.slice a2 mm cap2) := by rw [← egt]; exact g2
        have EGT := Lib.hid egt
        have HIn := Lib.hid (And.intro hB (And.intro hvs (And.intro hrow hterms)))
        clear hli emm ek epl e3 e4 e5 e6 e7 hL hgt ewx' hxx egt hB hvs hrow hterms hin
        go_wp2_with fail
        rw [← EGT.out]
        go_wp2_with fail
        refine (HOL.out _ (XR.out.trans HXX.out)).mono ?_
        rintro e w4 ⟨v, rfl, hk4, a3, c3', rfl, htm⟩
        have HT4 := Lib.hid (htm.old (w0 := wb) (Nat.le_trans hex.out.size HXX.out.size))
        have X4 := Lib.hid (HXX.out.trans hk4)
        have hg4 := HGT.out.ext hk4
        have h2 : w4.cell? ⟨gt, 2, none⟩ = some (.slice a2 mm cap2) := by rw [hg4.cell']; rfl
        have h2f := hg4.free 2
        obtain ⟨w5, ew5⟩ : ∃ w5, w4.setCell ⟨gt, 2, none⟩ (.slice a3 mm c3') = w5 := ⟨_, rfl⟩
        have hg5 : Blk w5 gt [.int .i64 k, .string pl, .slice a3 mm c3', .int .i64 s3, .int .i64 s4, .string s5, .int .i64 s6, .string s7] 97 := by rw [← ew5]; exact hg4.set 2 _
        have hx5 : Ext wr w5 := by
          rw [← ew5]
          exact Kp.setCell (F := fun _ => False) X4.out (fun h => by have := EGT.out; simp only at h; omega) _
        have hk45 : Kp (fun k => k = gt) w4 w5 := by rw [← ew5]; exact Kp.setCell (F := fun k => k = gt) (Kp.refl w4) (fun _ => rfl) _
        have HT5 := Lib.hid (HT4.out.kp hk45 fun k cs hb e => by subst e; exact typ_tl (blk_ne hb hg4))
        obtain ⟨bo, bi, bc, ebv, _, _⟩ : ∃ ao n cap, bv = .slice ao n cap ∧ True ∧ True := by
          obtain ⟨ao, cap, e, _⟩ := HIn.out.2.2.1.shape
          exact ⟨ao, _, cap, e, trivial, trivial⟩
        subst ebv
        have hB5 := HIn.out.1.ext hx5
        have x2 : w5.cell? ⟨gx, 2, none⟩ = some (.slice bo bi bc) := by rw [hB5.cell']; rfl
        have q0 : w5.cell? ⟨gt, 0, none⟩ = some (.int .i64 k) := by rw [hg5.cell']; rfl
        have q1 : w5.cell? ⟨gt, 1, none⟩ = some (.string pl) := by rw [hg5.cell']; rfl
        have q2 : w5.cell? ⟨gt, 2, none⟩ = some (.slice a3 mm c3') := by rw [hg5.cell']; rfl
        have q3 : w5.cell? ⟨gt, 3, none⟩ = some (.int .i64 s3) := by rw [hg5.cell']; rfl
        have q4 : w5.cell? ⟨gt, 4, none⟩ = some (.int .i64 s4) := by rw [hg5.cell']; rfl
        have q5 : w5.cell? ⟨gt, 5, none⟩ = some (.string s5) := by rw [hg5.cell']; rfl
        have q6 : w5.cell? ⟨gt, 6, none⟩ = some (.int .i64 s6) := by rw [hg5.cell']; rfl
        have q7 : w5.cell? ⟨gt, 7, none⟩ = some (.string s7) := by rw [hg5.cell']; rfl
        have X5 := Lib.hid hx5
        have HB5 := Lib.hid hB5
        have HR5 := Lib.hid (HIn.out.2.2.1.ext hx5)
        have hsz : (wb.heap.size : Nat) ≤ w5.heap.size := Nat.le_trans hex.out.size hx5.size
        have hXw5 : Ext wb w5 := hex.out.trans hx5
        clear hk4 htm hg4 hg5 hx5 hk45 hB5 ewx c0 c1 c2 c3 c4 c5 c6 c7 b2 g2 g2'
        go_wp2_with (first | (at_builtin; refine Halted.out ?_))
        refine Halted.mk (wp_appN (m := 1) (n := i) elem_lit rfl _ _ rfl (hXw5.alloc _) rfl (HR5.out.alloc _) rfl (CellsAt.new w5 [.int .i64 k, .string pl, .slice a3 mm c3', .int .i64 s3, .int .i64 s4, .string s5, .int .i64 s6, .string s7] 97) (by rfl) (by rw [← HL.out.2]; exact litC_one _) (by omega) (by unfold maxLen; omega) ?_)
        intro v1 w6 hr1 hk1 hk2 _
        have hB6 : Blk w6 gx [.string p, .slice ha' hn hcap', .slice bo bi bc] 28 := (HB5.out.alloc _).kp hk2 fun e => by
          obtain ⟨cs, hb⟩ := HR5.out.blkOf e
          exact typ_lrC (blk_ne hb HB5.out)
        have x6 : w6.cell? ⟨gx, 2, none⟩ = some (.slice bo bi bc) := by rw [hB6.cell']; rfl
        have x6f := hB6.free 2
        obtain ⟨b6, n6, c6', ev6, _⟩ : ∃ ao n cap, v1 = .slice ao n cap ∧ True := by
          obtain ⟨ao, cap, e, _⟩ := hr1.shape
          exact ⟨ao, _, cap, e, trivial⟩
        subst ev6
        have hT6 : ∀ {a : Option Addr} {m c : Nat} {ts : List TermZ}, TermsM wb w5 a m c ts → TermsM wb w6 a m c ts := fun ht => (ht.ext ((Kp.refl w5).alloc _)).kp hk2 fun k cs hb e => by
          obtain ⟨cs', hb'⟩ := (HR5.out.alloc _).blkOf e
          exact typ_tl (blk_ne hb hb')
        obtain ⟨w7, ew7⟩ : ∃ w7, w6.setCell ⟨gx, 2, none⟩ (.slice b6 n6 c6') = w7 := ⟨_, rfl⟩
        have hk67 : Kp (fun k => k = gx) w6 w7 := by rw [← ew7]; exact Kp.setCell (F := fun k => k = gx) (Kp.refl w6) (fun _ => rfl) _
        have hB7 : Blk w7 gx [.string p, .slice ha' hn hcap', .slice b6 n6 c6'] 28 := by rw [← ew7]; exact hB6.set 2 _
        have hx7 : Ext wb w7 := by rw [← ew7]; exact Kp.setCell (F := fun _ => False) hk1 (fun h => by have := EGX.out; simp only at h; omega) _
        have hr7 := hr1.kp' hk67 fun g hg _ e => by
          obtain ⟨cs, hb⟩ := hr1.blkOf hg
          subst e
          exact typ_lrC (blk_ne hb hB6)
        have hT7 : ∀ {a : Option Addr} {m c : Nat} {ts : List TermZ}, TermsM wb w5 a m c ts → TermsM wb w7 a m c ts := fun ht => (hT6 ht).kp hk67 fun k cs hb e => by subst e; exact typ_tr (blk_ne hb hB6)
        have HFin := Lib.hid (show ∃ bv vs, Blk w7 gx [.string p, .slice ha' hn hcap', bv] 28 ∧ vs.length = i + 1 ∧ Row w7 97 8 bv (i + 1) (((ls.take (i + 1)).zip vs).flatMap litC) (New wb) ∧ ∀ x ∈ (ls.take (i + 1)).zip vs, TermsM wb w7 x.2.1 (termsOf x.1).length x.2.2 (termsOf x.1) by
          have hlen : (ls.take i).length = vs.length := by rw [List.length_take, HIn.out.2.1]; have := HN.out; omega
          have et : ls.take (i + 1) = ls.take i ++ [l] := by rw [List.take_add_one, HL.out.1]; rfl
          refine ⟨_, vs ++ [(a3, c3')], hB7, by rw [List.length_append, HIn.out.2.1]; rfl, ?_, ?_⟩
          · rw [et, List.zip_append hlen, List.flatMap_append]
            have e2 : (([l].zip [(a3, c3')]).flatMap litC) = [.int .i64 k, .string pl, .slice a3 mm c3', .int .i64 s3, .int .i64 s4, .string s5, .int .i64 s6, .string s7] := by
              show litC (l, (a3, c3')) ++ [] = _
              rw [HL.out.2, List.append_nil]
            rw [e2]; exact hr7
          · intro x hx
            rw [et, List.zip_append hlen, List.mem_append] at hx
            rcases hx with hx | hx
            · exact hT7 ((HIn.out.2.2.2 x hx).ext X5.out)
            · simp at hx; subst hx
              have h := hT7 HT5.out
              rw [EMM.out] at h; exact h)
        have HX7 := Lib.hid hx7
        have HTW7 := Lib.hid (hT7 (htw.out.ext X5.out))
        clear hr1 hk1 hk2 hB6 hT6 hk67 hB7 hx7 hr7 hT7 q0 q1 q2 q3 q4 q5 q6 q7 x2 h2 h2f ew5 hXw5
        go_wp2
        go_roundw
        case rel => exact ⟨i + 1, by omega, by first | rfl | (congr 1; done) | (congr 1; omega), HX7.out, HFin.out, HTW7.out⟩
        case measure => simp [intOf]; omega
      · obtain rfl : i = n := by omega
        have hall : ls.take i = ls := List.take_of_length_le (by have := HN.out; omega)
        rw [hall] at hrow hterms
        obtain ⟨bo, bi, bc, ebv⟩ : ∃ ao n cap, bv = .slice ao n cap := by
          obtain ⟨ao, cap, e, _⟩ := hrow.shape
          exact ⟨ao, _, cap, e⟩
        subst ebv
        have x2 : wr.cell? ⟨gx, 2, none⟩ = some (.slice bo bi bc) := by rw [hB.cell']; rfl
        have HBg := Lib.hid hB
        have HR5 := Lib.hid hrow
        have HTs := Lib.hid (And.intro hvs hterms)
        have hXw := hex.out
        clear hB hrow hterms hvs hall hin
        go_wp2_with (first | (at_builtin; refine Halted.out ?_))
        refine Halted.mk (wp_appN (m := 1) (n := i) elem_lit rfl _ _ rfl (hXw.alloc _) rfl (HR5.out.alloc _) rfl (CellsAt.new wr [.int .i64 (-7), .string ⟨#[]⟩, .slice none 0 0, .int .i64 0, .int .i64 0, .string ⟨#[]⟩, .int .i64 0, .string ⟨#[]⟩] 97) (by rfl) (by intro u hu; simp at hu; rcases hu with rfl | rfl | rfl | rfl | rfl | rfl | rfl | rfl <;> rfl) (by omega) (by unfold maxLen; omega) ?_)
        intro v1 w6 hr1 hk1 hk2 _
        obtain ⟨h1, ⟨rfl, h0⟩ | ⟨gb, cap2, rest, rfl, hM, hBB, hlen, hnc, hcm⟩⟩ := hr1
        · omega
        · have hB6 : Blk w6 gx [.string p, .slice ha' hn hcap', .slice bo bi bc] 28 := (HBg.out.alloc _).kp hk2 fun e => by
            obtain ⟨cs, hb⟩ := HR5.out.blkOf e
            exact typ_lrC (blk_ne hb HBg.out)
          have x6 : w6.cell? ⟨gx, 2, none⟩ = some (.slice bo bi bc) := by rw [hB6.cell']; rfl
          have x6f := hB6.free 2
          have hT6 : ∀ {a : Option Addr} {m c : Nat} {ts : List TermZ}, TermsM wb wr a m c ts → TermsM wb w6 a m c ts := fun ht => (ht.ext ((Kp.refl wr).alloc _)).kp hk2 fun k cs hb e => by
            obtain ⟨cs', hb'⟩ := (HR5.out.alloc _).blkOf e
            exact typ_tl (blk_ne hb hb')
          obtain ⟨w7, ew7⟩ : ∃ w7, w6.setCell ⟨gx, 2, none⟩ (.slice (some ⟨gb, 0, none⟩) (i + 1) cap2) = w7 := ⟨_, rfl⟩
          have hk67 : Kp (fun k => k = gx) w6 w7 := by rw [← ew7]; exact Kp.setCell (F := fun k => k = gx) (Kp.refl w6) (fun _ => rfl) _
          have hB7 : Blk w7 gx [.string p, .slice ha' hn hcap', .slice (some ⟨gb, 0, none⟩) (i + 1) cap2] 28 := by rw [← ew7]; exact hB6.set 2 _
          have hx7 : Ext wb w7 := by rw [← ew7]; exact Kp.setCell (F := fun _ => False) hk1 (fun h => by have := EGX.out; simp only at h; omega) _
          obtain ⟨w8, ew8⟩ : ∃ w8, w7.setCell ⟨gx, 2, none⟩ (.slice (some ⟨gb, 0, none⟩) i cap2) = w8 := ⟨_, rfl⟩
          have hk78 : Kp (fun k => k = gx) w7 w8 := by rw [← ew8]; exact Kp.setCell (F := fun k => k = gx) (Kp.refl w7) (fun _ => rfl) _
          have hB8 : Blk w8 gx [.string p, .slice ha' hn hcap', .slice (some ⟨gb, 0, none⟩) i cap2] 28 := by rw [← ew8]; exact hB7.set 2 _
          have hx8 : Ext wb w8 := by rw [← ew8]; exact Kp.setCell (F := fun _ => False) hx7 (fun h => by have := EGX.out; simp only at h; omega) _
          have hk68 : Kp (fun k => k = gx) w6 w8 := hk67.trans hk78
          have hT8 : ∀ {a : Option Addr} {m c : Nat} {ts : List TermZ}, TermsM wb wr a m c ts → TermsM wb w8 a m c ts := fun ht => (hT6 ht).kp hk68 fun k cs hb e => by subst e; exact typ_tr (blk_ne hb hB6)
          have hBB8 := hBB.kp hk68 fun e => by subst e; exact typ_lrC (blk_ne hBB hB6)
          have hN1 := HB1.out.ext hx7
          have hN2 := HB2.out.ext hx8
          obtain ⟨w9, ew9⟩ : ∃ x, ((w8.setCell ⟨w.heap.size + 1, 0, none⟩ (.string p)).setCell ⟨w.heap.size + 1, 1, none⟩ (.slice ha' hn hcap')).setCell ⟨w.heap.size + 1, 2, none⟩ (.slice (some ⟨gb, 0, none⟩) i cap2) = x := ⟨_, rfl⟩
          have hk89 : Kp (fun k => k = w.heap.size + 1) w8 w9 := by rw [← ew9]; exact Kp.setCell (F := fun k => k = w.heap.size + 1) (Kp.setCell (F := fun k => k = w.heap.size + 1) (Kp.setCell (F := fun k => k = w.heap.size + 1) (Kp.refl w8) (fun _ => rfl) _) (fun _ => rfl) _) (fun _ => rfl) _
          have hN9 : Blk w9 (w.heap.size + 1) [.string p, .slice ha' hn hcap', .slice (some ⟨gb, 0, none⟩) i cap2] 28 := by rw [← ew9]; exact ((hN2.set 0 _).set 1 _).set 2 _
          have hx9 : Ext w w9 := by
            rw [← ew9]
            exact Kp.setCell (F := fun _ => False) (Kp.setCell (F := fun _ => False) (Kp.setCell (F := fun _ => False) (HX.out.trans hx8) (fun h => by simp only at h; omega) _) (fun h => by simp only at h; omega) _) (fun h => by simp only at h; omega) _
          have hsz := HX.out.size
          have hT9 : ∀ {a : Option Addr} {m c : Nat} {ts : List TermZ}, TermsM wb wr a m c ts → TermsM w w9 a m c ts := fun ht => ((hT8 ht).kp hk89 fun k cs hb e => by subst e; exact typ_tr (blk_ne hb hN2)).old hsz
          have hBB9 := hBB8.kp hk89 fun e => by subst e; exact typ_lrC (blk_ne hBB8 hN2)
          have HRes := Lib.hid (show RuleM w w9 hs ls ha' hn hcap' (some ⟨gb, 0, none⟩) i cap2 by
            refine ⟨hT9 htw.out, gb, rest, vs, rfl, HN.out, hnc, hcm, Nat.le_trans hsz hM, HTs.out.1.trans HN.out, ?_, fun x hx => hT9 (HTs.out.2 x hx)⟩
            rw [List.append_assoc] at hBB9
            exact hBB9)
          have HX9 := Lib.hid hx9
          have a2 : w7.cell? ⟨w.heap.size, 2, none⟩ = some (.slice ba i bcap) := by rw [hN1.cell']; rfl
          have x7 : w7.cell? ⟨gx, 2, none⟩ = some (.slice (some ⟨gb, 0, none⟩) (i + 1) cap2) := by rw [hB7.cell']; rfl
          have x7f := hB7.free 2
          have l0 : w8.cell? ⟨gx, 0, none⟩ = some (.string p) := by rw [hB8.cell']; rfl
          have l1 : w8.cell? ⟨gx, 1, none⟩ = some (.slice ha' hn hcap') := by rw [hB8.cell']; rfl
          have l2 : w8.cell? ⟨gx, 2, none⟩ = some (.slice (some ⟨gb, 0, none⟩) i cap2) := by rw [hB8.cell']; rfl
          have m0 : w8.cell? ⟨w.heap.size + 1, 0, none⟩ = some (.string ⟨#[]⟩) := by rw [hN2.cell']; rfl
          have m1 : w8.cell? ⟨w.heap.size + 1, 1, none⟩ = some (.slice none 0 0) := by rw [hN2.cell']; rfl
          have m2 : w8.cell? ⟨w.heap.size + 1, 2, none⟩ = some (.slice none 0 0) := by rw [hN2.cell']; rfl
          have q0 := hN2.free 0
          have q1 := hN2.free 1
          have q2 := hN2.free 2
          have u0 : w9.cell? ⟨w.heap.size + 1, 0, none⟩ = some (.string p) := by rw [hN9.cell']; rfl
          have u1 : w9.cell? ⟨w.heap.size + 1, 1, none⟩ = some (.slice ha' hn hcap') := by rw [hN9.cell']; rfl
          have u2 : w9.cell? ⟨w.heap.size + 1, 2, none⟩ = some (.slice (some ⟨gb, 0, none⟩) i cap2) := by rw [hN9.cell']; rfl
          have i1 : (i : Int) ≤ (cap2 : Int) := by omega
          have hcm2 : cap2 ≤ 9223372036854775807 := hcm
          clear hk67 hB7 hx7 hk78 hB8 hx8 hk68 hT8 hT6 hBB8 hN1 hN2 hk89 hN9 hx9 hT9 hBB9 hBB hk1 hk2 hB6 hsz h1
          go_wp2
          refine bodyPost_ret (v := ruleV p ha' hn hcap' (some ⟨gb, 0, none⟩) i cap2) (by simp [results, Tryz.results35, go_sem, ruleV, u0, u1, u2]) rfl ?_
          exact RetN.mk HX9.out ⟨_, _, _, _, rfl, HRes.out⟩
  · refine comes_turn (i := 9) rfl (fun K hK => ?_)
    go_simp
    refine hK.out _ _ ?_ (fun hHeld => ?_)
    · (try dsimp only); (exact HCells.out _ (by first | exact ((Kp.refl wb).alloc _).drew | exact X1.out.alloc _ | exact X1.out))
    clear hK K; (try simp only [Act.put, List.setIfInBounds_toArray, List.set_cons_zero, List.set_cons_succ])
    refine draw_one (i := 6) ?_
    refine comes_turn (i := 6) rfl (fun K hK => ?_)
    go_simp
    ((with_reducible refine (HOwn.out _ (by first | exact HX.out.drew | exact (HX.out.alloc _).drew)).mono ?_); rintro e w1 ⟨v, rfl, hk1, ha', hcap', rfl, htm⟩; have X1 := Lib.hid (show Ext wb w1 by first | exact ((Kp.refl wb).drew).trans hk1 | exact (((Kp.refl wb).alloc _).drew).trans hk1); have HFirst := Lib.hid hk1; have TM1 := Lib.hid (show TermsM wb w1 ha' hn hcap' hs from htm.old (by first | exact (Kp.refl (F := fun _ => False) wb).drew.size | exact (((Kp.refl (F := fun _ => False) wb).alloc _).drew).size)); clear hk1 htm)
    go_wp2_with fail
    refine hK.out _ _ ?_ (fun hHeld => ?_)
    · (try dsimp only); (exact HCells.out _ (by first | exact ((Kp.refl wb).alloc _).drew | exact X1.out.alloc _ | exact X1.out))
    clear hK K; (try simp only [Act.put, List.setIfInBounds_toArray, List.set_cons_zero, List.set_cons_succ])
    (refine draw_free (i := 7) (v := ?_) rfl ?_ ?_; rotate_left; (intro w; go_simp; try with_reducible rfl)); (try simp only [Act.put, List.setIfInBounds_toArray, List.set_cons_zero, List.set_cons_succ])
    (refine draw_free (i := 8) (v := ?_) rfl ?_ ?_; rotate_left; (intro w; go_simp; try with_reducible rfl)); (try simp only [Act.put, List.setIfInBounds_toArray, List.set_cons_zero, List.set_cons_succ])
    refine draw_one (i := 10) ?_
    refine comes_late (i := 10) rfl (by kernel_rfl) (fun K hK => ?_)
    ((first | (obtain ⟨w3, e3⟩ : ∃ x, w1.alloc (.cells #[.string ⟨#[]⟩, .slice none 0 0, .slice none 0 0] 28) = x := ⟨_, rfl⟩; rw [e3]; obtain ⟨gx, eg⟩ : ∃ g, g = w1.heap.size := ⟨_, rfl⟩; rw [← eg]; have HZ := Lib.hid (show Zeros wb w3 gx from by rw [← e3, eg]; exact ⟨Blk.new w1 _ _, X1.out.alloc _, X1.out.size⟩); have TM3 := Lib.hid (show TermsM wb w3 ha' hn hcap' hs by rw [← e3]; exact TM1.out.ext ((Kp.refl w1).alloc _)); clear e3 eg) | (obtain ⟨w3, e3⟩ : ∃ x, x = w1 := ⟨_, rfl⟩; subst e3; obtain ⟨gx, eg⟩ : ∃ g, g = wb.heap.size := ⟨_, rfl⟩; rw [← eg]; have HZ := Lib.hid (show Zeros wb w3 gx from by rw [eg]; exact ⟨(Blk.new wb _ _).drew.ext HFirst.out, X1.out, Nat.le_refl _⟩); have TM3 := TM1; clear eg)); have z0 : w3.cell? ⟨gx, 0, none⟩ = some (.string ⟨#[]⟩) := (by rw [HZ.out.blk.cell']; rfl); have z1 : w3.cell? ⟨gx, 1, none⟩ = some (.slice none 0 0) := (by rw [HZ.out.blk.cell']; rfl); have z2 : w3.cell? ⟨gx, 2, none⟩ = some (.slice none 0 0) := (by rw [HZ.out.blk.cell']; rfl); have f0 := HZ.out.blk.free 0; have f1 := HZ.out.blk.free 1; have f2 := HZ.out.blk.free 2)
    go_simp
    refine hK.out _ _ ?_
    clear hK K; (try simp only [Act.put, List.setIfInBounds_toArray, List.set_cons_zero, List.set_cons_succ])
    refine wpAnyD_done (by kernel_rfl) ?_ _
    obtain ⟨w2, ew2⟩ : ∃ x, ((w3.setCell ⟨gx, 0, none⟩ (.string p)).setCell ⟨gx, 1, none⟩ (.slice ha' hn hcap')).setCell ⟨gx, 2, none⟩ (.slice none 0 0) = x := ⟨_, rfl⟩
    rw [ew2]
    have HGX := Lib.hid (show Blk w2 gx [.string p, .slice ha' hn hcap', .slice none 0 0] 28 by rw [← ew2]; exact ((HZ.out.blk.set 0 _).set 1 _).set 2 _)
    have hk32 : Kp (fun k => k = gx) w3 w2 := by rw [← ew2]; exact Kp.setCell (F := fun k => k = gx) (Kp.setCell (F := fun k => k = gx) (Kp.setCell (F := fun k => k = gx) (Kp.refl w3) (fun _ => rfl) _) (fun _ => rfl) _) (fun _ => rfl) _
    have X2 := Lib.hid (show Ext wb w2 from by
      rw [← ew2]
      have hno : ∀ c, (⟨gx, c, none⟩ : Addr).block < wb.heap.size → False := fun c h => by have := HZ.out.new; simp only at h; omega
      exact ((HZ.out.ext.setCell (fun h => hno 0 h) _).setCell (fun h => hno 1 h) _).setCell (fun h => hno 2 h) _)
    have TM2 := Lib.hid (TM3.out.kp hk32 fun k cs hb e => by subst e; exact typ_tr (blk_ne hb HZ.out.blk))
    have HB2x := Lib.hid (HB2.out.ext X2.out)
    have EGX := Lib.hid HZ.out.new
    clear hk32 ew2 hHeld z0 z1 z2 f0 f1 f2 HZ TM3 TM1 X1 HFirst
    go_wp2
    go_loopw [4] (fun iv wr => TwinTo hs wb gx p ha' hn hcap' ls n iv wr) (fun iv _ => n - (intOf iv).toNat)
    case atStart => exact ⟨0, Nat.zero_le _, rfl, X2.out, ⟨.slice none 0 0, [], HGX.out, rfl, Row.nil _ _ _ _, fun x hx => by simp at hx⟩, TM2.out⟩
    case round =>
      obtain ⟨i, hi, rfl, hex, hin, htw⟩ := hrel
      obtain ⟨bv, vs, hB, hvs, hrow, hterms⟩ := hin.out
      have XR := Lib.hid (HX.out.trans hex.out)
      have b2 : wr.cell? ⟨w.heap.size, 2, none⟩ = some (.slice ba n bcap) := by rw [(HB1.out.ext hex.out).cell']; rfl
      by_cases hlt : i < n
      · have hltl : i < ls.length := by rw [← HN.out]; exact hlt
        obtain ⟨l, hli⟩ : ∃ l, ls[i]? = some l := ⟨_, List.getElem?_eq_getElem hltl⟩
        obtain ⟨b, off, a2, cap2, eao, hG, hb, hL, c0, c1, c2, c3, c4, c5, c6, c7⟩ := lit_at HE.out hli
        subst eao
        replace c0 := XR.out.cell c0 id
        replace c1 := XR.out.cell c1 id
        replace c2 := XR.out.cell c2 id
        replace c3 := XR.out.cell c3 id
        replace c4 := XR.out.cell c4 id
        replace c5 := XR.out.cell c5 id
        replace c6 := XR.out.cell c6 id
        replace c7 := XR.out.cell c7 id
        obtain ⟨mm, emm⟩ : ∃ mm, mm = (termsOf l).length := ⟨_, rfl⟩
        rw [← emm] at c2
        have hmm : mm ≤ 1048576 := by rw [emm]; exact HF.out.terms l (List.mem_of_getElem? hli)
        obtain ⟨k, ek⟩ : ∃ k, k = l.1 := ⟨_, rfl⟩
        rw [← ek] at c0
        clear hltl hG hb
        have HOL := Lib.hid (fun (W : World) (hW : Ext w W) => ownTerms_any (termsOf l) a2 mm cap2 W G emm (hL.terms.ext hW) hmm)
        obtain ⟨pl, epl⟩ : ∃ pl, pl = predOf l := ⟨_, rfl⟩
        rw [← epl] at c1
        obtain ⟨s3, e3⟩ : ∃ s3, s3 = opOf l := ⟨_, rfl⟩
        rw [← e3] at c3
        obtain ⟨s4, e4⟩ : ∃ s4, s4 = (leftOf l).1 := ⟨_, rfl⟩
        rw [← e4] at c4
        obtain ⟨s5, e5⟩ : ∃ s5, s5 = (leftOf l).2.1 := ⟨_, rfl⟩
        rw [← e5] at c5
        obtain ⟨s6, e6⟩ : ∃ s6, s6 = (rightOf l).1 := ⟨_, rfl⟩
        rw [← e6] at c6
        obtain ⟨s7, e7⟩ : ∃ s7, s7 = (rightOf l).2.1 := ⟨_, rfl⟩
        rw [← e7] at c7
        have HL := Lib.hid (And.intro hli (show ∀ a c, litC (l, (a, c)) = [.int .i64 k, .string pl, .slice a mm c, .int .i64 s3, .int .i64 s4, .string s5, .int .i64 s6, .string s7] from fun a c => by rw [ek, epl, emm, e3, e4, e5, e6, e7]; rfl))
        have EMM := Lib.hid emm
        obtain ⟨gt, egt⟩ : ∃ gt, gt = wr.heap.size := ⟨_, rfl⟩
        obtain ⟨wx, ewx⟩ : ∃ wx, wr.alloc (.cells #[.int .i64 k, .string pl, .slice a2 mm cap2, .int .i64 s3, .int .i64 s4, .string s5, .int .i64 s6, .string s7] 97) = wx := ⟨_, rfl⟩
        have hgt := Blk.new wr [.int .i64 k, .string pl, .slice a2 mm cap2, .int .i64 s3, .int .i64 s4, .string s5, .int .i64 s6, .string s7] 97
        have ewx' : wr.alloc (.cells [Value.int .i64 k, .string pl, .slice a2 mm cap2, .int .i64 s3, .int .i64 s4, .string s5, .int .i64 s6, .string s7].toArray 97) = wx := ewx
        rw [ewx', ← egt] at hgt
        have hxx : Ext wr wx := by rw [← ewx]; exact (Kp.refl wr).alloc _
        have HXX := Lib.hid hxx
        have HGT := Lib.hid hgt
        have g2 : wx.cell? ⟨gt, 2, none⟩ = some (.slice a2 mm cap2) := by rw [hgt.cell']; rfl
        have g2' : wx.cell? ⟨wr.heap.size, 2, none⟩ = some (.slice a2 mm cap2) := by rw [← egt]; exact g2
        have EGT := Lib.hid egt
        have HIn := Lib.hid (And.intro hB (And.intro hvs (And.intro hrow hterms)))
        clear hli emm ek epl e3 e4 e5 e6 e7 hL hgt ewx' hxx egt hB hvs hrow hterms hin
        go_wp2_with fail
        rw [← EGT.out]
        go_wp2_with fail
        refine (HOL.out _ (XR.out.trans HXX.out)).mono ?_
        rintro e w4 ⟨v, rfl, hk4, a3, c3', rfl, htm⟩
        have HT4 := Lib.hid (htm.old (w0 := wb) (Nat.le_trans hex.out.size HXX.out.size))
        have X4 := Lib.hid (HXX.out.trans hk4)
        have hg4 := HGT.out.ext hk4
        have h2 : w4.cell? ⟨gt, 2, none⟩ = some (.slice a2 mm cap2) := by rw [hg4.cell']; rfl
        have h2f := hg4.free 2
        obtain ⟨w5, ew5⟩ : ∃ w5, w4.setCell ⟨gt, 2, none⟩ (.slice a3 mm c3') = w5 := ⟨_, rfl⟩
        have hg5 : Blk w5 gt [.int .i64 k, .string pl, .slice a3 mm c3', .int .i64 s3, .int .i64 s4, .string s5, .int .i64 s6, .string s7] 97 := by rw [← ew5]; exact hg4.set 2 _
        have hx5 : Ext wr w5 := by
          rw [← ew5]
          exact Kp.setCell (F := fun _ => False) X4.out (fun h => by have := EGT.out; simp only at h; omega) _
        have hk45 : Kp (fun k => k = gt) w4 w5 := by rw [← ew5]; exact Kp.setCell (F := fun k => k = gt) (Kp.refl w4) (fun _ => rfl) _
        have HT5 := Lib.hid (HT4.out.kp hk45 fun k cs hb e => by subst e; exact typ_tl (blk_ne hb hg4))
        obtain ⟨bo, bi, bc, ebv, _, _⟩ : ∃ ao n cap, bv = .slice ao n cap ∧ True ∧ True := by
          obtain ⟨ao, cap, e, _⟩ := HIn.out.2.2.1.shape
          exact ⟨ao, _, cap, e, trivial, trivial⟩
        subst ebv
        have hB5 := HIn.out.1.ext hx5
        have x2 : w5.cell? ⟨gx, 2, none⟩ = some (.slice bo bi bc) := by rw [hB5.cell']; rfl
        have q0 : w5.cell? ⟨gt, 0, none⟩ = some (.int .i64 k) := by rw [hg5.cell']; rfl
        have q1 : w5.cell? ⟨gt, 1, none⟩ = some (.string pl) := by rw [hg5.cell']; rfl
        have q2 : w5.cell? ⟨gt, 2, none⟩ = some (.slice a3 mm c3') := by rw [hg5.cell']; rfl
        have q3 : w5.cell? ⟨gt, 3, none⟩ = some (.int .i64 s3) := by rw [hg5.cell']; rfl
        have q4 : w5.cell? ⟨gt, 4, none⟩ = some (.int .i64 s4) := by rw [hg5.cell']; rfl
        have q5 : w5.cell? ⟨gt, 5, none⟩ = some (.string s5) := by rw [hg5.cell']; rfl
        have q6 : w5.cell? ⟨gt, 6, none⟩ = some (.int .i64 s6) := by rw [hg5.cell']; rfl
        have q7 : w5.cell? ⟨gt, 7, none⟩ = some (.string s7) := by rw [hg5.cell']; rfl
        have X5 := Lib.hid hx5
        have HB5 := Lib.hid hB5
        have HR5 := Lib.hid (HIn.out.2.2.1.ext hx5)
        have hsz : (wb.heap.size : Nat) ≤ w5.heap.size := Nat.le_trans hex.out.size hx5.size
        have hXw5 : Ext wb w5 := hex.out.trans hx5
        clear hk4 htm hg4 hg5 hx5 hk45 hB5 ewx c0 c1 c2 c3 c4 c5 c6 c7 b2 g2 g2'
        go_wp2_with (first | (at_builtin; refine Halted.out ?_))
        refine Halted.mk (wp_appN (m := 1) (n := i) elem_lit rfl _ _ rfl (hXw5.alloc _) rfl (HR5.out.alloc _) rfl (CellsAt.new w5 [.int .i64 k, .string pl, .slice a3 mm c3', .int .i64 s3, .int .i64 s4, .string s5, .int .i64 s6, .string s7] 97) (by rfl) (by rw [← HL.out.2]; exact litC_one _) (by omega) (by unfold maxLen; omega) ?_)
        intro v1 w6 hr1 hk1 hk2 _
        have hB6 : Blk w6 gx [.string p, .slice ha' hn hcap', .slice bo bi bc] 28 := (HB5.out.alloc _).kp hk2 fun e => by
          obtain ⟨cs, hb⟩ := HR5.out.blkOf e
          exact typ_lrC (blk_ne hb HB5.out)
        have x6 : w6.cell? ⟨gx, 2, none⟩ = some (.slice bo bi bc) := by rw [hB6.cell']; rfl
        have x6f := hB6.free 2
        obtain ⟨b6, n6, c6', ev6, _⟩ : ∃ ao n cap, v1 = .slice ao n cap ∧ True := by
          obtain ⟨ao, cap, e, _⟩ := hr1.shape
          exact ⟨ao, _, cap, e, trivial⟩
        subst ev6
        have hT6 : ∀ {a : Option Addr} {m c : Nat} {ts : List TermZ}, TermsM wb w5 a m c ts → TermsM wb w6 a m c ts := fun ht => (ht.ext ((Kp.refl w5).alloc _)).kp hk2 fun k cs hb e => by
          obtain ⟨cs', hb'⟩ := (HR5.out.alloc _).blkOf e
          exact typ_tl (blk_ne hb hb')
        obtain ⟨w7, ew7⟩ : ∃ w7, w6.setCell ⟨gx, 2, none⟩ (.slice b6 n6 c6') = w7 := ⟨_, rfl⟩
        have hk67 : Kp (fun k => k = gx) w6 w7 := by rw [← ew7]; exact Kp.setCell (F := fun k => k = gx) (Kp.refl w6) (fun _ => rfl) _
        have hB7 : Blk w7 gx [.string p, .slice ha' hn hcap', .slice b6 n6 c6'] 28 := by rw [← ew7]; exact hB6.set 2 _
        have hx7 : Ext wb w7 := by rw [← ew7]; exact Kp.setCell (F := fun _ => False) hk1 (fun h => by have := EGX.out; simp only at h; omega) _
        have hr7 := hr1.kp' hk67 fun g hg _ e => by
          obtain ⟨cs, hb⟩ := hr1.blkOf hg
          subst e
          exact typ_lrC (blk_ne hb hB6)
        have hT7 : ∀ {a : Option Addr} {m c : Nat} {ts : List TermZ}, TermsM wb w5 a m c ts → TermsM wb w7 a m c ts := fun ht => (hT6 ht).kp hk67 fun k cs hb e => by subst e; exact typ_tr (blk_ne hb hB6)
        have HFin := Lib.hid (show ∃ bv vs, Blk w7 gx [.string p, .slice ha' hn hcap', bv] 28 ∧ vs.length = i + 1 ∧ Row w7 97 8 bv (i + 1) (((ls.take (i + 1)).zip vs).flatMap litC) (New wb) ∧ ∀ x ∈ (ls.take (i + 1)).zip vs, TermsM wb w7 x.2.1 (termsOf x.1).length x.2.2 (termsOf x.1) by
          have hlen : (ls.take i).length = vs.length := by rw [List.length_take, HIn.out.2.1]; have := HN.out; omega
          have et : ls.take (i + 1) = ls.take i ++ [l] := by rw [List.take_add_one, HL.out.1]; rfl
          refine ⟨_, vs ++ [(a3, c3')], hB7, by rw [List.length_append, HIn.out.2.1]; rfl, ?_, ?_⟩
          · rw [et, List.zip_append hlen, List.flatMap_append]
            have e2 : (([l].zip [(a3, c3')]).flatMap litC) = [.int .i64 k, .string pl, .slice a3 mm c3', .int .i64 s3, .int .i64 s4, .string s5, .int .i64 s6, .string s7] := by
              show litC (l, (a3, c3')) ++ [] = _
              rw [HL.out.2, List.append_nil]
            rw [e2]; exact hr7
          · intro x hx
            rw [et, List.zip_append hlen, List.mem_append] at hx
            rcases hx with hx | hx
            · exact hT7 ((HIn.out.2.2.2 x hx).ext X5.out)
            · simp at hx; subst hx
              have h := hT7 HT5.out
              rw [EMM.out] at h; exact h)
        have HX7 := Lib.hid hx7
        have HTW7 := Lib.hid (hT7 (htw.out.ext X5.out))
        clear hr1 hk1 hk2 hB6 hT6 hk67 hB7 hx7 hr7 hT7 q0 q1 q2 q3 q4 q5 q6 q7 x2 h2 h2f ew5 hXw5
        go_wp2
        go_roundw
        case rel => exact ⟨i + 1, by omega, by first | rfl | (congr 1; done) | (congr 1; omega), HX7.out, HFin.out, HTW7.out⟩
        case measure => simp [intOf]; omega
      · obtain rfl : i = n := by omega
        have hall : ls.take i = ls := List.take_of_length_le (by have := HN.out; omega)
        rw [hall] at hrow hterms
        obtain ⟨bo, bi, bc, ebv⟩ : ∃ ao n cap, bv = .slice ao n cap := by
          obtain ⟨ao, cap, e, _⟩ := hrow.shape
          exact ⟨ao, _, cap, e⟩
        subst ebv
        have x2 : wr.cell? ⟨gx, 2, none⟩ = some (.slice bo bi bc) := by rw [hB.cell']; rfl
        have HBg := Lib.hid hB
        have HR5 := Lib.hid hrow
        have HTs := Lib.hid (And.intro hvs hterms)
        have hXw := hex.out
        clear hB hrow hterms hvs hall hin
        go_wp2_with (first | (at_builtin; refine Halted.out ?_))
        refine Halted.mk (wp_appN (m := 1) (n := i) elem_lit rfl _ _ rfl (hXw.alloc _) rfl (HR5.out.alloc _) rfl (CellsAt.new wr [.int .i64 (-7), .string ⟨#[]⟩, .slice none 0 0, .int .i64 0, .int .i64 0, .string ⟨#[]⟩, .int .i64 0, .string ⟨#[]⟩] 97) (by rfl) (by intro u hu; simp at hu; rcases hu with rfl | rfl | rfl | rfl | rfl | rfl | rfl | rfl <;> rfl) (by omega) (by unfold maxLen; omega) ?_)
        intro v1 w6 hr1 hk1 hk2 _
        obtain ⟨h1, ⟨rfl, h0⟩ | ⟨gb, cap2, rest, rfl, hM, hBB, hlen, hnc, hcm⟩⟩ := hr1
        · omega
        · have hB6 : Blk w6 gx [.string p, .slice ha' hn hcap', .slice bo bi bc] 28 := (HBg.out.alloc _).kp hk2 fun e => by
            obtain ⟨cs, hb⟩ := HR5.out.blkOf e
            exact typ_lrC (blk_ne hb HBg.out)
          have x6 : w6.cell? ⟨gx, 2, none⟩ = some (.slice bo bi bc) := by rw [hB6.cell']; rfl
          have x6f := hB6.free 2
          have hT6 : ∀ {a : Option Addr} {m c : Nat} {ts : List TermZ}, TermsM wb wr a m c ts → TermsM wb w6 a m c ts := fun ht => (ht.ext ((Kp.refl wr).alloc _)).kp hk2 fun k cs hb e => by
            obtain ⟨cs', hb'⟩ := (HR5.out.alloc _).blkOf e
            exact typ_tl (blk_ne hb hb')
          obtain ⟨w7, ew7⟩ : ∃ w7, w6.setCell ⟨gx, 2, none⟩ (.slice (some ⟨gb, 0, none⟩) (i + 1) cap2) = w7 := ⟨_, rfl⟩
          have hk67 : Kp (fun k => k = gx) w6 w7 := by rw [← ew7]; exact Kp.setCell (F := fun k => k = gx) (Kp.refl w6) (fun _ => rfl) _
          have hB7 : Blk w7 gx [.string p, .slice ha' hn hcap', .slice (some ⟨gb, 0, none⟩) (i + 1) cap2] 28 := by rw [← ew7]; exact hB6.set 2 _
          have hx7 : Ext wb w7 := by rw [← ew7]; exact Kp.setCell (F := fun _ => False) hk1 (fun h => by have := EGX.out; simp only at h; omega) _
          obtain ⟨w8, ew8⟩ : ∃ w8, w7.setCell ⟨gx, 2, none⟩ (.slice (some ⟨gb, 0, none⟩) i cap2) = w8 := ⟨_, rfl⟩
          have hk78 : Kp (fun k => k = gx) w7 w8 := by rw [← ew8]; exact Kp.setCell (F := fun k => k = gx) (Kp.refl w7) (fun _ => rfl) _
          have hB8 : Blk w8 gx [.string p, .slice ha' hn hcap', .slice (some ⟨gb, 0, none⟩) i cap2] 28 := by rw [← ew8]; exact hB7.set 2 _
          have hx8 : Ext wb w8 := by rw [← ew8]; exact Kp.setCell (F := fun _ => False) hx7 (fun h => by have := EGX.out; simp only at h; omega) _
          have hk68 : Kp (fun k => k = gx) w6 w8 := hk67.trans hk78
          have hT8 : ∀ {a : Option Addr} {m c : Nat} {ts : List TermZ}, TermsM wb wr a m c ts → TermsM wb w8 a m c ts := fun ht => (hT6 ht).kp hk68 fun k cs hb e => by subst e; exact typ_tr (blk_ne hb hB6)
          have hBB8 := hBB.kp hk68 fun e => by subst e; exact typ_lrC (blk_ne hBB hB6)
          have hN1 := HB1.out.ext hx7
          have hN2 := HB2.out.ext hx8
          obtain ⟨w9, ew9⟩ : ∃ x, ((w8.setCell ⟨w.heap.size + 1, 0, none⟩ (.string p)).setCell ⟨w.heap.size + 1, 1, none⟩ (.slice ha' hn hcap')).setCell ⟨w.heap.size + 1, 2, none⟩ (.slice (some ⟨gb, 0, none⟩) i cap2) = x := ⟨_, rfl⟩
          have hk89 : Kp (fun k => k = w.heap.size + 1) w8 w9 := by rw [← ew9]; exact Kp.setCell (F := fun k => k = w.heap.size + 1) (Kp.setCell (F := fun k => k = w.heap.size + 1) (Kp.setCell (F := fun k => k = w.heap.size + 1) (Kp.refl w8) (fun _ => rfl) _) (fun _ => rfl) _) (fun _ => rfl) _
          have hN9 : Blk w9 (w.heap.size + 1) [.string p, .slice ha' hn hcap', .slice (some ⟨gb, 0, none⟩) i cap2] 28 := by rw [← ew9]; exact ((hN2.set 0 _).set 1 _).set 2 _
          have hx9 : Ext w w9 := by
            rw [← ew9]
            exact Kp.setCell (F := fun _ => False) (Kp.setCell (F := fun _ => False) (Kp.setCell (F := fun _ => False) (HX.out.trans hx8) (fun h => by simp only at h; omega) _) (fun h => by simp only at h; omega) _) (fun h => by simp only at h; omega) _
          have hsz := HX.out.size
          have hT9 : ∀ {a : Option Addr} {m c : Nat} {ts : List TermZ}, TermsM wb wr a m c ts → TermsM w w9 a m c ts := fun ht => ((hT8 ht).kp hk89 fun k cs hb e => by subst e; exact typ_tr (blk_ne hb hN2)).old hsz
          have hBB9 := hBB8.kp hk89 fun e => by subst e; exact typ_lrC (blk_ne hBB8 hN2)
          have HRes := Lib.hid (show RuleM w w9 hs ls ha' hn hcap' (some ⟨gb, 0, none⟩) i cap2 by
            refine ⟨hT9 htw.out, gb, rest, vs, rfl, HN.out, hnc, hcm, Nat.le_trans hsz hM, HTs.out.1.trans HN.out, ?_, fun x hx => hT9 (HTs.out.2 x hx)⟩
            rw [List.append_assoc] at hBB9
            exact hBB9)
          have HX9 := Lib.hid hx9
          have a2 : w7.cell? ⟨w.heap.size, 2, none⟩ = some (.slice ba i bcap) := by rw [hN1.cell']; rfl
          have x7 : w7.cell? ⟨gx, 2, none⟩ = some (.slice (some ⟨gb, 0, none⟩) (i + 1) cap2) := by rw [hB7.cell']; rfl
          have x7f := hB7.free 2
          have l0 : w8.cell? ⟨gx, 0, none⟩ = some (.string p) := by rw [hB8.cell']; rfl
          have l1 : w8.cell? ⟨gx, 1, none⟩ = some (.slice ha' hn hcap') := by rw [hB8.cell']; rfl
          have l2 : w8.cell? ⟨gx, 2, none⟩ = some (.slice (some ⟨gb, 0, none⟩) i cap2) := by rw [hB8.cell']; rfl
          have m0 : w8.cell? ⟨w.heap.size + 1, 0, none⟩ = some (.string ⟨#[]⟩) := by rw [hN2.cell']; rfl
          have m1 : w8.cell? ⟨w.heap.size + 1, 1, none⟩ = some (.slice none 0 0) := by rw [hN2.cell']; rfl
          have m2 : w8.cell? ⟨w.heap.size + 1, 2, none⟩ = some (.slice none 0 0) := by rw [hN2.cell']; rfl
          have q0 := hN2.free 0
          have q1 := hN2.free 1
          have q2 := hN2.free 2
          have u0 : w9.cell? ⟨w.heap.size + 1, 0, none⟩ = some (.string p) := by rw [hN9.cell']; rfl
          have u1 : w9.cell? ⟨w.heap.size + 1, 1, none⟩ = some (.slice ha' hn hcap') := by rw [hN9.cell']; rfl
          have u2 : w9.cell? ⟨w.heap.size + 1, 2, none⟩ = some (.slice (some ⟨gb, 0, none⟩) i cap2) := by rw [hN9.cell']; rfl
          have i1 : (i : Int) ≤ (cap2 : Int) := by omega
          have hcm2 : cap2 ≤ 9223372036854775807 := hcm
          clear hk67 hB7 hx7 hk78 hB8 hx8 hk68 hT8 hT6 hBB8 hN1 hN2 hk89 hN9 hx9 hT9 hBB9 hBB hk1 hk2 hB6 hsz h1
          go_wp2
          refine bodyPost_ret (v := ruleV p ha' hn hcap' (some ⟨gb, 0, none⟩) i cap2) (by simp [results, Tryz.results35, go_sem, ruleV, u0, u1, u2]) rfl ?_
          exact RetN.mk HX9.out ⟨_, _, _, _, rfl, HRes.out⟩
end Go.Proofs.YtomeebimmmfmbaaGreat

/- The law of costs: stays, great. -/
namespace Go.Proofs.YtomeebimmmfmbaaGreat
open Go.RowKit
set_option linter.unusedVariables false

theorem RuleM.mark {w0 w : World} {hs : List TermZ} {ls : List LitZ} {ha : Option Addr} {hn hcap : Nat} {ba : Option Addr} {n bcap : Nat} (h : RuleM w0 w hs ls ha hn hcap ba n bcap) : ∃ g, ba = some ⟨g, 0, none⟩ ∧ w.cell? ⟨g, n * 8, none⟩ = some (.int .i64 (-7)) ∧ n + 1 ≤ bcap ∧ bcap ≤ maxLen ∧ ∀ i, i < n → ∃ g2 mm c2, w.cell? ⟨g, i * 8 + 2, none⟩ = some (.slice (some ⟨g2, 0, none⟩) mm c2) ∧ w.cell? ⟨g2, mm * 2, none⟩ = some (.int .i64 (-7)) ∧ mm + 1 ≤ c2 ∧ c2 ≤ maxLen := by
  obtain ⟨_, g, rest, vs, rfl, hn, hc, hm, _, hv, hB, hx⟩ := h
  have hz : (ls.zip vs).length = n := by rw [List.length_zip, hv, Nat.min_self, hn]
  have hfl : ((ls.zip vs).flatMap litC).length = n * 8 := by rw [flat_len litC 8 litC_len, hz]
  refine ⟨g, rfl, ?_, hc, hm, fun i hi => ?_⟩
  · rw [hB.cell', ← hfl, List.getElem?_append_right (Nat.le_refl _), Nat.sub_self]; rfl
  · have hi' : i < (ls.zip vs).length := by rw [hz]; exact hi
    have hg := flat_get litC 8 litC_len (ls.zip vs) i _ 2 (List.getElem?_eq_getElem hi') (by decide)
    have ht := hx _ (List.mem_of_getElem? (List.getElem?_eq_getElem hi'))
    obtain ⟨g2, e2, hmk⟩ := ht.mark
    obtain ⟨_, _, _, _, h1, h2, _, _⟩ := ht
    refine ⟨g2, _, _, ?_, hmk, h1, h2⟩
    rw [hB.cell', List.getElem?_append_left (by rw [hfl]; omega), hg, ← e2]; rfl
theorem RuleM.terms {w0 w : World} {hs : List TermZ} {ls : List LitZ} {ha : Option Addr} {hn hcap : Nat} {ba : Option Addr} {n bcap : Nat} (h : RuleM w0 w hs ls ha hn hcap ba n bcap) (hf : ∀ t ∈ hs, TermFit t) : TermsAt w (New w0) ha hs := h.head.at hf

set_option maxRecDepth 100000 in
set_option maxHeartbeats 4000000 in
theorem stays_any (p : ByteArray) (hs : List TermZ) (ls : List LitZ) (w0 : World) (ha hb : Option Addr) (hn hac hbc : Nat) (ba bb : Option Addr) (n bac bbc : Nat) (w : World) (H : Nat → Prop) (hhn : hn = hs.length) (h2 : TermsAt w H hb hs) (hhl : hn ≤ 1048576) (hbn : n = ls.length) (l2 : LitsAt w H bb ls) (hf : Fit ls) (hM : RuleM w0 w hs ls ha hn hac ba n bac) :
    Calls Tryz.prog 39 #[ruleV p ha hn hac ba n bac, ruleV p hb hn hbc bb n bbc] w (RetN w fun w' v => v = .bool true) := by
  have hl : n ≤ 1048576 := by have := hf.len; omega
  have HS := Lib.hid (fun (W : World) (hW : Ext w W) => same25_any p hs ls ha hb hn hac hbc ba bb n bac bbc W (New w0) H hhn ((hM.terms (terms_fit h2)).ext hW) (h2.ext hW) hhl hbn ((hM.lits (lits_all l2)).ext hW) (l2.ext hW) hf)
  have HM := Lib.hid hM
  obtain ⟨gB, rfl, hmB, hcB, hcB2, hB⟩ := hM.mark
  obtain ⟨gH, rfl, hmH⟩ := hM.head.mark
  obtain ⟨hcH, hcH2⟩ : hn + 1 ≤ hac ∧ hac ≤ maxLen := by obtain ⟨_, _, _, _, h1, h2, _, _⟩ := hM.head; exact ⟨h1, h2⟩
  have HAt := Lib.hid hB
  have HMB := Lib.hid hmB
  have HMH := Lib.hid hmH
  have hcB3 : bac ≤ 9223372036854775807 := hcB2
  have hcH3 : hac ≤ 9223372036854775807 := hcH2
  clear hhn h2 hbn l2 hf hM hB hmB hmH hcB2 hcH2
  go_enter Tryz.func39, Tryz.ntmps39
  obtain ⟨wb, eb⟩ : ∃ wb, (w.alloc (.cells #[.string p, .slice (some ⟨gH, 0, none⟩) hn hac, .slice (some ⟨gB, 0, none⟩) n bac] 28)).alloc (.cells #[.string p, .slice hb hn hbc, .slice bb n bbc] 28) = wb := ⟨_, rfl⟩
  have hB1 := (Blk.new w [.string p, .slice (some ⟨gH, 0, none⟩) hn hac, .slice (some ⟨gB, 0, none⟩) n bac] 28).alloc (.cells #[.string p, .slice hb hn hbc, .slice bb n bbc] 28)
  have hB2 := Blk.new (w.alloc (.cells #[.string p, .slice (some ⟨gH, 0, none⟩) hn hac, .slice (some ⟨gB, 0, none⟩) n bac] 28)) [.string p, .slice hb hn hbc, .slice bb n bbc] 28
  rw [alloc_size] at hB2
  have hB1' : Blk wb w.heap.size [.string p, .slice (some ⟨gH, 0, none⟩) hn hac, .slice (some ⟨gB, 0, none⟩) n bac] 28 := by rw [← eb]; exact hB1
  have hB2' : Blk wb (w.heap.size + 1) [.string p, .slice hb hn hbc, .slice bb n bbc] 28 := by rw [← eb]; exact hB2
  have hX : Ext w wb := by rw [← eb]; exact ((Kp.refl w).alloc _).alloc _
  have HB1 := Lib.hid hB1'
  have HB2 := Lib.hid hB2'
  have HX := Lib.hid hX
  have f10 : wb.cell? ⟨w.heap.size, 0, none⟩ = some (.string p) := by rw [hB1'.cell']; rfl
  have f11 : wb.cell? ⟨w.heap.size, 1, none⟩ = some (.slice (some ⟨gH, 0, none⟩) hn hac) := by rw [hB1'.cell']; rfl
  have f12 : wb.cell? ⟨w.heap.size, 2, none⟩ = some (.slice (some ⟨gB, 0, none⟩) n bac) := by rw [hB1'.cell']; rfl
  have f20 : wb.cell? ⟨w.heap.size + 1, 0, none⟩ = some (.string p) := by rw [hB2'.cell']; rfl
  have f21 : wb.cell? ⟨w.heap.size + 1, 1, none⟩ = some (.slice hb hn hbc) := by rw [hB2'.cell']; rfl
  have f22 : wb.cell? ⟨w.heap.size + 1, 2, none⟩ = some (.slice bb n bbc) := by rw [hB2'.cell']; rfl
  clear hB1 hB2 hB1' hB2' hX
  go_wp2_with fail
  refine (HS.out _ HX.out).mono ?_
  rintro e w1 ⟨v, rfl, hk1, rfl⟩
  have X1 := Lib.hid (HX.out.trans hk1)
  have B1 := Lib.hid (HB1.out.ext hk1)
  have B2 := Lib.hid (HB2.out.ext hk1)
  have r1 : w1.cell? ⟨w.heap.size, 1, none⟩ = some (.slice (some ⟨gH, 0, none⟩) hn hac) := by rw [B1.out.cell']; rfl
  have r2 : w1.cell? ⟨w.heap.size, 2, none⟩ = some (.slice (some ⟨gB, 0, none⟩) n bac) := by rw [B1.out.cell']; rfl
  have r3 : w1.cell? ⟨w.heap.size + 1, 1, none⟩ = some (.slice hb hn hbc) := by rw [B2.out.cell']; rfl
  have r4 : w1.cell? ⟨w.heap.size + 1, 2, none⟩ = some (.slice bb n bbc) := by rw [B2.out.cell']; rfl
  have r5 := X1.out.cell HMB.out id
  have r6 := X1.out.cell HMH.out id
  have i1 : (n : Int) + 1 ≤ (bac : Int) := by omega
  have i2 : (hn : Int) + 1 ≤ (hac : Int) := by omega
  clear hk1 eb f10 f11 f12 f20 f21 f22
  go_wp2
  go_quiet (fail)
  go_wp2
  go_loopw [6] (fun iv wr => SameTo w1 n iv wr) (fun iv _ => n - (intOf iv).toNat)
  case atStart => exact ⟨0, Nat.zero_le _, rfl, (Kp.refl w1).drewN _⟩
  case round =>
    obtain ⟨i, hi, rfl, hex⟩ := hrel
    have XR := Lib.hid (X1.out.trans hex.out)
    have r2 : wr.cell? ⟨w.heap.size, 2, none⟩ = some (.slice (some ⟨gB, 0, none⟩) n bac) := by rw [(B1.out.ext hex.out).cell']; rfl
    have r4 : wr.cell? ⟨w.heap.size + 1, 2, none⟩ = some (.slice bb n bbc) := by rw [(B2.out.ext hex.out).cell']; rfl
    by_cases hlt : i < n
    · obtain ⟨g2, mm, c2, k1, k2, k3, k4⟩ := HAt.out i hlt
      replace k1 := XR.out.cell k1 id
      replace k2 := XR.out.cell k2 id
      have k5 : c2 ≤ 9223372036854775807 := k4
      have i3 : (mm : Int) + 1 ≤ (c2 : Int) := by omega
      clear k4
      go_wp2
      go_roundw
      case rel => exact ⟨i + 1, by omega, by first | rfl | (congr 1; done) | (congr 1; omega), hex⟩
      case measure => simp [intOf]; omega
    · go_wp2
      go_ret
      exact RetN.mk XR.out rfl

set_option maxRecDepth 100000 in
theorem great_any (p : ByteArray) (ha : Option Addr) (hn hcap : Nat) (ba : Option Addr) (n bcap : Nat) (w : World) (hl : n ≤ 4611686018427387904) :
    Calls Tryz.prog 6 #[ruleV p ha hn hcap ba n bcap] w (RetN w fun w' v => v = .bool (decide (40 < n))) := by
  go_enter Tryz.func6, Tryz.ntmps6
  have e : decide ((n : Int) > 40) = decide (40 < n) := by rw [decide_eq_decide]; omega
  go_wp2
  go_ret
  exact RetN.mk ((Kp.refl w).alloc _) (by first | rw [e] | simp)
end Go.Proofs.YtomeebimmmfmbaaGreat

/- The law of costs: backward. -/
namespace Go.Proofs.YtomeebimmmfmbaaGreat
open Go.RowKit
set_option linter.unusedVariables false

theorem Row.cap {w : World} {e : TypeId} {k : Nat} {v : Value} {n : Nat} {xs : List Value} {M : Nat → Prop} (h : Row w e k v n xs M) : ∃ ao cap, v = .slice ao n cap ∧ CellsAt w ao xs ∧ n ≤ cap ∧ cap ≤ maxLen := by
  obtain ⟨h1, ⟨rfl, rfl⟩ | ⟨g, cap, rest, rfl, b, c, d, e, f⟩⟩ := h
  · have : xs = [] := List.eq_nil_of_length_eq_zero (by simpa using h1)
    subst this
    exact ⟨none, 0, rfl, CellsAt.nil _ _, Nat.le_refl _, by unfold maxLen; omega⟩
  · exact ⟨_, cap, rfl, CellsAt.pre c, e, f⟩

end Go.Proofs.YtomeebimmmfmbaaGreat

/- The law of costs: what is known, by bits: plain. -/
namespace Go.Proofs.YtomeebimmmfmbaaGreat
open Go.RowKit
set_option linter.unusedVariables false
attribute [local go_sem] run_store_float

/-- Words as cells. -/
def words (xs : List Nat) : List Value := xs.map fun (x : Nat) => Value.int .u64 x
theorem elem_stat25 : ElemT Tryz.prog 43 49 3 48 (.agg #[.string ⟨#[]⟩, .float .f64 0, .slice none 0 0]) := ⟨by kernel_rfl, by kernel_rfl, rfl, by decide⟩
def statC (x : StatZ × (Option Addr × Nat)) : List Value := [.string x.1.1, .float .f64 x.1.2.1, .slice x.2.1 x.1.2.2.1.length x.2.2]
theorem statC_len (x : StatZ × (Option Addr × Nat)) : (statC x).length = 3 := rfl
/-- A list of counts in a block of its own. -/
def DistAt (w0 w : World) (x : StatZ × (Option Addr × Nat)) : Prop := Row w 45 1 (.slice x.2.1 x.1.2.2.1.length x.2.2) x.1.2.2.1.length (flts x.1.2.2.1) (New w0)
theorem stats_cells {w0 w : World} {S : List StatZ} {vs : List (Option Addr × Nat)} {ao : Option Addr} (hl : vs.length = S.length) (hc : CellsAt w ao ((S.zip vs).flatMap statC)) (hd : ∀ x ∈ S.zip vs, DistAt w0 w x) : StatsAt w ao S := fun i s hs => by
  have hv : i < vs.length := by rw [hl]; exact (List.getElem?_eq_some_iff.1 hs).1
  have hz : (S.zip vs)[i]? = some (s, vs[i]) := by rw [List.getElem?_zip_eq_some]; exact ⟨hs, List.getElem?_eq_getElem hv⟩
  obtain ⟨_, _, e, q1, q2, q3⟩ := (hd _ (List.mem_of_getElem? hz)).cap
  cases e
  have hg := fun c hcc => flat_get statC 3 statC_len (S.zip vs) i _ c hz hcc
  obtain ⟨b, off, rfl, h0⟩ := hc (i * 3 + 0) _ (hg 0 (by decide))
  obtain ⟨_, _, e1, h1⟩ := hc (i * 3 + 1) _ (hg 1 (by decide))
  cases e1
  obtain ⟨_, _, e2, h2⟩ := hc (i * 3 + 2) _ (hg 2 (by decide))
  cases e2
  exact ⟨b, off, _, _, rfl, h0, h1, h2, q2, q3, q1⟩
theorem typ_fs : 45 ≠ 49 := by decide

def PlainTo (S : List StatZ) (w0 : World) (n : Nat) (iv ov : Value) (w : World) : Prop := ∃ i : Nat, i ≤ n ∧ iv = .int .i64 i ∧ Hid (∃ vs, vs.length = i ∧ Row w 49 3 ov i (((S.take i).zip vs).flatMap statC) (New w0) ∧ ∀ x ∈ (S.take i).zip vs, DistAt w0 w x) ∧ Hid (Ext w0 w)
def DistTo (ds : List Nat) (p : ByteArray) (r : Nat) (gx : Nat) (w0 : World) (m : Nat) (kv : Value) (w : World) : Prop := ∃ k : Nat, k ≤ m ∧ kv = .int .i64 k ∧ Hid (∃ dv, Blk w gx [.string p, .float .f64 r, dv] 49 ∧ Row w 45 1 dv k (flts (ds.take k)) (New w0)) ∧ Hid (Ext w0 w)

end Go.Proofs.YtomeebimmmfmbaaGreat

/-
  DERIVED: THE SHELF's CONTRACTS AT THIS DUMP, IN PLAIN WORDS (tools/lay-plain.mjs out of 'TryzShelf.lean', which tools/lay-shelf.mjs wrote): THE SAME DECLARATIONS UNDER THE SAME NAMES: 'import', 'namespace', 'open', 'def', 'theorem' AND NOTHING ELSE: no command of the shelf's: FOR A HAND-IN. Each laying: the table of numbers ('.._ren') and one theorem, a field a fact of the dump's own or the kernel's comparison; each contract: ONE APPLICATION.
-/
namespace Go.Proofs
open Go.Shelf
def Tryz.laysSlF6_f103_ren : Go.Shelf.Ren := ⟨fun | 6 => 103 | 15 => 134 | 14 => 133 | 28 => 158 | 29 => 159 | 20 => 150 | 21 => 151 | 22 => 152 | 23 => 153 | 24 => 154 | 25 => 155 | 26 => 156 | 27 => 157 | 46 => 169 | 47 => 170 | 48 => 171 | 49 => 172 | 50 => 173 | 57 => 178 | n => n, fun | 22 => 76 | 24 => 9 | 25 => 141 | 3 => 3 | 39 => 210 | 0 => 0 | 53 => 226 | 55 => 30 | 4 => 4 | 46 => 220 | 45 => 219 | 50 => 78 | 5 => 5 | 9 => 9 | 66 => 235 | 70 => 239 | 76 => 244 | 77 => 245 | n => n, fun | n => n⟩
theorem Tryz.laysSlF6_f103 : Go.Proofs.SlLaysF.n6 Tryz.prog Tryz.laysSlF6_f103_ren := {
  mixed := by kernel_rfl
  f6 := ⟨Tryz.f103.name, by decide, Tryz.func103.trans (congrArg some (by kernel_rfl))⟩
  f14 := ⟨Tryz.f133.name, by decide, Tryz.func133.trans (congrArg some (by kernel_rfl))⟩
  f15 := Tryz.func134.trans (congrArg some (by kernel_rfl))
  f20 := ⟨Tryz.f150.name, by decide, Tryz.func150.trans (congrArg some (by kernel_rfl))⟩
  f21 := ⟨Tryz.f151.name, by decide, Tryz.func151.trans (congrArg some (by kernel_rfl))⟩
  f22 := ⟨Tryz.f152.name, by decide, Tryz.func152.trans (congrArg some (by kernel_rfl))⟩
  f23 := ⟨Tryz.f153.name, by decide, Tryz.func153.trans (congrArg some (by kernel_rfl))⟩
  f24 := ⟨Tryz.f154.name, by decide, Tryz.func154.trans (congrArg some (by kernel_rfl))⟩
  f25 := ⟨Tryz.f155.name, by decide, Tryz.func155.trans (congrArg some (by kernel_rfl))⟩
  f26 := ⟨Tryz.f156.name, by decide, Tryz.func156.trans (congrArg some (by kernel_rfl))⟩
  f27 := ⟨Tryz.f157.name, by decide, Tryz.func157.trans (congrArg some (by kernel_rfl))⟩
  f28 := Tryz.func158.trans (congrArg some (by kernel_rfl))
  f29 := Tryz.func159.trans (congrArg some (by kernel_rfl))
  f46 := ⟨Tryz.f169.name, by decide, Tryz.func169.trans (congrArg some (by kernel_rfl))⟩
  f47 := Tryz.func170.trans (congrArg some (by kernel_rfl))
  f48 := Tryz.func171.trans (congrArg some (by kernel_rfl))
  f49 := ⟨Tryz.f172.name, by decide, Tryz.func172.trans (congrArg some (by kernel_rfl))⟩
  f50 := ⟨Tryz.f173.name, by decide, Tryz.func173.trans (congrArg some (by kernel_rfl))⟩
  f57 := ⟨Tryz.f178.name, by decide, Tryz.func178.trans (congrArg some (by kernel_rfl))⟩
  t0 := Tryz.underlying0
  a0 := Tryz.isAgg0
  z0 := Tryz.sizeOf0
  v0 := Tryz.zeroValue0
  t3 := Tryz.underlying3
  a3 := Tryz.isAgg3
  z3 := Tryz.sizeOf3
  v3 := Tryz.zeroValue3
  t4 := Tryz.underlying4
  a4 := Tryz.isAgg4
  z4 := Tryz.sizeOf4
  v4 := Tryz.zeroValue4
  t5 := Tryz.underlying5
  a5 := Tryz.isAgg5
  z5 := Tryz.sizeOf5
  v5 := Tryz.zeroValue5
  t9 := Tryz.underlying9
  a9 := Tryz.isAgg9
  z9 := Tryz.sizeOf9
  v9 := Tryz.zeroValue9
  t22 := Tryz.underlying76
  a22 := Tryz.isAgg76
  z22 := Tryz.sizeOf76
  v22 := Tryz.zeroValue76
  a24 := Tryz.isAgg9
  z24 := Tryz.sizeOf9
  t25 := Tryz.underlying141
  a25 := Tryz.isAgg141
  z25 := Tryz.sizeOf141
  v25 := Tryz.zeroValue141
  t39 := Tryz.underlying210
  a39 := Tryz.isAgg210
  z39 := Tryz.sizeOf210
  v39 := Tryz.zeroValue210
  t45 := Tryz.underlying219
  a45 := Tryz.isAgg219
  z45 := Tryz.sizeOf219
  v45 := Tryz.zeroValue219
  t46 := Tryz.underlying220
  a46 := Tryz.isAgg220
  z46 := Tryz.sizeOf220
  v46 := Tryz.zeroValue220
  t50 := Tryz.underlying78
  a50 := Tryz.isAgg78
  z50 := Tryz.sizeOf78
  v50 := Tryz.zeroValue78
  t53 := Tryz.underlying226
  a53 := Tryz.isAgg226
  z53 := Tryz.sizeOf226
  v53 := Tryz.zeroValue226
  t55 := Tryz.underlying30
  a55 := Tryz.isAgg30
  z55 := Tryz.sizeOf30
  v55 := Tryz.zeroValue30
  t66 := Tryz.underlying235
  a66 := Tryz.isAgg235
  z66 := Tryz.sizeOf235
  v66 := Tryz.zeroValue235
  t70 := Tryz.underlying239
  a70 := Tryz.isAgg239
  z70 := Tryz.sizeOf239
  v70 := Tryz.zeroValue239
  t76 := Tryz.underlying244
  a76 := Tryz.isAgg244
  z76 := Tryz.sizeOf244
  v76 := Tryz.zeroValue244
  t77 := Tryz.underlying245
  a77 := Tryz.isAgg245
  z77 := Tryz.sizeOf245
  v77 := Tryz.zeroValue245 }
def Tryz.laysSlF06_f103_ren : Go.Shelf.Ren := ⟨fun | 6 => 103 | 15 => 134 | 14 => 133 | 28 => 158 | 29 => 159 | 20 => 150 | 21 => 151 | 22 => 152 | 23 => 153 | 24 => 154 | 25 => 155 | 26 => 156 | 27 => 157 | 46 => 169 | 47 => 170 | 48 => 171 | 49 => 172 | 50 => 173 | 57 => 178 | n => n, fun | 22 => 76 | 24 => 9 | 25 => 141 | 3 => 3 | 39 => 210 | 0 => 0 | 53 => 226 | 55 => 30 | 4 => 4 | 46 => 220 | 45 => 219 | 50 => 78 | 5 => 5 | 9 => 9 | 66 => 235 | 70 => 239 | 76 => 244 | 77 => 245 | n => n, fun | n => n⟩
theorem Tryz.laysSlF06_f103 : Go.Proofs.SlLaysF0.n6 Tryz.prog Tryz.laysSlF06_f103_ren := {
  mixed := by kernel_rfl
  f6 := ⟨Tryz.f103.name, by decide, Tryz.func103.trans (congrArg some (by kernel_rfl))⟩
  f14 := ⟨Tryz.f133.name, by decide, Tryz.func133.trans (congrArg some (by kernel_rfl))⟩
  f15 := Tryz.func134.trans (congrArg some (by kernel_rfl))
  f20 := ⟨Tryz.f150.name, by decide, Tryz.func150.trans (congrArg some (by kernel_rfl))⟩
  f21 := ⟨Tryz.f151.name, by decide, Tryz.func151.trans (congrArg some (by kernel_rfl))⟩
  f22 := ⟨Tryz.f152.name, by decide, Tryz.func152.trans (congrArg some (by kernel_rfl))⟩
  f23 := ⟨Tryz.f153.name, by decide, Tryz.func153.trans (congrArg some (by kernel_rfl))⟩
  f24 := ⟨Tryz.f154.name, by decide, Tryz.func154.trans (congrArg some (by kernel_rfl))⟩
  f25 := ⟨Tryz.f155.name, by decide, Tryz.func155.trans (congrArg some (by kernel_rfl))⟩
  f26 := ⟨Tryz.f156.name, by decide, Tryz.func156.trans (congrArg some (by kernel_rfl))⟩
  f27 := ⟨Tryz.f157.name, by decide, Tryz.func157.trans (congrArg some (by kernel_rfl))⟩
  f28 := Tryz.func158.trans (congrArg some (by kernel_rfl))
  f29 := Tryz.func159.trans (congrArg some (by kernel_rfl))
  f46 := ⟨Tryz.f169.name, by decide, Tryz.func169.trans (congrArg some (by kernel_rfl))⟩
  f47 := Tryz.func170.trans (congrArg some (by kernel_rfl))
  f48 := Tryz.func171.trans (congrArg some (by kernel_rfl))
  f49 := ⟨Tryz.f172.name, by decide, Tryz.func172.trans (congrArg some (by kernel_rfl))⟩
  f50 := ⟨Tryz.f173.name, by decide, Tryz.func173.trans (congrArg some (by kernel_rfl))⟩
  f57 := ⟨Tryz.f178.name, by decide, Tryz.func178.trans (congrArg some (by kernel_rfl))⟩
  t0 := Tryz.underlying0
  a0 := Tryz.isAgg0
  z0 := Tryz.sizeOf0
  v0 := Tryz.zeroValue0
  t3 := Tryz.underlying3
  a3 := Tryz.isAgg3
  z3 := Tryz.sizeOf3
  v3 := Tryz.zeroValue3
  t4 := Tryz.underlying4
  a4 := Tryz.isAgg4
  z4 := Tryz.sizeOf4
  v4 := Tryz.zeroValue4
  t5 := Tryz.underlying5
  a5 := Tryz.isAgg5
  z5 := Tryz.sizeOf5
  v5 := Tryz.zeroValue5
  t9 := Tryz.underlying9
  a9 := Tryz.isAgg9
  z9 := Tryz.sizeOf9
  v9 := Tryz.zeroValue9
  t22 := Tryz.underlying76
  a22 := Tryz.isAgg76
  z22 := Tryz.sizeOf76
  v22 := Tryz.zeroValue76
  t25 := Tryz.underlying141
  a25 := Tryz.isAgg141
  z25 := Tryz.sizeOf141
  v25 := Tryz.zeroValue141
  t39 := Tryz.underlying210
  a39 := Tryz.isAgg210
  z39 := Tryz.sizeOf210
  v39 := Tryz.zeroValue210
  t45 := Tryz.underlying219
  a45 := Tryz.isAgg219
  z45 := Tryz.sizeOf219
  v45 := Tryz.zeroValue219
  t46 := Tryz.underlying220
  a46 := Tryz.isAgg220
  z46 := Tryz.sizeOf220
  v46 := Tryz.zeroValue220
  t50 := Tryz.underlying78
  a50 := Tryz.isAgg78
  z50 := Tryz.sizeOf78
  v50 := Tryz.zeroValue78
  t53 := Tryz.underlying226
  a53 := Tryz.isAgg226
  z53 := Tryz.sizeOf226
  v53 := Tryz.zeroValue226
  t55 := Tryz.underlying30
  a55 := Tryz.isAgg30
  z55 := Tryz.sizeOf30
  v55 := Tryz.zeroValue30
  t66 := Tryz.underlying235
  a66 := Tryz.isAgg235
  z66 := Tryz.sizeOf235
  v66 := Tryz.zeroValue235
  t70 := Tryz.underlying239
  a70 := Tryz.isAgg239
  z70 := Tryz.sizeOf239
  v70 := Tryz.zeroValue239
  t76 := Tryz.underlying244
  a76 := Tryz.isAgg244
  z76 := Tryz.sizeOf244
  v76 := Tryz.zeroValue244
  t77 := Tryz.underlying245
  a77 := Tryz.isAgg245
  z77 := Tryz.sizeOf245
  v77 := Tryz.zeroValue245 }
def Tryz.laysSlZ7_f62_ren : Go.Shelf.Ren := ⟨fun | 7 => 62 | 10 => 104 | n => n, fun | 23 => 137 | 26 => 9 | 3 => 138 | 28 => 135 | 0 => 0 | 27 => 134 | 33 => 170 | 4 => 4 | n => n, fun | n => n⟩
theorem Tryz.laysSlZ7_f62 : Go.Proofs.SlLaysZ.n7 Tryz.prog Tryz.laysSlZ7_f62_ren := {
  mixed := by kernel_rfl
  f7 := ⟨Tryz.f62.name, by decide, Tryz.func62.trans (congrArg some (by kernel_rfl))⟩
  f10 := ⟨Tryz.f104.name, by decide, Tryz.func104.trans (congrArg some (by kernel_rfl))⟩
  t0 := Tryz.underlying0
  a0 := Tryz.isAgg0
  z0 := Tryz.sizeOf0
  v0 := Tryz.zeroValue0
  t4 := Tryz.underlying4
  a4 := Tryz.isAgg4
  z4 := Tryz.sizeOf4
  v4 := Tryz.zeroValue4
  t23 := Tryz.underlying137
  a23 := Tryz.isAgg137
  z23 := Tryz.sizeOf137
  v23 := Tryz.zeroValue137
  t26 := Tryz.underlying9
  a26 := Tryz.isAgg9
  z26 := Tryz.sizeOf9
  v26 := Tryz.zeroValue9
  t27 := Tryz.underlying134
  a27 := Tryz.isAgg134
  z27 := Tryz.sizeOf134
  v27 := Tryz.zeroValue134
  t28 := Tryz.underlying135
  a28 := Tryz.isAgg135
  z28 := Tryz.sizeOf135
  v28 := Tryz.zeroValue135
  t33 := Tryz.underlying170
  a33 := Tryz.isAgg170
  z33 := Tryz.sizeOf170
  v33 := Tryz.zeroValue170 }
def Tryz.laysSlZ8_f102_ren : Go.Shelf.Ren := ⟨fun | 8 => 102 | 11 => 132 | n => n, fun | 26 => 9 | 28 => 135 | 24 => 76 | 0 => 0 | 33 => 170 | 4 => 4 | n => n, fun | n => n⟩
theorem Tryz.laysSlZ8_f102 : Go.Proofs.SlLaysZ.n8 Tryz.prog Tryz.laysSlZ8_f102_ren := {
  mixed := by kernel_rfl
  f8 := ⟨Tryz.f102.name, by decide, Tryz.func102.trans (congrArg some (by kernel_rfl))⟩
  f11 := ⟨Tryz.f132.name, by decide, Tryz.func132.trans (congrArg some (by kernel_rfl))⟩
  t0 := Tryz.underlying0
  a0 := Tryz.isAgg0
  z0 := Tryz.sizeOf0
  v0 := Tryz.zeroValue0
  t24 := Tryz.underlying76
  a24 := Tryz.isAgg76
  z24 := Tryz.sizeOf76
  v24 := Tryz.zeroValue76
  t26 := Tryz.underlying9
  a26 := Tryz.isAgg9
  z26 := Tryz.sizeOf9
  v26 := Tryz.zeroValue9
  t28 := Tryz.underlying135
  a28 := Tryz.isAgg135
  z28 := Tryz.sizeOf135
  v28 := Tryz.zeroValue135
  i26 := by kernel_rfl }
end Go.Proofs

/- Sums of real numbers from 0 on: they do not fall where an operand grows. No program in sight. -/
namespace Go.Proofs.YtomeebimmmfmbaaGreat
open Ieee
set_option linter.unusedVariables false

end Go.Proofs.YtomeebimmmfmbaaGreat

/- How far apart two numbers are, in plain Lean. No program in sight. -/
namespace Go.Proofs.YtomeebimmmfmbaaGreat
set_option linter.unusedVariables false
open Ieee

/-- A number from 0 on, minus nought as nought. -/
def normW (x : Nat) : Nat := if x = negW then 0 else x
def geW (x : Nat) : Prop := x ≤ infW ∨ x = negW
theorem norm_le {x : Nat} (h : geW x) : normW x ≤ infW := by
  unfold normW
  split
  · exact Nat.zero_le _
  · rcases h with h | h
    · exact h
    · contradiction
theorem read_negW : double.read negW = .number true 0 (-1074) := by decide
theorem order_neg0 (d : Datum) : (Datum.number true 0 (-1074)).order d = (Datum.number false 0 (-1074)).order d := by
  cases d <;> simp [Datum.order, signed]
theorem order_neg0' (d : Datum) : d.order (Datum.number true 0 (-1074)) = d.order (Datum.number false 0 (-1074)) := by
  cases d <;> simp [Datum.order, signed]
theorem order_left (x y : Nat) : double.order x y = double.order (normW x) y := by
  unfold normW
  split
  · rename_i h
    subst h
    unfold Format.order
    rw [read_negW, read_zero, order_neg0]
  · rfl
theorem order_right (x y : Nat) : double.order x y = double.order x (normW y) := by
  unfold normW
  split
  · rename_i h
    subst h
    unfold Format.order
    rw [read_negW, read_zero, order_neg0']
  · rfl
theorem order_norm {x y : Nat} (hx : geW x) (hy : geW y) : double.order x y = some (compare (normW x) (normW y)) := by
  rw [order_left, order_right, order_pos (norm_le hx) (norm_le hy)]

def apartW (a b : Nat) : Nat := if a = b then oneW else if a = 0 ∨ b = 0 ∨ a = infW ∨ b = infW then infW else fdiv (max a b) (min a b)
theorem apartW_le {a b : Nat} (ha : a ≤ infW) (hb : b ≤ infW) : apartW a b ≤ infW := by
  unfold apartW
  split
  · decide
  · split
    · exact Nat.le_refl _
    · rename_i h
      exact fdiv_le (by omega) (by omega) (by omega)
end Go.Proofs.YtomeebimmmfmbaaGreat

/- cost: Apart: how far apart two numbers are. -/
namespace Go.Proofs.YtomeebimmmfmbaaGreat
open Go.RowKit
set_option linter.unusedVariables false

abbrev nanW : Nat := 9221120237041090561
open Classical in
/-- What Apart answers. -/
noncomputable def apartV (x y : Nat) : Nat := if geW x ∧ geW y then apartW (normW x) (normW y) else nanW

theorem norm_zero {x : Nat} (h : geW x) : (Ieee.double.order x 0 == some .eq) = decide (normW x = 0) := by
  rw [order_norm h (.inl (by decide))]
  have e : normW 0 = 0 := by decide
  rw [e]
  rcases Nat.eq_zero_or_pos (normW x) with h0 | h0
  · rw [h0]; decide
  · rw [Nat.compare_eq_gt.2 h0, decide_eq_false (by omega)]; rfl
theorem norm_same {x y : Nat} (h : geW x) (h' : geW y) : (Ieee.double.order x y == some .eq) = decide (normW x = normW y) := by
  rw [order_norm h h']
  rcases Nat.lt_trichotomy (normW x) (normW y) with h0 | h0 | h0
  · rw [Nat.compare_eq_lt.2 h0, decide_eq_false (by omega)]; rfl
  · rw [h0, Nat.compare_eq_eq.2 rfl, decide_eq_true rfl]; rfl
  · rw [Nat.compare_eq_gt.2 h0, decide_eq_false (by omega)]; rfl
theorem norm_pos {x : Nat} (h : geW x) (h0 : ¬ normW x = 0) : normW x = x := by
  unfold normW at h0 ⊢
  split
  · rename_i e; rw [if_pos e] at h0; exact absurd rfl h0
  · rfl
theorem apMax_run {x y : Nat} (hx : x ≤ infW) (hy : y ≤ infW) (hne : x ≠ y) (at_ : Array TypeId) (ty : TypeId) (W : World) : (Builtin.max_ at_ ty #[.float .f64 x, .float .f64 y]).run Tryz.prog W = .ok (.float .f64 (max x y)) W := by
  have ho : (FloatKind.format .f64).order x y = some (compare x y) := order_pos hx hy
  rcases Nat.lt_or_ge x y with h | h
  · rw [Nat.compare_eq_lt.2 h] at ho
    have e : max x y = y := by omega
    rw [e]
    simp [Builtin.max_, Builtin.max2, ho]
  · have h' : y < x := by omega
    rw [Nat.compare_eq_gt.2 h'] at ho
    have e : max x y = x := by omega
    rw [e]
    simp [Builtin.max_, Builtin.max2, ho]
theorem apMin_run {x y : Nat} (hx : x ≤ infW) (hy : y ≤ infW) (hne : x ≠ y) (at_ : Array TypeId) (ty : TypeId) (W : World) : (Builtin.min_ at_ ty #[.float .f64 x, .float .f64 y]).run Tryz.prog W = .ok (.float .f64 (min x y)) W := by
  have ho : (FloatKind.format .f64).order x y = some (compare x y) := order_pos hx hy
  rcases Nat.lt_or_ge x y with h | h
  · rw [Nat.compare_eq_lt.2 h] at ho
    have e : min x y = x := by omega
    rw [e]
    simp [Builtin.min_, Builtin.min2, ho]
  · have h' : y < x := by omega
    rw [Nat.compare_eq_gt.2 h'] at ho
    have e : min x y = y := by omega
    rw [e]
    simp [Builtin.min_, Builtin.min2, ho]
set_option maxRecDepth 100000 in
theorem nan_any (w : World) : Calls Tryz.prog 31 #[] w (RetN w fun w' v => v = .float .f64 nanW) := by
  have hq : ∀ w, (callFunc 11 #[.int .u64 9221120237041090561]).run Tryz.prog w = .ok (.value (.float .f64 9221120237041090561)) w := fun w => frombits_run 9221120237041090561 w
  go_enter Tryz.func31, Tryz.ntmps31
  go_wp2
  go_ret
  exact RetN.mk (Kp.refl _) rfl
set_option maxRecDepth 100000 in
theorem inf_any (w : World) : Calls Tryz.prog 33 #[.int .i64 1] w (RetN w fun w' v => v = .float .f64 infW) := by
  have hq : ∀ w, (callFunc 11 #[.int .u64 9218868437227405312]).run Tryz.prog w = .ok (.value (.float .f64 9218868437227405312)) w := fun w => frombits_run 9218868437227405312 w
  go_enter Tryz.func33, Tryz.ntmps33
  go_wp2
  go_ret
  exact RetN.mk (Kp.refl _) rfl
theorem zero_cases {x : Nat} (hx : x < 18446744073709551616) :
    (¬ geW x ∧ ((FloatKind.format .f64).order x 0 == some .gt) = false ∧ ((FloatKind.format .f64).order x 0 == some .eq) = false) ∨
    (geW x ∧ normW x = 0 ∧ ((FloatKind.format .f64).order x 0 == some .gt) = false ∧ ((FloatKind.format .f64).order x 0 == some .eq) = true) ∨
    (geW x ∧ normW x ≠ 0 ∧ ((FloatKind.format .f64).order x 0 == some .gt) = true ∧ ((FloatKind.format .f64).order x 0 == some .eq) = false) := by
  by_cases h : geW x
  · have ho : (FloatKind.format .f64).order x 0 = some (compare (normW x) (normW 0)) := order_norm h (.inl (by decide))
    have e : normW 0 = 0 := by decide
    rw [e] at ho
    rcases Nat.eq_zero_or_pos (normW x) with h0 | h0
    · refine .inr (.inl ⟨h, h0, ?_, ?_⟩) <;> rw [ho, h0] <;> decide
    · rw [Nat.compare_eq_gt.2 h0] at ho
      refine .inr (.inr ⟨h, by omega, ?_, ?_⟩) <;> rw [ho] <;> decide
  · have hg := ge_zero hx
    rw [decide_eq_false (show ¬ (x ≤ infW ∨ x = negW) from h), Bool.or_eq_false_iff] at hg
    exact .inl ⟨h, hg.1, hg.2⟩
theorem quo_run {s d : Nat} (hs : s ≤ infW) (hd : 0 < d) (hd' : d < infW) (t : TypeId) (W : World) : (binOp .quo t (.float .f64 s) (.float .f64 d)).run Tryz.prog W = .ok (.float .f64 (fdiv s d)) W :=
  run_float_arith W .quo t .f64 s d _ (fdiv_eq hs hd hd')

open Classical in
set_option maxRecDepth 100000 in
set_option maxHeartbeats 4000000 in
theorem apart_any (x y : Nat) (hx : x < 18446744073709551616) (hy : y < 18446744073709551616) (w : World) :
    Calls Tryz.prog 12 #[.float .f64 x, .float .f64 y] w (RetN w fun w' v => v = .float .f64 (apartV x y)) := by
  have HNaN := Lib.hid nan_any
  have HInf := Lib.hid inf_any
  have nan : (¬ (geW x ∧ geW y)) → apartV x y = nanW := fun h => if_neg h
  have inf : geW x → geW y → normW x ≠ normW y → (normW x = 0 ∨ normW y = 0 ∨ normW x = infW ∨ normW y = infW) → apartV x y = infW := fun h1 h2 h3 h4 => by
    unfold apartV apartW
    rw [if_pos (And.intro h1 h2), if_neg h3, if_pos h4]
  have HNan := Lib.hid nan
  have HIn := Lib.hid inf
  have zx := zero_cases hx
  have zy := zero_cases hy
  clear hx hy nan inf
  rcases zx with ⟨h1, a1, a2⟩ | hxx
  · have HV := Lib.hid (HNan.out fun h => h1 h.1)
    clear h1 zy
    go_enter Tryz.func12, Tryz.ntmps12
    go_wp2_with fail
    refine (HNaN.out _).mono ?_
    rintro e w1 ⟨v, rfl, hk1, rfl⟩
    go_wp2
    go_ret
    exact RetN.mk hk1 (by rw [HV.out]; rfl)
  have hx1 : geW x := by rcases hxx with h | h <;> exact h.1
  have hx2 : ((FloatKind.format .f64).order x 0 == some .gt || (FloatKind.format .f64).order x 0 == some .eq) = true := by rcases hxx with ⟨_, _, e1, e2⟩ | ⟨_, _, e1, e2⟩ <;> rw [e1, e2] <;> rfl
  rcases zy with ⟨h1, b1, b2⟩ | hyy
  · have HV := Lib.hid (HNan.out fun h => h1 h.2)
    clear h1 hxx hx1
    go_enter Tryz.func12, Tryz.ntmps12
    go_wp2_with fail
    refine (HNaN.out _).mono ?_
    rintro e w1 ⟨v, rfl, hk1, rfl⟩
    go_wp2
    go_ret
    exact RetN.mk hk1 (by rw [HV.out]; rfl)
  clear hx2
  have hy1 : geW y := by rcases hyy with h | h <;> exact h.1
  have e1 := norm_same hx1 hy1
  have HG := Lib.hid (And.intro hx1 hy1)
  have HIx := Lib.hid (fun W => isInf_any x W hx1)
  have HIy := Lib.hid (fun W => isInf_any y W hy1)
  by_cases h3 : normW x = normW y
  · rw [decide_eq_true h3] at e1
    have f3 : ((FloatKind.format .f64).order x y == some .eq) = true := e1
    have HV := Lib.hid (show apartV x y = oneW by unfold apartV apartW; rw [if_pos (And.intro hx1 hy1), if_pos h3])
    clear e1 h3 hx1 hy1
    rcases hxx with ⟨_, _, a1, a2⟩ | ⟨_, _, a1, a2⟩ <;> rcases hyy with ⟨_, _, b1, b2⟩ | ⟨_, _, b1, b2⟩
    all_goals
      go_enter Tryz.func12, Tryz.ntmps12
      go_wp2
      go_ret
      exact RetN.mk (Kp.refl _) (by rw [HV.out]; rfl)
  rw [decide_eq_false h3] at e1
  have f3 : ((FloatKind.format .f64).order x y == some .eq) = false := e1
  have H3 := Lib.hid h3
  clear e1 h3
  rcases hxx with ⟨_, h4, a1, a2⟩ | ⟨_, h4, a1, a2⟩
  · have HV := Lib.hid (HIn.out hx1 hy1 H3.out (.inl h4))
    clear h4 hx1 hy1
    rcases hyy with ⟨_, _, b1, b2⟩ | ⟨_, _, b1, b2⟩
    all_goals
      go_enter Tryz.func12, Tryz.ntmps12
      go_wp2_with fail
      refine (HInf.out _).mono ?_
      rintro e w1 ⟨v, rfl, hk1, rfl⟩
      go_wp2
      go_ret
      exact RetN.mk hk1 (by rw [HV.out]; rfl)
  have ex := norm_pos hx1 h4
  rcases hyy with ⟨_, h5, b1, b2⟩ | ⟨_, h5, b1, b2⟩
  · have HV := Lib.hid (HIn.out hx1 hy1 H3.out (.inr (.inl h5)))
    clear h4 h5 hx1 hy1 ex
    go_enter Tryz.func12, Tryz.ntmps12
    go_wp2_with fail
    refine (HInf.out _).mono ?_
    rintro e w1 ⟨v, rfl, hk1, rfl⟩
    go_wp2
    go_ret
    exact RetN.mk hk1 (by rw [HV.out]; rfl)
  have ey := norm_pos hy1 h5
  have hne : x ≠ y := fun e => H3.out (by rw [e])
  by_cases h6 : x = infW
  · have HV := Lib.hid (HIn.out hx1 hy1 H3.out (.inr (.inr (.inl (by rw [ex]; exact h6)))))
    have d6 : decide (x = infW) = true := decide_eq_true h6
    rw [d6] at HIx
    clear h4 h5 h6 hx1 hy1 ex ey hne d6
    go_enter Tryz.func12, Tryz.ntmps12
    go_wp2_with fail
    refine (HIx.out _).mono ?_
    rintro e w1 ⟨v, rfl, hk1, rfl⟩
    go_wp2_with fail
    refine (HInf.out _).mono ?_
    rintro e w2 ⟨v, rfl, hk2, rfl⟩
    have X2 := Lib.hid (hk1.trans hk2)
    clear hk1 hk2
    go_wp2
    go_ret
    exact RetN.mk X2.out (by rw [HV.out]; rfl)
  have d6 : decide (x = infW) = false := decide_eq_false h6
  rw [d6] at HIx
  by_cases h7 : y = infW
  · have HV := Lib.hid (HIn.out hx1 hy1 H3.out (.inr (.inr (.inr (by rw [ey]; exact h7)))))
    have d7 : decide (y = infW) = true := decide_eq_true h7
    rw [d7] at HIy
    clear h4 h5 h6 h7 hx1 hy1 ex ey hne d6 d7
    go_enter Tryz.func12, Tryz.ntmps12
    go_wp2_with fail
    refine (HIx.out _).mono ?_
    rintro e w1 ⟨v, rfl, hk1, rfl⟩
    go_wp2_with fail
    refine (HIy.out _).mono ?_
    rintro e w2 ⟨v, rfl, hk2, rfl⟩
    go_wp2_with fail
    refine (HInf.out _).mono ?_
    rintro e w3 ⟨v, rfl, hk3, rfl⟩
    have X2 := Lib.hid ((hk1.trans hk2).trans hk3)
    clear hk1 hk2 hk3
    go_wp2
    go_ret
    exact RetN.mk X2.out (by rw [HV.out]; rfl)
  have d7 : decide (y = infW) = false := decide_eq_false h7
  rw [d7] at HIy
  have x0 : x ≠ 0 := fun e => h4 (ex.trans e)
  have y0 : y ≠ 0 := fun e => h5 (ey.trans e)
  have lx : x < infW := by
    rcases hx1 with h | h
    · omega
    · exact absurd (show normW x = 0 from if_pos h) h4
  have ly : y < infW := by
    rcases hy1 with h | h
    · omega
    · exact absurd (show normW y = 0 from if_pos h) h5
  have HV := Lib.hid (show apartV x y = fdiv (max x y) (min x y) by
    unfold apartV apartW
    rw [if_pos (And.intro hx1 hy1), if_neg H3.out, if_neg (show ¬ (normW x = 0 ∨ normW y = 0 ∨ normW x = infW ∨ normW y = infW) by rw [ex, ey]; omega), ex, ey])
  have hmax := apMax_run (show x ≤ infW by omega) (show y ≤ infW by omega) hne
  have hmin := apMin_run (show x ≤ infW by omega) (show y ≤ infW by omega) hne
  have hrun := fun t W => quo_run (s := max x y) (d := min x y) (by omega) (by omega) (by omega) t W
  generalize max x y = mx at *
  generalize min x y = mn at *
  clear h4 h5 h6 h7 hx1 hy1 ex ey hne d6 d7 lx ly x0 y0
  go_enter Tryz.func12, Tryz.ntmps12
  go_wp2_with fail
  refine (HIx.out _).mono ?_
  rintro e w1 ⟨v, rfl, hk1, rfl⟩
  go_wp2_with fail
  refine (HIy.out _).mono ?_
  rintro e w2 ⟨v, rfl, hk2, rfl⟩
  have X2 := Lib.hid (hk1.trans hk2)
  clear hk1 hk2
  go_wp2
  go_ret
  exact RetN.mk X2.out (by rw [HV.out]; rfl)
end Go.Proofs.YtomeebimmmfmbaaGreat

/- The document's answer for costs: infinite, Apart. -/
namespace Go.Proofs.YtomeebimmmfmbaaGreat
open Go.RowKit
set_option linter.unusedVariables false

/-- Two to the k, as a word. -/
def wordK (k : Nat) : Nat := (1023 + k) * 4503599627370496
theorem wordK_top : wordK 1024 = infW := by decide
theorem wordK_lt {k : Nat} (h : k < 1024) : wordK k < infW := by unfold wordK infW; omega
set_option maxRecDepth 100000 in
theorem mul_two_all : ((List.range 1024).all fun k => decide (Ieee.double.mul 4611686018427387904 (wordK k) = some (wordK (k + 1)))) = true := by kernel_rfl
theorem mul_two {k : Nat} (h : k < 1024) : Ieee.double.mul 4611686018427387904 (wordK k) = some (wordK (k + 1)) :=
  of_decide_eq_true (List.all_eq_true.1 mul_two_all k (List.mem_range.2 h))
def InfTo (w0 : World) (xv : Value) (w : World) : Prop := ∃ k : Nat, k ≤ 1024 ∧ xv = .float .f64 (wordK k) ∧ Hid (Ext w0 w)
def muInf (v : Value) : Nat := match v with
  | .float _ b => 2047 - b / 4503599627370496
  | _ => 0
theorem muInf_word (k : Nat) : muInf (.float .f64 (wordK k)) = 2047 - (1023 + k) := by
  show 2047 - wordK k / 4503599627370496 = _
  unfold wordK
  rw [Nat.mul_div_cancel _ (by decide)]

set_option maxRecDepth 100000 in
theorem infinite_any (w : World) : Calls Tryz.prog 34 #[] w (RetN w fun w' v => v = .float .f64 infW) := by
  go_enter Tryz.func34, Tryz.ntmps34
  go_wp2
  go_loopw [1] (fun xv wr => InfTo w xv wr) (fun xv _ => muInf xv)
  case atStart => exact ⟨0, Nat.zero_le _, rfl, Lib.hid (Kp.refl _)⟩
  case round =>
    obtain ⟨k, hk, rfl, hex⟩ := hrel
    by_cases hlt : k < 1024
    · have hs : ∀ W, (binOp .sub 45 (.float .f64 (wordK k)) (.float .f64 (wordK k))).run Tryz.prog W = .ok (.float .f64 0) W := fun W => sub_ok W _ _ _ 0 (sub_self (wordK_lt hlt))
      have h0 : ((FloatKind.format .f64).order 0 0 == some .eq) = true := by decide
      have hm : ∀ W, (binOp .mul 45 (.float .f64 4611686018427387904) (.float .f64 (wordK k))).run Tryz.prog W = .ok (.float .f64 (wordK (k + 1))) W := fun W => run_float_arith W .mul 45 .f64 _ _ _ (mul_two hlt)
      have HM := Lib.hid (show muInf (.float .f64 (wordK (k + 1))) < muInf (.float .f64 (wordK k)) by rw [muInf_word, muInf_word]; omega)
      go_wp2
      go_roundw
      case rel => exact ⟨k + 1, by omega, rfl, hex⟩
      case measure => exact HM.out
    · have ek : k = 1024 := by omega
      subst ek
      obtain ⟨b, hr, hn⟩ := sub_nan (P := Tryz.prog) wr 45 (wordK 1024) (wordK 1024) (by rw [wordK_top]; exact sub_self_inf)
      have hn2 : ((FloatKind.format .f64).order b 0 == some .eq) = false := hn
      go_wp2
      go_ret
      exact RetN.mk hex.out.drew (congrArg (Value.float .f64) wordK_top)

theorem fdiv_inf {y : Nat} (hy : 0 < y) (hy' : y < infW) : fdiv infW y = infW := by
  unfold fdiv Ieee.Format.div
  obtain ⟨n, l, e2, v2⟩ := read_fin hy'
  rw [read_inf, e2]
  rfl
/-- No number, or less than nought. -/
theorem bad_word {x : Nat} (hx : x < 18446744073709551616) (h : ¬ geW x) :
    ((FloatKind.format .f64).order x x != some .eq) = true ∨ (((FloatKind.format .f64).order x x != some .eq) = false ∧ ((FloatKind.format .f64).order x 0 == some .lt) = true) := by
  have key : ∀ {o : Option Ordering}, Ieee.double.order x x = o → o = none → ((FloatKind.format .f64).order x x != some .eq) = true := fun {o} e e0 => by
    show (Ieee.double.order x x != some .eq) = true
    rw [e, e0]; rfl
  have h1 : infW < x ∧ x ≠ negW := by
    unfold geW at h
    constructor
    · exact Nat.lt_of_not_le fun e => h (.inl e)
    · exact fun e => h (.inr e)
  by_cases h2 : x < negW
  · obtain ⟨f, e⟩ := read_nan h1.1 h2
    exact .inl (key (order_nan x e) rfl)
  · have h3 : negW < x := by omega
    rcases order_neg (y := 0) h3 hx (by decide) with e | e
    · rcases read_neg (Nat.le_of_lt h3) hx with ⟨m, p, e1, hm⟩ | e1 | ⟨f, e1⟩
      · unfold Ieee.Format.order at e
        rw [e1, read_small (x := 0) (by decide)] at e
        cases e
      · unfold Ieee.Format.order at e
        rw [e1, read_small (x := 0) (by decide)] at e
        cases e
      · exact .inl (key (order_nan x e1) rfl)
    · cases hb : ((FloatKind.format .f64).order x x != some .eq) with
      | true => exact .inl rfl
      | false => exact .inr ⟨rfl, by show (Ieee.double.order x 0 == some .lt) = true; rw [e]; rfl⟩
theorem good_word {x : Nat} (h : geW x) : ((FloatKind.format .f64).order x x != some .eq) = false ∧ ((FloatKind.format .f64).order x 0 == some .lt) = false := by
  have h1 : (FloatKind.format .f64).order x x = some (compare (normW x) (normW x)) := order_norm h h
  have h2 : (FloatKind.format .f64).order x 0 = some (compare (normW x) (normW 0)) := order_norm h (.inl (by decide))
  have e : normW 0 = 0 := by decide
  rw [h1, h2, e, Nat.compare_eq_eq.2 rfl]
  refine ⟨rfl, ?_⟩
  rcases Nat.eq_zero_or_pos (normW x) with h0 | h0
  · rw [h0]; rfl
  · rw [Nat.compare_eq_gt.2 h0]; rfl
theorem norm_less {x y : Nat} (h : geW x) (h' : geW y) : ((FloatKind.format .f64).order x y == some .lt) = decide (normW x < normW y) := by
  have h1 : (FloatKind.format .f64).order x y = some (compare (normW x) (normW y)) := order_norm h h'
  rw [h1]
  rcases Nat.lt_trichotomy (normW x) (normW y) with h0 | h0 | h0
  · rw [Nat.compare_eq_lt.2 h0, decide_eq_true h0]; rfl
  · rw [h0, Nat.compare_eq_eq.2 rfl, decide_eq_false (by omega)]; rfl
  · rw [Nat.compare_eq_gt.2 h0, decide_eq_false (by omega)]; rfl
open Classical in
/-- What the document's Apart answers. -/
noncomputable def refApartV (x y : Nat) : Value := if geW x ∧ geW y then .tuple #[.float .f64 (apartW (normW x) (normW y)), .bool true] else .tuple #[.float .f64 0, .bool false]
set_option maxRecDepth 100000 in
set_option maxHeartbeats 4000000 in
theorem refApart_any (x y : Nat) (hx : x < 18446744073709551616) (hy : y < 18446744073709551616) (w : World) :
    Calls Tryz.prog 13 #[.float .f64 x, .float .f64 y] w (RetN w fun w' v => v = refApartV x y) := by
  have HInf := Lib.hid infinite_any
  by_cases gx : geW x
  · obtain ⟨x1, x2⟩ := good_word gx
    by_cases gy : geW y
    · obtain ⟨y1, y2⟩ := good_word gy
      have HG := Lib.hid (And.intro gx gy)
      have hl := norm_less gx gy
      have he : ((FloatKind.format .f64).order x y == some .eq) = decide (normW x = normW y) := norm_same gx gy
      have HV : ∀ z, apartW (normW x) (normW y) = z → refApartV x y = .tuple #[.float .f64 z, .bool true] := fun z hz => by
        unfold refApartV; rw [if_pos ⟨gx, gy⟩, hz]
      have HVal := Lib.hid HV
      clear HV
      by_cases h1 : normW x = normW y
      · rw [decide_eq_true h1] at he
        have HA := Lib.hid (HVal.out oneW (by unfold apartW; rw [if_pos h1]))
        clear h1 hl gx gy
        go_enter Tryz.func13, Tryz.ntmps13
        go_wp2
        go_ret2
        exact RetN.mk (Kp.refl _) (by rw [HA.out]; rfl)
      · rw [decide_eq_false h1] at he
        have nlx := norm_le gx
        have nly := norm_le gy
        have zx : ((FloatKind.format .f64).order x 0 == some .eq) = decide (normW x = 0) := norm_zero gx
        have zy : ((FloatKind.format .f64).order y 0 == some .eq) = decide (normW y = 0) := norm_zero gy
        by_cases h2 : normW x < normW y
        · rw [decide_eq_true h2] at hl
          have ey : normW y = y := norm_pos gy (by omega)
          by_cases h3 : normW x = 0
          · rw [decide_eq_true h3] at zx
            have HA := Lib.hid (HVal.out infW (by unfold apartW; rw [if_neg h1, if_pos (.inl h3)]))
            clear h1 h2 h3 gx gy nlx nly ey zy
            go_enter Tryz.func13, Tryz.ntmps13
            go_wp2_with fail
            refine (HInf.out _).mono ?_
            rintro e w1 ⟨v, rfl, hk1, rfl⟩
            go_wp2
            go_ret2
            exact RetN.mk hk1 (by rw [HA.out]; rfl)
          · rw [decide_eq_false h3] at zx
            have ex : normW x = x := norm_pos gx h3
            have hq := fun W => quo_run (s := y) (d := x) (by omega) (by omega) (by omega) 45 W
            have HA := Lib.hid (HVal.out (fdiv y x) (by
              unfold apartW
              rw [if_neg h1, ex, ey]
              split
              · rename_i h
                have : y = infW := by rcases h with h | h | h | h <;> omega
                rw [this, fdiv_inf (by omega) (by omega)]
              · rw [show max x y = y from by omega, show min x y = x from by omega]))
            clear h1 h2 h3 gx gy nlx nly ex ey zy
            go_enter Tryz.func13, Tryz.ntmps13
            go_wp2
            go_ret2
            exact RetN.mk (Kp.refl _) (by rw [HA.out]; rfl)
        · rw [decide_eq_false h2] at hl
          have h2' : normW y < normW x := by omega
          have ex : normW x = x := norm_pos gx (by omega)
          by_cases h3 : normW y = 0
          · rw [decide_eq_true h3] at zy
            have HA := Lib.hid (HVal.out infW (by unfold apartW; rw [if_neg h1, if_pos (.inr (.inl h3))]))
            clear h1 h2 h2' h3 gx gy nlx nly ex zx
            go_enter Tryz.func13, Tryz.ntmps13
            go_wp2_with fail
            refine (HInf.out _).mono ?_
            rintro e w1 ⟨v, rfl, hk1, rfl⟩
            go_wp2
            go_ret2
            exact RetN.mk hk1 (by rw [HA.out]; rfl)
          · rw [decide_eq_false h3] at zy
            have ey : normW y = y := norm_pos gy h3
            have hq := fun W => quo_run (s := x) (d := y) (by omega) (by omega) (by omega) 45 W
            have HA := Lib.hid (HVal.out (fdiv x y) (by
              unfold apartW
              rw [if_neg h1, ex, ey]
              split
              · rename_i h
                have : x = infW := by rcases h with h | h | h | h <;> omega
                rw [this, fdiv_inf (by omega) (by omega)]
              · rw [show max x y = x from by omega, show min x y = y from by omega]))
            clear h1 h2 h2' h3 gx gy nlx nly ex ey zx
            go_enter Tryz.func13, Tryz.ntmps13
            go_wp2
            go_ret2
            exact RetN.mk (Kp.refl _) (by rw [HA.out]; rfl)
    · have HA := Lib.hid (show refApartV x y = .tuple #[.float .f64 0, .bool false] from by unfold refApartV; rw [if_neg fun h => gy h.2])
      rcases bad_word hy gy with y1 | ⟨y1, y2⟩
      · clear gx gy
        go_enter Tryz.func13, Tryz.ntmps13
        go_wp2
        go_ret2
        exact RetN.mk (Kp.refl _) (by rw [HA.out]; rfl)
      · clear gx gy
        go_enter Tryz.func13, Tryz.ntmps13
        go_wp2
        go_ret2
        exact RetN.mk (Kp.refl _) (by rw [HA.out]; rfl)
  · have HA := Lib.hid (show refApartV x y = .tuple #[.float .f64 0, .bool false] from by unfold refApartV; rw [if_neg fun h => gx h.1])
    have hyn : ((FloatKind.format .f64).order y y != some .eq) = true ∨ ((FloatKind.format .f64).order y y != some .eq) = false := by
      cases ((FloatKind.format .f64).order y y != some .eq) <;> simp
    rcases bad_word hx gx with x1 | ⟨x1, x2⟩
    · clear gx hyn
      go_enter Tryz.func13, Tryz.ntmps13
      go_wp2
      go_ret2
      exact RetN.mk (Kp.refl _) (by rw [HA.out]; rfl)
    · rcases hyn with y1 | y1
      all_goals
        clear gx
        go_enter Tryz.func13, Tryz.ntmps13
        go_wp2
        go_ret2
        exact RetN.mk (Kp.refl _) (by rw [HA.out]; rfl)
end Go.Proofs.YtomeebimmmfmbaaGreat

/- cost.Ordered: copies of terms, of a literal. -/
namespace Go.Proofs.YtomeebimmmfmbaaGreat
open Go.RowKit
set_option linter.unusedVariables false

theorem cloneT_any (ts : List TermZ) (ao : Option Addr) (cap : Nat) (w : World) (n : Nat) (hn : n = ts.length) (hc : CellsAt w ao (tcells ts)) (hm : n ≤ 1048576) :
    Calls Tryz.prog 53 #[.slice ao n cap] w (RetN w fun w' v => Row w' 94 2 v n (tcells ts) (New w)) := by
  have hq : ∀ w : World, (binOp .eql 23 (.slice ao n cap) (.slice none 0 0)).run Tryz.prog w = .ok (.bool ao.isNone) w := fun w => Lib.run_eql_slice_nil w _ _ _ _ _ _ _ Tryz.underlying23
  have HNN := Lib.hid (show n * 2 = (tcells ts).length by rw [tcells_len, hn])
  have h1 := Lib.hid (tcells_one ts)
  generalize tcells ts = vs at *
  clear hn
  have hl : n ≤ maxLen := by unfold maxLen; omega
  cases ao with
  | none =>
    have hv : vs = [] := by
      cases vs with
      | nil => rfl
      | cons x vs => obtain ⟨b, o, h, _⟩ := hc.off (by simp); cases h
    subst hv
    have h0 : n = 0 := by have := HNN.out; simp at this; omega
    subst h0
    go_enter Tryz.func53, Tryz.ntmps53
    go_wp2
    go_ret
    exact RetN.mk (Kp.refl _) (Row.nil _ _ _ _)
  | some a =>
    go_enter Tryz.func53, Tryz.ntmps53
    go_wp2_with (first | (at_builtin; refine Halted.out ?_))
    refine Halted.mk (wp_appN elem_term rfl _ _ rfl ((Kp.refl (F := fun _ => False) w).alloc _) rfl (Row.empty w 94 2 (New w) (Nat.le_refl _)) rfl (hc.alloc _) HNN.out.symm h1.out (by omega) (by omega) ?_)
    intro v1 w1 hr1 hk1 _ _
    have HR := Lib.hid hr1; clear hr1
    go_wp2
    go_ret
    exact RetN.mk hk1 (by simpa using HR.out)
/-- Terms of one's own. -/
theorem Row.termsAt {w w0 : World} {a : Option Addr} {n c : Nat} {ts : List TermZ} (h : Row w 94 2 (.slice a n c) n (tcells ts) (New w0)) (hn : n = ts.length) (hf : ∀ t ∈ ts, TermFit t) : TermsAt w (New w0) a ts := by
  obtain ⟨hx, ⟨e, h0⟩ | ⟨g, cap, rest, e, hM, hB, _⟩⟩ := h
  · have : ts = [] := List.eq_nil_of_length_eq_zero (by omega)
    subst this
    exact fun i x hi => by simp at hi
  · cases e
    exact elems_of (s := shTerm) (f := termC) (fun x => rfl) (fun i x hi => term_mk (hf x (List.mem_of_getElem? hi))) hM hB
set_option maxRecDepth 100000 in
set_option maxHeartbeats 2000000 in
theorem copiedL_any (ts : List TermZ) (k : Int) (p : ByteArray) (a : Option Addr) (m c : Nat) (op lk : Int) (lt : ByteArray) (rk : Int) (rt : ByteArray) (w : World) (hm : m = ts.length) (hc : CellsAt w a (tcells ts)) (hl : m ≤ 1048576) :
    Calls Tryz.prog 54 #[litV k p a m c op lk lt rk rt] w (RetN w fun w' v => ∃ a' c', v = litV k p a' m c' op lk lt rk rt ∧ Row w' 94 2 (.slice a' m c') m (tcells ts) (New w)) := by
  have HC := Lib.hid (fun W (hW : Ext w W) => cloneT_any ts a c W m hm (hc.ext hW) hl)
  clear hm hc
  go_enter Tryz.func54, Tryz.ntmps54
  go_wp2_with fail
  refine (HC.out _ (((Kp.refl w).alloc _).alloc _)).mono ?_
  rintro e w1 ⟨v1, rfl, hk1, hr1⟩
  obtain ⟨a', c', ev, _, _⟩ := hr1.shape
  subst ev
  have hB1 := (((Blk.new w [.int .i64 k, .string p, .slice a m c, .int .i64 op, .int .i64 lk, .string lt, .int .i64 rk, .string rt] 97).alloc (.cells #[.int .i64 0, .string ⟨#[]⟩, .slice none 0 0, .int .i64 0, .int .i64 0, .string ⟨#[]⟩, .int .i64 0, .string ⟨#[]⟩] 97)).ext hk1)
  have hB2 := (Blk.new (w.alloc (.cells #[.int .i64 k, .string p, .slice a m c, .int .i64 op, .int .i64 lk, .string lt, .int .i64 rk, .string rt] 97)) [.int .i64 0, .string ⟨#[]⟩, .slice none 0 0, .int .i64 0, .int .i64 0, .string ⟨#[]⟩, .int .i64 0, .string ⟨#[]⟩] 97).ext hk1
  rw [alloc_size] at hB2
  have hz1 := hk1.size
  rw [alloc_size, alloc_size] at hz1
  obtain ⟨g1, eg1⟩ : ∃ g, w.heap.size = g := ⟨_, rfl⟩
  rw [eg1] at hB1 hB2 ⊢
  obtain ⟨g2, eg2⟩ : ∃ g, g1 + 1 = g := ⟨_, rfl⟩
  rw [eg2] at hB2 ⊢
  have HK := Lib.hid (show Ext w w1 from ((Kp.refl w).alloc _).alloc _ |>.trans hk1)
  have HR := Lib.hid hr1
  have HK0 := Lib.hid (show w.heap.size ≤ ((w.alloc (.cells #[.int .i64 k, .string p, .slice a m c, .int .i64 op, .int .i64 lk, .string lt, .int .i64 rk, .string rt] 97)).alloc (.cells #[.int .i64 0, .string ⟨#[]⟩, .slice none 0 0, .int .i64 0, .int .i64 0, .string ⟨#[]⟩, .int .i64 0, .string ⟨#[]⟩] 97)).heap.size from by rw [alloc_size, alloc_size]; omega)
  have HGE := Lib.hid (And.intro eg1 eg2)
  have x2 : w1.cell? ⟨g1, 2, none⟩ = some (.slice a m c) := by rw [hB1.cell']; rfl
  have x2f := hB1.free 2
  obtain ⟨w2, ew2⟩ : ∃ w2, w1.setCell ⟨g1, 2, none⟩ (.slice a' m c') = w2 := ⟨_, rfl⟩
  have hC1 : Blk w2 g1 [.int .i64 k, .string p, .slice a' m c', .int .i64 op, .int .i64 lk, .string lt, .int .i64 rk, .string rt] 97 := by rw [← ew2]; exact hB1.set 2 _
  have hC2 : Blk w2 g2 [.int .i64 0, .string ⟨#[]⟩, .slice none 0 0, .int .i64 0, .int .i64 0, .string ⟨#[]⟩, .int .i64 0, .string ⟨#[]⟩] 97 := by
    rw [← ew2]; exact hB2.kp (Kp.setCell (F := fun k => k = g1) (Kp.refl w1) (fun _ => rfl) _) (by omega)
  have q0 : w2.cell? ⟨g1, 0, none⟩ = some (.int .i64 k) := by rw [hC1.cell']; rfl
  have q1 : w2.cell? ⟨g1, 1, none⟩ = some (.string p) := by rw [hC1.cell']; rfl
  have q2 : w2.cell? ⟨g1, 2, none⟩ = some (.slice a' m c') := by rw [hC1.cell']; rfl
  have q3 : w2.cell? ⟨g1, 3, none⟩ = some (.int .i64 op) := by rw [hC1.cell']; rfl
  have q4 : w2.cell? ⟨g1, 4, none⟩ = some (.int .i64 lk) := by rw [hC1.cell']; rfl
  have q5 : w2.cell? ⟨g1, 5, none⟩ = some (.string lt) := by rw [hC1.cell']; rfl
  have q6 : w2.cell? ⟨g1, 6, none⟩ = some (.int .i64 rk) := by rw [hC1.cell']; rfl
  have q7 : w2.cell? ⟨g1, 7, none⟩ = some (.string rt) := by rw [hC1.cell']; rfl
  have z0 : w2.cell? ⟨g2, 0, none⟩ = some (.int .i64 0) := by rw [hC2.cell']; rfl
  have f0 := hC2.free 0
  have z1 : w2.cell? ⟨g2, 1, none⟩ = some (.string ⟨#[]⟩) := by rw [hC2.cell']; rfl
  have f1 := hC2.free 1
  have z2 : w2.cell? ⟨g2, 2, none⟩ = some (.slice none 0 0) := by rw [hC2.cell']; rfl
  have f2 := hC2.free 2
  have z3 : w2.cell? ⟨g2, 3, none⟩ = some (.int .i64 0) := by rw [hC2.cell']; rfl
  have f3 := hC2.free 3
  have z4 : w2.cell? ⟨g2, 4, none⟩ = some (.int .i64 0) := by rw [hC2.cell']; rfl
  have f4 := hC2.free 4
  have z5 : w2.cell? ⟨g2, 5, none⟩ = some (.string ⟨#[]⟩) := by rw [hC2.cell']; rfl
  have f5 := hC2.free 5
  have z6 : w2.cell? ⟨g2, 6, none⟩ = some (.int .i64 0) := by rw [hC2.cell']; rfl
  have f6 := hC2.free 6
  have z7 : w2.cell? ⟨g2, 7, none⟩ = some (.string ⟨#[]⟩) := by rw [hC2.cell']; rfl
  have f7 := hC2.free 7
  have HE2 := Lib.hid ew2
  clear hk1 hr1 eg1 eg2 hB1 hB2
  go_wp2
  generalize hw9 : World.setCell (World.setCell (World.setCell (World.setCell (World.setCell (World.setCell (World.setCell (World.setCell w2 _ _) _ _) _ _) _ _) _ _) _ _) _ _) _ _ = w9
  have hD2 : Blk w9 g2 [.int .i64 k, .string p, .slice a' m c', .int .i64 op, .int .i64 lk, .string lt, .int .i64 rk, .string rt] 97 := by
    rw [← hw9]
    exact (((((((hC2.set 0 _).set 1 _).set 2 _).set 3 _).set 4 _).set 5 _).set 6 _).set 7 _
  have hk9 : Kp (fun k => k = g2) w2 w9 := by
    rw [← hw9]
    exact Kp.setCell (F := fun k => k = g2) (Kp.setCell (F := fun k => k = g2) (Kp.setCell (F := fun k => k = g2) (Kp.setCell (F := fun k => k = g2) (Kp.setCell (F := fun k => k = g2) (Kp.setCell (F := fun k => k = g2) (Kp.setCell (F := fun k => k = g2) (Kp.setCell (F := fun k => k = g2) (Kp.refl w2) (fun _ => rfl) _) (fun _ => rfl) _) (fun _ => rfl) _) (fun _ => rfl) _) (fun _ => rfl) _) (fun _ => rfl) _) (fun _ => rfl) _) (fun _ => rfl) _
  have r0 : w9.cell? ⟨g2, 0, none⟩ = some (.int .i64 k) := by rw [hD2.cell']; rfl
  have r1 : w9.cell? ⟨g2, 1, none⟩ = some (.string p) := by rw [hD2.cell']; rfl
  have r2 : w9.cell? ⟨g2, 2, none⟩ = some (.slice a' m c') := by rw [hD2.cell']; rfl
  have r3 : w9.cell? ⟨g2, 3, none⟩ = some (.int .i64 op) := by rw [hD2.cell']; rfl
  have r4 : w9.cell? ⟨g2, 4, none⟩ = some (.int .i64 lk) := by rw [hD2.cell']; rfl
  have r5 : w9.cell? ⟨g2, 5, none⟩ = some (.string lt) := by rw [hD2.cell']; rfl
  have r6 : w9.cell? ⟨g2, 6, none⟩ = some (.int .i64 rk) := by rw [hD2.cell']; rfl
  have r7 : w9.cell? ⟨g2, 7, none⟩ = some (.string rt) := by rw [hD2.cell']; rfl
  have HD := Lib.hid (And.intro hD2 hk9)
  clear hw9 hk9 hD2
  try simp only [Exit.inBlock, Exit.then]
  refine bodyPost_ret (v := litV k p a' m c' op lk lt rk rt) (by simp [results, Tryz.results54, go_sem, litV, r0, r1, r2, r3, r4, r5, r6, r7]) rfl ?_
  have hk12 : Kp (fun k => k = g1) w1 w2 := by rw [← HE2.out]; exact Kp.setCell (F := fun k => k = g1) (Kp.refl w1) (fun _ => rfl) _
  have e1 := HGE.out.1
  have e2 := HGE.out.2
  have hx : Ext w w9 := (HK.out.trans' hk12 fun k hk e => by omega).trans' HD.out.2 fun k hk e => by omega
  refine RetN.mk hx ⟨a', c', rfl, ?_⟩
  have h2 := (HR.out.kp' hk12 fun g hg _ e => by
    have h1 : _ ≤ g := HR.out.block g hg
    rw [show ((w.alloc (.cells #[.int .i64 k, .string p, .slice a m c, .int .i64 op, .int .i64 lk, .string lt, .int .i64 rk, .string rt] 97)).alloc (.cells #[.int .i64 0, .string ⟨#[]⟩, .slice none 0 0, .int .i64 0, .int .i64 0, .string ⟨#[]⟩, .int .i64 0, .string ⟨#[]⟩] 97)).heap.size = w.heap.size + 2 from by rw [alloc_size, alloc_size]] at h1
    omega)
  have h3 := Row.kp' h2 HD.out.2 fun g hg _ e => by
    have h1 : _ ≤ g := HR.out.block g hg
    rw [show ((w.alloc (.cells #[.int .i64 k, .string p, .slice a m c, .int .i64 op, .int .i64 lk, .string lt, .int .i64 rk, .string rt] 97)).alloc (.cells #[.int .i64 0, .string ⟨#[]⟩, .slice none 0 0, .int .i64 0, .int .i64 0, .string ⟨#[]⟩, .int .i64 0, .string ⟨#[]⟩] 97)).heap.size = w.heap.size + 2 from by rw [alloc_size, alloc_size]] at h1
    omega
  exact h3.mono fun g hg => Nat.le_trans HK0.out hg
end Go.Proofs.YtomeebimmmfmbaaGreat

/- Rules in an order: what is wrong, the literals in it. -/
namespace Go.Proofs.YtomeebimmmfmbaaGreat
open Go.RowKit
set_option linter.unusedVariables false

open Classical in
/-- What is wrong with a rule in an order. -/
noncomputable def ordE (r : RuleZ) (xs : List Int) : Nat := if errR r [] = 0 then if orderOk r.2.1 xs then 0 else 2 else errR r []
def litZ0 : LitZ := (0, (⟨#[]⟩, [], ()), 0, (0, ⟨#[]⟩, ()), (0, ⟨#[]⟩, ()), ())
/-- The literals in an order. -/
def ordL (ls : List LitZ) (xs : List Int) : List LitZ := xs.map fun x => ls.getD x.toNat litZ0
theorem ordL_len (ls : List LitZ) (xs : List Int) : (ordL ls xs).length = xs.length := by unfold ordL; rw [List.length_map]
theorem ordL_get {ls : List LitZ} {xs : List Int} {i : Nat} {x : Int} {l : LitZ} (hx : xs[i]? = some x) (hl : ls[x.toNat]? = some l) : (ordL ls xs)[i]? = some l := by
  unfold ordL
  rw [List.getElem?_map, hx, Option.map_some, List.getD_eq_getElem?_getD, hl]; rfl
theorem setW_valid {n : Nat} : ∀ (xs : List Int) (inn : List Bool), inn.length = n → (xs.foldl putNum (some inn)).isSome = true → ∀ x ∈ xs, 0 ≤ x ∧ x.toNat < n
  | [], _, _, _, x, hx => by simp at hx
  | y :: xs, inn, hn, h, x, hx => by
    rw [List.foldl_cons] at h
    cases hp : putNum (some inn) y with
    | none => rw [hp, putNum_none] at h; cases h
    | some inn' =>
      rw [hp] at h
      have hl := putNum_len (o := none) hp
      have hy : 0 ≤ y ∧ inn[y.toNat]? = some false := by
        unfold putNum at hp
        simp only at hp
        split at hp
        · assumption
        · cases hp
      rcases List.mem_cons.1 hx with rfl | hx
      · exact ⟨hy.1, by have := (List.getElem?_eq_some_iff.1 hy.2).1; omega⟩
      · exact setW_valid xs inn' (by omega) h x hx
theorem order_valid {ls : List LitZ} {xs : List Int} (h : orderOk ls xs) : ∀ x ∈ xs, 0 ≤ x ∧ x.toNat < ls.length := by
  have h1 := h.2 xs.length (Nat.le_refl _)
  rw [List.take_of_length_le (Nat.le_refl _)] at h1
  refine setW_valid xs (List.replicate ls.length false) (by simp) ?_
  unfold setOk at h1
  show (setW ls.length xs).isSome = true
  cases hs : setW ls.length xs with
  | none => rw [hs] at h1; cases h1
  | some inn => rfl
theorem order_lit {ls : List LitZ} {xs : List Int} (h : orderOk ls xs) {i : Nat} {x : Int} (hx : xs[i]? = some x) : ∃ q : Nat, x = (q : Int) ∧ ∃ l, ls[q]? = some l ∧ (ordL ls xs)[i]? = some l := by
  obtain ⟨h0, h1⟩ := order_valid h x (List.mem_of_getElem? hx)
  refine ⟨x.toNat, by omega, _, List.getElem?_eq_getElem h1, ordL_get hx (List.getElem?_eq_getElem h1)⟩
theorem ordL_mem {ls : List LitZ} {xs : List Int} (h : orderOk ls xs) : ∀ l ∈ ordL ls xs, l ∈ ls := fun l hl => by
  obtain ⟨x, hx, rfl⟩ := List.mem_map.1 hl
  obtain ⟨h0, h1⟩ := order_valid h x hx
  rw [List.getD_eq_getElem?_getD, List.getElem?_eq_getElem h1]
  exact List.getElem_mem h1
theorem ordL_fit {ls : List LitZ} {xs : List Int} (h : orderOk ls xs) (hf : Fit ls) : Fit (ordL ls xs) :=
  ⟨by rw [ordL_len, h.1]; exact hf.len, fun l hl => hf.terms l (ordL_mem h l hl)⟩
/-- What is answered of a rule in an order. -/
def OrdV (G : Nat → Prop) (p : ByteArray) (hs : List TermZ) (ls : List LitZ) (xs : List Int) (w' : World) (v : Value) : Prop :=
  (ordE ((p, hs, ()), ls, ()) xs ≠ 0 → v = .tuple #[ruleV ⟨#[]⟩ none 0 0 none 0 0, .int .i64 (ordE ((p, hs, ()), ls, ()) xs : Nat)]) ∧
  (ordE ((p, hs, ()), ls, ()) xs = 0 → ∃ ha hc ba bc, v = .tuple #[ruleV p ha hs.length hc ba xs.length bc, .int .i64 0] ∧ TermsAt w' G ha hs ∧ LitsAt w' G ba (ordL ls xs))
open Classical in
noncomputable def ordP (r : RuleZ) (xs : List Int) : ByteArray := if ordE r xs = 0 then r.1.1 else ⟨#[]⟩
open Classical in
noncomputable def ordH (r : RuleZ) (xs : List Int) : List TermZ := if ordE r xs = 0 then r.1.2.1 else []
open Classical in
noncomputable def ordB (r : RuleZ) (xs : List Int) : List LitZ := if ordE r xs = 0 then ordL r.2.1 xs else []
theorem ordE_ok {r : RuleZ} {xs : List Int} (h : ordE r xs = 0) : orderOk r.2.1 xs := by
  unfold ordE at h
  split at h
  · split at h
    · assumption
    · cases h
  · exact absurd h (by assumption)
theorem ordB_fit {r : RuleZ} {xs : List Int} (hf : Fit r.2.1) : Fit (ordB r xs) := by
  unfold ordB
  split
  · exact ordL_fit (ordE_ok (by assumption)) hf
  · exact ⟨Nat.zero_le _, fun l hl => by simp at hl⟩
theorem ordH_len {r : RuleZ} {xs : List Int} : (ordH r xs).length ≤ r.1.2.1.length := by
  unfold ordH
  split
  · exact Nat.le_refl _
  · exact Nat.zero_le _
theorem OrdV.all {G : Nat → Prop} {p : ByteArray} {hs : List TermZ} {ls : List LitZ} {xs : List Int} {w' : World} {v : Value} (h : OrdV G p hs ls xs w' v) :
    ∃ ha hc ba bc, v = .tuple #[ruleV (ordP ((p, hs, ()), ls, ()) xs) ha (ordH ((p, hs, ()), ls, ()) xs).length hc ba (ordB ((p, hs, ()), ls, ()) xs).length bc, .int .i64 (ordE ((p, hs, ()), ls, ()) xs : Nat)] ∧ TermsAt w' G ha (ordH ((p, hs, ()), ls, ()) xs) ∧ LitsAt w' G ba (ordB ((p, hs, ()), ls, ()) xs) := by
  by_cases h0 : ordE ((p, hs, ()), ls, ()) xs = 0
  · obtain ⟨ha, hc, ba, bc, e, h1, h2⟩ := h.2 h0
    refine ⟨ha, hc, ba, bc, ?_, by unfold ordH; rw [if_pos h0]; exact h1, by unfold ordB; rw [if_pos h0]; exact h2⟩
    unfold ordP ordH ordB
    rw [if_pos h0, if_pos h0, if_pos h0, h0, ordL_len]; exact e
  · refine ⟨none, 0, none, 0, ?_, by unfold ordH; rw [if_neg h0]; exact fun i x hi => by simp at hi, by unfold ordB; rw [if_neg h0]; exact fun i x hi => by simp at hi⟩
    unfold ordP ordH ordB
    rw [if_neg h0, if_neg h0, if_neg h0]; exact h.1 h0
theorem ordE_bad {r : RuleZ} {xs : List Int} (h : errR r [] ≠ 0) : ordE r xs = errR r [] := if_neg h
theorem ordE_none {r : RuleZ} {xs : List Int} (h : errR r [] = 0) (ho : ¬ orderOk r.2.1 xs) : ordE r xs = 2 := by unfold ordE; rw [if_pos h, if_neg ho]
theorem ordE_some {r : RuleZ} {xs : List Int} (h : errR r [] = 0) (ho : orderOk r.2.1 xs) : ordE r xs = 0 := by unfold ordE; rw [if_pos h, if_pos ho]
theorem stats_nil (w : World) : StatsAt w none [] := fun i s hs => by simp at hs
theorem stats_fit0 : StatsFit [] := ⟨Nat.zero_le _, fun s hs => by simp at hs, fun s hs => by simp at hs, fun s hs => by simp at hs⟩
theorem rule_set {W : World} {g : Nat} {a b c a' b' c' : Value} (h : Blk W g [a, b, c] 28) :
    Blk (((W.setCell ⟨g, 0, none⟩ a').setCell ⟨g, 1, none⟩ b').setCell ⟨g, 2, none⟩ c') g [a', b', c'] 28 ∧ Kp (fun k => k = g) W (((W.setCell ⟨g, 0, none⟩ a').setCell ⟨g, 1, none⟩ b').setCell ⟨g, 2, none⟩ c') :=
  ⟨((h.set 0 _).set 1 _).set 2 _, Kp.setCell (F := fun k => k = g) (Kp.setCell (F := fun k => k = g) (Kp.setCell (F := fun k => k = g) (Kp.refl W) (fun _ => rfl) _) (fun _ => rfl) _) (fun _ => rfl) _⟩
theorem row_lits {w w0 : World} {G : Nat → Prop} {Ls : List LitZ} {vs : List (Option Addr × Nat)} {ba : Option Addr} {n c : Nat} (h : Row w 97 8 (.slice ba n c) n ((Ls.zip vs).flatMap litC) (New w0)) (hn : n = Ls.length) (hv : vs.length = Ls.length) (hall : ∀ l ∈ Ls, LitAll l)
    (ht : ∀ x ∈ Ls.zip vs, TermsAt w G x.2.1 (termsOf x.1) ∧ (termsOf x.1).length ≤ x.2.2 ∧ x.2.2 ≤ maxLen) (hG : ∀ k, w0.heap.size ≤ k → G k) : LitsAt w G ba Ls := by
  obtain ⟨hx, ⟨e, h0⟩ | ⟨g, cap, rest, e, hM, hB, _⟩⟩ := h
  · have : Ls = [] := List.eq_nil_of_length_eq_zero (by omega)
    subst this
    exact fun i x hi => by simp at hi
  · cases e
    exact lits_cells hv hall ht (hG _ hM) hB
end Go.Proofs.YtomeebimmmfmbaaGreat
