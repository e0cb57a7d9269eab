/- Proved here: the statement CostOrdersUptoSaid: the law returns true for every input of the bound that the row names and leaves its arguments as they were. No condition of its own. -/
import Derived.Test.YtcphalpcdcddpaaOr8
import Derived.Deep.CondSized
/- The document's answer for costs: Best. -/
namespace Go.Proofs.Ytcphalpcdcddpaa
open Go.RowKit
set_option linter.unusedVariables false
attribute [local go_sem] run_store_float

/-- What is kept of a set: is there an order, which, what it costs. -/
def CellT (w : World) (t : Bool) (ov : Value) (c : Nat) : Option Plan → Prop
  | none => t = false ∧ ov = .slice none 0 0 ∧ c = 0
  | some p => t = true ∧ c = p.2 ∧ Row w 3 1 ov p.1.length (ints p.1) (fun _ => True)
def NoInt (w : World) (F : Nat → Prop) : Prop := ∀ k cs e, Blk w k cs e → F k → e ≠ 3
theorem CellT.kp {F : Nat → Prop} {w w' : World} {t : Bool} {ov : Value} {c : Nat} {o : Option Plan} (h : CellT w t ov c o) (hk : Kp F w w') (hF : NoInt w F) : CellT w' t ov c o := by
  cases o with
  | none => exact h
  | some p =>
    obtain ⟨h1, h2, h3⟩ := h
    refine ⟨h1, h2, h3.kp' hk fun g hg _ hf => ?_⟩
    obtain ⟨cs, hb⟩ := h3.blkOf hg
    exact hF _ _ _ hb hf rfl
structure RTab (w : World) (gt go gc N : Nat) (T : Nat → Option Plan) : Prop where
  body : ∃ (ts : List Bool) (vals : List Value) (cs : List Nat), ts.length = N ∧ vals.length = N ∧ cs.length = N ∧ Blk w gt (bools ts) 4 ∧ Blk w go vals 28 ∧ Blk w gc (flts cs) 37 ∧ ∀ (u : Nat) t ov c, ts[u]? = some t → vals[u]? = some ov → cs[u]? = some c → CellT w t ov c (T u)
theorem typ_rt : 4 ≠ 3 ∧ 28 ≠ 3 ∧ 37 ≠ 3 ∧ 4 ≠ 28 ∧ 4 ≠ 37 ∧ 28 ≠ 37 := by decide
theorem RTab.kp {F : Nat → Prop} {w w' : World} {gt go gc N : Nat} {T : Nat → Option Plan} (h : RTab w gt go gc N T) (hk : Kp F w w') (h1 : ¬ F gt) (h2 : ¬ F go) (h3 : ¬ F gc) (hF : NoInt w F) : RTab w' gt go gc N T := by
  obtain ⟨ts, vals, cs, l1, l2, l3, b1, b2, b3, hc⟩ := h.body
  exact ⟨ts, vals, cs, l1, l2, l3, b1.kp hk h1, b2.kp hk h2, b3.kp hk h3, fun u t ov c x1 x2 x3 => (hc u t ov c x1 x2 x3).kp hk hF⟩
theorem RTab.ext {w w' : World} {gt go gc N : Nat} {T : Nat → Option Plan} (h : RTab w gt go gc N T) (hk : Ext w w') : RTab w' gt go gc N T := h.kp hk id id id fun _ _ _ _ h => h.elim
theorem RTab.get {w : World} {gt go gc N : Nat} {T : Nat → Option Plan} (h : RTab w gt go gc N T) {u : Nat} (hu : u < N) : ∃ t ov c, w.cell? ⟨gt, u, none⟩ = some (.bool t) ∧ w.cell? ⟨go, u, none⟩ = some ov ∧ w.cell? ⟨gc, u, none⟩ = some (.float .f64 c) ∧ CellT w t ov c (T u) ∧ w.frozen? ⟨gt, u, none⟩ = false ∧ w.frozen? ⟨go, u, none⟩ = false ∧ w.frozen? ⟨gc, u, none⟩ = false := by
  obtain ⟨ts, vals, cs, l1, l2, l3, b1, b2, b3, hc⟩ := h.body
  have x1 : ts[u]? = some (ts[u]'(by omega)) := List.getElem?_eq_getElem (by omega)
  have x2 : vals[u]? = some (vals[u]'(by omega)) := List.getElem?_eq_getElem (by omega)
  have x3 : cs[u]? = some (cs[u]'(by omega)) := List.getElem?_eq_getElem (by omega)
  refine ⟨_, _, _, ?_, ?_, ?_, hc u _ _ _ x1 x2 x3, b1.free u, b2.free u, b3.free u⟩
  · rw [b1.cell']; simp [bools, x1]
  · rw [b2.cell', x2]
  · rw [b3.cell']; simp [flts, x3]
theorem RTab.ne {w : World} {gt go gc N : Nat} {T : Nat → Option Plan} (h : RTab w gt go gc N T) : ¬ gt = go ∧ ¬ go = gt ∧ ¬ gt = gc ∧ ¬ gc = gt ∧ ¬ go = gc ∧ ¬ gc = go := by
  obtain ⟨ts, vals, cs, l1, l2, l3, b1, b2, b3, hc⟩ := h.body
  have n1 : gt ≠ go := fun e => by rw [e] at b1; exact typ_rt.2.2.2.1 (blk_ne b1 b2)
  have n2 : gt ≠ gc := fun e => by rw [e] at b1; exact typ_rt.2.2.2.2.1 (blk_ne b1 b3)
  have n3 : go ≠ gc := fun e => by rw [e] at b2; exact typ_rt.2.2.2.2.2 (blk_ne b2 b3)
  exact ⟨n1, fun e => n1 e.symm, n2, fun e => n2 e.symm, n3, fun e => n3 e.symm⟩
/-- The three writes at a set. -/
theorem RTab.put {w : World} {gt go gc N : Nat} {T T' : Nat → Option Plan} (h : RTab w gt go gc N T) {s : Nat} {ov : Value} {p : Plan} (hr : Row w 3 1 ov p.1.length (ints p.1) (fun _ => True)) (hT : ∀ u, T' u = if u = s then some p else T u) :
    RTab (((w.setCell ⟨gt, s, none⟩ (.bool true)).setCell ⟨go, s, none⟩ ov).setCell ⟨gc, s, none⟩ (.float .f64 p.2)) gt go gc N T' := by
  obtain ⟨ts, vals, cs, l1, l2, l3, b1, b2, b3, hc⟩ := h.body
  have n1 : gt ≠ go := fun e => by rw [e] at b1; exact typ_rt.2.2.2.1 (blk_ne b1 b2)
  have n2 : gt ≠ gc := fun e => by rw [e] at b1; exact typ_rt.2.2.2.2.1 (blk_ne b1 b3)
  have n3 : go ≠ gc := fun e => by rw [e] at b2; exact typ_rt.2.2.2.2.2 (blk_ne b2 b3)
  have hk : Kp (fun k => k = gt ∨ k = go ∨ k = gc) w (((w.setCell ⟨gt, s, none⟩ (.bool true)).setCell ⟨go, s, none⟩ ov).setCell ⟨gc, s, none⟩ (.float .f64 p.2)) :=
    ((Kp.setCell (F := fun k => k = gt ∨ k = go ∨ k = gc) (Kp.refl w) (fun _ => .inl rfl) _).setCell (fun _ => .inr (.inl rfl)) _).setCell (fun _ => .inr (.inr rfl)) _
  have hF : NoInt w (fun k => k = gt ∨ k = go ∨ k = gc) := by
    rintro k ds e hb (rfl | rfl | rfl)
    · rw [blk_ne hb b1]; exact typ_rt.1
    · rw [blk_ne hb b2]; exact typ_rt.2.1
    · rw [blk_ne hb b3]; exact typ_rt.2.2.1
  have B1 := ((b1.set s (.bool true)).other (p := ⟨go, s, none⟩) n1 ov).other (p := ⟨gc, s, none⟩) n2 (.float .f64 p.2)
  have B2 := ((b2.other (p := ⟨gt, s, none⟩) (fun e => n1 e.symm) (.bool true)).set s ov).other (p := ⟨gc, s, none⟩) n3 (.float .f64 p.2)
  have B3 := ((b3.other (p := ⟨gt, s, none⟩) (fun e => n2 e.symm) (.bool true)).other (p := ⟨go, s, none⟩) (fun e => n3 e.symm) ov).set s (.float .f64 p.2)
  have e1 : (bools ts).set s (.bool true) = bools (ts.set s true) := by simp [bools, List.map_set]
  have e3 : (flts cs).set s (.float .f64 p.2) = flts (cs.set s p.2) := by simp [flts, List.map_set]
  rw [e1] at B1
  rw [e3] at B3
  refine ⟨ts.set s true, vals.set s ov, cs.set s p.2, by rw [List.length_set]; exact l1, by rw [List.length_set]; exact l2, by rw [List.length_set]; exact l3, B1, B2, B3, fun u t o c x1 x2 x3 => ?_⟩
  rw [hT]
  rw [List.getElem?_set] at x1 x2 x3
  by_cases e : s = u
  · subst e
    rw [if_pos rfl] at x1 x2 x3 ⊢
    split at x1
    · cases x1
      split at x2
      · cases x2
        split at x3
        · cases x3
          exact ⟨rfl, rfl, hr.kp' hk fun g hg _ hf => by
            obtain ⟨ds, hb⟩ := hr.blkOf hg
            exact hF _ _ _ hb hf rfl⟩
        · cases x3
      · cases x2
    · cases x1
  · rw [if_neg e] at x1 x2 x3
    rw [if_neg fun h => e h.symm]
    exact (hc u t o c x1 x2 x3).kp hk hF

noncomputable def stageS (S : List StatZ) (ls : List LitZ) (s : Nat) (o : Option Plan) (u : Nat) : Option Plan := if u < s then planS S ls u else if u = s then o else none
theorem stage_succ (S : List StatZ) (ls : List LitZ) (s : Nat) : stageS S ls (s + 1) none = stageS S ls s (planS S ls s) := by
  funext u
  unfold stageS
  by_cases h1 : u < s
  · rw [if_pos (by omega), if_pos h1]
  · by_cases h2 : u = s
    · subst h2
      rw [if_pos (by omega), if_neg (by omega), if_pos rfl]
    · rw [if_neg (by omega), if_neg h1, if_neg h2]
      split <;> rfl
theorem stage_put (S : List StatZ) (ls : List LitZ) (s : Nat) (o : Option Plan) (p : Plan) : ∀ u, stageS S ls s (some p) u = if u = s then some p else stageS S ls s o u := fun u => by
  unfold stageS
  by_cases h1 : u < s
  · rw [if_pos h1, if_neg (by omega), if_pos h1]
  · by_cases h2 : u = s
    · rw [if_neg h1, if_pos h2, if_pos h2]
    · rw [if_neg h1, if_neg h2, if_neg h2, if_neg h1, if_neg h2]
theorem RTab.first {w : World} {gt go gc N : Nat} {S : List StatZ} {ls : List LitZ} (hN : 1 ≤ N) (h : Blk w gt (bools ((List.replicate N false).set 0 true)) 4) (h2 : Blk w go (List.replicate N (.slice none 0 0)) 28) (h3 : Blk w gc (flts (List.replicate N 0)) 37) : RTab w gt go gc N (stageS S ls 1 none) := by
  refine ⟨_, _, _, by rw [List.length_set, List.length_replicate], List.length_replicate, List.length_replicate, h, h2, h3, fun u t ov c x1 x2 x3 => ?_⟩
  rw [List.getElem?_replicate] at x2 x3
  split at x2
  · rename_i hu
    rw [if_pos hu] at x3
    cases x2; cases x3
    rw [List.getElem?_set, List.getElem?_replicate, if_pos hu] at x1
    unfold stageS
    by_cases e : u = 0
    · subst e
      rw [if_pos rfl, List.length_replicate, if_pos hu] at x1
      cases x1
      have hp : planS S ls 0 = some ([], 0) := by
        rw [plan_eq]
        unfold rowP
        rw [if_pos rfl]
      rw [if_pos (by omega), hp]
      exact ⟨rfl, rfl, Row.nil _ _ _ _⟩
    · rw [if_neg fun h => e h.symm] at x1
      cases x1
      rw [if_neg (by omega)]
      split <;> exact ⟨rfl, rfl, rfl⟩
  · cases x2

theorem bit_of {s i B : Nat} (hs : s < 4096) (hB : B = 2 ^ i) : (wrap64 ((s : Int) / (B : Int))).tmod 2 = if s.testBit i = true then 1 else 0 := by
  have hb : s.testBit i = decide (s / 2 ^ i % 2 = 1) := Nat.testBit_eq_decide_div_mod_eq
  rw [← hB] at hb
  have e : (s : Int) / (B : Int) = ((s / B : Nat) : Int) := by rw [Int.natCast_ediv]
  have hlt : s / B < 4096 := Nat.lt_of_le_of_lt (Nat.div_le_self _ _) hs
  rw [e, hb]
  generalize s / B = x at *
  have e2 : wrap64 (x : Int) = (x : Int) := by unfold wrap64; omega
  rw [e2, Int.tmod_eq_emod_of_nonneg (by omega), show (x : Int) % 2 = ((x % 2 : Nat) : Int) by omega]
  rcases Nat.mod_two_eq_zero_or_one x with h | h
  · rw [h]; rfl
  · rw [h]; rfl
def AllB (n : Nat) (w0 : World) (iv av : Value) (w : World) : Prop := ∃ i B : Nat, i ≤ n ∧ iv = .int .i64 i ∧ av = .int .i64 B ∧ Hid (B = 2 ^ i) ∧ Hid (Ext w0 w)
theorem step_pow {i B : Nat} (h : B = 2 ^ i) : 2 * B = 2 ^ (i + 1) := by rw [h, Nat.pow_succ]; omega
def RBestTo (S : List StatZ) (ls : List LitZ) (w1 : World) (gt go gc N : Nat) (sv : Value) (w : World) : Prop := ∃ s : Nat, 1 ≤ s ∧ s ≤ N ∧ sv = .int .i64 s ∧ Hid (RTab w gt go gc N (stageS S ls s none)) ∧ Hid (Ext w1 w)
def RFillTo (w0 : World) (gi n s : Nat) (iv bv : Value) (w : World) : Prop := ∃ i B : Nat, i ≤ n ∧ iv = .int .i64 i ∧ bv = .int .i64 B ∧ Hid (B = 2 ^ i) ∧ Hid (Blk w gi (bools (fillB n s i)) 4) ∧ Hid (Ext w0 w)
def RPickTo (S : List StatZ) (ls : List LitZ) (w1 : World) (gt go gc N gi n s g : Nat) (iv bv : Value) (w : World) : Prop := ∃ i B : Nat, i ≤ n ∧ iv = .int .i64 i ∧ bv = .int .i64 B ∧ Hid (B = 2 ^ i) ∧ Hid (RTab w gt go gc N (stageS S ls s (leastP (candP (planS S ls) g s) i))) ∧ Hid (Blk w gi (bools (bitsS n s)) 4) ∧ Hid (Ext w1 w)

open Classical in
set_option maxRecDepth 100000 in
set_option maxHeartbeats 8000000 in
theorem refBest_any (p : ByteArray) (hs : List TermZ) (ls : List LitZ) (ha : Option Addr) (hn hcap : Nat) (ba : Option Addr) (n bcap : Nat) (S : List StatZ) (sa : Option Addr) (sn scap : Nat) (w : World) (G : Nat → Prop) (hhn : hn = hs.length) (hh : TermsAt w G ha hs) (hhl : hn ≤ 1048576) (hbn : n = ls.length) (h : LitsAt w G ba ls) (hf : Fit ls)
    (hsn : sn = S.length) (hS : StatsAt w sa S) (hSf : StatsFit S) :
    Calls Try.prog 26 #[ruleV p ha hn hcap ba n bcap, .slice sa sn scap] w (RetN w (BestV (bestE ((p, hs, ()), ls, ()) S))) := by
  obtain ⟨e, ee⟩ : ∃ e, e = errR ((p, hs, ()), ls, ()) S := ⟨_, rfl⟩
  have hl : n ≤ 1048576 := by have := hf.len; omega
  have hr := fun (W : World) (hW : Ext w W) => refRight_any p hs ls ha hn hcap ba n bcap S sa sn scap W G hhn (hh.ext hW) hhl hbn (h.ext hW) hf hsn (hS.ext hW) hSf
  rw [← ee] at hr
  have HR := Lib.hid hr
  have HSt := Lib.hid (fun (inn : List Bool) (ia : Option Addr) (icap : Nat) (W : World) (hW : Ext w W) (hin : inn.length = n) (hI : CellsAt W ia (bools inn)) => refStands_any p ls ha hn hcap ba n bcap inn ia icap W G hbn (h.ext hW) hf hin hI)
  have HG := Lib.hid (fun (he : e = 0) (inn : List Bool) (ia : Option Addr) (icap : Nat) (W : World) (hW : Ext w W) (hin : inn.length = n) (hI : CellsAt W ia (bools inn)) => refGuess_any p hs ls ha hn hcap ba n bcap inn ia icap S sa sn scap W G hhn (hh.ext hW) hhl hbn (h.ext hW) hf hin hI hsn (hS.ext hW) hSf (Known.of (errR_zero (ee.symm.trans he)).2) (errR_zero (ee.symm.trans he)).1)
  have EE := Lib.hid ee
  have HN := Lib.hid hbn
  clear hr hhn hh hbn h hf hsn hS hSf ee
  go_enter Try.func26, Try.ntmps26
  go_wp2_with fail
  obtain ⟨wb, eb⟩ : ∃ wb, w.alloc (.cells #[.string p, .slice ha hn hcap, .slice ba n bcap] 27) = wb := ⟨_, rfl⟩
  rw [eb]
  have HB := Lib.hid (Blk.new w [.string p, .slice ha hn hcap, .slice ba n bcap] 27)
  have HX := Lib.hid ((Kp.refl (F := fun _ => False) w).alloc (.cells #[.string p, .slice ha hn hcap, .slice ba n bcap] 27))
  have eb2 : w.alloc (.cells [Value.string p, .slice ha hn hcap, .slice ba n bcap].toArray 27) = wb := eb
  rw [eb2] at HB
  rw [eb] at HX
  clear eb eb2
  refine (HR.out _ HX.out).mono ?_
  rintro e1 w1 ⟨v, rfl, hk1, rfl⟩
  have X1 := Lib.hid (HX.out.trans hk1)
  have B1 := Lib.hid (HB.out.ext hk1)
  clear hk1 HX HB
  by_cases he : e = 0
  · subst he
    have HE := Lib.hid EE.out.symm
    have HK := Lib.hid (Known.of (errR_zero HE.out).2)
    have HG2 := Lib.hid (HG.out rfl)
    clear HG HR
    have r2 : w1.cell? ⟨w.heap.size, 2, none⟩ = some (.slice ba n bcap) := by rw [B1.out.cell']; rfl
    by_cases hn12 : 12 < n
    · go_wp2
      go_ret3
      exact RetN.mk X1.out (by rw [bestE_long HE.out (by rw [HN.out] at hn12; exact hn12)]; exact ⟨none, 0, rfl, CellsAt.nil _ _, Nat.le_refl _, by unfold maxLen; omega⟩)
    · have hn13 : n ≤ 12 := by omega
      have hnle : (n : Int) ≤ 12 := by omega
      go_wp2
      clear r2
      go_loopw [10, 9] (fun iv av wr => AllB n w1 iv av wr) (fun iv _ _ => n - (intOf iv).toNat)
      case atStart => exact ⟨0, 1, Nat.zero_le _, rfl, rfl, rfl, Kp.refl _⟩
      case round =>
        obtain ⟨i, B, hi, rfl, rfl, hB, hex⟩ := hrel
        have hBl : B ≤ 4096 := by rw [hB.out]; exact pow_le hn13 hi
        by_cases hlt : i < n
        · have hw1 : IntKind.i64.wrap (2 * (B : Int)) = ((2 * B : Nat) : Int) := by
            rw [show 2 * (B : Int) = ((2 * B : Nat) : Int) by omega]
            exact IntWalk.i64_in _ (by omega)
          have HB2 := Lib.hid (step_pow hB.out)
          go_wp2
          go_roundw
          case rel => exact ⟨i + 1, 2 * B, by omega, by first | rfl | (congr 1; done) | (congr 1; omega), by first | rfl | (congr 1; omega), HB2.out, hex.out⟩
          case measure => simp [intOf]; omega
        · obtain rfl : n = i := by omega
          have HNN := Lib.hid hB.out
          obtain ⟨N, eN⟩ : ∃ N, N = B := ⟨_, rfl⟩
          subst eN
          have hN0 : 1 ≤ N := by rw [HNN.out]; exact Nat.two_pow_pos _
          have hmk1 := run_make_row' (P := Try.prog) 74 4 (.bool false) 1 Try.underlying74 (by kernel_rfl) rfl .i64 .i64 N (by omega) (by omega)
          have hmk2 := run_make_row' (P := Try.prog) 100 28 (.slice none 0 0) 24 Try.underlying100 (by kernel_rfl) rfl .i64 .i64 N (by omega) (by omega)
          have hmk3 := run_make_row' (P := Try.prog) 54 37 (.float .f64 0) 8 Try.underlying54 (by kernel_rfl) rfl .i64 .i64 N (by omega) (by omega)
          obtain ⟨wA, eA⟩ : ∃ wA, wr.alloc (.cells (madeCells #[.bool false] N) 4) = wA := ⟨_, rfl⟩
          have hA : Blk wA wr.heap.size (List.replicate N (.bool false)) 4 := by rw [← eA]; exact blk_made wr _ N _
          have xA : Ext wr wA := by rw [← eA]; exact (Kp.refl wr).alloc _
          obtain ⟨wC, eC⟩ : ∃ wC, wA.alloc (.cells (madeCells #[.slice none 0 0] N) 28) = wC := ⟨_, rfl⟩
          have hC : Blk wC wA.heap.size (List.replicate N (.slice none 0 0)) 28 := by rw [← eC]; exact blk_made wA _ N _
          have xC : Ext wA wC := by rw [← eC]; exact (Kp.refl wA).alloc _
          obtain ⟨wD, eD⟩ : ∃ wD, wC.alloc (.cells (madeCells #[.float .f64 0] N) 37) = wD := ⟨_, rfl⟩
          have hD : Blk wD wC.heap.size (List.replicate N (.float .f64 0)) 37 := by rw [← eD]; exact blk_made wC _ N _
          have xD : Ext wC wD := by rw [← eD]; exact (Kp.refl wC).alloc _
          obtain ⟨wE, eE⟩ : ∃ wE, wD.setCell ⟨wr.heap.size, 0, none⟩ (.bool true) = wE := ⟨_, rfl⟩
          have hAD := (hA.ext xC).ext xD
          have a0 : wD.cell? ⟨wr.heap.size, 0, none⟩ = some (.bool false) := by rw [hAD.cell', List.getElem?_replicate, if_pos (by omega)]
          have a1 := hAD.free 0
          have hE1 : Blk wE wr.heap.size (bools ((List.replicate N false).set 0 true)) 4 := by
            rw [← eE]
            have h := hAD.set 0 (.bool true)
            have e : (List.replicate N (Value.bool false)).set 0 (.bool true) = bools ((List.replicate N false).set 0 true) := by simp [bools, List.map_set]
            rw [e] at h; exact h
          have hs1 : wA.heap.size ≠ wr.heap.size := fun h => by have := hA.lt; omega
          have hs2 : wC.heap.size ≠ wr.heap.size := fun h => by have := (hA.ext xC).lt; omega
          have hE2 : Blk wE wA.heap.size (List.replicate N (.slice none 0 0)) 28 := by rw [← eE]; exact (hC.ext xD).other hs1 _
          have hE3 : Blk wE wC.heap.size (flts (List.replicate N 0)) 37 := by
            have e : List.replicate N (Value.float .f64 0) = flts (List.replicate N 0) := by simp [flts]
            rw [e] at hD
            rw [← eE]; exact hD.other hs2 _
          have HT := Lib.hid (show RTab wE wr.heap.size wA.heap.size wC.heap.size N (stageS S ls 1 none) ∧ Ext w1 wE ∧ w1.heap.size ≤ wr.heap.size ∧ w1.heap.size ≤ wA.heap.size ∧ w1.heap.size ≤ wC.heap.size from
            ⟨RTab.first hN0 hE1 hE2 hE3, by rw [← eE]; exact Kp.setCell (F := fun _ => False) (((hex.out.trans xA).trans xC).trans xD) (fun h => by have := hex.out.size; simp only at h; omega) _, hex.out.size, (hex.out.trans xA).size, ((hex.out.trans xA).trans xC).size⟩)
          clear hA xA hC xC hD xD hAD hE1 hE2 hE3 hs1 hs2 hB
          go_wp2
          obtain ⟨gt, egt⟩ : ∃ g, g = wr.heap.size := ⟨_, rfl⟩
          obtain ⟨go, ego⟩ : ∃ g, g = wA.heap.size := ⟨_, rfl⟩
          obtain ⟨gc, egc⟩ : ∃ g, g = wC.heap.size := ⟨_, rfl⟩
          rw [← egt, ← ego, ← egc] at HT
          rw [← egt, ← ego, ← egc]
          clear eA eC eD eE a0 a1 egt ego egc hmk1 hmk2 hmk3
          go_loopw [14] (fun sv wr => RBestTo S ls w1 gt go gc N sv wr) (fun sv _ => N - (intOf sv).toNat)
          case atStart => exact ⟨1, Nat.le_refl _, hN0, rfl, HT.out.1, HT.out.2.1⟩
          case round =>
            obtain ⟨s, hs1, hsN, rfl, htab, hex⟩ := hrel
            by_cases hlt : s < N
            · have hmk4 := run_make_row' (P := Try.prog) 74 4 (.bool false) 1 Try.underlying74 (by kernel_rfl) rfl .i64 .i64 n (by omega) (by omega)
              obtain ⟨wF, eF⟩ : ∃ wF, wr.alloc (.cells (madeCells #[.bool false] n) 4) = wF := ⟨_, rfl⟩
              have hF : Blk wF wr.heap.size (List.replicate n (.bool false)) 4 := by rw [← eF]; exact blk_made wr _ n _
              have xF : Ext wr wF := by rw [← eF]; exact (Kp.refl wr).alloc _
              obtain ⟨gi, egi⟩ : ∃ g, g = wr.heap.size := ⟨_, rfl⟩
              have HFi := Lib.hid (show Blk wF gi (bools (fillB n s 0)) 4 ∧ Ext wr wF ∧ wr.heap.size ≤ gi from ⟨by rw [fill_zero, bools_rep, egi]; exact hF, xF, by rw [egi]; exact Nat.le_refl _⟩)
              have HGiN := Lib.hid (show gi ≠ gt from by
                obtain ⟨_, _, _, _, _, _, hb, _⟩ := htab.out.body
                have := hb.lt
                omega)
              clear hF xF
              go_wp2
              rw [← egi]
              clear eF egi hmk4
              generalize hw5 : wr = w5 at *
              have HW5 := Lib.hid hw5
              clear hw5
              go_loopw [17, 16] (fun iv bv wk => RFillTo w5 gi n s iv bv wk) (fun iv _ _ => n - (intOf iv).toNat)
              case atStart => exact ⟨0, 1, Nat.zero_le _, rfl, rfl, rfl, HFi.out.1, HFi.out.2.1⟩
              case round =>
                obtain ⟨i, B, hi, rfl, rfl, hB, hbl, hex2⟩ := hrel
                have hBl : B ≤ 4096 := by rw [hB.out]; exact pow_le hn13 hi
                have hB0 : 1 ≤ B := by rw [hB.out]; exact Nat.two_pow_pos _
--BODY
                by_cases hlt2 : i < n
                · have hBz : ¬ (B : Int) = 0 := by omega
                  obtain ⟨bb, ebb⟩ : ∃ bb, s.testBit i = bb := ⟨_, rfl⟩
                  obtain ⟨bz, ebz⟩ : ∃ bz : Int, (if s.testBit i = true then (1 : Int) else 0) = bz := ⟨_, rfl⟩
                  have hq : (wrap64 ((s : Int) / (B : Int))).tmod 2 = bz := by
                    rw [← ebz]
                    exact bit_of (by omega) hB.out
                  have q1 : (bz == 1) = bb := by rw [← ebz, ← ebb]; cases s.testBit i <;> rfl
                  have q2 : decide (bz = 1) = bb := by rw [← ebz, ← ebb]; cases s.testBit i <;> rfl
                  have hw1 : IntKind.i64.wrap (2 * (B : Int)) = ((2 * B : Nat) : Int) := by
                    rw [show 2 * (B : Int) = ((2 * B : Nat) : Int) by omega]
                    exact IntWalk.i64_in _ (by omega)
                  obtain ⟨y, b0⟩ : ∃ y, wr.cell? ⟨gi, i, none⟩ = some (.bool y) := by
                    have h1 : i < (fillB n s i).length := by rw [fill_len hi]; exact hlt2
                    exact ⟨_, by rw [hbl.out.cell']; simp [bools, h1]; rfl⟩
                  have b1 := hbl.out.free i
                  obtain ⟨w7, e7⟩ : ∃ x, wr.setCell ⟨gi, i, none⟩ (.bool bb) = x := ⟨_, rfl⟩
                  have h7 : Blk w7 gi (bools (fillB n s (i + 1))) 4 := by
                    have h := hbl.out.set i (.bool bb)
                    rw [e7] at h
                    have e : (bools (fillB n s i)).set i (.bool bb) = bools (fillB n s (i + 1)) := by
                      rw [← fill_succ hlt2, ebb]; simp [bools, List.map_set]
                    rw [e] at h; exact h
                  have h7x : Ext w5 w7 := by rw [← e7]; exact Kp.setCell (F := fun _ => False) hex2.out (fun h => by have := HFi.out.2.2; simp only at h; omega) _
                  have HFin := Lib.hid (And.intro (step_pow hB.out) (And.intro h7 h7x))
                  clear h7 h7x ebb ebz
                  go_wp2
                  clear e7 b0 b1 hq q1 q2
                  go_roundw
                  case rel => exact ⟨i + 1, 2 * B, by omega, by first | rfl | (congr 1; done) | (congr 1; omega), by first | rfl | (congr 1; omega), HFin.out.1, HFin.out.2.1, HFin.out.2.2⟩
                  case measure => simp [intOf]; omega
                · obtain rfl : n = i := by omega
                  have hbits := hbl.out
                  rw [fill_all] at hbits
                  have HBl := Lib.hid hbits
                  have HX6 := Lib.hid (hex.out.trans hex2.out)
                  have HTab := Lib.hid (htab.out.ext hex2.out)
                  have HB6 := Lib.hid (B1.out.ext HX6.out)
                  have r0 : wr.cell? ⟨w.heap.size, 0, none⟩ = some (.string p) := by rw [HB6.out.cell']; rfl
                  have r1 : wr.cell? ⟨w.heap.size, 1, none⟩ = some (.slice ha hn hcap) := by rw [HB6.out.cell']; rfl
                  have r2 : wr.cell? ⟨w.heap.size, 2, none⟩ = some (.slice ba n bcap) := by rw [HB6.out.cell']; rfl
                  have HRow := Lib.hid (plan_row (S := S) (ls := ls) (s := s) (by omega))
                  clear hbits hbl HFi htab
                  go_wp2_with fail
                  refine (HSt.out (bitsS n s) _ n wr (X1.out.trans HX6.out) (bits_len _ _) (CellsAt.pre (rest := []) (by rw [List.append_nil]; exact HBl.out))).mono ?_
                  rintro e1 w6 ⟨v, rfl, hk6, rfl⟩
                  replace HX6 := Lib.hid (HX6.out.trans hk6)
                  replace HTab := Lib.hid (HTab.out.ext hk6)
                  replace HB6 := Lib.hid (HB6.out.ext hk6)
                  replace HBl := Lib.hid (HBl.out.ext hk6)
                  clear hk6 r0 r1 r2
                  by_cases hstand : stands ls (bitsS n s)
                  · have hd : decide (stands ls (bitsS n s)) = true := decide_eq_true hstand
                    rw [hd]
                    have HPlan := Lib.hid (HRow.out.1 (by rw [← HN.out]; exact hstand))
                    clear hd hstand HRow
                    have r0 : w6.cell? ⟨w.heap.size, 0, none⟩ = some (.string p) := by rw [HB6.out.cell']; rfl
                    have r1 : w6.cell? ⟨w.heap.size, 1, none⟩ = some (.slice ha hn hcap) := by rw [HB6.out.cell']; rfl
                    have r2 : w6.cell? ⟨w.heap.size, 2, none⟩ = some (.slice ba n bcap) := by rw [HB6.out.cell']; rfl
                    go_wp2_with fail
                    refine (HG2.out (bitsS n s) _ n w6 (X1.out.trans HX6.out) (bits_len _ _) (CellsAt.pre (rest := []) (by rw [List.append_nil]; exact HBl.out))).mono ?_
                    rintro e1 wg ⟨v, rfl, hkg, rfl⟩
                    obtain ⟨g, eg⟩ : ∃ g, guessW S ls (bitsS n s) = g := ⟨_, rfl⟩
                    rw [eg]
                    have hgl : g ≤ infW := by rw [← eg]; exact guessW_le HK.out _
                    rw [show guessW S ls (bitsS ls.length s) = g from by rw [← HN.out]; exact eg] at HPlan
                    have HCOk := Lib.hid (fun (j : Nat) (pp : Plan) (hj : j < n) (hp : candP (planS S ls) g s j = some pp) => cand_ok HK.out (by rw [← HN.out]; exact hj) (fun u p _ => plan_ok HK.out u p) hgl hp)
                    have HPOk := Lib.hid (fun (u : Nat) (pp : Plan) (hp : planS S ls u = some pp) => And.intro (plan_ok HK.out u pp hp).1 (Nat.le_trans (plan_len HK.out hp) (by rw [← HN.out]; exact hn13)))
                    have HGL := Lib.hid hgl
                    have HX0 := Lib.hid (HX6.out.trans hkg)
                    have HTab0 := Lib.hid (HTab.out.ext hkg)
                    have HBl0 := Lib.hid (HBl.out.ext hkg)
                    clear hkg eg r0 r1 r2 HX6 HTab HBl HB6 hgl
                    go_wp2
                    go_loopw [19, 16] (fun iv bv wk => RPickTo S ls w1 gt go gc N gi n s g iv bv wk) (fun iv _ _ => n - (intOf iv).toNat)
                    case atStart => exact ⟨0, 1, Nat.zero_le _, rfl, rfl, rfl, HTab0.out, HBl0.out, HX0.out⟩
                    case round =>
                      clear HTab0 HBl0 HX0
                      obtain ⟨i, B, hi, rfl, rfl, hB, htab, hbl, hex⟩ := hrel
                      have hBl : B ≤ 4096 := by rw [hB.out]; exact pow_le hn13 hi
                      have hB0 : 1 ≤ B := by rw [hB.out]; exact Nat.two_pow_pos _
                      by_cases hlt2 : i < n
                      · have hw1 : IntKind.i64.wrap (2 * (B : Int)) = ((2 * B : Nat) : Int) := by
                          rw [show 2 * (B : Int) = ((2 * B : Nat) : Int) by omega]
                          exact IntWalk.i64_in _ (by omega)
                        have HSP := Lib.hid (step_pow hB.out)
                        have b0 : wr.cell? ⟨gi, i, none⟩ = some (.bool (s.testBit i)) := by rw [hbl.out.cell']; simp [bools, bits_at hlt2]
                        by_cases hbit : s.testBit i = true
                        · obtain ⟨hle, _⟩ := subBit i s hbit
                          rw [hbit] at b0
                          have hu0 : s - B < s := by omega
                          obtain ⟨t, ov, c, c1, c2, c3, hcell, _, _, _⟩ := htab.out.get (u := s - B) (by omega)
                          have hst : stageS S ls s (leastP (candP (planS S ls) g s) i) (s - B) = planS S ls (s - 2 ^ i) := by
                            unfold stageS
                            rw [if_pos hu0, hB.out]
                          rw [hst] at hcell
                          have hcand : candP (planS S ls) g s i = (planS S ls (s - 2 ^ i)).map (fun p => (p.1 ++ [(i : Int)], fadd p.2 g)) := by unfold candP; rw [if_pos hbit]
                          have hBs : B ≤ s := by rw [hB.out]; exact hle
                          have hBi : (B : Int) ≤ (s : Int) := by omega
                          cases hpl : planS S ls (s - 2 ^ i) with
                          | none =>
                            rw [hpl] at hcell hcand
                            obtain ⟨rfl, _, _⟩ := hcell
                            have HFin := Lib.hid (show RTab wr gt go gc N (stageS S ls s (leastP (candP (planS S ls) g s) (i + 1))) from by
                              have e : leastP (candP (planS S ls) g s) (i + 1) = leastP (candP (planS S ls) g s) i := by
                                show pickP _ (candP (planS S ls) g s i) = _
                                rw [hcand]; cases leastP (candP (planS S ls) g s) i <;> rfl
                              rw [e]; exact htab.out)
                            clear hpl hcand hst hle hbit
                            go_wp2
                            go_roundw
                            case rel => exact ⟨i + 1, 2 * B, by omega, by first | rfl | (congr 1; done) | (congr 1; omega), by first | rfl | (congr 1; omega), HSP.out, HFin.out, hbl.out, hex.out⟩
                            case measure => simp [intOf]; omega
                          | some y =>
                            rw [hpl] at hcell hcand
                            obtain ⟨rfl, rfl, hrow⟩ := hcell
                            have HY := Lib.hid (HPOk.out _ y hpl)
                            have hcand' : candP (planS S ls) g s i = some (y.1 ++ [(i : Int)], fadd y.2 g) := hcand
                            have HCand := Lib.hid hcand'
                            have HOki := Lib.hid (HCOk.out i _ hlt2 hcand')
                            obtain ⟨oa, oc, eov, hcc, _, _⟩ := hrow.cap
                            subst eov
                            obtain ⟨m, em⟩ : ∃ m, m = y.1.length := ⟨_, rfl⟩
                            rw [← em] at c2
                            have hm : m ≤ 12 := by rw [em]; exact HY.out.2
                            have HM := Lib.hid em
                            have HCc := Lib.hid hcc
                            have hadd : ∀ W, (binOp .add 37 (.float .f64 y.2) (.float .f64 g)).run Try.prog W = .ok (.float .f64 (fadd y.2 g)) W := fun W => run_float_arith W .add _ .f64 _ _ _ (fadd_eq HY.out.1 HGL.out)
                            clear hpl hcand hcand' hst hle hbit hrow hcc em
                            go_wp2_with (first | (at_builtin; refine Halted.out ?_))
                            refine Halted.mk (wp_appN (m := m) (n := 0) elem_int rfl _ _ rfl (Kp.refl (F := fun _ => False) wr) rfl (Row.nil _ _ _ _) rfl HCc.out (by rw [ints_len, HM.out, Nat.mul_one]) (ints_one _) (by omega) (by unfold maxLen; omega) ?_)
                            intro v2 w2 hr2 hk2 _ _
                            rw [Nat.zero_add, List.nil_append] at hr2
                            obtain ⟨a2, k2, ev2, _, _⟩ := hr2.shape
                            subst ev2
                            have HR2 := Lib.hid hr2
                            have HX2 := Lib.hid hk2
                            clear hr2 hk2
                            go_wp2_with (first | (at_builtin; refine Halted.out ?_))
                            refine Halted.mk (wp_appN (m := 1) (n := m) elem_int rfl _ _ rfl (HX2.out.alloc _) rfl (HR2.out.alloc _) rfl (CellsAt.one w2 (.int .i64 i) 3) (by rfl) (by simp [Value.oneCell']) (by omega) (by unfold maxLen; omega) ?_)
                            intro v3 w3 hr3 hk3 _ _
                            obtain ⟨a3, k3, ev3, hcc3, _⟩ := hr3.shape
                            subst ev3
                            have e5 : ints y.1 ++ [.int .i64 (i : Int)] = ints (y.1 ++ [(i : Int)]) := by simp [ints]
                            rw [e5] at hcc3 hr3
                            have HLn := Lib.hid (show (y.1 ++ [(i : Int)]).length = m + 1 by rw [List.length_append, HM.out]; rfl)
                            have HR3 := Lib.hid (show Row w3 3 1 (.slice a3 (m + 1) k3) (y.1 ++ [(i : Int)]).length (ints (y.1 ++ [(i : Int)])) (fun _ => True) from by rw [HLn.out]; exact hr3.mono fun _ _ => trivial)
                            have HC3 := Lib.hid hcc3
                            have HX3 := Lib.hid hk3
                            have HT3 := Lib.hid (htab.out.ext hk3)
                            have HBl3 := Lib.hid (hbl.out.ext hk3)
                            have HXw := Lib.hid (hex.out.trans hk3)
                            have c3' := hk3.cell c3 id
                            obtain ⟨t, ov, cc, d1, d2, d3, hcs, f1, f2, f3⟩ := HT3.out.get hlt
                            have hss : stageS S ls s (leastP (candP (planS S ls) g s) i) s = leastP (candP (planS S ls) g s) i := by
                              unfold stageS
                              rw [if_neg (by omega), if_pos rfl]
                            rw [hss] at hcs
                            obtain ⟨nc, enc⟩ : ∃ nc, fadd y.2 g = nc := ⟨_, rfl⟩
                            rw [enc] at hadd
                            have HNC := Lib.hid enc
                            have HNCl := Lib.hid (show nc ≤ infW by rw [← enc]; exact fadd_le HY.out.1 HGL.out)
                            have hsN2 : (s : Int) < (N : Int) := by omega
                            clear hr3 hk3 hcc3 e5 enc c1 c2 c3 b0
                            have HNe := Lib.hid (HT3.out.ne)
                            have HTake := Lib.hid (show ∀ W, Ext w3 W → leastP (candP (planS S ls) g s) (i + 1) = some (y.1 ++ [(i : Int)], nc) →
                                RTab (((W.setCell ⟨gt, s, none⟩ (.bool true)).setCell ⟨go, s, none⟩ (.slice a3 (m + 1) k3)).setCell ⟨gc, s, none⟩ (.float .f64 nc)) gt go gc N (stageS S ls s (leastP (candP (planS S ls) g s) (i + 1))) ∧
                                Blk (((W.setCell ⟨gt, s, none⟩ (.bool true)).setCell ⟨go, s, none⟩ (.slice a3 (m + 1) k3)).setCell ⟨gc, s, none⟩ (.float .f64 nc)) gi (bools (bitsS n s)) 4 ∧
                                Ext w1 (((W.setCell ⟨gt, s, none⟩ (.bool true)).setCell ⟨go, s, none⟩ (.slice a3 (m + 1) k3)).setCell ⟨gc, s, none⟩ (.float .f64 nc)) from fun W hW hp => by
                              have h1 := (HT3.out.ext hW).put (T' := stageS S ls s (leastP (candP (planS S ls) g s) (i + 1))) (s := s) (ov := .slice a3 (m + 1) k3) (p := (y.1 ++ [(i : Int)], nc)) (HR3.out.ext hW) (fun u => by rw [hp]; exact stage_put S ls s _ _ u)
                              refine ⟨h1, ?_, ?_⟩
                              · obtain ⟨ts, vals, cs, l1, l2, l3, b1, b2, b3, _⟩ := (HT3.out.ext hW).body
                                have hb := HBl3.out.ext hW
                                have n2 : gi ≠ go := fun e => by rw [e] at hb; exact typ_rt.2.2.2.1 (blk_ne hb b2)
                                have n3 : gi ≠ gc := fun e => by rw [e] at hb; exact typ_rt.2.2.2.2.1 (blk_ne hb b3)
                                exact ((hb.other (p := ⟨gt, s, none⟩) HGiN.out _).other (p := ⟨go, s, none⟩) n2 _).other (p := ⟨gc, s, none⟩) n3 _
                              · have hx := HXw.out.trans hW
                                exact ((Kp.setCell (F := fun _ => False) hx (p := ⟨gt, s, none⟩) (fun h => by have := HT.out.2.2.1; simp only at h; omega) _).setCell (p := ⟨go, s, none⟩) (fun h => by have := HT.out.2.2.2.1; simp only at h; omega) _).setCell (p := ⟨gc, s, none⟩) (fun h => by have := HT.out.2.2.2.2; simp only at h; omega) _)
                            have HKeep := Lib.hid (show ∀ W, Ext w3 W → leastP (candP (planS S ls) g s) (i + 1) = leastP (candP (planS S ls) g s) i → RTab W gt go gc N (stageS S ls s (leastP (candP (planS S ls) g s) (i + 1))) ∧ Blk W gi (bools (bitsS n s)) 4 ∧ Ext w1 W from fun W hW hp => by
                              rw [hp]; exact ⟨HT3.out.ext hW, HBl3.out.ext hW, HXw.out.trans hW⟩)
                            have HStep := Lib.hid (show leastP (candP (planS S ls) g s) (i + 1) = pickP (leastP (candP (planS S ls) g s) i) (some (y.1 ++ [(i : Int)], nc)) from by
                              show pickP _ (candP (planS S ls) g s i) = _
                              rw [HCand.out, HNC.out])
                            cases hcur : leastP (candP (planS S ls) g s) i with
                            | none =>
                              rw [hcur] at hcs
                              obtain ⟨rfl, rfl, rfl⟩ := hcs
                              obtain ⟨W4, eW⟩ : ∃ x, ((w3.setCell ⟨gt, s, none⟩ (.bool true)).setCell ⟨go, s, none⟩ (.slice a3 (m + 1) k3)).setCell ⟨gc, s, none⟩ (.float .f64 nc) = x := ⟨_, rfl⟩
                              have HFin := Lib.hid (HTake.out w3 (Kp.refl _) (by rw [HStep.out, hcur]; rfl))
                              rw [eW] at HFin
                              obtain ⟨n1, n2, n3, n4, n5, n6⟩ := HNe.out
                              clear hcur hss
                              go_wp2
                              clear eW d1 d2 d3 f1 f2 f3 n1 n2 n3 n4 n5 n6
                              go_roundw
                              case rel => exact ⟨i + 1, 2 * B, by omega, by first | rfl | (congr 1; done) | (congr 1; omega), by first | rfl | (congr 1; omega), HSP.out, HFin.out.1, HFin.out.2.1, HFin.out.2.2⟩
                              case measure => simp [intOf]; omega
                            | some cur =>
                              rw [hcur] at hcs
                              obtain ⟨rfl, rfl, hrowc⟩ := hcs
                              obtain ⟨j, hj, hqj⟩ := leastP_mem hcur
                              have hOkj := HCOk.out j cur (by omega) hqj
                              have hlen : cur.1.length = m + 1 := by rw [hOkj.2, ← HOki.out.2]; exact HLn.out
                              obtain ⟨oc2, kc2, eoc, hccu, _, _⟩ := hrowc.cap
                              subst eoc
                              rw [hlen] at d2
                              have HLess := Lib.hid (fun (W : World) (hW : Ext w3 W) => less_any (y.1 ++ [(i : Int)]) cur.1 a3 oc2 (m + 1) k3 kc2 W HLn.out hlen (HC3.out.ext hW) (hccu.ext hW) (by omega))
                              have ho : (FloatKind.format .f64).order nc cur.2 = some (compare nc cur.2) := order_pos HNCl.out hOkj.1
                              have HPick := Lib.hid (show leastP (candP (planS S ls) g s) (i + 1) = if betterP (y.1 ++ [(i : Int)], nc) cur = true then some (y.1 ++ [(i : Int)], nc) else some cur from by
                                rw [HStep.out, hcur]; rfl)
                              have HCur := Lib.hid hcur
                              generalize ecc : cur.2 = cc at *
                              have ECC := Lib.hid ecc
                              clear hcur hss hrowc hqj hOkj hlen hccu ecc
                              rcases Nat.lt_trichotomy nc cc with hlc | hlc | hlc
                              · rw [Nat.compare_eq_lt.2 hlc] at ho
                                obtain ⟨W4, eW⟩ : ∃ x, ((w3.setCell ⟨gt, s, none⟩ (.bool true)).setCell ⟨go, s, none⟩ (.slice a3 (m + 1) k3)).setCell ⟨gc, s, none⟩ (.float .f64 nc) = x := ⟨_, rfl⟩
                                have HFin := Lib.hid (HTake.out w3 (Kp.refl _) (by rw [HPick.out, if_pos]; unfold betterP; rw [ECC.out, decide_eq_true hlc]; rfl))
                                rw [eW] at HFin
                                obtain ⟨n1, n2, n3, n4, n5, n6⟩ := HNe.out
                                clear hlc
                                go_wp2
                                clear eW d1 d2 d3 f1 f2 f3 n1 n2 n3 n4 n5 n6
                                go_roundw
                                case rel => exact ⟨i + 1, 2 * B, by omega, by first | rfl | (congr 1; done) | (congr 1; omega), by first | rfl | (congr 1; omega), HSP.out, HFin.out.1, HFin.out.2.1, HFin.out.2.2⟩
                                case measure => simp [intOf]; omega
                              · subst hlc
                                rw [Nat.compare_eq_eq.2 rfl] at ho
                                have HBet := Lib.hid (show betterP (y.1 ++ [(i : Int)], nc) cur = lexLt (y.1 ++ [(i : Int)]) cur.1 by unfold betterP; rw [ECC.out]; simp)
                                go_wp2_with fail
                                refine (HLess.out w3 (Kp.refl _)).mono ?_
                                rintro e1 w4 ⟨v, rfl, hk4, rfl⟩
                                obtain ⟨lb, elb⟩ : ∃ lb, lexLt (y.1 ++ [(i : Int)]) cur.1 = lb := ⟨_, rfl⟩
                                rw [elb]
                                have HB4 := Lib.hid (HBet.out.trans elb)
                                clear elb
                                cases lb with
                                | true =>
                                  obtain ⟨W4, eW⟩ : ∃ x, ((w4.setCell ⟨gt, s, none⟩ (.bool true)).setCell ⟨go, s, none⟩ (.slice a3 (m + 1) k3)).setCell ⟨gc, s, none⟩ (.float .f64 nc) = x := ⟨_, rfl⟩
                                  have HFin := Lib.hid (HTake.out w4 hk4 (by rw [HPick.out, HB4.out, if_pos rfl]))
                                  rw [eW] at HFin
                                  obtain ⟨t4, ov4, cc4, d1, d2, d3, _, f1, f2, f3⟩ := (HT3.out.ext hk4).get hlt
                                  obtain ⟨n1, n2, n3, n4, n5, n6⟩ := HNe.out
                                  clear hk4
                                  go_wp2
                                  clear eW d1 d2 d3 f1 f2 f3 n1 n2 n3 n4 n5 n6
                                  go_roundw
                                  case rel => exact ⟨i + 1, 2 * B, by omega, by first | rfl | (congr 1; done) | (congr 1; omega), by first | rfl | (congr 1; omega), HSP.out, HFin.out.1, HFin.out.2.1, HFin.out.2.2⟩
                                  case measure => simp [intOf]; omega
                                | false =>
                                  have HFin := Lib.hid (HKeep.out w4 hk4 (by rw [HPick.out, HB4.out, HCur.out]; rfl))
                                  clear hk4
                                  go_wp2
                                  go_roundw
                                  case rel => exact ⟨i + 1, 2 * B, by omega, by first | rfl | (congr 1; done) | (congr 1; omega), by first | rfl | (congr 1; omega), HSP.out, HFin.out.1, HFin.out.2.1, HFin.out.2.2⟩
                                  case measure => simp [intOf]; omega
                              · rw [Nat.compare_eq_gt.2 hlc] at ho
                                have HFin := Lib.hid (HKeep.out w3 (Kp.refl _) (by rw [HPick.out, HCur.out, if_neg]; unfold betterP; rw [ECC.out, decide_eq_false (show ¬ nc < cc by omega), decide_eq_false (show ¬ nc = cc by omega)]; simp))
                                clear hlc
                                go_wp2
                                go_roundw
                                case rel => exact ⟨i + 1, 2 * B, by omega, by first | rfl | (congr 1; done) | (congr 1; omega), by first | rfl | (congr 1; omega), HSP.out, HFin.out.1, HFin.out.2.1, HFin.out.2.2⟩
                                case measure => simp [intOf]; omega
                        · have hbf : s.testBit i = false := by simpa using hbit
                          rw [hbf] at b0
                          have HFin := Lib.hid (show RTab wr gt go gc N (stageS S ls s (leastP (candP (planS S ls) g s) (i + 1))) from by
                            have e : leastP (candP (planS S ls) g s) (i + 1) = leastP (candP (planS S ls) g s) i := by
                              show pickP _ (candP (planS S ls) g s i) = _
                              unfold candP
                              rw [if_neg hbit]; cases leastP _ i <;> rfl
                            rw [e]; exact htab.out)
                          clear hbit hbf
                          go_wp2
                          go_roundw
                          case rel => exact ⟨i + 1, 2 * B, by omega, by first | rfl | (congr 1; done) | (congr 1; omega), by first | rfl | (congr 1; omega), HSP.out, HFin.out, hbl.out, hex.out⟩
                          case measure => simp [intOf]; omega
                      · obtain rfl : n = i := by omega
                        have HFin := Lib.hid (show RTab wr gt go gc N (stageS S ls (s + 1) none) from by
                          rw [stage_succ, HPlan.out, ← HN.out]; exact htab.out)
                        go_wp2
                        go_roundw
                        case rel => exact ⟨s + 1, by omega, by omega, by first | rfl | (congr 1; done) | (congr 1; omega), HFin.out, hex.out⟩
                        case measure => simp [intOf]; omega
                  · have hd : decide (stands ls (bitsS n s)) = false := decide_eq_false hstand
                    rw [hd]
                    have HFin := Lib.hid (show RTab w6 gt go gc N (stageS S ls (s + 1) none) from by
                      rw [stage_succ, HRow.out.2 (by rw [← HN.out]; exact hstand)]; exact HTab.out)
                    clear hd hstand HRow
                    go_wp2
                    go_roundw
                    case rel => exact ⟨s + 1, by omega, by omega, by first | rfl | (congr 1; done) | (congr 1; omega), HFin.out, HX6.out⟩
                    case measure => simp [intOf]; omega
            · obtain rfl : s = N := by omega
              obtain ⟨pp, hpp⟩ := best_some (S := S) (errR_zero HE.out).1
              have hsm : s - 1 < s := by omega
              have HVal := Lib.hid (bestE_some HE.out (by rw [HN.out] at hn12; exact hn12) hpp)
              have eN2 : 2 ^ ls.length - 1 = s - 1 := by rw [← HN.out, HNN.out]
              have hpp' : planS S ls (s - 1) = some pp := by rw [← eN2]; exact hpp
              obtain ⟨t, ov, c, _, c2, c3, hcell, _, _, _⟩ := htab.out.get hsm
              have hss : stageS S ls s none (s - 1) = some pp := by unfold stageS; rw [if_pos hsm, hpp']
              rw [hss] at hcell
              obtain ⟨_, rfl, hrow⟩ := hcell
              obtain ⟨oa, oc, eov, d3, d4, d5⟩ := hrow.cap
              subst eov
              have i3 : IntKind.i64.wrap ((s : Int) - 1) = ((s - 1 : Nat) : Int) := by
                rw [show (s : Int) - 1 = ((s - 1 : Nat) : Int) by omega]
                exact IntWalk.i64_in _ (by omega)
              obtain ⟨m, em⟩ : ∃ m, m = pp.1.length := ⟨_, rfl⟩
              obtain ⟨pc, epc⟩ : ∃ pc, pc = pp.2 := ⟨_, rfl⟩
              rw [← em] at c2
              rw [← epc] at c3
              have HD := Lib.hid (And.intro d3 (And.intro d4 (And.intro d5 (And.intro em epc))))
              have HX := Lib.hid (X1.out.trans hex.out)
              clear hpp hpp' hrow d3 d4 d5 em epc eN2 htab hss
              go_wp2
              go_quiet (fail)
              go_wp2
              go_ret3
              refine RetN.mk (HX.out.drewN _) ?_
              rw [HVal.out]
              obtain ⟨h1, h2, h3, h4, h5⟩ := HD.out
              refine ⟨oa, oc, ?_, h1.drewN _, h2, h3⟩
              rw [h4, h5]; rfl
--ENDBODY
  · have b1 : ((e : Int) == 0) = false := by simp; omega
    have b2 : ((e : Int) != 0) = true := by simp; omega
    have HH := Lib.hid he
    clear he
    go_wp2
    go_ret3
    exact RetN.mk X1.out (by rw [bestE_bad (fun q => HH.out (EE.out.trans q)), ← EE.out]; exact ⟨none, 0, rfl, CellsAt.nil _ _, Nat.le_refl _, by unfold maxLen; omega⟩)
end Go.Proofs.Ytcphalpcdcddpaa

/- The law of costs: the state of CostGuesses between two rounds; what its calls answer in it. (Written by mk_law11.py.) -/
namespace Go.Proofs.Ytcphalpcdcddpaa
open Go.RowKit
set_option linter.unusedVariables false

theorem RuleM.old {w0 w1 w : World} {hs : List TermZ} {ls : List LitZ} {ha : Option Addr} {hn hcap : Nat} {ba : Option Addr} {n bcap : Nat} (h : RuleM w1 w hs ls ha hn hcap ba n bcap) (hs' : w0.heap.size ≤ w1.heap.size) : RuleM w0 w hs ls ha hn hcap ba n bcap := by
  obtain ⟨h1, g, rest, vs, e, a1, a2, a3, a4, a5, hB, hx⟩ := h
  exact ⟨h1.old hs', g, rest, vs, e, a1, a2, a3, Nat.le_trans hs' a4, a5, hB, fun x hxx => (hx x hxx).old hs'⟩
theorem IntsM.old {w0 w1 w : World} {g n cap : Nat} {xs : List Int} (h : IntsM w1 w g n cap xs) (hs : w0.heap.size ≤ w1.heap.size) : IntsM w0 w g n cap xs := by
  obtain ⟨rest, hn, h1, h2, hg, hB, hl⟩ := h
  exact ⟨rest, hn, h1, h2, Nat.le_trans hs hg, hB, hl⟩
theorem StatsZ.old {w0 w1 w : World} {g n cap : Nat} {Z : List (StatZ × (Nat × Nat))} (h : StatsZ w1 w g n cap Z) (hs : w0.heap.size ≤ w1.heap.size) : StatsZ w0 w g n cap Z := by
  obtain ⟨rest, h1, h2, h3, h4, h5, h6, h7⟩ := h.body
  exact ⟨rest, h1, h2, h3, Nat.le_trans hs h4, h5, h6, fun x hx => by
    obtain ⟨r, a, b, c, d⟩ := h7 x hx
    exact ⟨r, a, b, Nat.le_trans hs c, d⟩⟩
/-- The blocks that are written over. -/
def OwnG (ga gb gs : Nat) (vs : List (Nat × Nat)) (k : Nat) : Prop := k = ga ∨ k = gb ∨ blksZ gs vs k
abbrev Old (w : World) (k : Nat) : Prop := k < w.heap.size
structure St (w : World) (p : ByteArray) (hs : List TermZ) (ls : List LitZ) (ha : Option Addr) (hn hcap : Nat) (ba : Option Addr) (n bcap : Nat) (ha' : Option Addr) (hcap' : Nat) (ba' : Option Addr) (bcap' gr gx ga ca gb cb gs cs ns no nk : Nat) (vs : List (Nat × Nat)) (W : World) (us bs xs ys : List Int) (Z : List (StatZ × (Nat × Nat))) (K : List StatZ) (sa : Option Addr) (sc : Nat) (oa : Option Addr) (oc : Nat) (ka : Option Addr) : Prop where
  hhn : hn = hs.length
  hhl : hn ≤ 1048576
  hh : TermsAt w (Old w) ha hs
  hbn : n = ls.length
  h : LitsAt w (Old w) ba ls
  hf : Fit ls
  ext : Ext w W
  rbox : Blk W gr [.string p, .slice ha hn hcap, .slice ba n bcap] 27
  xbox : Blk W gx [.string p, .slice ha' hn hcap', .slice ba' n bcap'] 27
  rule : RuleM w W hs ls ha' hn hcap' ba' n bcap'
  a : IntsM w W ga ns ca us
  b : IntsM w W gb no cb bs
  ne : ga ≠ gb
  z : StatsZ w W gs nk cs Z
  vz : Z.map (·.2) = vs
  xl : xs.length = ns
  xc : ns ≤ sc
  xm : sc ≤ maxLen
  xat : CellsAt W sa (ints xs)
  xoff : xs ≠ [] → Off (OwnG ga gb gs vs) sa
  yl : ys.length = no
  yc : no ≤ oc
  ym : oc ≤ maxLen
  yat : CellsAt W oa (ints ys)
  yoff : ys ≠ [] → Off (OwnG ga gb gs vs) oa
  kl : K.length = nk
  kat : ∃ M, KnownIn W M ka K ∧ ∀ k, M k → ¬ OwnG ga gb gs vs k
  kf : StatsFit K
  nsl : ns ≤ 1048576
  nol : no ≤ 1048576
section
variable {w : World} {p : ByteArray} {hs : List TermZ} {ls : List LitZ} {ha : Option Addr} {hn hcap : Nat} {ba : Option Addr} {n bcap : Nat} {ha' : Option Addr} {hcap' : Nat} {ba' : Option Addr} {bcap' gr gx ga ca gb cb gs cs ns no nk : Nat} {vs : List (Nat × Nat)} {W : World} {us bs xs ys : List Int} {Z : List (StatZ × (Nat × Nat))} {K : List StatZ} {sa : Option Addr} {sc : Nat} {oa : Option Addr} {oc : Nat} {ka : Option Addr}
theorem St.to {W' : World} (s : St w p hs ls ha hn hcap ba n bcap ha' hcap' ba' bcap' gr gx ga ca gb cb gs cs ns no nk vs W us bs xs ys Z K sa sc oa oc ka) (hk : Ext W W') : St w p hs ls ha hn hcap ba n bcap ha' hcap' ba' bcap' gr gx ga ca gb cb gs cs ns no nk vs W' us bs xs ys Z K sa sc oa oc ka :=
  { hhn := s.hhn, hhl := s.hhl, hh := s.hh, hbn := s.hbn, h := s.h, hf := s.hf, ext := s.ext.trans hk, rbox := s.rbox.ext hk, xbox := s.xbox.ext hk, rule := s.rule.ext hk, a := s.a.ext hk, b := s.b.ext hk, ne := s.ne, z := s.z.kp hk fun _ _ => id, vz := s.vz, xl := s.xl, xc := s.xc, xm := s.xm, xat := s.xat.ext hk, xoff := s.xoff, yl := s.yl, yc := s.yc, ym := s.ym, yat := s.yat.ext hk, yoff := s.yoff, kl := s.kl, kat := (by obtain ⟨M, h1, h2⟩ := s.kat; exact ⟨M, h1.ext hk, h2⟩), kf := s.kf, nsl := s.nsl, nol := s.nol }
theorem St.guess (s : St w p hs ls ha hn hcap ba n bcap ha' hcap' ba' bcap' gr gx ga ca gb cb gs cs ns no nk vs W xs ys xs ys Z K sa sc oa oc ka) (hZ : Z.map (·.1) = K) : Calls Try.prog 11 #[ruleV p ha' hn hcap' ba' n bcap', .slice (some ⟨ga, 0, none⟩) ns ca, .slice (some ⟨gs, 0, none⟩) nk cs] W (RetN W fun w' v => v = .tuple #[.float .f64 (guessE ((p, hs, ()), ls, ()) K xs).1, .int .i64 (guessE ((p, hs, ()), ls, ()) K xs).2]) := by
  have hz := s.z.m
  rw [hZ] at hz
  have hc := hz.mark.1
  have hnl := s.nsl
  exact guessE_any p hs ls ha' hn hcap' ba' n bcap' xs _ ns ca K _ nk cs W (New w) s.hhn (s.rule.terms (terms_fit s.hh)) s.hhl s.hbn (s.rule.lits (lits_all s.h)) s.hf s.xl.symm s.a.at (by omega) s.kl.symm (by omega) hz.at s.kf
theorem St.cost (s : St w p hs ls ha hn hcap ba n bcap ha' hcap' ba' bcap' gr gx ga ca gb cb gs cs ns no nk vs W xs ys xs ys Z K sa sc oa oc ka) (hZ : Z.map (·.1) = K) : Calls Try.prog 12 #[ruleV p ha' hn hcap' ba' n bcap', .slice (some ⟨gb, 0, none⟩) no cb, .slice (some ⟨gs, 0, none⟩) nk cs] W (RetN W fun w' v => v = .tuple #[.float .f64 (costE ((p, hs, ()), ls, ()) K ys).1, .int .i64 (costE ((p, hs, ()), ls, ()) K ys).2]) := by
  have hz := s.z.m
  rw [hZ] at hz
  have hc := hz.mark.1
  have hnl := s.nol
  obtain ⟨_, _, h1, h2, _⟩ := s.b
  exact costE_any p hs ls ha' hn hcap' ba' n bcap' ys _ no cb K _ nk cs W (New w) s.hhn (s.rule.terms (terms_fit s.hh)) s.hhl s.hbn (s.rule.lits (lits_all s.h)) s.hf s.yl.symm s.b.at (by omega) (by omega) h2 s.kl.symm (by omega) hz.at s.kf
theorem St.plain (s : St w p hs ls ha hn hcap ba n bcap ha' hcap' ba' bcap' gr gx ga ca gb cb gs cs ns no nk vs W us bs xs ys Z K sa sc oa oc ka) (kc : Nat) : Calls Try.prog 14 #[.slice ka nk kc] W (RetN W fun w' v => ∃ a c, v = .slice a nk c ∧ nk ≤ c ∧ c ≤ maxLen ∧ StatsAt w' a K) := by
  obtain ⟨M, hk, _⟩ := s.kat
  exact plain_any K ka nk kc W s.kl.symm hk.at s.kf
theorem St.refGuess (s : St w p hs ls ha hn hcap ba n bcap ha' hcap' ba' bcap' gr gx ga ca gb cb gs cs ns no nk vs W us bs xs ys Z K sa sc oa oc ka) {a : Option Addr} {c : Nat} (hS : StatsAt W a K) : Calls Try.prog 13 #[ruleV p ha hn hcap ba n bcap, .slice sa ns sc, .slice a nk c] W (RetN W fun w' v => v = .tuple #[.float .f64 (guessE ((p, hs, ()), ls, ()) K xs).1, .int .i64 (guessE ((p, hs, ()), ls, ()) K xs).2]) := by
  have hnl := s.nsl
  exact refGuessE_any p hs ls ha hn hcap ba n bcap xs sa ns sc K a nk c W (Old w) s.hhn (s.hh.ext s.ext) s.hhl s.hbn (s.h.ext s.ext) s.hf s.xl.symm s.xat (by omega) s.kl.symm hS s.kf
theorem St.refCost (s : St w p hs ls ha hn hcap ba n bcap ha' hcap' ba' bcap' gr gx ga ca gb cb gs cs ns no nk vs W us bs xs ys Z K sa sc oa oc ka) {a : Option Addr} {c : Nat} (hS : StatsAt W a K) : Calls Try.prog 15 #[ruleV p ha hn hcap ba n bcap, .slice oa no oc, .slice a nk c] W (RetN W fun w' v => v = .tuple #[.float .f64 (costE ((p, hs, ()), ls, ()) K ys).1, .int .i64 (costE ((p, hs, ()), ls, ()) K ys).2]) := by
  have hnl := s.nol
  exact refCostE_any p hs ls ha hn hcap ba n bcap ys oa no oc K a nk c W (Old w) s.hhn (s.hh.ext s.ext) s.hhl s.hbn (s.h.ext s.ext) s.hf s.yl.symm s.yat (by omega) s.yc s.ym s.kl.symm hS s.kf
theorem St.stays (s : St w p hs ls ha hn hcap ba n bcap ha' hcap' ba' bcap' gr gx ga ca gb cb gs cs ns no nk vs W us bs xs ys Z K sa sc oa oc ka) : Calls Try.prog 17 #[ruleV p ha' hn hcap' ba' n bcap', ruleV p ha hn hcap ba n bcap] W (RetN W fun w' v => v = .bool true) :=
  stays_any p hs ls w ha' ha hn hcap' hcap ba' ba n bcap' bcap W (Old w) s.hhn (s.hh.ext s.ext) s.hhl s.hbn (s.h.ext s.ext) s.hf s.rule
theorem St.intsA (s : St w p hs ls ha hn hcap ba n bcap ha' hcap' ba' bcap' gr gx ga ca gb cb gs cs ns no nk vs W xs bs xs ys Z K sa sc oa oc ka) : Calls Try.prog 18 #[.slice (some ⟨ga, 0, none⟩) ns ca, .slice sa ns sc] W (RetN W fun w' v => v = .bool true) := by
  have hnl := s.nsl
  exact ints_any xs _ _ ns ca sc W s.xl.symm s.a.at s.xat (by omega)
theorem St.intsB (s : St w p hs ls ha hn hcap ba n bcap ha' hcap' ba' bcap' gr gx ga ca gb cb gs cs ns no nk vs W us ys xs ys Z K sa sc oa oc ka) : Calls Try.prog 18 #[.slice (some ⟨gb, 0, none⟩) no cb, .slice oa no oc] W (RetN W fun w' v => v = .bool true) := by
  have hnl := s.nol
  exact ints_any ys _ _ no cb oc W s.yl.symm s.b.at s.yat (by omega)
theorem St.kept (s : St w p hs ls ha hn hcap ba n bcap ha' hcap' ba' bcap' gr gx ga ca gb cb gs cs ns no nk vs W us bs xs ys Z K sa sc oa oc ka) (hZ : Z.map (·.1) = K) (kc : Nat) : Calls Try.prog 19 #[.slice (some ⟨gs, 0, none⟩) nk cs, .slice ka nk kc] W (RetN W fun w' v => v = .bool true) := by
  obtain ⟨M, hk, _⟩ := s.kat
  have hz := s.z.m
  rw [hZ] at hz
  exact kept_any K w gs nk cs ka kc W s.kl.symm hk.at s.kf hz
theorem St.back (s : St w p hs ls ha hn hcap ba n bcap ha' hcap' ba' bcap' gr gx ga ca gb cb gs cs ns no nk vs W us bs xs ys Z K sa sc oa oc ka) : Calls Try.prog 20 #[.slice sa ns sc] W (RetN W fun w' v => ∃ a c, ∃ zs : List Int, v = .slice a ns c ∧ zs.length = ns ∧ ns ≤ c ∧ c ≤ maxLen ∧ CellsAt w' a (ints zs) ∧ ∀ x, a = some x → W.heap.size ≤ x.block) :=
  backward_any xs sa ns sc W s.xl.symm s.xat s.nsl
theorem St.backO (s : St w p hs ls ha hn hcap ba n bcap ha' hcap' ba' bcap' gr gx ga ca gb cb gs cs ns no nk vs W us bs xs ys Z K sa sc oa oc ka) : Calls Try.prog 20 #[.slice oa no oc] W (RetN W fun w' v => ∃ a c, ∃ zs : List Int, v = .slice a no c ∧ zs.length = no ∧ no ≤ c ∧ c ≤ maxLen ∧ CellsAt w' a (ints zs) ∧ ∀ x, a = some x → W.heap.size ≤ x.block) :=
  backward_any ys oa no oc W s.yl.symm s.yat s.nol
theorem St.others (s : St w p hs ls ha hn hcap ba n bcap ha' hcap' ba' bcap' gr gx ga ca gb cb gs cs ns no nk vs W us bs xs ys Z K sa sc oa oc ka) (kc : Nat) : Calls Try.prog 21 #[.slice ka nk kc] W (RetN W fun w' v => ∃ a c, ∃ T : List StatZ, v = .slice a nk c ∧ nk ≤ c ∧ c ≤ maxLen ∧ T.length = nk ∧ KnownIn w' (New W) a T ∧ AlikeTo K T nk) := by
  obtain ⟨M, hk, _⟩ := s.kat
  exact others_any K ka nk kc W s.kl.symm hk.at s.kf

/-- What lies where. -/
theorem St.own_lt (s : St w p hs ls ha hn hcap ba n bcap ha' hcap' ba' bcap' gr gx ga ca gb cb gs cs ns no nk vs W us bs xs ys Z K sa sc oa oc ka) : ∀ k, OwnG ga gb gs vs k → k < W.heap.size ∧ w.heap.size ≤ k := by
  rintro k (rfl | rfl | h)
  · obtain ⟨_, _, _, _, h1, h2, _⟩ := s.a
    exact ⟨h2.lt, h1⟩
  · obtain ⟨_, _, _, _, h1, h2, _⟩ := s.b
    exact ⟨h2.lt, h1⟩
  · rw [← s.vz] at h
    exact s.z.lt k h
theorem St.own_ty (s : St w p hs ls ha hn hcap ba n bcap ha' hcap' ba' bcap' gr gx ga ca gb cb gs cs ns no nk vs W us bs xs ys Z K sa sc oa oc ka) : ∀ k, OwnG ga gb gs vs k → ∃ cs e, Blk W k cs e ∧ (e = 3 ∨ e = 56 ∨ e = 37) := by
  rintro k (rfl | rfl | h)
  · obtain ⟨_, _, _, _, h1, h2, _⟩ := s.a
    exact ⟨_, _, h2, .inl rfl⟩
  · obtain ⟨_, _, _, _, h1, h2, _⟩ := s.b
    exact ⟨_, _, h2, .inl rfl⟩
  · rw [← s.vz] at h
    obtain ⟨cs, e, hb, h⟩ := s.z.ty k h
    exact ⟨cs, e, hb, .inr h⟩
theorem St.own_not (s : St w p hs ls ha hn hcap ba n bcap ha' hcap' ba' bcap' gr gx ga ca gb cb gs cs ns no nk vs W us bs xs ys Z K sa sc oa oc ka) {e : TypeId} (he : e ≠ 3 ∧ e ≠ 56 ∧ e ≠ 37) {k : Nat} {cs : List Value} (hb : Blk W k cs e) : ¬ OwnG ga gb gs vs k := fun h => by
  obtain ⟨cs', e', hb', h⟩ := s.own_ty k h
  have := blk_ne hb hb'
  rcases h with h | h | h
  · exact he.1 (this.trans h)
  · exact he.2.1 (this.trans h)
  · exact he.2.2 (this.trans h)
theorem St.new_off (s : St w p hs ls ha hn hcap ba n bcap ha' hcap' ba' bcap' gr gx ga ca gb cb gs cs ns no nk vs W us bs xs ys Z K sa sc oa oc ka) {a : Option Addr} (h : ∀ x, a = some x → W.heap.size ≤ x.block) : Off (OwnG ga gb gs vs) a := fun x hx ho => by
  have h1 := h x hx
  have h2 := (s.own_lt _ ho).1
  omega
theorem St.setNew (s : St w p hs ls ha hn hcap ba n bcap ha' hcap' ba' bcap' gr gx ga ca gb cb gs cs ns no nk vs W us bs xs ys Z K sa sc oa oc ka) {a : Option Addr} {c : Nat} {zs : List Int} (h1 : zs.length = ns) (h2 : ns ≤ c) (h3 : c ≤ maxLen) (h4 : CellsAt W a (ints zs)) (h5 : Off (OwnG ga gb gs vs) a) : St w p hs ls ha hn hcap ba n bcap ha' hcap' ba' bcap' gr gx ga ca gb cb gs cs ns no nk vs W us bs zs ys Z K a c oa oc ka :=
  { hhn := s.hhn, hhl := s.hhl, hh := s.hh, hbn := s.hbn, h := s.h, hf := s.hf, ext := s.ext, rbox := s.rbox, xbox := s.xbox, rule := s.rule, a := s.a, b := s.b, ne := s.ne, z := s.z, vz := s.vz, xl := h1, xc := h2, xm := h3, xat := h4, xoff := fun _ => h5, yl := s.yl, yc := s.yc, ym := s.ym, yat := s.yat, yoff := s.yoff, kl := s.kl, kat := s.kat, kf := s.kf, nsl := s.nsl, nol := s.nol }
theorem St.ordNew (s : St w p hs ls ha hn hcap ba n bcap ha' hcap' ba' bcap' gr gx ga ca gb cb gs cs ns no nk vs W us bs xs ys Z K sa sc oa oc ka) {a : Option Addr} {c : Nat} {zs : List Int} (h1 : zs.length = no) (h2 : no ≤ c) (h3 : c ≤ maxLen) (h4 : CellsAt W a (ints zs)) (h5 : Off (OwnG ga gb gs vs) a) : St w p hs ls ha hn hcap ba n bcap ha' hcap' ba' bcap' gr gx ga ca gb cb gs cs ns no nk vs W us bs xs zs Z K sa sc a c ka :=
  { hhn := s.hhn, hhl := s.hhl, hh := s.hh, hbn := s.hbn, h := s.h, hf := s.hf, ext := s.ext, rbox := s.rbox, xbox := s.xbox, rule := s.rule, a := s.a, b := s.b, ne := s.ne, z := s.z, vz := s.vz, xl := s.xl, xc := s.xc, xm := s.xm, xat := s.xat, xoff := s.xoff, yl := h1, yc := h2, ym := h3, yat := h4, yoff := fun _ => h5, kl := s.kl, kat := s.kat, kf := s.kf, nsl := s.nsl, nol := s.nol }
theorem St.knownNew (s : St w p hs ls ha hn hcap ba n bcap ha' hcap' ba' bcap' gr gx ga ca gb cb gs cs ns no nk vs W us bs xs ys Z K sa sc oa oc ka) {a : Option Addr} {T : List StatZ} (h1 : T.length = nk) (h2 : ∃ M, KnownIn W M a T ∧ ∀ k, M k → ¬ OwnG ga gb gs vs k) (h3 : StatsFit T) : St w p hs ls ha hn hcap ba n bcap ha' hcap' ba' bcap' gr gx ga ca gb cb gs cs ns no nk vs W us bs xs ys Z T sa sc oa oc a :=
  { hhn := s.hhn, hhl := s.hhl, hh := s.hh, hbn := s.hbn, h := s.h, hf := s.hf, ext := s.ext, rbox := s.rbox, xbox := s.xbox, rule := s.rule, a := s.a, b := s.b, ne := s.ne, z := s.z, vz := s.vz, xl := s.xl, xc := s.xc, xm := s.xm, xat := s.xat, xoff := s.xoff, yl := s.yl, yc := s.yc, ym := s.ym, yat := s.yat, yoff := s.yoff, kl := h1, kat := h2, kf := h3, nsl := s.nsl, nol := s.nol }
/-- All but what is written over, after a write. -/
theorem St.wrote (s : St w p hs ls ha hn hcap ba n bcap ha' hcap' ba' bcap' gr gx ga ca gb cb gs cs ns no nk vs W us bs xs ys Z K sa sc oa oc ka) {W' : World} (hk : Kp (OwnG ga gb gs vs) W W') {us' bs' : List Int} {Z' : List (StatZ × (Nat × Nat))} (ha1 : IntsM w W' ga ns ca us') (hb1 : IntsM w W' gb no cb bs') (hz1 : StatsZ w W' gs nk cs Z') (hz2 : Z'.map (·.2) = vs) : St w p hs ls ha hn hcap ba n bcap ha' hcap' ba' bcap' gr gx ga ca gb cb gs cs ns no nk vs W' us' bs' xs ys Z' K sa sc oa oc ka :=
  { hhn := s.hhn, hhl := s.hhl, hh := s.hh, hbn := s.hbn, h := s.h, hf := s.hf, ext := s.ext.trans' hk (fun i hi ho => absurd hi (Nat.not_lt.2 (s.own_lt i ho).2)), rbox := s.rbox.kp hk (s.own_not (by decide) s.rbox), xbox := s.xbox.kp hk (s.own_not (by decide) s.xbox), rule := (s.rule.kp hk fun k cs h => by rcases h with h | h <;> exact s.own_not (by decide) h), a := ha1, b := hb1, ne := s.ne, z := hz1, vz := hz2, xl := s.xl, xc := s.xc, xm := s.xm, xat := s.xat.kpN hk fun hne => s.xoff (ints_ne hne), xoff := s.xoff, yl := s.yl, yc := s.yc, ym := s.ym, yat := s.yat.kpN hk fun hne => s.yoff (ints_ne hne), yoff := s.yoff, kl := s.kl, kat := (by obtain ⟨M, h1, h2⟩ := s.kat; exact ⟨M, h1.kp hk h2, h2⟩), kf := s.kf, nsl := s.nsl, nol := s.nol }
theorem St.stat_ne_int (s : St w p hs ls ha hn hcap ba n bcap ha' hcap' ba' bcap' gr gx ga ca gb cb gs cs ns no nk vs W us bs xs ys Z K sa sc oa oc ka) {k : Nat} (h : blksZ gs vs k) {cs : List Value} (hb : Blk W k cs 3) : False := by
  rw [← s.vz] at h
  obtain ⟨cs', e, hb', h⟩ := s.z.ty k h
  have := blk_ne hb hb'
  rcases h with h | h
  · rw [h] at this; exact absurd this (by decide)
  · rw [h] at this; exact absurd this (by decide)
theorem St.blkA (s : St w p hs ls ha hn hcap ba n bcap ha' hcap' ba' bcap' gr gx ga ca gb cb gs cs ns no nk vs W us bs xs ys Z K sa sc oa oc ka) : ∃ cur, Blk W ga cur 3 ∧ ns ≤ cur.length := by
  obtain ⟨rest, h0, _, _, _, h2, _⟩ := s.a
  exact ⟨_, h2, by rw [List.length_append, ints_len, List.length_append]; omega⟩
theorem St.blkB (s : St w p hs ls ha hn hcap ba n bcap ha' hcap' ba' bcap' gr gx ga ca gb cb gs cs ns no nk vs W us bs xs ys Z K sa sc oa oc ka) : ∃ cur, Blk W gb cur 3 ∧ no ≤ cur.length := by
  obtain ⟨rest, h0, _, _, _, h2, _⟩ := s.b
  exact ⟨_, h2, by rw [List.length_append, ints_len, List.length_append]; omega⟩
theorem St.copyA (s : St w p hs ls ha hn hcap ba n bcap ha' hcap' ba' bcap' gr gx ga ca gb cb gs cs ns no nk vs W us bs xs ys Z K sa sc oa oc ka) {W' : World} {cur : List Value} (hc : Blk W ga cur 3) (hk : Kp (fun k => k = ga) W W') (hB : Blk W' ga (splice cur 0 (ints xs)) 3) : St w p hs ls ha hn hcap ba n bcap ha' hcap' ba' bcap' gr gx ga ca gb cb gs cs ns no nk vs W' xs bs xs ys Z K sa sc oa oc ka := by
  refine s.wrote (hk.mono fun i _ h => .inl h) (s.a.copied s.xl fun c h => ?_) (s.b.kp hk fun e => s.ne e.symm) (s.z.kp hk fun k h e => ?_) s.vz
  · have : c = cur := by
      unfold Blk at h hc
      rw [h] at hc
      simpa using hc
    rw [this]; exact hB
  · subst e
    rw [s.vz] at h
    exact s.stat_ne_int h hc
theorem St.copyB (s : St w p hs ls ha hn hcap ba n bcap ha' hcap' ba' bcap' gr gx ga ca gb cb gs cs ns no nk vs W us bs xs ys Z K sa sc oa oc ka) {W' : World} {cur : List Value} (hc : Blk W gb cur 3) (hk : Kp (fun k => k = gb) W W') (hB : Blk W' gb (splice cur 0 (ints ys)) 3) : St w p hs ls ha hn hcap ba n bcap ha' hcap' ba' bcap' gr gx ga ca gb cb gs cs ns no nk vs W' us ys xs ys Z K sa sc oa oc ka := by
  refine s.wrote (hk.mono fun i _ h => .inr (.inl h)) (s.a.kp hk fun e => s.ne e) (s.b.copied s.yl fun c h => ?_) (s.z.kp hk fun k h e => ?_) s.vz
  · have : c = cur := by
      unfold Blk at h hc
      rw [h] at hc
      simpa using hc
    rw [this]; exact hB
  · subst e
    rw [s.vz] at h
    exact s.stat_ne_int h hc
theorem map_set_snd {α β : Type} {Z : List (α × β)} {i : Nat} {z : α × β} {y : α} (h : Z[i]? = some z) : (Z.set i (y, z.2)).map (·.2) = Z.map (·.2) := by
  rw [List.map_set]
  have := List.getElem?_map (f := fun x : α × β => x.2) (l := Z) (i := i)
  rw [h] at this
  exact set_same this
theorem St.stat_kp (s : St w p hs ls ha hn hcap ba n bcap ha' hcap' ba' bcap' gr gx ga ca gb cb gs cs ns no nk vs W us bs xs ys Z K sa sc oa oc ka) {k : Nat} (hk : blksZ gs vs k) (c : Nat) (v : Value) : Kp (OwnG ga gb gs vs) W (W.setCell ⟨k, c, none⟩ v) ∧ IntsM w (W.setCell ⟨k, c, none⟩ v) ga ns ca us ∧ IntsM w (W.setCell ⟨k, c, none⟩ v) gb no cb bs := by
  have h1 : Kp (fun i => i = k) W (W.setCell ⟨k, c, none⟩ v) := Kp.setCell (F := fun i => i = k) (Kp.refl W) (fun _ => rfl) _
  obtain ⟨ca', hA, _⟩ := s.blkA
  obtain ⟨cb', hB, _⟩ := s.blkB
  exact ⟨h1.mono fun i _ e => .inr (.inr (by rw [e]; exact hk)), s.a.kp h1 fun e => s.stat_ne_int (by rw [e]; exact hk) hA, s.b.kp h1 fun e => s.stat_ne_int (by rw [e]; exact hk) hB⟩
theorem St.rows (s : St w p hs ls ha hn hcap ba n bcap ha' hcap' ba' bcap' gr gx ga ca gb cb gs cs ns no nk vs W us bs xs ys Z K sa sc oa oc ka) {i : Nat} {z : StatZ × (Nat × Nat)} (hi : Z[i]? = some z) (r : Nat) : St w p hs ls ha hn hcap ba n bcap ha' hcap' ba' bcap' gr gx ga ca gb cb gs cs ns no nk vs (W.setCell ⟨gs, i * 3 + 1, none⟩ (.float .f64 r)) us bs xs ys (Z.set i ((z.1.1, r, z.1.2.2), z.2)) K sa sc oa oc ka := by
  obtain ⟨h1, h2, h3⟩ := s.stat_kp (k := gs) (.inl rfl) (i * 3 + 1) (.float .f64 r)
  exact s.wrote h1 h2 h3 (s.z.setRows hi r) ((map_set_snd hi).trans s.vz)
theorem St.dist (s : St w p hs ls ha hn hcap ba n bcap ha' hcap' ba' bcap' gr gx ga ca gb cb gs cs ns no nk vs W us bs xs ys Z K sa sc oa oc ka) {i : Nat} {z : StatZ × (Nat × Nat)} (hi : Z[i]? = some z) {m : Nat} (hm : m < z.1.2.2.1.length) (x : Nat) : St w p hs ls ha hn hcap ba n bcap ha' hcap' ba' bcap' gr gx ga ca gb cb gs cs ns no nk vs (W.setCell ⟨z.2.1, m, none⟩ (.float .f64 x)) us bs xs ys (Z.set i ((z.1.1, z.1.2.1, z.1.2.2.1.set m x, ()), z.2)) K sa sc oa oc ka := by
  obtain ⟨h1, h2, h3⟩ := s.stat_kp (k := z.2.1) (.inr ⟨z.2, by rw [← s.vz]; exact List.mem_map.2 ⟨z, List.mem_of_getElem? hi, rfl⟩, rfl⟩) m (.float .f64 x)
  exact s.wrote h1 h2 h3 (s.z.setDist hi hm x) ((map_set_snd hi).trans s.vz)
/-- A place's cells. -/
theorem St.place (s : St w p hs ls ha hn hcap ba n bcap ha' hcap' ba' bcap' gr gx ga ca gb cb gs cs ns no nk vs W us bs xs ys Z K sa sc oa oc ka) {i : Nat} {z : StatZ × (Nat × Nat)} (hi : Z[i]? = some z) : W.cell? ⟨gs, i * 3 + 1, none⟩ = some (.float .f64 z.1.2.1) ∧ W.cell? ⟨gs, i * 3 + 2, none⟩ = some (.slice (some ⟨z.2.1, 0, none⟩) z.1.2.2.1.length z.2.2) ∧ (∀ c, W.frozen? ⟨gs, c, none⟩ = false) ∧ (∀ c, W.frozen? ⟨z.2.1, c, none⟩ = false) ∧ (∀ (c x : Nat), z.1.2.2.1[c]? = some x → W.cell? ⟨z.2.1, c, none⟩ = some (.float .f64 x)) ∧ z.1.2.2.1.length + 1 ≤ z.2.2 ∧ z.2.2 ≤ maxLen := by
  obtain ⟨rest, h1, h2, h3, h4, h5, h6, h7⟩ := s.z.body
  have hd := h7 z (List.mem_of_getElem? hi)
  have hb : ∀ c, c < 3 → W.cell? ⟨gs, i * 3 + c, none⟩ = (statM z)[c]? := fun c hc => by
    have hg := flat_get statM 3 statM_len Z i _ c hi hc
    have hlt : i * 3 + c < (Z.flatMap statM).length := by
      rw [flat_len statM 3 statM_len]
      have := (List.getElem?_eq_some_iff.1 hi).1
      omega
    rw [h6.cell', List.getElem?_append_left hlt, hg]
  obtain ⟨cs, hbz⟩ := hd.blk
  have hat := hd.at
  obtain ⟨r, a1, b1, c1, d1⟩ := hd
  refine ⟨hb 1 (by decide), hb 2 (by decide), fun c => h6.free c, fun c => hbz.free c, fun c x hx => ?_, a1, b1⟩
  obtain ⟨_, _, e, hcell⟩ := hat c (.float .f64 x) (by simp [flts, hx])
  cases e
  rw [Nat.zero_add] at hcell
  exact hcell
end
end Go.Proofs.Ytcphalpcdcddpaa

/- The law of costs: CostOrders, walked. (Written by mk_orders.py.) -/
namespace Go.Proofs.Ytcphalpcdcddpaa
open Go.RowKit
set_option linter.unusedVariables false
attribute [local go_sem] run_store_float

structure OSt (w : World) (p : ByteArray) (hs : List TermZ) (ls : List LitZ) (ha : Option Addr) (hn hcap : Nat) (ba : Option Addr) (n bcap : Nat) (ha' : Option Addr) (hcap' : Nat) (ba' : Option Addr) (bcap' gr gx gs cs nk : Nat) (W : World) (K : List StatZ) (ka : Option Addr) : Prop where
  hhn : hn = hs.length
  hhl : hn ≤ 1048576
  hh : TermsAt w (Old w) ha hs
  hbn : n = ls.length
  h : LitsAt w (Old w) ba ls
  hf : Fit ls
  ext : Ext w W
  rbox : Blk W gr [.string p, .slice ha hn hcap, .slice ba n bcap] 27
  xbox : Blk W gx [.string p, .slice ha' hn hcap', .slice ba' n bcap'] 27
  rule : RuleM w W hs ls ha' hn hcap' ba' n bcap'
  z : StatsM w W gs nk cs K
  kl : K.length = nk
  kat : KnownAt W ka K
  kf : StatsFit K
section
variable {w : World} {p : ByteArray} {hs : List TermZ} {ls : List LitZ} {ha : Option Addr} {hn hcap : Nat} {ba : Option Addr} {n bcap : Nat} {ha' : Option Addr} {hcap' : Nat} {ba' : Option Addr} {bcap' gr gx gs cs nk : Nat} {W : World} {K : List StatZ} {ka : Option Addr}
theorem OSt.to {W' : World} (s : OSt w p hs ls ha hn hcap ba n bcap ha' hcap' ba' bcap' gr gx gs cs nk W K ka) (hk : Ext W W') : OSt w p hs ls ha hn hcap ba n bcap ha' hcap' ba' bcap' gr gx gs cs nk W' K ka :=
  { hhn := s.hhn, hhl := s.hhl, hh := s.hh, hbn := s.hbn, h := s.h, hf := s.hf, ext := s.ext.trans hk, rbox := s.rbox.ext hk, xbox := s.xbox.ext hk, rule := s.rule.ext hk, z := s.z.ext hk, kl := s.kl, kat := s.kat.ext hk, kf := s.kf }
theorem OSt.greedy (s : OSt w p hs ls ha hn hcap ba n bcap ha' hcap' ba' bcap' gr gx gs cs nk W K ka) : Calls Try.prog 23 #[ruleV p ha' hn hcap' ba' n bcap', .slice (some ⟨gs, 0, none⟩) nk cs] W (RetN W (BestV (greedyE ((p, hs, ()), ls, ()) K))) := by
  have hc := s.z.mark.1
  exact greedy_any p hs ls ha' hn hcap' ba' n bcap' K _ nk cs W (New w) s.hhn (s.rule.terms (terms_fit s.hh)) s.hhl s.hbn (s.rule.lits (lits_all s.h)) s.hf s.kl.symm (by omega) s.z.at s.kf
theorem OSt.best (s : OSt w p hs ls ha hn hcap ba n bcap ha' hcap' ba' bcap' gr gx gs cs nk W K ka) : Calls Try.prog 25 #[ruleV p ha' hn hcap' ba' n bcap', .slice (some ⟨gs, 0, none⟩) nk cs] W (RetN W (BestV (bestE ((p, hs, ()), ls, ()) K))) := by
  have hc := s.z.mark.1
  exact best_any p hs ls ha' hn hcap' ba' n bcap' K _ nk cs W (New w) s.hhn (s.rule.terms (terms_fit s.hh)) s.hhl s.hbn (s.rule.lits (lits_all s.h)) s.hf s.kl.symm (by omega) s.z.at s.kf
theorem OSt.plain (s : OSt w p hs ls ha hn hcap ba n bcap ha' hcap' ba' bcap' gr gx gs cs nk W K ka) (kc : Nat) : Calls Try.prog 14 #[.slice ka nk kc] W (RetN W fun w' v => ∃ a c, v = .slice a nk c ∧ nk ≤ c ∧ c ≤ maxLen ∧ StatsAt w' a K) :=
  plain_any K ka nk kc W s.kl.symm s.kat s.kf
theorem OSt.refGreedy (s : OSt w p hs ls ha hn hcap ba n bcap ha' hcap' ba' bcap' gr gx gs cs nk W K ka) {a : Option Addr} {c : Nat} (hS : StatsAt W a K) : Calls Try.prog 24 #[ruleV p ha hn hcap ba n bcap, .slice a nk c] W (RetN W (BestV (greedyE ((p, hs, ()), ls, ()) K))) :=
  refGreedy_any p hs ls ha hn hcap ba n bcap K a nk c W (Old w) s.hhn (s.hh.ext s.ext) s.hhl s.hbn (s.h.ext s.ext) s.hf s.kl.symm hS s.kf
theorem OSt.refBest (s : OSt w p hs ls ha hn hcap ba n bcap ha' hcap' ba' bcap' gr gx gs cs nk W K ka) {a : Option Addr} {c : Nat} (hS : StatsAt W a K) : Calls Try.prog 26 #[ruleV p ha hn hcap ba n bcap, .slice a nk c] W (RetN W (BestV (bestE ((p, hs, ()), ls, ()) K))) :=
  refBest_any p hs ls ha hn hcap ba n bcap K a nk c W (Old w) s.hhn (s.hh.ext s.ext) s.hhl s.hbn (s.h.ext s.ext) s.hf s.kl.symm hS s.kf
theorem OSt.stays (s : OSt w p hs ls ha hn hcap ba n bcap ha' hcap' ba' bcap' gr gx gs cs nk W K ka) : Calls Try.prog 17 #[ruleV p ha' hn hcap' ba' n bcap', ruleV p ha hn hcap ba n bcap] W (RetN W fun w' v => v = .bool true) :=
  stays_any p hs ls w ha' ha hn hcap' hcap ba' ba n bcap' bcap W (Old w) s.hhn (s.hh.ext s.ext) s.hhl s.hbn (s.h.ext s.ext) s.hf s.rule
theorem OSt.kept (s : OSt w p hs ls ha hn hcap ba n bcap ha' hcap' ba' bcap' gr gx gs cs nk W K ka) (kc : Nat) : Calls Try.prog 19 #[.slice (some ⟨gs, 0, none⟩) nk cs, .slice ka nk kc] W (RetN W fun w' v => v = .bool true) :=
  kept_any K w gs nk cs ka kc W s.kl.symm s.kat s.kf s.z
end
theorem bestE_len (r : RuleZ) (S : List StatZ) : (bestE r S).1.length ≤ r.2.1.length := by
  by_cases h : errR r S = 0
  · by_cases hn : 12 < r.2.1.length
    · rw [bestE_long h hn]; exact Nat.zero_le _
    · obtain ⟨pp, hp⟩ := best_some (S := S) (errR_zero h).1
      rw [bestE_some h hn hp]
      exact plan_len (Known.of (errR_zero h).2) hp
  · rw [bestE_bad h]; exact Nat.zero_le _
theorem greedyE_len (r : RuleZ) (S : List StatZ) : (greedyE r S).1.length ≤ r.2.1.length := by
  by_cases h : errR r S = 0
  · rw [greedyE_ok h]
    show (greedG S r.2.1 r.2.1.length).1.length ≤ _
    rw [(greed_ok (Known.of (errR_zero h).2) (full_stands (errR_zero h).1) (Nat.le_refl _)).len]
    exact Nat.le_refl _
  · rw [greedyE_bad h]; exact Nat.zero_le _

set_option maxRecDepth 100000 in
set_option maxHeartbeats 8000000 in
theorem orders_any (p : ByteArray) (hs : List TermZ) (ls : List LitZ) (ha : Option Addr) (hn hcap : Nat) (ba : Option Addr) (n bcap : Nat) (K : List StatZ) (ka : Option Addr) (nk kc : Nat) (w : World)
    (hhn : hn = hs.length) (hh : TermsAt w (Old w) ha hs) (hhl : hn ≤ 1048576) (hbn : n = ls.length) (h : LitsAt w (Old w) ba ls) (hf : Fit ls)
    (hnk : nk = K.length) (hS : KnownAt w ka K) (hSf : StatsFit K) :
    Calls Try.prog 4 #[ruleV p ha hn hcap ba n bcap, .slice ka nk kc] w (RetN w fun w' v => v = .bool true) := by
  have hl : n ≤ 1048576 := by have := hf.len; omega
  have HIn := Lib.hid (And.intro hhn (And.intro hh (And.intro hbn (And.intro h hf))))
  have HKn := Lib.hid (And.intro hnk (And.intro hS hSf))
  have HLen0 := Lib.hid (show (greedyE ((p, hs, ()), ls, ()) K).1.length ≤ 1048576 from Nat.le_trans (greedyE_len _ _) hf.len)
  have HLen1 := Lib.hid (show (bestE ((p, hs, ()), ls, ()) K).1.length ≤ 1048576 from Nat.le_trans (bestE_len _ _) hf.len)
  clear hhn hh hbn h hf hnk hS hSf
  go_enter Try.func4, Try.ntmps4
  obtain ⟨gr, egr⟩ : ∃ gr, gr = w.heap.size := ⟨_, rfl⟩
  obtain ⟨wb, eb⟩ : ∃ wb, w.alloc (.cells #[.string p, .slice ha hn hcap, .slice ba n bcap] 27) = wb := ⟨_, rfl⟩
  have hB1 : Blk wb gr [.string p, .slice ha hn hcap, .slice ba n bcap] 27 := by rw [← eb, egr]; exact Blk.new w _ _
  have XB := Lib.hid (show Ext w wb from by rw [← eb]; exact (Kp.refl w).alloc _)
  have HR := Lib.hid hB1
  have EGR := Lib.hid egr
  have q0 : wb.cell? ⟨w.heap.size, 0, none⟩ = some (.string p) := by rw [← egr, hB1.cell']; rfl
  have q1 : wb.cell? ⟨w.heap.size, 1, none⟩ = some (.slice ha hn hcap) := by rw [← egr, hB1.cell']; rfl
  have q2 : wb.cell? ⟨w.heap.size, 2, none⟩ = some (.slice ba n bcap) := by rw [← egr, hB1.cell']; rfl
  clear hB1 egr
  go_wp2_with fail
  rw [← EGR.out]
  refine (great_any p ha hn hcap ba n bcap wb (by omega)).mono ?_
  rintro e w1 ⟨v, rfl, hk1, rfl⟩
  have X1 := Lib.hid (XB.out.trans hk1)
  have HR1 := Lib.hid (HR.out.ext hk1)
  clear hk1 eb q0 q1 q2
  by_cases hg : 40 < n
  · have hgd : decide (40 < n) = true := decide_eq_true hg
    go_wp2
    go_ret
    exact RetN.mk X1.out rfl
  have hgd : decide (40 < n) = false := decide_eq_false hg
  have r0 : w1.cell? ⟨gr, 0, none⟩ = some (.string p) := by rw [HR1.out.cell']; rfl
  have r1 : w1.cell? ⟨gr, 1, none⟩ = some (.slice ha hn hcap) := by rw [HR1.out.cell']; rfl
  have r2 : w1.cell? ⟨gr, 2, none⟩ = some (.slice ba n bcap) := by rw [HR1.out.cell']; rfl
  go_wp2_with fail
  refine (twin_any p hs ls ha hn hcap ba n bcap w1 (Old w) HIn.out.1 (HIn.out.2.1.ext X1.out) hhl HIn.out.2.2.1 (HIn.out.2.2.2.1.ext X1.out) HIn.out.2.2.2.2).mono ?_
  rintro e w2 ⟨v, rfl, hk2, ha', hcap', ba', bcap', rfl, hRM⟩
  have X2 := Lib.hid (X1.out.trans hk2)
  have HR2 := Lib.hid (HR1.out.ext hk2)
  obtain ⟨gx, egx⟩ : ∃ gx, gx = w2.heap.size := ⟨_, rfl⟩
  obtain ⟨wx, ex⟩ : ∃ wx, w2.alloc (.cells #[.string p, .slice ha' hn hcap', .slice ba' n bcap'] 27) = wx := ⟨_, rfl⟩
  have HX3 := Lib.hid (show Blk wx gx [.string p, .slice ha' hn hcap', .slice ba' n bcap'] 27 from by rw [← ex, egx]; exact Blk.new w2 _ _)
  have XX2 := Lib.hid (show Ext w2 wx from by rw [← ex]; exact (Kp.refl w2).alloc _)
  have X3 := Lib.hid (X2.out.trans XX2.out)
  have HR3 := Lib.hid (HR2.out.ext XX2.out)
  have HM3 := Lib.hid ((hRM.ext XX2.out).old X1.out.size)
  have EGX := Lib.hid egx
  clear hk2 hRM egx r0 r1 r2 hgd hg
  go_wp2_with fail
  rw [← EGX.out]
  refine (stats_any K ka nk kc wx HKn.out.1 (HKn.out.2.1.ext X3.out) HKn.out.2.2).mono ?_
  rintro e w3 ⟨v, rfl, hk3, gs, cs, rfl, hSM⟩
  have S3 := Lib.hid (show OSt w p hs ls ha hn hcap ba n bcap ha' hcap' ba' bcap' gr gx gs cs nk w3 K ka from
    { hhn := HIn.out.1, hhl := hhl, hh := HIn.out.2.1, hbn := HIn.out.2.2.1, h := HIn.out.2.2.2.1, hf := HIn.out.2.2.2.2, ext := X3.out.trans hk3, rbox := HR3.out.ext hk3, xbox := HX3.out.ext hk3, rule := HM3.out.ext hk3,
      z := hSM.old X3.out.size, kl := HKn.out.1.symm, kat := HKn.out.2.1.ext (X3.out.trans hk3), kf := HKn.out.2.2 })
  clear hSM hk3 HR3 HX3 HM3 XX2 X3 X2 HR2 X1 HR1 XB HR EGR EGX HIn HKn ex
  have x0 : w3.cell? ⟨gx, 0, none⟩ = some (.string p) := by rw [S3.out.xbox.cell']; rfl
  have x1 : w3.cell? ⟨gx, 1, none⟩ = some (.slice ha' hn hcap') := by rw [S3.out.xbox.cell']; rfl
  have x2 : w3.cell? ⟨gx, 2, none⟩ = some (.slice ba' n bcap') := by rw [S3.out.xbox.cell']; rfl
  go_wp2_with fail
  refine S3.out.greedy.mono ?_
  rintro e w4 ⟨v, rfl, hk, l0, lc0, rfl, hl1, hl2, hl3⟩
  have S4 := Lib.hid (S3.out.to hk)
  have HL0 := Lib.hid (And.intro hl1 (And.intro hl2 hl3))
  obtain ⟨E0, eE0⟩ : ∃ E, greedyE ((p, hs, ()), ls, ()) K = E := ⟨_, rfl⟩
  rw [eE0] at HL0
  rw [eE0]
  have EE0 := Lib.hid eE0
  clear hk hl1 hl2 hl3 eE0 x0 x1 x2
  have HC := Lib.hid (show ∀ w', Ext w4 w' → (fun w' : World => w'.cell? ⟨gr, 0, none⟩ = some (.string p) ∧ w'.cell? ⟨gr, 1, none⟩ = some (.slice ha hn hcap) ∧ w'.cell? ⟨gr, 2, none⟩ = some (.slice ba n bcap)) w' from fun w' hw => ⟨by rw [(S4.out.to hw).rbox.cell']; rfl, by rw [(S4.out.to hw).rbox.cell']; rfl, by rw [(S4.out.to hw).rbox.cell']; rfl⟩)
  go_wp2
  refine draw_begin (fun w' : World => w'.cell? ⟨gr, 0, none⟩ = some (.string p) ∧ w'.cell? ⟨gr, 1, none⟩ = some (.slice ha hn hcap) ∧ w'.cell? ⟨gr, 2, none⟩ = some (.slice ba n bcap)) [3] (by kernel_rfl) (HC.out _ (Kp.refl w4).drew) (fun hHeld => ?_)
  (refine draw_in (i := 0) (v := ?_) rfl ?_ ?_; rotate_left; (intro w hSw; (try dsimp only at hSw); go_simp; try with_reducible rfl)); (try simp only [Act.put, List.setIfInBounds_toArray, List.set_cons_zero, List.set_cons_succ])
  (refine draw_free (i := 1) (v := ?_) rfl ?_ ?_; rotate_left; (intro w; go_simp; try with_reducible rfl)); (try simp only [Act.put, List.setIfInBounds_toArray, List.set_cons_zero, List.set_cons_succ])
  refine draw_one (i := 2) ?_
  refine comes_turn (i := 2) rfl (fun K hK => ?_)
  go_simp
  (refine ((S4.out.to (Kp.refl w4).drew).plain kc).mono ?_; rintro e w5 ⟨v, rfl, hk3, pa, pc, rfl, _, _, hp3⟩; have X5 := Lib.hid (show Ext w4 w5 from ((Kp.refl w4).drew).trans hk3); have HP := Lib.hid hp3; clear hk3 hp3)
  go_wp2_with fail
  refine hK.out _ _ ?_ (fun hHeld => ?_)
  · (try dsimp only); (exact HC.out _ X5.out)
  clear hK K; (try simp only [Act.put, List.setIfInBounds_toArray, List.set_cons_zero, List.set_cons_succ])
  refine draw_one (i := 3) ?_
  refine comes_late (i := 3) rfl (by kernel_rfl) (fun K hK => ?_)
  go_simp
  (refine ((S4.out.to X5.out).refGreedy HP.out).mono ?_; rintro e w6 ⟨v, rfl, hk4, m0, mc0, rfl, hm1, hm2, hm3⟩; rw [EE0.out] at hm1 hm2; rw [EE0.out]; have S6 := Lib.hid (S4.out.to (X5.out.trans hk4)); have HL20 := Lib.hid (HL0.out.1.ext (X5.out.trans hk4)); have HM0 := Lib.hid (And.intro hm1 hm2); clear hk4 hm1 hm2 hm3)
  go_wp2_with fail
  refine hK.out _ _ ?_
  clear hK K; (try simp only [Act.put, List.setIfInBounds_toArray, List.set_cons_zero, List.set_cons_succ])
  (refine draw_free (i := 4) (v := ?_) rfl ?_ ?_; rotate_left; (intro w; go_simp; try with_reducible rfl)); (try simp only [Act.put, List.setIfInBounds_toArray, List.set_cons_zero, List.set_cons_succ])
  (refine draw_free (i := 5) (v := ?_) rfl ?_ ?_; rotate_left; (intro w; go_simp; try with_reducible rfl)); (try simp only [Act.put, List.setIfInBounds_toArray, List.set_cons_zero, List.set_cons_succ])
  (refine draw_free (i := 8) (v := ?_) rfl ?_ ?_; rotate_left; (intro w; go_simp; try with_reducible rfl)); (try simp only [Act.put, List.setIfInBounds_toArray, List.set_cons_zero, List.set_cons_succ])
  (refine draw_free (i := 6) (v := ?_) rfl ?_ ?_; rotate_left; (intro w; go_simp; try with_reducible rfl)); (try simp only [Act.put, List.setIfInBounds_toArray, List.set_cons_zero, List.set_cons_succ])
  (refine draw_free (i := 9) (v := ?_) rfl ?_ ?_; rotate_left; (intro w; go_simp; try with_reducible rfl)); (try simp only [Act.put, List.setIfInBounds_toArray, List.set_cons_zero, List.set_cons_succ])
  (refine draw_free (i := 7) (v := ?_) rfl ?_ ?_; rotate_left; (intro w; go_simp; try with_reducible rfl)); (try simp only [Act.put, List.setIfInBounds_toArray, List.set_cons_zero, List.set_cons_succ])
  (refine draw_free (i := 10) (v := ?_) rfl ?_ ?_; rotate_left; (intro w; go_simp; try with_reducible rfl)); (try simp only [Act.put, List.setIfInBounds_toArray, List.set_cons_zero, List.set_cons_succ])
  refine wpAnyD_done (by kernel_rfl) ?_ _
  clear hHeld HC X5 HP S4
  have e01 : ((E0.2.2 : Int) != (E0.2.2 : Int)) = false := by simp
  have e02 : ((E0.2.2 : Int) == (E0.2.2 : Int)) = true := by simp
  have hEl : E0.1.length ≤ 4611686018427387904 := by have h1 := HL0.out.2.1; have h2 := HL0.out.2.2; have h3 := HLen0.out; rw [EE0.out] at h3; omega
  go_wp2_with fail
  refine (ints_any E0.1 l0 m0 _ lc0 mc0 w6 rfl HL20.out HM0.out.1 hEl).mono ?_
  rintro e w7 ⟨v, rfl, hk, rfl⟩
  have S7 := Lib.hid (S6.out.to hk)
  clear hk S6 HL20 HM0 HL0
  go_wp2_with fail
  refine (alike_any E0.2.1 w7).mono ?_
  rintro e w8 ⟨v, rfl, hk, rfl⟩
  have S8 := Lib.hid (S7.out.to hk)
  clear hk S7
  have x0 : w8.cell? ⟨gx, 0, none⟩ = some (.string p) := by rw [S8.out.xbox.cell']; rfl
  have x1 : w8.cell? ⟨gx, 1, none⟩ = some (.slice ha' hn hcap') := by rw [S8.out.xbox.cell']; rfl
  have x2 : w8.cell? ⟨gx, 2, none⟩ = some (.slice ba' n bcap') := by rw [S8.out.xbox.cell']; rfl
  have r0 : w8.cell? ⟨gr, 0, none⟩ = some (.string p) := by rw [S8.out.rbox.cell']; rfl
  have r1 : w8.cell? ⟨gr, 1, none⟩ = some (.slice ha hn hcap) := by rw [S8.out.rbox.cell']; rfl
  have r2 : w8.cell? ⟨gr, 2, none⟩ = some (.slice ba n bcap) := by rw [S8.out.rbox.cell']; rfl
  go_wp2_with fail
  refine S8.out.stays.mono ?_
  rintro e w9 ⟨v, rfl, hk, rfl⟩
  have S9 := Lib.hid (S8.out.to hk)
  clear hk S8 x0 x1 x2 r0 r1 r2
  go_wp2_with fail
  refine (S9.out.kept kc).mono ?_
  rintro e w10 ⟨v, rfl, hk, rfl⟩
  have S10 := Lib.hid (S9.out.to hk)
  clear hk S9 e01 e02 hEl
  have x0 : w10.cell? ⟨gx, 0, none⟩ = some (.string p) := by rw [S10.out.xbox.cell']; rfl
  have x1 : w10.cell? ⟨gx, 1, none⟩ = some (.slice ha' hn hcap') := by rw [S10.out.xbox.cell']; rfl
  have x2 : w10.cell? ⟨gx, 2, none⟩ = some (.slice ba' n bcap') := by rw [S10.out.xbox.cell']; rfl
  go_wp2_with fail
  refine S10.out.best.mono ?_
  rintro e w11 ⟨v, rfl, hk, l1, lc1, rfl, hl1, hl2, hl3⟩
  have S11 := Lib.hid (S10.out.to hk)
  have HL1 := Lib.hid (And.intro hl1 (And.intro hl2 hl3))
  obtain ⟨E1, eE1⟩ : ∃ E, bestE ((p, hs, ()), ls, ()) K = E := ⟨_, rfl⟩
  rw [eE1] at HL1
  rw [eE1]
  have EE1 := Lib.hid eE1
  clear hk hl1 hl2 hl3 eE1 x0 x1 x2
  have HC := Lib.hid (show ∀ w', Ext w11 w' → (fun w' : World => w'.cell? ⟨gr, 0, none⟩ = some (.string p) ∧ w'.cell? ⟨gr, 1, none⟩ = some (.slice ha hn hcap) ∧ w'.cell? ⟨gr, 2, none⟩ = some (.slice ba n bcap)) w' from fun w' hw => ⟨by rw [(S11.out.to hw).rbox.cell']; rfl, by rw [(S11.out.to hw).rbox.cell']; rfl, by rw [(S11.out.to hw).rbox.cell']; rfl⟩)
  go_wp2
  refine draw_begin (fun w' : World => w'.cell? ⟨gr, 0, none⟩ = some (.string p) ∧ w'.cell? ⟨gr, 1, none⟩ = some (.slice ha hn hcap) ∧ w'.cell? ⟨gr, 2, none⟩ = some (.slice ba n bcap)) [3] (by kernel_rfl) (HC.out _ (Kp.refl w11).drew) (fun hHeld => ?_)
  (refine draw_in (i := 0) (v := ?_) rfl ?_ ?_; rotate_left; (intro w hSw; (try dsimp only at hSw); go_simp; try with_reducible rfl)); (try simp only [Act.put, List.setIfInBounds_toArray, List.set_cons_zero, List.set_cons_succ])
  (refine draw_free (i := 1) (v := ?_) rfl ?_ ?_; rotate_left; (intro w; go_simp; try with_reducible rfl)); (try simp only [Act.put, List.setIfInBounds_toArray, List.set_cons_zero, List.set_cons_succ])
  refine draw_one (i := 2) ?_
  refine comes_turn (i := 2) rfl (fun K hK => ?_)
  go_simp
  (refine ((S11.out.to (Kp.refl w11).drew).plain kc).mono ?_; rintro e w12 ⟨v, rfl, hk3, pa, pc, rfl, _, _, hp3⟩; have X12 := Lib.hid (show Ext w11 w12 from ((Kp.refl w11).drew).trans hk3); have HP := Lib.hid hp3; clear hk3 hp3)
  go_wp2_with fail
  refine hK.out _ _ ?_ (fun hHeld => ?_)
  · (try dsimp only); (exact HC.out _ X12.out)
  clear hK K; (try simp only [Act.put, List.setIfInBounds_toArray, List.set_cons_zero, List.set_cons_succ])
  refine draw_one (i := 3) ?_
  refine comes_late (i := 3) rfl (by kernel_rfl) (fun K hK => ?_)
  go_simp
  (refine ((S11.out.to X12.out).refBest HP.out).mono ?_; rintro e w13 ⟨v, rfl, hk4, m1, mc1, rfl, hm1, hm2, hm3⟩; rw [EE1.out] at hm1 hm2; rw [EE1.out]; have S13 := Lib.hid (S11.out.to (X12.out.trans hk4)); have HL21 := Lib.hid (HL1.out.1.ext (X12.out.trans hk4)); have HM1 := Lib.hid (And.intro hm1 hm2); clear hk4 hm1 hm2 hm3)
  go_wp2_with fail
  refine hK.out _ _ ?_
  clear hK K; (try simp only [Act.put, List.setIfInBounds_toArray, List.set_cons_zero, List.set_cons_succ])
  (refine draw_free (i := 4) (v := ?_) rfl ?_ ?_; rotate_left; (intro w; go_simp; try with_reducible rfl)); (try simp only [Act.put, List.setIfInBounds_toArray, List.set_cons_zero, List.set_cons_succ])
  (refine draw_free (i := 5) (v := ?_) rfl ?_ ?_; rotate_left; (intro w; go_simp; try with_reducible rfl)); (try simp only [Act.put, List.setIfInBounds_toArray, List.set_cons_zero, List.set_cons_succ])
  (refine draw_free (i := 8) (v := ?_) rfl ?_ ?_; rotate_left; (intro w; go_simp; try with_reducible rfl)); (try simp only [Act.put, List.setIfInBounds_toArray, List.set_cons_zero, List.set_cons_succ])
  (refine draw_free (i := 6) (v := ?_) rfl ?_ ?_; rotate_left; (intro w; go_simp; try with_reducible rfl)); (try simp only [Act.put, List.setIfInBounds_toArray, List.set_cons_zero, List.set_cons_succ])
  (refine draw_free (i := 9) (v := ?_) rfl ?_ ?_; rotate_left; (intro w; go_simp; try with_reducible rfl)); (try simp only [Act.put, List.setIfInBounds_toArray, List.set_cons_zero, List.set_cons_succ])
  (refine draw_free (i := 7) (v := ?_) rfl ?_ ?_; rotate_left; (intro w; go_simp; try with_reducible rfl)); (try simp only [Act.put, List.setIfInBounds_toArray, List.set_cons_zero, List.set_cons_succ])
  (refine draw_free (i := 10) (v := ?_) rfl ?_ ?_; rotate_left; (intro w; go_simp; try with_reducible rfl)); (try simp only [Act.put, List.setIfInBounds_toArray, List.set_cons_zero, List.set_cons_succ])
  refine wpAnyD_done (by kernel_rfl) ?_ _
  clear hHeld HC X12 HP S11
  have e11 : ((E1.2.2 : Int) != (E1.2.2 : Int)) = false := by simp
  have e12 : ((E1.2.2 : Int) == (E1.2.2 : Int)) = true := by simp
  have hEl : E1.1.length ≤ 4611686018427387904 := by have h1 := HL1.out.2.1; have h2 := HL1.out.2.2; have h3 := HLen1.out; rw [EE1.out] at h3; omega
  go_wp2_with fail
  refine (ints_any E1.1 l1 m1 _ lc1 mc1 w13 rfl HL21.out HM1.out.1 hEl).mono ?_
  rintro e w14 ⟨v, rfl, hk, rfl⟩
  have S14 := Lib.hid (S13.out.to hk)
  clear hk S13 HL21 HM1 HL1
  go_wp2_with fail
  refine (alike_any E1.2.1 w14).mono ?_
  rintro e w15 ⟨v, rfl, hk, rfl⟩
  have S15 := Lib.hid (S14.out.to hk)
  clear hk S14
  have x0 : w15.cell? ⟨gx, 0, none⟩ = some (.string p) := by rw [S15.out.xbox.cell']; rfl
  have x1 : w15.cell? ⟨gx, 1, none⟩ = some (.slice ha' hn hcap') := by rw [S15.out.xbox.cell']; rfl
  have x2 : w15.cell? ⟨gx, 2, none⟩ = some (.slice ba' n bcap') := by rw [S15.out.xbox.cell']; rfl
  have r0 : w15.cell? ⟨gr, 0, none⟩ = some (.string p) := by rw [S15.out.rbox.cell']; rfl
  have r1 : w15.cell? ⟨gr, 1, none⟩ = some (.slice ha hn hcap) := by rw [S15.out.rbox.cell']; rfl
  have r2 : w15.cell? ⟨gr, 2, none⟩ = some (.slice ba n bcap) := by rw [S15.out.rbox.cell']; rfl
  go_wp2_with fail
  refine S15.out.stays.mono ?_
  rintro e w16 ⟨v, rfl, hk, rfl⟩
  have S16 := Lib.hid (S15.out.to hk)
  clear hk S15 x0 x1 x2 r0 r1 r2
  go_wp2_with fail
  refine (S16.out.kept kc).mono ?_
  rintro e w17 ⟨v, rfl, hk, rfl⟩
  have S17 := Lib.hid (S16.out.to hk)
  clear hk S16 e11 e12 hEl
  go_wp2
  go_ret
  exact RetN.mk S17.out.ext rfl
end Go.Proofs.Ytcphalpcdcddpaa

/- The law of costs: its arguments as they come in. -/
namespace Go.Proofs.Ytcphalpcdcddpaa
open Go.RowKit
set_option linter.unusedVariables false

abbrev KnownZ := ByteArray × Int × List Int × Unit
noncomputable def shI : Shp Try.prog Int := shInt 3 .i64 Try.underlying3 (by kernel_rfl)
noncomputable def shInts : Shp Try.prog (List Int) := shSlice 28 shI Try.underlying28 (by kernel_rfl) (by decide)
noncomputable def shWord : Shp Try.prog Int := shInt 50 .u64 Try.underlying50 (by kernel_rfl)
noncomputable def shWords : Shp Try.prog (List Int) := shSlice 51 shWord Try.underlying51 (by kernel_rfl) (by decide)
noncomputable def shKnown : Shp Try.prog KnownZ := shStruct 53 (fdCons (shStr 9 Try.underlying9 (by kernel_rfl)) (fdCons shWord (fdCons shWords fdNil))) (fs := _) Try.underlying53 ⟨_, _, rfl, rfl, rfl, _, _, rfl, rfl, rfl, _, _, rfl, rfl, rfl, rfl⟩ (by kernel_rfl)
noncomputable def shKnowns : Shp Try.prog (List KnownZ) := shSlice 29 shKnown Try.underlying29 (by kernel_rfl) (by decide)

/-- By words. -/
def natK (k : KnownZ) : StatZ := (k.1, k.2.1.toNat, k.2.2.1.map Int.toNat, ())
theorem wf_u64 {z : Int} (h : (Lit.int .u64 z).wf = true) : 0 ≤ z ∧ z < 18446744073709551616 := by
  have h' : (decide (IntKind.u64.min ≤ z) && decide (z ≤ IntKind.u64.max)) = true := h
  rw [Bool.and_eq_true, decide_eq_true_eq, decide_eq_true_eq] at h'
  have h1 : IntKind.u64.min = 0 := by decide
  have h2 : IntKind.u64.max = 18446744073709551615 := by decide
  rw [h1, h2] at h'
  omega
theorem word_cells {w : World} {G : Nat → Prop} {ao : Option Addr} {zs : List Int} (h : ElemsAt shWord w G ao zs) : CellsAt w ao (words (zs.map Int.toNat)) ∧ (∀ x ∈ zs.map Int.toNat, x < 18446744073709551616) ∧ (zs.map Int.toNat ≠ [] → ∀ a, ao = some a → G a.block) := by
  refine ⟨fun i u hu => ?_, fun x hx => ?_, fun hne a ha => ?_⟩
  · rw [words, List.getElem?_map, List.getElem?_map] at hu
    cases hz : zs[i]? with
    | none => rw [hz] at hu; cases hu
    | some z =>
      rw [hz] at hu; cases hu
      obtain ⟨b, off, es, e, _, _, ⟨ha, hw⟩, hc⟩ := h i z hz
      refine ⟨b, off, e, ?_⟩
      have h0 := hc 0 (.int .u64 z) (by rw [ha]; rfl)
      rw [show shWord.n = 1 from rfl, Nat.mul_one, Nat.add_zero] at h0
      rw [h0]
      show some (Value.int .u64 z) = some (.int .u64 ((z.toNat : Nat) : Int))
      rw [Int.toNat_of_nonneg (wf_u64 hw).1]
  · obtain ⟨z, hz, rfl⟩ := List.mem_map.1 hx
    obtain ⟨i, hi⟩ := List.mem_iff_getElem?.1 hz
    obtain ⟨b, off, es, e, _, _, ⟨ha, hw⟩, hc⟩ := h i z hi
    have := wf_u64 hw
    omega
  · cases zs with
    | nil => exact absurd rfl hne
    | cons z zs =>
      obtain ⟨b, off, es, e, hG, _⟩ := h 0 z rfl
      rw [e] at ha; cases ha; exact hG
theorem known_in {w : World} {G : Nat → Prop} {ao : Option Addr} {ks : List KnownZ} (h : ElemsAt shKnown w G ao ks) : KnownIn w G ao (ks.map natK) := fun i s hs => by
  rw [List.getElem?_map] at hs
  cases hk : ks[i]? with
  | none => rw [hk] at hs; cases hs
  | some k =>
    rw [hk] at hs; cases hs
    obtain ⟨b, off, es, e, hG, _, ⟨a1, b1, e1, ⟨e2, _⟩, a3, b3, e3, ⟨e4, hw⟩, a5, b5, e5, ⟨da, dcap, e6, h1, h2, h3⟩, e7⟩, hc⟩ := h i k hk
    have ees : es = [.string k.1, .int .u64 k.2.1, .slice da k.2.2.1.length dcap] := by
      have e7' : b5 = [] := e7
      rw [e1, e2, e3, e4, e5, e6, e7']; rfl
    rw [ees, show shKnown.n = 3 from rfl] at hc
    obtain ⟨w1, w2, w3⟩ := word_cells h3
    refine ⟨b, off, da, dcap, e, hG, w3, (show w.cell? ⟨b, off + i * 3, none⟩ = some (.string k.1) by simpa using hc 0 _ rfl), ?_, ?_, ?_, h2, w1⟩
    · rw [Nat.add_assoc]
      have h0 := hc 1 _ rfl
      rw [h0]
      show some (Value.int .u64 k.2.1) = some (.int .u64 ((k.2.1.toNat : Nat) : Int))
      rw [Int.toNat_of_nonneg (wf_u64 hw).1]
    · rw [Nat.add_assoc]
      have h0 := hc 2 _ rfl
      rw [h0]
      show some (Value.slice da k.2.2.1.length dcap) = some (.slice da (k.2.2.1.map Int.toNat).length dcap)
      rw [List.length_map]
    · show (k.2.2.1.map Int.toNat).length ≤ dcap
      rw [List.length_map]; exact h1
theorem known_fit {w : World} {G : Nat → Prop} {ao : Option Addr} {ks : List KnownZ} (h : ElemsAt shKnown w G ao ks) (hb : bulkL shKnown.bulk ks + 1 ≤ 1048576) : StatsFit (ks.map natK) := by
  have hall : ∀ k ∈ ks, k.2.2.1.length ≤ 1048576 ∧ k.2.1.toNat < 18446744073709551616 ∧ ∀ x ∈ k.2.2.1.map Int.toNat, x < 18446744073709551616 := fun k hk => by
    obtain ⟨i, hi⟩ := List.mem_iff_getElem?.1 hk
    obtain ⟨b, off, es, e, hG, _, ⟨a1, b1, e1, ⟨e2, _⟩, a3, b3, e3, ⟨e4, hw⟩, a5, b5, e5, ⟨da, dcap, e6, h1, h2, h3⟩, e7⟩, hc⟩ := h i k hi
    have hbk := bulkL_mem shKnown.bulk hk
    have hbk' : shKnown.bulk k = ((k.1.size + 1) + (1 + ((bulkL shWord.bulk k.2.2.1 + 1) + 0))) + 1 := rfl
    have hlen := bulkL_len shWord.bulk (fun _ => Nat.le_refl 1) k.2.2.1
    have hwf := wf_u64 hw
    exact ⟨by omega, by omega, (word_cells h3).2.1⟩
  have hlen := bulkL_len shKnown.bulk (fun k => by show 1 ≤ _ + 1; omega) ks
  refine ⟨by rw [List.length_map]; omega, fun s hs => ?_, fun s hs => ?_, fun s hs => ?_⟩
  all_goals obtain ⟨k, hk, rfl⟩ := List.mem_map.1 hs
  · show (k.2.2.1.map Int.toNat).length ≤ _
    rw [List.length_map]; exact (hall k hk).1
  · exact (hall k hk).2.1
  · exact (hall k hk).2.2
theorem int_cells {w : World} {G : Nat → Prop} {ao : Option Addr} {zs : List Int} (h : ElemsAt shI w G ao zs) : CellsAt w ao (ints zs) ∧ (zs ≠ [] → ∀ a, ao = some a → G a.block) := by
  refine ⟨fun i u hu => ?_, fun hne a ha => ?_⟩
  · rw [ints, List.getElem?_map] at hu
    cases hz : zs[i]? with
    | none => rw [hz] at hu; cases hu
    | some z =>
      rw [hz] at hu; cases hu
      obtain ⟨b, off, es, e, _, _, ⟨ha, hw⟩, hc⟩ := h i z hz
      refine ⟨b, off, e, ?_⟩
      have h0 := hc 0 (.int .i64 z) (by rw [ha]; rfl)
      rw [show shI.n = 1 from rfl, Nat.mul_one, Nat.add_zero] at h0
      exact h0
  · cases zs with
    | nil => exact absurd rfl hne
    | cons z zs =>
      obtain ⟨b, off, es, e, hG, _⟩ := h 0 z rfl
      rw [e] at ha; cases ha; exact hG
/-- A rule that came in is not too big. -/
theorem rule_fit {r : RuleZ} (hb : shRule.bulk r ≤ 1048576) : r.1.2.1.length ≤ 1048576 ∧ Fit r.2.1 := by
  have e : shRule.bulk r = (shAtom.bulk r.1 + ((bulkL shLit.bulk r.2.1 + 1) + 0)) + 1 := rfl
  have ea : ∀ a : AtomZ, shAtom.bulk a = ((a.1.size + 1) + ((bulkL shTerm.bulk a.2.1 + 1) + 0)) + 1 := fun _ => rfl
  have el : ∀ l : LitZ, shLit.bulk l = (1 + (shAtom.bulk l.2.1 + (1 + (shTerm.bulk l.2.2.2.1 + (shTerm.bulk l.2.2.2.2.1 + 0))))) + 1 := fun _ => rfl
  have et : ∀ ts : List TermZ, ts.length ≤ bulkL shTerm.bulk ts := fun ts => bulkL_len shTerm.bulk (fun t => by show 1 ≤ _ + 1; omega) ts
  have h1 := ea r.1
  have h2 := et r.1.2.1
  have h3 := bulkL_len shLit.bulk (fun l => by show 1 ≤ _ + 1; omega) r.2.1
  refine ⟨by omega, by omega, fun l hl => ?_⟩
  have h4 := bulkL_mem shLit.bulk hl
  have h5 := el l
  have h6 := ea l.2.1
  have h7 := et (termsOf l)
  have h8 : bulkL shTerm.bulk (termsOf l) = bulkL shTerm.bulk l.2.1.2.1 := rfl
  omega
end Go.Proofs.Ytcphalpcdcddpaa

/- Proved here: the statement CostOrdersUptoSaid: the law returns true for every input of the bound that the row names and leaves its arguments as they were. No condition of its own. -/
namespace Go.Proofs.Ytcphalpcdcddpaa.lawCostOrders
open Go.ChangeShapes Go.WideShapes Go.ChangeAt Go.RowKit
set_option linter.unusedVariables false

theorem own : ownKnob Try.prog.godebug = none := by kernel_rfl
theorem laidOut : laidOutB Try.prog = true := by kernel_rfl

theorem orders_walk {v u : Value} {W : World} (hv : ∃ cs x, v = .agg cs ∧ shRule.At W (fun k => k < W.heap.size) cs.toList x ∧ shRule.bulk x ≤ 1048576)
    (hu : ∃ ao cap xs, u = .slice ao xs.length cap ∧ xs.length ≤ cap ∧ ElemsAt shKnown W (fun k => k < W.heap.size) ao xs ∧ bulkL shKnown.bulk xs + 1 ≤ 1048576) :
    Calls Try.prog 4 #[v, u] W (fun e w' => e = .returned (.bool true) ∧ Below W.heap.size W w') := by
  obtain ⟨cs, x, rfl, h1, hb⟩ := hv
  obtain ⟨ka, kc, ks, rfl, k2, k3, kb⟩ := hu
  obtain ⟨ha, hcap, ba, bcap, hR, ec⟩ := rule_cells h1
  have ecs : cs = #[.string x.1.1, .slice ha x.1.2.1.length hcap, .slice ba x.2.1.length bcap] := by
    rw [← Array.toList_inj, ec]
  obtain ⟨f1, f2⟩ := rule_fit (r := x) hb
  rw [ecs]
  refine (orders_any x.1.1 x.1.2.1 x.2.1 ha _ hcap ba _ bcap (ks.map natK) ka _ kc W rfl hR.head f1 rfl hR.body f2 (by rw [List.length_map]) (known_in k3).at (known_fit k3 kb)).mono ?_
  rintro e w' ⟨v, rfl, hk, rfl⟩
  exact ⟨rfl, hk.below⟩

set_option maxRecDepth 100000 in
theorem lifted (os : Os) (started : os.Started) (H : Type) (enc : TypeId × Value → H) (F : Stop.Interp) :
    ReturnsInHanded {} Try.checked os 4 .any ((Rows.OpenSpec.upto Rows.costOrdersSpec).pre6 enc Try.prog Try.f4 Rows.costOrdersUptoRow.domain false) (((Rows.OpenSpec.upto Rows.costOrdersSpec).at F).post enc Try.prog Try.f4 false true false false) := by
  refine returnsInHanded_of_cond (C := Try.checked) (s := Rows.OpenSpec.upto Rows.costOrdersSpec) (k := Rows.uptoSmall) rfl own started (by kernel_rfl) Try.func4
    (OpenSpec.witness (enc := enc) (C := Try.checked) (s := Rows.OpenSpec.upto Rows.costOrdersSpec) (k := Rows.uptoSmall) rfl false ⟨#[], #[.agg #[.string ⟨#[]⟩, .slice none 0 0, .slice none 0 0], .slice none 0 0], []⟩ 8 (by kernel_rfl) (by kernel_rfl) (by kernel_rfl)
      (x := ([.agg [.agg [.lit (.string []), .nil], .nil], .nil], [], [])) (by kernel_rfl) rfl (by kernel_rfl)) ?_
  intro W base args ds gs before hval0 hW hcnd hk0 _
  have hk : Rows.uptoSmall H (ds ++ gs) = true := hk0
  clear hk0
  have hval : ∀ (j : Nat) t v, Try.f4.params[j]? = some t → args[j]? = some v → Value.okWide Try.prog W .any base t v := hval0
  have hW' := hW
  obtain ⟨p, q, hA0, hV, rfl, hfz, hnd⟩ := hW
  have hA : DataW.TrodAll enc Try.prog W 0 (fun _ => true) true Try.f4.params.toList args.toList ds p := hA0
  rw [Try.params4] at hA hval
  obtain ⟨v0, vs0, d0, ds0, p0, q0, hargs, rfl, rfl, h0, r0⟩ := trodAll_cons hA
  obtain ⟨v1, vs1, d1, ds1, p1, q1, rfl, rfl, rfl, h1, r1⟩ := trodAll_cons r0
  obtain ⟨rfl, rfl, rfl⟩ := trodAll_nil r1
  obtain rfl : args = #[v0, v1] := by cases args; simp_all
  obtain ⟨rfl, rfl⟩ := trodVars_none hV
  have lt0 : ∀ x ∈ p0, x.block < W.heap.size := by obtain ⟨m, hm⟩ := h0; exact DataW.trod_lt m _ _ _ hm
  have lt1 : ∀ x ∈ p1, x.block < W.heap.size := by obtain ⟨m, hm⟩ := h1; exact DataW.trod_lt m _ _ _ hm
  clear hA0 hval0
  simp only [List.append_nil] at hk
  have hk1 : Rows.uptoBulkAll [d0, d1] ≤ 1048576 := of_decide_eq_true hk
  clear hk
  have x0 : ∃ cs x, v0 = .agg cs ∧ shRule.At W (fun k => k < W.heap.size) cs.toList x ∧ shRule.bulk x ≤ 1048576 := by
    obtain ⟨cs, rfl, hcs⟩ := okWide_struct Try.underlying27 (hval 0 27 v0 rfl rfl)
    obtain ⟨x, hx, hb⟩ := shRule.arg h0 (bulk_in hk1 (by simp))
    exact ⟨cs, x, rfl, hx, hb⟩
  have x1 := arg_slice (s := shKnown) Try.underlying29 (by kernel_rfl) (by decide) (hval 1 29 v1 rfl rfl) h1 (N := 1048576) (bulk_in hk1 (by simp))
  refine (orders_walk x0 x1).mono fun e W' ⟨he, bel⟩ => ?_
  subst he
  exact ⟨_, rfl, _, _, _, [], _, [], hW', trodAll_mk1 (shut_bool Try.underlying4 _), (trodAll_cons_mk (Below.trod laidOut (by kernel_rfl) (of_decide_eq_true (by kernel_rfl)) h0 bel lt0) (trodAll_cons_mk (Below.trod laidOut (by kernel_rfl) (of_decide_eq_true (by kernel_rfl)) h1 bel lt1) trodAll_mk0)), rfl, bel.frame _, fun h => by cases h⟩

theorem over : Rows.costOrdersUptoRow.holds Try.pinned (Rows.OpenSpec.upto Rows.costOrdersSpec) :=
  OpenClaim.holds_of_cond 4 Try.f4 rfl rfl rfl rfl rfl rfl rfl ⟨rfl, rfl, rfl, rfl, rfl⟩ rfl rfl rfl rfl rfl (by kernel_rfl) Try.func4 (by kernel_rfl)
    (of_decide_eq_true (by kernel_rfl)) (by unfold Func.isWrapper; first | (rw [if_pos (by decide +kernel)]; kernel_rfl) | (rw [if_neg (by decide +kernel)]; exact ⟨rfl, rfl⟩))
    (fun os started H enc _ F => lifted os started H enc F)

theorem proved : Rows.CostOrdersUptoSaid := over
#print axioms proved
end Go.Proofs.Ytcphalpcdcddpaa.lawCostOrders
