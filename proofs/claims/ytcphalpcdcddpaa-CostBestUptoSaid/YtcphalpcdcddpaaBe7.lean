/- Texts joined for a claim (Best1, Best2, Law7, Law8). -/
import Derived.Test.YtcphalpcdcddpaaBe6
import Derived.OwnWalk
/- cost.Best: the plans' table; the function that makes a plan of a number. -/
namespace Go.Proofs.Ytcphalpcdcddpaa
open Go.RowKit
set_option linter.unusedVariables false
attribute [local go_sem] run_store_float

theorem clone_any (xs : List Int) (ao : Option Addr) (cap : Nat) (w : World) (n : Nat) (hn : n = xs.length) (hc : CellsAt w ao (ints xs)) (hm : n ≤ 1048576) :
    Calls Try.prog 46 #[.slice ao n cap] w (RetN w fun w' v => Row w' 3 1 v n (ints xs) (New w)) := by
  have hq : ∀ w : World, (binOp .eql 28 (.slice ao n cap) (.slice none 0 0)).run Try.prog w = .ok (.bool ao.isNone) w := fun w => Lib.run_eql_slice_nil w _ _ _ _ _ _ _ Try.underlying28
  have HNN := Lib.hid (show n = (ints xs).length by rw [ints_len]; exact hn)
  have h1 := Lib.hid (ints_one xs)
  generalize ints xs = vs at *
  clear hn
  have hl : n ≤ maxLen := by unfold maxLen; omega
  cases ao with
  | none =>
    have hv : vs = [] := by
      cases vs with
      | nil => rfl
      | cons x vs => obtain ⟨b, o, h, _⟩ := hc.off (by simp); cases h
    subst hv
    have h0 : n = 0 := HNN.out
    subst h0
    go_enter Try.func46, Try.ntmps46
    go_wp2
    go_ret
    exact RetN.mk (Kp.refl _) (Row.nil _ _ _ _)
  | some a =>
    go_enter Try.func46, Try.ntmps46
    go_wp2_with (first | (at_builtin; refine Halted.out ?_))
    refine Halted.mk (wp_appN elem_int rfl _ _ rfl ((Kp.refl (F := fun _ => False) w).alloc _) rfl (Row.empty w 3 1 (New w) (Nat.le_refl _)) rfl (hc.alloc _) (by rw [HNN.out, Nat.mul_one]) h1.out (by omega) (by omega) ?_)
    intro v1 w1 hr1 hk1 _ _
    have HR := Lib.hid hr1; clear hr1
    go_wp2
    go_ret
    exact RetN.mk hk1 (by simpa using HR.out)

theorem pow_le {n i : Nat} (hn : n ≤ 12) (hi : i ≤ n) : 2 ^ i ≤ 4096 := Nat.le_trans (Nat.pow_le_pow_right (by decide) (Nat.le_trans hi hn)) (by decide)
theorem wrap_nat {x : Nat} (h : x ≤ 4096) : IntKind.i64.wrap (x : Int) = (x : Int) := IntWalk.i64_in _ (by omega)
theorem wrap_pow {i : Nat} (hi : i ≤ 12) : IntKind.i64.wrap ((2 : Int) ^ i) = (2 : Int) ^ i := by
  have h := pow_le (Nat.le_refl 12) hi
  have e : (2 : Int) ^ i = ((2 ^ i : Nat) : Int) := by rw [Int.natCast_pow]; rfl
  rw [e]
  exact wrap_nat h
theorem andNot_bit {s i : Nat} (hs : s < 4096) (h : s.testBit i = true) : bits .andNot .i64 (s : Int) ((2 : Int) ^ i) = ((s - 2 ^ i : Nat) : Int) := by
  have hle := (subBit i s h).1
  have e : (2 : Int) ^ i = ((2 ^ i : Nat) : Int) := by rw [Int.natCast_pow]; rfl
  have h1 : ((BitVec.ofInt 64 (s : Int)) &&& ~~~(BitVec.ofInt 64 ((2 ^ i : Nat) : Int))).toNat = s - 2 ^ i := by
    rw [BitVec.ofInt_natCast, BitVec.ofInt_natCast]
    apply Nat.eq_of_testBit_eq
    intro j
    rw [(subBit i s h).2 j, BitVec.testBit_toNat, BitVec.getLsbD_and, BitVec.getLsbD_not, BitVec.getLsbD_ofNat, BitVec.getLsbD_ofNat]
    by_cases hj : j < 64
    · rw [decide_eq_true hj, Nat.testBit_two_pow]
      simp only [Bool.true_and]
      congr 1
      by_cases e : j = i
      · subst e; simp
      · have e' : ¬ i = j := fun h => e h.symm
        simp [e, e']
    · have hz : s.testBit j = false := Nat.testBit_lt_two_pow (Nat.lt_of_lt_of_le hs (Nat.le_trans (by decide : 4096 ≤ 2 ^ 64) (Nat.pow_le_pow_right (by decide) (by omega))))
      rw [decide_eq_false hj, hz]; simp
  unfold bits
  rw [e]
  show IntKind.i64.wrap (((BitVec.ofInt 64 (s : Int)) &&& ~~~(BitVec.ofInt 64 ((2 ^ i : Nat) : Int))).toNat : Int) = _
  rw [h1]
  exact wrap_nat (Nat.le_trans (Nat.sub_le _ _) (Nat.le_of_lt hs))
theorem and_bit {s i : Nat} (hs : s < 4096) : bits .and .i64 ((s : Int) / (2 : Int) ^ i) 1 = if s.testBit i = true then 1 else 0 := by
  have e : (s : Int) / (2 : Int) ^ i = ((s / 2 ^ i : Nat) : Int) := by rw [Int.natCast_ediv, Int.natCast_pow]; rfl
  have hlt : s / 2 ^ i < 4096 := Nat.lt_of_le_of_lt (Nat.div_le_self _ _) hs
  have hb : s.testBit i = decide (s / 2 ^ i % 2 = 1) := Nat.testBit_eq_decide_div_mod_eq
  rw [e]
  generalize s / 2 ^ i = x at *
  have h1 : ((BitVec.ofInt 64 (x : Int)) &&& (BitVec.ofInt 64 1)).toNat = x % 2 := by
    rw [BitVec.ofInt_natCast, BitVec.toNat_and, BitVec.toNat_ofNat, Nat.mod_eq_of_lt (by omega)]
    show x &&& 1 = _
    exact Nat.and_one_is_mod x
  unfold bits
  show IntKind.i64.wrap (((BitVec.ofInt 64 (x : Int)) &&& (BitVec.ofInt 64 1)).toNat : Int) = _
  rw [h1, hb]
  rcases Nat.mod_two_eq_zero_or_one x with h | h
  · rw [h]; rfl
  · rw [h]; rfl

/-- The plans of the sets before k, by sets. -/
def TabAt (w : World) (gp N k : Nat) (S : List StatZ) (ls : List LitZ) : Prop := ∃ vals : List Value, vals.length = N ∧ Blk w gp vals 92 ∧ ∀ (u : Nat) v, vals[u]? = some v → OptAt w (fun _ => True) v (if u < k then planS S ls u else none)
theorem TabAt.kp {F : Nat → Prop} {w w' : World} {gp N k : Nat} {S : List StatZ} {ls : List LitZ} (h : TabAt w gp N k S ls) (hk : Kp F w w') (hg : ¬ F gp) (hF : NoPlan w F) : TabAt w' gp N k S ls := by
  obtain ⟨vals, h1, h2, h3⟩ := h
  exact ⟨vals, h1, h2.kp hk hg, fun u v hu => (h3 u v hu).kp hk hF⟩
theorem TabAt.ext {w w' : World} {gp N k : Nat} {S : List StatZ} {ls : List LitZ} (h : TabAt w gp N k S ls) (hk : Ext w w') : TabAt w' gp N k S ls := h.kp hk id (noPlan_none w)
theorem TabAt.get {w : World} {gp N k : Nat} {S : List StatZ} {ls : List LitZ} (h : TabAt w gp N k S ls) {u : Nat} (hu : u < N) (hk : u < k) : ∃ v, w.cell? ⟨gp, u, none⟩ = some v ∧ OptAt w (fun _ => True) v (planS S ls u) := by
  obtain ⟨vals, h1, h2, h3⟩ := h
  have hv : vals[u]? = some (vals[u]'(by omega)) := List.getElem?_eq_getElem (by omega)
  refine ⟨_, by rw [h2.cell', hv], ?_⟩
  have := h3 u _ hv
  rw [if_pos hk] at this; exact this
theorem typ_pp : 92 ≠ 95 ∧ 92 ≠ 3 := by decide
theorem noPlan_tab {w : World} {gp N k : Nat} {S : List StatZ} {ls : List LitZ} (h : TabAt w gp N k S ls) : NoPlan w (fun i => i = gp) := fun k cs e hb hk => by
  obtain ⟨vals, h1, h2, h3⟩ := h
  subst hk
  rw [blk_ne hb h2]; exact typ_pp
theorem TabAt.set {w : World} {gp N k : Nat} {S : List StatZ} {ls : List LitZ} (h : TabAt w gp N k S ls) {v : Value} (hv : OptAt w (fun _ => True) v (planS S ls k)) : TabAt (w.setCell ⟨gp, k, none⟩ v) gp N (k + 1) S ls := by
  have hN := noPlan_tab h
  obtain ⟨vals, h1, h2, h3⟩ := h
  have hk : Kp (fun i => i = gp) w (w.setCell ⟨gp, k, none⟩ v) := Kp.setCell (F := fun i => i = gp) (Kp.refl w) (fun _ => rfl) _
  refine ⟨vals.set k v, by rw [List.length_set]; exact h1, h2.set k v, fun u x hx => ?_⟩
  rw [List.getElem?_set] at hx
  by_cases e : k = u
  · subst e
    rw [if_pos rfl] at hx
    split at hx
    · cases hx
      rw [if_pos (by omega)]; exact hv.kp hk hN
    · cases hx
  · rw [if_neg e] at hx
    have := (h3 u x hx).kp hk hN
    by_cases hu : u < k
    · rw [if_pos hu] at this; rw [if_pos (by omega)]; exact this
    · rw [if_neg hu] at this; rw [if_neg (by omega)]; exact this

set_option maxRecDepth 100000 in
set_option maxHeartbeats 4000000 in
theorem bestMade_any (S : List StatZ) (ls : List LitZ) (n N s i g : Nat) (gin gi gpl gp gset ggu : Nat) (L : Nat) (w : World) (hn : n ≤ 12) (hi : i < n) (hs : s < N) (hN : N ≤ 4096)
    (hin : Blk w gin [.slice (some ⟨gi, 0, none⟩) n n] 74) (hb : CellsAt w (some ⟨gi, 0, none⟩) (bools (bitsS n s))) (hpl : Blk w gpl [.slice (some ⟨gp, 0, none⟩) N N] 99) (hset : Blk w gset [.int .i64 s] 3) (hgu : Blk w ggu [.float .f64 g] 37)
    (hT : TabAt w gp N s S ls) (hg : g ≤ infW) (hq : ∀ u p, u < s → planS S ls u = some p → p.2 ≤ infW ∧ p.1.length ≤ 12) :
    Calls Try.prog 45 #[.int .i64 i, .pointer (some ⟨gin, 0, none⟩), .pointer (some ⟨gpl, 0, none⟩), .pointer (some ⟨gset, 0, none⟩), .pointer (some ⟨ggu, 0, none⟩)] w (RetN w fun w' v => OptAt w' (New w) v (candP (planS S ls) g s i)) := by
  have hw1 : IntKind.i64.wrap ((2 : Int) ^ i) = (2 : Int) ^ i := wrap_pow (by omega)
  have c1 : w.cell? ⟨gin, 0, none⟩ = some (.slice (some ⟨gi, 0, none⟩) n n) := by rw [hin.cell']; rfl
  have c2 : w.cell? ⟨gi, i, none⟩ = some (.bool (s.testBit i)) := by
    obtain ⟨_, _, e, h⟩ := hb i (.bool (s.testBit i)) (by simp [bools, bits_at hi])
    cases e
    rw [Nat.zero_add] at h; exact h
  have c3 : w.cell? ⟨gpl, 0, none⟩ = some (.slice (some ⟨gp, 0, none⟩) N N) := by rw [hpl.cell']; rfl
  have c4 : w.cell? ⟨gset, 0, none⟩ = some (.int .i64 s) := by rw [hset.cell']; rfl
  have c5 : w.cell? ⟨ggu, 0, none⟩ = some (.float .f64 g) := by rw [hgu.cell']; rfl
  clear hin hb hpl hset hgu
  by_cases hbit : s.testBit i = true
  · obtain ⟨hle, _⟩ := subBit i s hbit
    have hpos := Nat.two_pow_pos i
    have hand := andNot_bit (s := s) (i := i) (by omega) hbit
    obtain ⟨v, c6, hv⟩ := hT.get (u := s - 2 ^ i) (by omega) (by omega)
    rw [hbit] at c2
    have hq' := hq (s - 2 ^ i)
    have hu1 : s - 2 ^ i < s := by omega
    obtain ⟨u, eu⟩ : ∃ u, u = s - 2 ^ i := ⟨_, rfl⟩
    rw [← eu] at hand c6 hv hq' hu1
    have EU := Lib.hid (And.intro eu hbit)
    have hux : ((u : Nat) : Int).toNat = u := Int.toNat_natCast u
    have hu2 : (u : Int) < (N : Int) := by omega
    have hu3 : u < N := by omega
    clear hq hT eu
    rcases hv.cases with ⟨rfl, hp⟩ | ⟨p, b, hp, rfl, hpa⟩
    · have HR := Lib.hid (show candP (planS S ls) g s i = none by
        unfold candP
        rw [if_pos EU.out.2, ← EU.out.1, hp]; rfl)
      clear hp hv hbit hle hpos
      go_enter Try.func45, Try.ntmps45
      go_wp2
      go_quiet (fail)
      go_wp2
      go_ret
      exact RetN.mk ((Kp.refl w).drewN _) (by rw [HR.out]; rfl)
    · have hqp := hq' p hu1 hp
      obtain ⟨oa, oc, d1, d2, d3, d4, d5⟩ := hpa.cells
      obtain ⟨m, em⟩ : ∃ m, m = p.1.length := ⟨_, rfl⟩
      obtain ⟨pc, epc⟩ : ∃ pc, pc = p.2 := ⟨_, rfl⟩
      rw [← em] at d1 hqp
      rw [← epc] at d2 hqp
      have hadd : ∀ W, (binOp .add 37 (.float .f64 pc) (.float .f64 g)).run Try.prog W = .ok (.float .f64 (fadd pc g)) W := fun W => run_float_arith W .add _ .f64 _ _ _ (fadd_eq hqp.1 hg)
      have hm := hqp.2
      have HR := Lib.hid (show candP (planS S ls) g s i = some (p.1 ++ [(i : Int)], fadd pc g) by
        unfold candP
        rw [if_pos EU.out.2, ← EU.out.1, hp, epc]; rfl)
      have HCl := Lib.hid (fun (W : World) (hW : Ext w W) => clone_any p.1 oa oc W m em (d3.ext hW) (by omega))
      have HM := Lib.hid em
      have HCells := Lib.hid (show ∀ w', Ext w w' → (fun w' : World => w'.cell? ⟨b, 0, none⟩ = some (.slice oa m oc) ∧ w'.cell? ⟨b, 1, none⟩ = some (.float .f64 pc) ∧ w'.cell? ⟨ggu, 0, none⟩ = some (.float .f64 g)) w' from fun w' hw => ⟨hw.cell d1 id, hw.cell d2 id, hw.cell c5 id⟩)
      clear hp hv hbit hle hpos hq' hqp hpa d1 d2 d3 d4 d5 em epc c5
      go_enter Try.func45, Try.ntmps45
      go_wp2
      go_quiet (fail)
      go_wp2
      go_quiet (fail)
      go_wp2
      generalize hwz : World.drewN (World.drewN _ _) _ = w1
      have X1 := Lib.hid (show Ext w w1 from by rw [← hwz]; exact ((Kp.refl w).drewN _).drewN _)
      have HC1 := Lib.hid (show ∀ w', Ext w1 w' → (fun w' : World => w'.cell? ⟨b, 0, none⟩ = some (.slice oa m oc) ∧ w'.cell? ⟨b, 1, none⟩ = some (.float .f64 pc) ∧ w'.cell? ⟨ggu, 0, none⟩ = some (.float .f64 g)) w' from fun w' hw => HCells.out w' (X1.out.trans hw))
      clear hwz HCells c1 c2 c3 c4 c6 hand hw1
      refine draw_begin (fun w' : World => w'.cell? ⟨b, 0, none⟩ = some (.slice oa m oc) ∧ w'.cell? ⟨b, 1, none⟩ = some (.float .f64 pc) ∧ w'.cell? ⟨ggu, 0, none⟩ = some (.float .f64 g)) [] (by kernel_rfl) (HC1.out _ (Kp.refl w1).drew) (fun hHeld => ?_)
      (refine draw_free (i := 0) (v := ?_) rfl ?_ ?_; rotate_left; (intro w; go_simp; try with_reducible rfl)); (try simp only [Act.put, List.setIfInBounds_toArray, List.set_cons_zero, List.set_cons_succ])
      (refine draw_free (i := 1) (v := ?_) rfl ?_ ?_; rotate_left; (intro w; go_simp; try with_reducible rfl)); (try simp only [Act.put, List.setIfInBounds_toArray, List.set_cons_zero, List.set_cons_succ])
      (refine draw_free (i := 2) (v := ?_) rfl ?_ ?_; rotate_left; (intro w; go_simp; try with_reducible rfl)); (try simp only [Act.put, List.setIfInBounds_toArray, List.set_cons_zero, List.set_cons_succ])
      (refine draw_in (i := 3) (v := ?_) rfl ?_ ?_; rotate_left; (intro w hSw; (try dsimp only at hSw); go_simp; try with_reducible rfl)); (try simp only [Act.put, List.setIfInBounds_toArray, List.set_cons_zero, List.set_cons_succ])
      (refine draw_free (i := 5) (v := ?_) rfl ?_ ?_; rotate_left; (intro w; go_simp; try with_reducible rfl)); (try simp only [Act.put, List.setIfInBounds_toArray, List.set_cons_zero, List.set_cons_succ])
      (refine draw_free (i := 8) (v := ?_) rfl ?_ ?_; rotate_left; (intro w; go_simp; try with_reducible rfl)); (try simp only [Act.put, List.setIfInBounds_toArray, List.set_cons_zero, List.set_cons_succ])
      (refine draw_free (i := 9) (v := ?_) rfl ?_ ?_; rotate_left; (intro w; go_simp; try with_reducible rfl)); (try simp only [Act.put, List.setIfInBounds_toArray, List.set_cons_zero, List.set_cons_succ])
      (refine draw_free (i := 10) (v := ?_) rfl ?_ ?_; rotate_left; (intro w; go_simp; try with_reducible rfl)); (try simp only [Act.put, List.setIfInBounds_toArray, List.set_cons_zero, List.set_cons_succ])
      (refine draw_in (i := 11) (v := ?_) rfl ?_ ?_; rotate_left; (intro w hSw; (try dsimp only at hSw); go_simp; try with_reducible rfl)); (try simp only [Act.put, List.setIfInBounds_toArray, List.set_cons_zero, List.set_cons_succ])
      (refine draw_in (i := 12) (v := ?_) rfl ?_ ?_; rotate_left; (intro w hSw; (try dsimp only at hSw); go_simp; try with_reducible rfl)); (try simp only [Act.put, List.setIfInBounds_toArray, List.set_cons_zero, List.set_cons_succ])
      (refine draw_free (i := 13) (v := ?_) rfl ?_ ?_; rotate_left; (intro w; go_simp; try with_reducible rfl)); (try simp only [Act.put, List.setIfInBounds_toArray, List.set_cons_zero, List.set_cons_succ])
      refine draw_two (i := 4) (k := 6) ?_ ?_
      · refine comes_turn (i := 4) rfl (fun K hK => ?_)
        go_simp
        ((with_reducible refine (HCl.out _ (by first | exact X1.out.drew | exact (X1.out.alloc _).drew)).mono ?_); rintro e w2 ⟨v, rfl, hk2, hr2⟩; obtain ⟨va, vc, ev, _, _⟩ := hr2.shape; subst ev; have HX2 := Lib.hid (show Ext w1 w2 from (by first | exact ((Kp.refl w1).drew).trans hk2 | exact (((Kp.refl w1).alloc _).drew).trans hk2)); have HR2 := Lib.hid (show Row w2 3 1 (.slice va m vc) m (ints p.1) (New w1) from hr2.mono fun k h => Nat.le_trans (by first | exact ((Kp.refl (F := fun _ => False) w1).drew).size | exact (((Kp.refl (F := fun _ => False) w1).alloc _).drew).size) h); have HSrc := Lib.hid hk2; clear hk2 hr2)
        go_wp2_with fail
        refine hK.out _ _ ?_ (fun hHeld => ?_)
        · (try dsimp only); (first | exact HC1.out _ HX3.out | exact HC1.out _ (HX3.out.alloc _) | exact HC1.out _ HX2.out | exact HC1.out _ (HX2.out.alloc _) | exact HC1.out _ ((Kp.refl w1).alloc _).drew)
        clear hK K; (try simp only [Act.put, List.setIfInBounds_toArray, List.set_cons_zero, List.set_cons_succ])
        refine draw_one (i := 6) ?_
        refine comes_turn (i := 6) rfl (fun K hK => ?_)
        go_simp
        refine hK.out _ _ ?_ (fun hHeld => ?_)
        · (try dsimp only); (first | exact HC1.out _ HX3.out | exact HC1.out _ (HX3.out.alloc _) | exact HC1.out _ HX2.out | exact HC1.out _ (HX2.out.alloc _) | exact HC1.out _ ((Kp.refl w1).alloc _).drew)
        clear hK K; (try simp only [Act.put, List.setIfInBounds_toArray, List.set_cons_zero, List.set_cons_succ])
        refine draw_one (i := 7) ?_
        refine comes_turn (i := 7) rfl (fun K hK => ?_)
        (first | refine draw_appN elem_int rfl _ _ rfl (HX2.out.alloc _) rfl (HR2.out.alloc _) rfl (CellsAt.one w2 (.int .i64 i) 3) (by rfl) (by simp [Value.oneCell']) (by omega) (by unfold maxLen; omega) ?_ | refine draw_appN elem_int rfl _ _ rfl HX2.out rfl HR2.out rfl (CellsAt.ext (w := (w1.alloc (.cells #[Value.int .i64 i] 3)).drew) (CellsAt.one w1 (.int .i64 i) 3) HSrc.out) (by rfl) (by simp [Value.oneCell']) (by omega) (by unfold maxLen; omega) ?_); intro v3 w3 hr3 hk3 _; obtain ⟨v3a, v3c, ev3, _, _⟩ := hr3.shape; subst ev3; have HX3 := Lib.hid hk3; have HR3 := Lib.hid hr3; clear hk3 hr3
        refine hK.out _ _ ?_ (fun hHeld => ?_)
        · (try dsimp only); (first | exact HC1.out _ HX3.out | exact HC1.out _ (HX3.out.alloc _) | exact HC1.out _ HX2.out | exact HC1.out _ (HX2.out.alloc _) | exact HC1.out _ ((Kp.refl w1).alloc _).drew)
        clear hK K; (try simp only [Act.put, List.setIfInBounds_toArray, List.set_cons_zero, List.set_cons_succ])
        (refine draw_free (i := 14) (v := ?_) rfl ?_ ?_; rotate_left; (intro w; go_simp; try with_reducible rfl)); (try simp only [Act.put, List.setIfInBounds_toArray, List.set_cons_zero, List.set_cons_succ])
        refine draw_one (i := 15) ?_
        refine comes_turn (i := 15) rfl (fun K hK => ?_)
        go_simp
        refine hK.out _ _ ?_ (fun hHeld => ?_)
        · (try dsimp only); (first | exact HC1.out _ HX3.out | exact HC1.out _ (HX3.out.alloc _) | exact HC1.out _ HX2.out | exact HC1.out _ (HX2.out.alloc _) | exact HC1.out _ ((Kp.refl w1).alloc _).drew)
        clear hK K; (try simp only [Act.put, List.setIfInBounds_toArray, List.set_cons_zero, List.set_cons_succ])
        (refine draw_free (i := 16) (v := ?_) rfl ?_ ?_; rotate_left; (intro w; go_simp; try with_reducible rfl)); (try simp only [Act.put, List.setIfInBounds_toArray, List.set_cons_zero, List.set_cons_succ])
        refine wpAnyD_done (by kernel_rfl) ?_ _
        clear hHeld HC1 HCl HSrc HX2 HR2
        go_wp2
        go_ret
        refine RetN.mk ((X1.out.trans HX3.out).alloc _) ?_
        rw [HR.out]
        refine ⟨_, rfl, .slice v3a (m + 1) v3c, Blk.new w3 _ _, ?_⟩
        have h := (HR3.out.alloc (.cells #[.slice v3a (m + 1) v3c, .float .f64 (fadd pc g)] 95)).mono (M' := New w) fun k hk => Nat.le_trans X1.out.size hk
        have e1 : (p.1 ++ [(i : Int)]).length = m + 1 := by rw [List.length_append, HM.out]; rfl
        have e2 : ints (p.1 ++ [(i : Int)]) = ints p.1 ++ [.int .i64 i] := by simp [ints]
        show Row _ _ _ _ (p.1 ++ [(i : Int)]).length (ints (p.1 ++ [(i : Int)])) _
        rw [e1, e2]; exact h
      · refine comes_turn (i := 6) rfl (fun K hK => ?_)
        go_simp
        refine hK.out _ _ ?_ (fun hHeld => ?_)
        · (try dsimp only); (first | exact HC1.out _ HX3.out | exact HC1.out _ (HX3.out.alloc _) | exact HC1.out _ HX2.out | exact HC1.out _ (HX2.out.alloc _) | exact HC1.out _ ((Kp.refl w1).alloc _).drew)
        clear hK K; (try simp only [Act.put, List.setIfInBounds_toArray, List.set_cons_zero, List.set_cons_succ])
        refine draw_one (i := 4) ?_
        refine comes_turn (i := 4) rfl (fun K hK => ?_)
        go_simp
        ((with_reducible refine (HCl.out _ (by first | exact X1.out.drew | exact (X1.out.alloc _).drew)).mono ?_); rintro e w2 ⟨v, rfl, hk2, hr2⟩; obtain ⟨va, vc, ev, _, _⟩ := hr2.shape; subst ev; have HX2 := Lib.hid (show Ext w1 w2 from (by first | exact ((Kp.refl w1).drew).trans hk2 | exact (((Kp.refl w1).alloc _).drew).trans hk2)); have HR2 := Lib.hid (show Row w2 3 1 (.slice va m vc) m (ints p.1) (New w1) from hr2.mono fun k h => Nat.le_trans (by first | exact ((Kp.refl (F := fun _ => False) w1).drew).size | exact (((Kp.refl (F := fun _ => False) w1).alloc _).drew).size) h); have HSrc := Lib.hid hk2; clear hk2 hr2)
        go_wp2_with fail
        refine hK.out _ _ ?_ (fun hHeld => ?_)
        · (try dsimp only); (first | exact HC1.out _ HX3.out | exact HC1.out _ (HX3.out.alloc _) | exact HC1.out _ HX2.out | exact HC1.out _ (HX2.out.alloc _) | exact HC1.out _ ((Kp.refl w1).alloc _).drew)
        clear hK K; (try simp only [Act.put, List.setIfInBounds_toArray, List.set_cons_zero, List.set_cons_succ])
        refine draw_one (i := 7) ?_
        refine comes_turn (i := 7) rfl (fun K hK => ?_)
        (first | refine draw_appN elem_int rfl _ _ rfl (HX2.out.alloc _) rfl (HR2.out.alloc _) rfl (CellsAt.one w2 (.int .i64 i) 3) (by rfl) (by simp [Value.oneCell']) (by omega) (by unfold maxLen; omega) ?_ | refine draw_appN elem_int rfl _ _ rfl HX2.out rfl HR2.out rfl (CellsAt.ext (w := (w1.alloc (.cells #[Value.int .i64 i] 3)).drew) (CellsAt.one w1 (.int .i64 i) 3) HSrc.out) (by rfl) (by simp [Value.oneCell']) (by omega) (by unfold maxLen; omega) ?_); intro v3 w3 hr3 hk3 _; obtain ⟨v3a, v3c, ev3, _, _⟩ := hr3.shape; subst ev3; have HX3 := Lib.hid hk3; have HR3 := Lib.hid hr3; clear hk3 hr3
        refine hK.out _ _ ?_ (fun hHeld => ?_)
        · (try dsimp only); (first | exact HC1.out _ HX3.out | exact HC1.out _ (HX3.out.alloc _) | exact HC1.out _ HX2.out | exact HC1.out _ (HX2.out.alloc _) | exact HC1.out _ ((Kp.refl w1).alloc _).drew)
        clear hK K; (try simp only [Act.put, List.setIfInBounds_toArray, List.set_cons_zero, List.set_cons_succ])
        (refine draw_free (i := 14) (v := ?_) rfl ?_ ?_; rotate_left; (intro w; go_simp; try with_reducible rfl)); (try simp only [Act.put, List.setIfInBounds_toArray, List.set_cons_zero, List.set_cons_succ])
        refine draw_one (i := 15) ?_
        refine comes_turn (i := 15) rfl (fun K hK => ?_)
        go_simp
        refine hK.out _ _ ?_ (fun hHeld => ?_)
        · (try dsimp only); (first | exact HC1.out _ HX3.out | exact HC1.out _ (HX3.out.alloc _) | exact HC1.out _ HX2.out | exact HC1.out _ (HX2.out.alloc _) | exact HC1.out _ ((Kp.refl w1).alloc _).drew)
        clear hK K; (try simp only [Act.put, List.setIfInBounds_toArray, List.set_cons_zero, List.set_cons_succ])
        (refine draw_free (i := 16) (v := ?_) rfl ?_ ?_; rotate_left; (intro w; go_simp; try with_reducible rfl)); (try simp only [Act.put, List.setIfInBounds_toArray, List.set_cons_zero, List.set_cons_succ])
        refine wpAnyD_done (by kernel_rfl) ?_ _
        clear hHeld HC1 HCl HSrc HX2 HR2
        go_wp2
        go_ret
        refine RetN.mk ((X1.out.trans HX3.out).alloc _) ?_
        rw [HR.out]
        refine ⟨_, rfl, .slice v3a (m + 1) v3c, Blk.new w3 _ _, ?_⟩
        have h := (HR3.out.alloc (.cells #[.slice v3a (m + 1) v3c, .float .f64 (fadd pc g)] 95)).mono (M' := New w) fun k hk => Nat.le_trans X1.out.size hk
        have e1 : (p.1 ++ [(i : Int)]).length = m + 1 := by rw [List.length_append, HM.out]; rfl
        have e2 : ints (p.1 ++ [(i : Int)]) = ints p.1 ++ [.int .i64 i] := by simp [ints]
        show Row _ _ _ _ (p.1 ++ [(i : Int)]).length (ints (p.1 ++ [(i : Int)])) _
        rw [e1, e2]; exact h
  · have hbf : s.testBit i = false := by simpa using hbit
    rw [hbf] at c2
    have HR := Lib.hid (show candP (planS S ls) g s i = none by
      unfold candP
      rw [if_neg hbit])
    clear hbit hT hq hbf
    go_enter Try.func45, Try.ntmps45
    go_wp2
    go_quiet (fail)
    go_wp2
    go_ret
    exact RetN.mk ((Kp.refl w).drewN _) (by rw [HR.out]; rfl)
end Go.Proofs.Ytcphalpcdcddpaa

/- cost.Best. -/
namespace Go.Proofs.Ytcphalpcdcddpaa
open Go.RowKit
set_option linter.unusedVariables false
attribute [local go_sem] run_store_float

theorem bestE_bad {r : RuleZ} {S : List StatZ} (h : errR r S ≠ 0) : bestE r S = ([], 0, errR r S) := by unfold bestE; rw [if_neg h]
theorem bestE_long {r : RuleZ} {S : List StatZ} (h : errR r S = 0) (hn : 12 < r.2.1.length) : bestE r S = ([], 0, 3) := by unfold bestE; rw [if_pos h, if_pos hn]
theorem bestE_some {r : RuleZ} {S : List StatZ} {p : Plan} (h : errR r S = 0) (hn : ¬ 12 < r.2.1.length) (hp : planS S r.2.1 (2 ^ r.2.1.length - 1) = some p) : bestE r S = (p.1, p.2, 0) := by unfold bestE; rw [if_pos h, if_neg hn, hp]
theorem TabAt.skip {w : World} {gp N k : Nat} {S : List StatZ} {ls : List LitZ} (h : TabAt w gp N k S ls) (hk : planS S ls k = none) : TabAt w gp N (k + 1) S ls := by
  obtain ⟨vals, h1, h2, h3⟩ := h
  refine ⟨vals, h1, h2, fun u v hu => ?_⟩
  have := h3 u v hu
  by_cases e : u = k
  · subst e
    rw [if_neg (Nat.lt_irrefl _)] at this
    rw [if_pos (by omega), hk]; exact this
  · by_cases hl : u < k
    · rw [if_pos hl] at this; rw [if_pos (by omega)]; exact this
    · rw [if_neg hl] at this; rw [if_neg (by omega)]; exact this
theorem plan_row {S : List StatZ} {ls : List LitZ} {s : Nat} (h0 : s ≠ 0) : (stands ls (bitsS ls.length s) → planS S ls s = leastP (candP (planS S ls) (guessW S ls (bitsS ls.length s)) s) ls.length) ∧ (¬ stands ls (bitsS ls.length s) → planS S ls s = none) := by
  have h := plan_eq S ls s
  unfold rowP at h
  rw [if_neg h0] at h
  exact ⟨fun hs => by rw [if_pos hs] at h; exact h, fun hs => by rw [if_neg hs] at h; exact h⟩

/-- Between two sets. -/
structure BestSt (w1 w : World) (gp gpl gset N s : Nat) (S : List StatZ) (ls : List LitZ) : Prop where
  ext : Ext w1 w
  pl : Blk w gpl [.slice (some ⟨gp, 0, none⟩) N N] 99
  set : Blk w gset [.int .i64 s] 3
  tab : TabAt w gp N s S ls
  new : w1.heap.size ≤ gp
def BestTo (w1 : World) (gp gpl N : Nat) (S : List StatZ) (ls : List LitZ) (pv : Value) (w : World) : Prop := ∃ s gset, 1 ≤ s ∧ s ≤ N ∧ pv = .pointer (some ⟨gset, 0, none⟩) ∧ Hid (BestSt w1 w gp gpl gset N s S ls)
def fillB (n s i : Nat) : List Bool := (bitsS n s).take i ++ List.replicate (n - i) false
theorem fill_zero (n s : Nat) : fillB n s 0 = List.replicate n false := by simp [fillB]
theorem fill_all (n s : Nat) : fillB n s n = bitsS n s := by simp [fillB, List.take_of_length_le (show (bitsS n s).length ≤ n by rw [bits_len]; exact Nat.le_refl _)]
theorem fill_len {n s i : Nat} (h : i ≤ n) : (fillB n s i).length = n := by simp [fillB, bits_len]; omega
theorem fill_succ {n s i : Nat} (h : i < n) : (fillB n s i).set i (s.testBit i) = fillB n s (i + 1) := by
  apply List.ext_getElem?
  intro j
  rw [List.getElem?_set]
  have hl : ((bitsS n s).take i).length = i := by rw [List.length_take, bits_len]; omega
  have hl2 : ((bitsS n s).take (i + 1)).length = i + 1 := by rw [List.length_take, bits_len]; omega
  by_cases e : i = j
  · subst e
    rw [if_pos rfl, if_pos (by rw [fill_len (by omega)]; exact h)]
    unfold fillB
    rw [List.getElem?_append_left (by omega), List.getElem?_take, if_pos (by omega), bits_at h]
  · rw [if_neg e]
    unfold fillB
    by_cases hj : j < i
    · rw [List.getElem?_append_left (by omega), List.getElem?_append_left (by omega), List.getElem?_take, List.getElem?_take, if_pos hj, if_pos (by omega)]
    · rw [List.getElem?_append_right (by omega), List.getElem?_append_right (by omega), List.getElem?_replicate, List.getElem?_replicate, hl, hl2]
      by_cases hn : j < n
      · rw [if_pos (by omega), if_pos (by omega)]
      · rw [if_neg (by omega), if_neg (by omega)]
def FillTo (w0 : World) (gi gin n s : Nat) (iv : Value) (w : World) : Prop := ∃ i : Nat, i ≤ n ∧ iv = .int .i64 i ∧ Hid (Blk w gi (bools (fillB n s i)) 4) ∧ Hid (Blk w gin [.slice (some ⟨gi, 0, none⟩) n n] 74) ∧ Hid (Ext w0 w)
theorem typ_bb : 4 ≠ 74 := by decide

/-- The number in a box. -/
def setAt (pv : Value) (w : World) : Nat := match pv with
  | .pointer (some a) => (match w.cell? a with
    | some v => (intOf v).toNat
    | none => 0)
  | _ => 0
theorem setAt_eq {w : World} {g : Nat} {z : Int} {t : TypeId} (h : Blk w g [.int .i64 z] t) : setAt (.pointer (some ⟨g, 0, none⟩)) w = z.toNat := by
  have e : w.cell? ⟨g, 0, none⟩ = some (.int .i64 z) := by rw [h.cell']; rfl
  show (match w.cell? ⟨g, 0, none⟩ with | some v => (intOf v).toNat | none => 0) = _
  rw [e]; rfl
/-- What it answers. -/
def BestV (E : List Int × Nat × Nat) (w' : World) (v : Value) : Prop := ∃ a c, v = .tuple #[.slice a E.1.length c, .float .f64 E.2.1, .int .i64 E.2.2] ∧ CellsAt w' a (ints E.1) ∧ E.1.length ≤ c ∧ c ≤ maxLen

open Classical in
set_option maxRecDepth 100000 in
set_option maxHeartbeats 8000000 in
theorem best_any (p : ByteArray) (hs : List TermZ) (ls : List LitZ) (ha : Option Addr) (hn hcap : Nat) (ba : Option Addr) (n bcap : Nat) (S : List StatZ) (sa : Option Addr) (sn scap : Nat) (w : World) (G : Nat → Prop) (hhn : hn = hs.length) (hh : TermsAt w G ha hs) (hhl : hn ≤ 1048576) (hbn : n = ls.length) (h : LitsAt w G ba ls) (hf : Fit ls)
    (hsn : sn = S.length) (hsc : sn ≤ scap) (hS : StatsAt w sa S) (hSf : StatsFit S) :
    Calls Try.prog 25 #[ruleV p ha hn hcap ba n bcap, .slice sa sn scap] w (RetN w (BestV (bestE ((p, hs, ()), ls, ()) S))) := by
  obtain ⟨e, ee⟩ : ∃ e, e = errR ((p, hs, ()), ls, ()) S := ⟨_, rfl⟩
  have hl : n ≤ 1048576 := by have := hf.len; omega
  have HBo := Lib.hid (fun (W : World) (hW : Ext w W) => bodyOf_any p hs ls ha hn hcap ba n bcap S sa sn scap W G hhn (hh.ext hW) hhl hbn (h.ext hW) hf hsn hsc (hS.ext hW) hSf)
  have HStands := Lib.hid (fun (gb : Nat) (inn : List Bool) (ia : Option Addr) (icap : Nat) (W : World) (hB : BodyAt W gb S ls) (hin : inn.length = n) (hI : CellsAt W ia (bools inn)) => stands_any gb S ls n inn ia icap W hbn hl (varsL_fit hf) hB hin hI)
  have HG := Lib.hid (fun (he : e = 0) (gb : Nat) (inn : List Bool) (ia : Option Addr) (icap : Nat) (W : World) (hB : BodyAt W gb S ls) (hin : inn.length = n) (hI : CellsAt W ia (bools inn)) => guess_any gb S ls n inn ia icap W hbn hf (Known.of (errR_zero (ee.symm.trans he)).2) hB hin hI)
  have EE := Lib.hid ee
  have HN := Lib.hid hbn
  clear hhn hh hbn h hf hsn hS hSf ee
  go_enter Try.func25, Try.ntmps25
  go_wp2_with fail
  obtain ⟨wb, eb⟩ : ∃ wb, w.alloc (.cells #[.string p, .slice ha hn hcap, .slice ba n bcap] 27) = wb := ⟨_, rfl⟩
  rw [eb]
  have HB := Lib.hid (Blk.new w [.string p, .slice ha hn hcap, .slice ba n bcap] 27)
  have HX := Lib.hid ((Kp.refl (F := fun _ => False) w).alloc (.cells #[.string p, .slice ha hn hcap, .slice ba n bcap] 27))
  have eb2 : w.alloc (.cells [Value.string p, .slice ha hn hcap, .slice ba n bcap].toArray 27) = wb := eb
  rw [eb2] at HB
  rw [eb] at HX
  clear eb eb2
  refine (HBo.out _ HX.out).mono ?_
  rintro e1 w1 ⟨v, rfl, hk1, hbv⟩
  have X1 := Lib.hid (HX.out.trans hk1)
  have HBr := Lib.hid (HB.out.ext hk1)
  have r2 : w1.cell? ⟨w.heap.size, 2, none⟩ = some (.slice ba n bcap) := by rw [HBr.out.cell']; rfl
  clear hk1 HX HB
  by_cases he : e = 0
  · obtain ⟨gb, rfl, _, hB⟩ := hbv.yes (EE.out.symm.trans he)
    have HB := Lib.hid hB
    have HE := Lib.hid (EE.out.symm.trans he)
    have HK := Lib.hid (Known.of (errR_zero HE.out).2)
    have HG2 := Lib.hid (HG.out he gb)
    have HSt2 := Lib.hid (HStands.out gb)
    clear hbv hB he HG HStands
    by_cases hn12 : 12 < n
    · have HL := Lib.hid hn12
      go_wp2
      go_ret3
      exact RetN.mk X1.out (by rw [bestE_long HE.out (by rw [HN.out] at hn12; exact hn12)]; exact ⟨none, 0, rfl, CellsAt.nil _ _, Nat.le_refl _, by unfold maxLen; omega⟩)
    · have hn13 : n ≤ 12 := by omega
      have hnle : (n : Int) ≤ 12 := by omega
      obtain ⟨N, eN⟩ : ∃ N, N = 2 ^ n := ⟨_, rfl⟩
      have hN1 : N ≤ 4096 := by rw [eN]; exact pow_le (Nat.le_refl 12) hn13
      have hN0 : 1 ≤ N := by rw [eN]; exact Nat.two_pow_pos n
      have hw1 : IntKind.i64.wrap ((2 : Int) ^ n) = (N : Int) := by rw [wrap_pow hn13, eN, Int.natCast_pow]; rfl
      have HNN := Lib.hid eN
      have hmk := run_make_row' (P := Try.prog) 99 92 (.pointer none) 8 Try.underlying99 (by kernel_rfl) rfl .i64 .i64 N (by omega) (by omega)
      obtain ⟨wA, eA⟩ : ∃ wA, w1.alloc (.cells (madeCells #[.pointer none] N) 92) = wA := ⟨_, rfl⟩
      have hA : Blk wA w1.heap.size (List.replicate N (.pointer none)) 92 := by rw [← eA]; exact blk_made w1 _ N _
      have xA : Ext w1 wA := by rw [← eA]; exact (Kp.refl w1).alloc _
      obtain ⟨wB, eB⟩ : ∃ wB, wA.alloc (.cells #[.slice (some ⟨w1.heap.size, 0, none⟩) N N] 99) = wB := ⟨_, rfl⟩
      have hB0 : Blk wB wA.heap.size [.slice (some ⟨w1.heap.size, 0, none⟩) N N] 99 := by rw [← eB]; exact Blk.new wA _ _
      have xB : Ext wA wB := by rw [← eB]; exact (Kp.refl wA).alloc _
      obtain ⟨wC, eC⟩ : ∃ wC, wB.alloc (.cells #[.slice none 0 0, .float .f64 0] 95) = wC := ⟨_, rfl⟩
      have hC : Blk wC wB.heap.size [.slice none 0 0, .float .f64 0] 95 := by rw [← eC]; exact Blk.new wB _ _
      have xC : Ext wB wC := by rw [← eC]; exact (Kp.refl wB).alloc _
      obtain ⟨wD, eD⟩ : ∃ wD, wC.setCell ⟨w1.heap.size, 0, none⟩ (.pointer (some ⟨wB.heap.size, 0, none⟩)) = wD := ⟨_, rfl⟩
      obtain ⟨wE, eE⟩ : ∃ wE, wD.alloc (.cells #[.int .i64 1] 3) = wE := ⟨_, rfl⟩
      have hT0 : TabAt wC w1.heap.size N 0 S ls := ⟨List.replicate N (.pointer none), List.length_replicate, (hA.ext xB).ext xC, fun u v hu => by
        rw [List.getElem?_replicate] at hu
        split at hu
        · cases hu; rw [if_neg (by omega)]; rfl
        · cases hu⟩
      have hT1 : TabAt wD w1.heap.size N 1 S ls := by
        rw [← eD]
        refine hT0.set ?_
        rw [plan_eq]
        show OptAt wC _ _ (rowP S ls (planS S ls) 0)
        unfold rowP
        rw [if_pos rfl]
        exact ⟨_, rfl, .slice none 0 0, hC, Row.nil _ _ _ _⟩
      have xD : Ext w1 wD := by rw [← eD]; exact Kp.setCell (F := fun _ => False) ((xA.trans xB).trans xC) (fun h => by simp only at h; omega) _
      have xE : Ext wD wE := by rw [← eE]; exact (Kp.refl wD).alloc _
      have hDpl : Blk wD wA.heap.size [.slice (some ⟨w1.heap.size, 0, none⟩) N N] 99 := by
        rw [← eD]
        exact (hB0.ext xC).other (fun h => by
          have : wA.heap.size = w1.heap.size := h
          have h1 := hA.lt
          omega) _
      have hEset : Blk wE wD.heap.size [.int .i64 1] 3 := by rw [← eE]; exact Blk.new wD _ _
      have HSt := Lib.hid (show BestSt w1 wE w1.heap.size wA.heap.size wD.heap.size N 1 S ls from ⟨xD.trans xE, hDpl.ext xE, hEset, hT1.ext xE, Nat.le_refl _⟩)
      have c1 : wC.cell? ⟨wA.heap.size, 0, none⟩ = some (.slice (some ⟨w1.heap.size, 0, none⟩) N N) := by rw [(hB0.ext xC).cell']; rfl
      have c0 : wB.cell? ⟨wA.heap.size, 0, none⟩ = some (.slice (some ⟨w1.heap.size, 0, none⟩) N N) := by rw [hB0.cell']; rfl
      have c2 : wC.cell? ⟨w1.heap.size, 0, none⟩ = some (.pointer none) := by
        rw [((hA.ext xB).ext xC).cell', List.getElem?_replicate, if_pos (by omega)]
      have c3 := ((hA.ext xB).ext xC).free 0
      clear hA xA hB0 xB hC xC hT0 hT1 xD xE hDpl hEset eN
      go_wp2
--BODY
      obtain ⟨gp, egp⟩ : ∃ g, g = w1.heap.size := ⟨_, rfl⟩
      obtain ⟨gpl, egpl⟩ : ∃ g, g = wA.heap.size := ⟨_, rfl⟩
      obtain ⟨gs0, egs⟩ : ∃ g, g = wD.heap.size := ⟨_, rfl⟩
      rw [← egp, ← egpl, ← egs] at HSt
      rw [← egp, ← egpl, ← egs]
      clear c0 c1 c2 c3 eA eB eC eD eE egp egpl egs hmk hw1 r2
      go_loopw [11] (fun pv wr => BestTo w1 gp gpl N S ls pv wr) (fun pv wr => N - setAt pv wr)
      case atStart => exact ⟨1, gs0, Nat.le_refl _, hN0, rfl, HSt⟩
      case round =>
        clear HSt
        obtain ⟨s, gset, hs1, hsN, rfl, hst⟩ := hrel
        have s0 : wr.cell? ⟨gset, 0, none⟩ = some (.int .i64 s) := by rw [hst.out.set.cell']; rfl
        have p0 : wr.cell? ⟨gpl, 0, none⟩ = some (.slice (some ⟨gp, 0, none⟩) N N) := by rw [hst.out.pl.cell']; rfl
        have HMr := Lib.hid (setAt_eq hst.out.set)
        by_cases hlt : s < N
        · have hltI : (s : Int) < (N : Int) := by omega
          have hmk2 := run_make_row' (P := Try.prog) 74 4 (.bool false) 1 Try.underlying74 (by kernel_rfl) rfl .i64 .i64 n (by omega) (by omega)
          obtain ⟨wF, eF⟩ : ∃ wF, wr.alloc (.cells (madeCells #[.bool false] n) 4) = wF := ⟨_, rfl⟩
          have hF : Blk wF wr.heap.size (List.replicate n (.bool false)) 4 := by rw [← eF]; exact blk_made wr _ n _
          have xF : Ext wr wF := by rw [← eF]; exact (Kp.refl wr).alloc _
          obtain ⟨wH, eH⟩ : ∃ wH, wF.alloc (.cells #[.slice (some ⟨wr.heap.size, 0, none⟩) n n] 74) = wH := ⟨_, rfl⟩
          have hH : Blk wH wF.heap.size [.slice (some ⟨wr.heap.size, 0, none⟩) n n] 74 := by rw [← eH]; exact Blk.new wF _ _
          have xH : Ext wF wH := by rw [← eH]; exact (Kp.refl wF).alloc _
          have h0 : wH.cell? ⟨wF.heap.size, 0, none⟩ = some (.slice (some ⟨wr.heap.size, 0, none⟩) n n) := by rw [hH.cell']; rfl
          obtain ⟨gi, egi⟩ : ∃ g, g = wr.heap.size := ⟨_, rfl⟩
          obtain ⟨gin, egin⟩ : ∃ g, g = wF.heap.size := ⟨_, rfl⟩
          have HFi := Lib.hid (show Blk wH gi (bools (fillB n s 0)) 4 ∧ Blk wH gin [.slice (some ⟨gi, 0, none⟩) n n] 74 ∧ Ext wr wH ∧ wr.heap.size ≤ gi from ⟨by rw [fill_zero, bools_rep, egi]; exact hF.ext xH, by rw [egi, egin]; exact hH, xF.trans xH, by rw [egi]; exact Nat.le_refl _⟩)
          clear hF xF hH xH
          go_wp2
          rw [← egi, ← egin]
          clear eF eH h0 egi egin hmk2 s0 p0
          generalize hw5 : wr = w5 at *
          have HW5 := Lib.hid hw5
          clear hw5
          go_loopw [49] (fun iv wk => FillTo w5 gi gin n s iv wk) (fun iv _ => n - (intOf iv).toNat)
          case atStart => exact ⟨0, Nat.zero_le _, rfl, HFi.out.1, HFi.out.2.1, HFi.out.2.2.1⟩
          case round =>
            obtain ⟨i, hi, rfl, hbl, hgin, hex⟩ := hrel
            have g0 : wr.cell? ⟨gin, 0, none⟩ = some (.slice (some ⟨gi, 0, none⟩) n n) := by rw [hgin.out.cell']; rfl
            by_cases hlt2 : i < n
            · obtain ⟨bb, ebb⟩ : ∃ bb, s.testBit i = bb := ⟨_, rfl⟩
              have hand := and_bit (s := s) (i := i) (by omega)
              obtain ⟨bz, ebz⟩ : ∃ bz : Int, (if s.testBit i = true then (1 : Int) else 0) = bz := ⟨_, rfl⟩
              have q1 : (bz == 1) = bb := by rw [← ebz, ← ebb]; cases s.testBit i <;> rfl
              have q2 : decide (bz = 1) = bb := by rw [← ebz, ← ebb]; cases s.testBit i <;> rfl
              rw [ebz] at hand
              have hi64 : (i : Int) ≤ 64 := by omega
              have s0 := hex.out.cell (show w5.cell? ⟨gset, 0, none⟩ = some (.int .i64 s) by rw [hst.out.set.cell']; rfl) id
              have b0 : ∃ y, wr.cell? ⟨gi, i, none⟩ = some (.bool y) := by
                have h1 : i < (fillB n s i).length := by rw [fill_len hi]; exact hlt2
                exact ⟨_, by rw [hbl.out.cell']; simp [bools, h1]; rfl⟩
              obtain ⟨y, b0⟩ := b0
              have b1 := hbl.out.free i
              have HJ := Lib.hid (show ∀ w', Ext wr w' → (fun w' : World => w'.cell? ⟨gin, 0, none⟩ = some (.slice (some ⟨gi, 0, none⟩) n n) ∧ w'.cell? ⟨gset, 0, none⟩ = some (.int .i64 s)) w' from fun w' hw => ⟨hw.cell g0 id, hw.cell s0 id⟩)
              obtain ⟨w7, e7⟩ : ∃ x, wr.setCell ⟨gi, i, none⟩ (.bool bb) = x := ⟨_, rfl⟩
              have h7 : Blk w7 gi (bools (fillB n s (i + 1))) 4 := by
                have h := hbl.out.set i (.bool bb)
                rw [e7] at h
                have e : (bools (fillB n s i)).set i (.bool bb) = bools (fillB n s (i + 1)) := by
                  rw [← fill_succ hlt2, ebb]; simp [bools, List.map_set]
                rw [e] at h; exact h
              have h7n : Blk w7 gin [.slice (some ⟨gi, 0, none⟩) n n] 74 := by
                rw [← e7]
                exact hgin.out.other (fun h => typ_bb (blk_ne hbl.out (by rw [← show gin = gi from h]; exact hgin.out))) _
              have h7x : Ext w5 w7 := by rw [← e7]; exact Kp.setCell (F := fun _ => False) hex.out (fun h => by have := HFi.out.2.2.2; simp only at h; omega) _
              have HFin := Lib.hid (And.intro h7.drew (And.intro h7n.drew h7x.drew))
              clear h7 h7n h7x ebb ebz g0 s0 hst
              go_wp2
              refine draw_begin (fun w' : World => w'.cell? ⟨gin, 0, none⟩ = some (.slice (some ⟨gi, 0, none⟩) n n) ∧ w'.cell? ⟨gset, 0, none⟩ = some (.int .i64 s)) [8] (by kernel_rfl) (HJ.out _ (Kp.refl wr).drew) (fun hHeld => ?_)
              (refine draw_in (i := 0) (v := ?_) rfl ?_ ?_; rotate_left; (intro w hSw; (try dsimp only at hSw); go_simp; try with_reducible rfl)); (try simp only [Act.put, List.setIfInBounds_toArray, List.set_cons_zero, List.set_cons_succ])
              (refine draw_free (i := 1) (v := ?_) rfl ?_ ?_; rotate_left; (intro w; go_simp; try with_reducible rfl)); (try simp only [Act.put, List.setIfInBounds_toArray, List.set_cons_zero, List.set_cons_succ])
              (refine draw_in (i := 2) (v := ?_) rfl ?_ ?_; rotate_left; (intro w hSw; (try dsimp only at hSw); go_simp; try with_reducible rfl)); (try simp only [Act.put, List.setIfInBounds_toArray, List.set_cons_zero, List.set_cons_succ])
              (refine draw_free (i := 3) (v := ?_) rfl ?_ ?_; rotate_left; (intro w; go_simp; try with_reducible rfl)); (try simp only [Act.put, List.setIfInBounds_toArray, List.set_cons_zero, List.set_cons_succ])
              (refine draw_free (i := 4) (v := ?_) rfl ?_ ?_; rotate_left; (intro w; go_simp; try with_reducible rfl)); (try simp only [Act.put, List.setIfInBounds_toArray, List.set_cons_zero, List.set_cons_succ])
              (refine draw_free (i := 5) (v := ?_) rfl ?_ ?_; rotate_left; (intro w; go_simp; try with_reducible rfl)); (try simp only [Act.put, List.setIfInBounds_toArray, List.set_cons_zero, List.set_cons_succ])
              (refine draw_free (i := 6) (v := ?_) rfl ?_ ?_; rotate_left; (intro w; go_simp; try with_reducible rfl)); (try simp only [Act.put, List.setIfInBounds_toArray, List.set_cons_zero, List.set_cons_succ])
              (refine draw_in (i := 7) (v := ?_) rfl ?_ ?_; rotate_left; (intro w hSw; (try dsimp only at hSw); go_simp; try with_reducible rfl)); (try simp only [Act.put, List.setIfInBounds_toArray, List.set_cons_zero, List.set_cons_succ])
              refine draw_one (i := 8) ?_
              refine comes_late (i := 8) rfl (by kernel_rfl) (fun K hK => ?_)
              go_simp
              refine hK.out _ _ ?_
              clear hK K; (try simp only [Act.put, List.setIfInBounds_toArray, List.set_cons_zero, List.set_cons_succ])
              refine wpAnyD_done (by kernel_rfl) ?_ _
              clear hHeld HJ
              go_wp2
              clear e7 b0 b1 hand q1 q2
              go_roundw
              case rel => exact ⟨i + 1, by omega, by first | rfl | (congr 1; done) | (congr 1; omega), HFin.out.1, HFin.out.2.1, HFin.out.2.2⟩
              case measure => simp [intOf]; omega
            · obtain rfl : i = n := by omega
              have hbits := hbl.out
              rw [fill_all] at hbits
              have HI := Lib.hid (show CellsAt wr (some ⟨gi, 0, none⟩) (bools (bitsS i s)) from CellsAt.pre (rest := []) (by rw [List.append_nil]; exact hbits))
              have HX1 := Lib.hid (hst.out.ext.trans hex.out)
              have HPl := Lib.hid (hst.out.pl.ext hex.out)
              have HSetB := Lib.hid (hst.out.set.ext hex.out)
              have HTab := Lib.hid (hst.out.tab.ext hex.out)
              have HNew := Lib.hid hst.out.new
              clear hbits hst hbl HFi
              go_wp2_with fail
              refine (HSt2.out (bitsS i s) _ i wr (HB.out.ext HX1.out) (bits_len _ _) HI.out).mono ?_
              rintro e1 w6 ⟨v, rfl, hk6, rfl⟩
              replace HX1 := Lib.hid (HX1.out.trans hk6)
              replace HPl := Lib.hid (HPl.out.ext hk6)
              replace HSetB := Lib.hid (HSetB.out.ext hk6)
              replace HTab := Lib.hid (HTab.out.ext hk6)
              replace HI := Lib.hid (HI.out.ext hk6)
              have HGin := Lib.hid (hgin.out.ext hk6)
              clear hk6 hgin hex g0
              have HRow := Lib.hid (plan_row (S := S) (ls := ls) (s := s) (by omega))
              by_cases hstand : stands ls (bitsS i s)
              · have hd : decide (stands ls (bitsS i s)) = true := decide_eq_true hstand
                rw [hd]
                have HPlan := Lib.hid (HRow.out.1 (by rw [← HN.out]; exact hstand))
                clear hd hstand HRow
                have g1 : w6.cell? ⟨gin, 0, none⟩ = some (.slice (some ⟨gi, 0, none⟩) i i) := by rw [HGin.out.cell']; rfl
                go_wp2_with fail
                refine (HG2.out (bitsS i s) _ i w6 (HB.out.ext HX1.out) (bits_len _ _) HI.out).mono ?_
                rintro e1 wg ⟨v, rfl, hkg, rfl⟩
                obtain ⟨g, eg⟩ : ∃ g, guessW S ls (bitsS i s) = g := ⟨_, rfl⟩
                rw [eg]
                have hgl : g ≤ infW := by rw [← eg]; exact guessW_le HK.out _
                obtain ⟨wG, eG⟩ : ∃ x, wg.alloc (.cells #[.float .f64 g] 37) = x := ⟨_, rfl⟩
                obtain ⟨ggu, eggu⟩ : ∃ x, x = wg.heap.size := ⟨_, rfl⟩
                have HGu := Lib.hid (show Blk wG ggu [.float .f64 g] 37 by rw [← eG, eggu]; exact Blk.new wg _ _)
                have hxG : Ext w6 wG := by rw [← eG]; exact hkg.alloc _
                replace HX1 := Lib.hid (HX1.out.trans hxG)
                replace HPl := Lib.hid (HPl.out.ext hxG)
                replace HSetB := Lib.hid (HSetB.out.ext hxG)
                replace HTab := Lib.hid (HTab.out.ext hxG)
                replace HI := Lib.hid (HI.out.ext hxG)
                replace HGin := Lib.hid (HGin.out.ext hxG)
                rw [show guessW S ls (bitsS ls.length s) = g from by rw [← HN.out]; exact eg] at HPlan
                have HPOk := Lib.hid (fun (u : Nat) (pp : Plan) (_ : u < s) (hp : planS S ls u = some pp) => And.intro (plan_ok HK.out u pp hp).1 (Nat.le_trans (plan_len HK.out hp) (by rw [← HN.out]; exact hn13)))
                have HCOk := Lib.hid (fun (j : Nat) (pp : Plan) (hj : j < i) (hp : candP (planS S ls) g s j = some pp) => cand_ok HK.out (by rw [← HN.out]; exact hj) (fun u p _ => plan_ok HK.out u p) hgl hp)
                have HGL := Lib.hid hgl
                have HMade := Lib.hid (show MadeT 45 #[] #[.pointer (some ⟨gin, 0, none⟩), .pointer (some ⟨gpl, 0, none⟩), .pointer (some ⟨gset, 0, none⟩), .pointer (some ⟨ggu, 0, none⟩)] (fun W => Ext wG W) (fun _ => False) i (candP (planS S ls) g s) from
                  ⟨enters_of Try.func45 (by kernel_rfl) rfl, fun W _ => noPlan_none W, fun W W' h h' => h.trans h', fun W hW j hj =>
                    (bestMade_any S ls i N s j g gin gi gpl gp gset ggu 0 W hn13 hj hlt hN1 (HGin.out.ext hW) (HI.out.ext hW) (HPl.out.ext hW) (HSetB.out.ext hW) (HGu.out.ext hW) (HTab.out.ext hW) HGL.out HPOk.out).mono fun e1 w' ⟨v, h1, h2, h3⟩ => ⟨v, h1, hW.trans h2, h2, h3⟩⟩)
                have p1 : wG.cell? ⟨gpl, 0, none⟩ = some (.slice (some ⟨gp, 0, none⟩) N N) := by rw [HPl.out.cell']; rfl
                have s1 : wG.cell? ⟨gset, 0, none⟩ = some (.int .i64 s) := by rw [HSetB.out.cell']; rfl
                have HJ := Lib.hid (show ∀ w', Ext wG w' → (fun w' : World => w'.cell? ⟨gpl, 0, none⟩ = some (.slice (some ⟨gp, 0, none⟩) N N) ∧ w'.cell? ⟨gset, 0, none⟩ = some (.int .i64 s)) w' from fun w' hw => ⟨hw.cell p1 id, hw.cell s1 id⟩)
                have hil : i ≤ 1048576 := hl
                have HLen := Lib.hid (show (bitsS ls.length s).countP id ≤ 1048576 from Nat.le_trans List.countP_le_length (by rw [bits_len, ← HN.out]; exact hl))
                clear hkg eg hgl hxG g1
                go_wp2
                rw [← eggu]
                clear eG eggu p1 s1
                refine draw_begin (fun w' : World => w'.cell? ⟨gpl, 0, none⟩ = some (.slice (some ⟨gp, 0, none⟩) N N) ∧ w'.cell? ⟨gset, 0, none⟩ = some (.int .i64 s)) [6] (by kernel_rfl) (HJ.out _ (Kp.refl wG).drew) (fun hHeld => ?_)
                (refine draw_in (i := 0) (v := ?_) rfl ?_ ?_; rotate_left; (intro w hSw; (try dsimp only at hSw); go_simp; try with_reducible rfl)); (try simp only [Act.put, List.setIfInBounds_toArray, List.set_cons_zero, List.set_cons_succ])
                (refine draw_in (i := 1) (v := ?_) rfl ?_ ?_; rotate_left; (intro w hSw; (try dsimp only at hSw); go_simp; try with_reducible rfl)); (try simp only [Act.put, List.setIfInBounds_toArray, List.set_cons_zero, List.set_cons_succ])
                (refine draw_free (i := 2) (v := ?_) rfl ?_ ?_; rotate_left; (intro w; go_simp; try with_reducible rfl)); (try simp only [Act.put, List.setIfInBounds_toArray, List.set_cons_zero, List.set_cons_succ])
                (refine draw_free (i := 3) (v := ?_) rfl ?_ ?_; rotate_left; (intro w; go_simp; try with_reducible rfl)); (try simp only [Act.put, List.setIfInBounds_toArray, List.set_cons_zero, List.set_cons_succ])
                refine draw_one (i := 4) ?_
                refine comes_turn (i := 4) rfl (fun K hK => ?_)
                go_simp
                (refine (leastOf_any 45 #[] _ (fun W => Ext wG W) (fun _ => False) i (candP (planS S ls) g s) _ _ ((Kp.refl wG).drew) HMade.out (fun j pp hj hp => HCOk.out j pp hj hp) HLen.out hil).mono ?_; rintro e1 w8 ⟨v8, rfl, hk8, _, ho8⟩; obtain ⟨q8, ev8⟩ : ∃ q, v8 = .pointer q := (by rcases OptAt.cases ho8 with ⟨ev, _⟩ | ⟨_, _, _, ev, _⟩ <;> exact ⟨_, ev⟩); subst ev8; have HK8 := Lib.hid (show Ext wG w8 from hk8); have HO8 := Lib.hid (show OptAt w8 (fun _ => True) (.pointer q8) (planS S ls s) from (by rw [HPlan.out, ← HN.out]; exact ho8.mono fun _ _ => trivial)); clear hk8 ho8)
                go_wp2_with fail
                refine hK.out _ _ ?_ (fun hHeld => ?_)
                · (try dsimp only); (exact HJ.out _ HK8.out)
                clear hK K; (try simp only [Act.put, List.setIfInBounds_toArray, List.set_cons_zero, List.set_cons_succ])
                (refine draw_in (i := 5) (v := ?_) rfl ?_ ?_; rotate_left; (intro w hSw; (try dsimp only at hSw); go_simp; try with_reducible rfl)); (try simp only [Act.put, List.setIfInBounds_toArray, List.set_cons_zero, List.set_cons_succ])
                refine draw_one (i := 6) ?_
                refine comes_late (i := 6) rfl (by kernel_rfl) (fun K hK => ?_)
                (obtain ⟨x8, hx8⟩ : ∃ x8, w8.cell? ⟨gp, s, none⟩ = some x8 := (by obtain ⟨vals, v1, v2, v3⟩ := HTab.out.ext HK8.out; exact ⟨vals[s]'(by omega), by rw [v2.cell']; exact List.getElem?_eq_getElem (by omega)⟩); have f8 : w8.frozen? ⟨gp, s, none⟩ = false := (by obtain ⟨vals, v1, v2, v3⟩ := HTab.out.ext HK8.out; exact v2.free s))
                go_simp
                refine hK.out _ _ ?_
                clear hK K; (try simp only [Act.put, List.setIfInBounds_toArray, List.set_cons_zero, List.set_cons_succ])
                refine wpAnyD_done (by kernel_rfl) ?_ _
                clear hHeld HJ HMade HPOk HCOk HI HGin HGu
                obtain ⟨w9, e9⟩ : ∃ x, w8.setCell ⟨gp, s, none⟩ (.pointer q8) = x := ⟨_, rfl⟩
                have hT9 : TabAt w9 gp N (s + 1) S ls := by rw [← e9]; exact (HTab.out.ext HK8.out).set HO8.out
                have hk9 : Kp (fun k => k = gp) w8 w9 := by rw [← e9]; exact Kp.setCell (F := fun k => k = gp) (Kp.refl w8) (fun _ => rfl) _
                have hx9 : Ext w1 w9 := by rw [← e9]; exact Kp.setCell (F := fun _ => False) (HX1.out.trans HK8.out) (fun h => by have := HNew.out; simp only at h; omega) _
                have hT8 := HTab.out.ext HK8.out
                replace HPl := Lib.hid (show Blk w9 gpl [.slice (some ⟨gp, 0, none⟩) N N] 99 from (HPl.out.ext HK8.out).kp hk9 fun h => by
                  obtain ⟨vals, v1, v2, v3⟩ := hT8
                  have h2 := HPl.out.ext HK8.out
                  rw [h] at h2
                  exact absurd (blk_ne h2 v2) (by decide))
                replace HSetB := Lib.hid (show Blk w9 gset [.int .i64 s] 3 from (HSetB.out.ext HK8.out).kp hk9 fun h => by
                  obtain ⟨vals, v1, v2, v3⟩ := hT8
                  have h2 := HSetB.out.ext HK8.out
                  rw [h] at h2
                  exact absurd (blk_ne h2 v2) (by decide))
                replace HX1 := Lib.hid hx9
                have HT9 := Lib.hid hT9
                first | rw [e9] | skip
                clear hT9 hk9 hx9 hT8 hx8 f8 HK8 HO8 HTab
                have s0 : w9.cell? ⟨gset, 0, none⟩ = some (.int .i64 s) := by rw [HSetB.out.cell']; rfl
                obtain ⟨wI, eI⟩ : ∃ wI, w9.alloc (.cells #[.int .i64 s] 3) = wI := ⟨_, rfl⟩
                have hI : Blk wI w9.heap.size [.int .i64 s] 3 := by rw [← eI]; exact Blk.new w9 _ _
                have xI : Ext w9 wI := by rw [← eI]; exact (Kp.refl w9).alloc _
                obtain ⟨wJ, eJ⟩ : ∃ wJ, wI.setCell ⟨w9.heap.size, 0, none⟩ (.int .i64 (s + 1)) = wJ := ⟨_, rfl⟩
                have hJ : Blk wJ w9.heap.size [.int .i64 (s + 1)] 3 := by rw [← eJ]; exact hI.set 0 _
                have xJ : Ext w9 wJ := by rw [← eJ]; exact Kp.setCell (F := fun _ => False) xI (fun h => by simp only at h; omega) _
                have i0 : wI.cell? ⟨w9.heap.size, 0, none⟩ = some (.int .i64 s) := by rw [hI.cell']; rfl
                have i1 := hI.free 0
                have i2 : IntKind.i64.wrap ((s : Int) + 1) = (s : Int) + 1 := IntWalk.i64_in _ (by omega)
                have HFin := Lib.hid (show BestSt w1 wJ gp gpl w9.heap.size N (s + 1) S ls from ⟨HX1.out.trans xJ, HPl.out.ext xJ, hJ, HT9.out.ext xJ, HNew.out⟩)
                have HMs := Lib.hid (setAt_eq hJ)
                clear hI xI hJ xJ
                go_wp2
                clear eI eJ i0 i1 i2 s0
                go_roundw
                case rel => exact ⟨s + 1, _, by omega, by omega, rfl, HFin⟩
                case measure =>
                  have h2 := HMs.out
                  have h3 := HMr.out
                  rw [show ((s : Int) + 1).toNat = s + 1 by omega] at h2
                  rw [Int.toNat_natCast] at h3
                  rw [HW5.out, h2, h3]
                  omega
              · have hd : decide (stands ls (bitsS i s)) = false := decide_eq_false hstand
                rw [hd]
                have HT9 := Lib.hid (HTab.out.skip (HRow.out.2 (by rw [← HN.out]; exact hstand)))
                clear hd hstand HRow HTab HI HGin
                have s0 : w6.cell? ⟨gset, 0, none⟩ = some (.int .i64 s) := by rw [HSetB.out.cell']; rfl
                obtain ⟨wI, eI⟩ : ∃ wI, w6.alloc (.cells #[.int .i64 s] 3) = wI := ⟨_, rfl⟩
                have hI : Blk wI w6.heap.size [.int .i64 s] 3 := by rw [← eI]; exact Blk.new w6 _ _
                have xI : Ext w6 wI := by rw [← eI]; exact (Kp.refl w6).alloc _
                obtain ⟨wJ, eJ⟩ : ∃ wJ, wI.setCell ⟨w6.heap.size, 0, none⟩ (.int .i64 (s + 1)) = wJ := ⟨_, rfl⟩
                have hJ : Blk wJ w6.heap.size [.int .i64 (s + 1)] 3 := by rw [← eJ]; exact hI.set 0 _
                have xJ : Ext w6 wJ := by rw [← eJ]; exact Kp.setCell (F := fun _ => False) xI (fun h => by simp only at h; omega) _
                have i0 : wI.cell? ⟨w6.heap.size, 0, none⟩ = some (.int .i64 s) := by rw [hI.cell']; rfl
                have i1 := hI.free 0
                have i2 : IntKind.i64.wrap ((s : Int) + 1) = (s : Int) + 1 := IntWalk.i64_in _ (by omega)
                have HFin := Lib.hid (show BestSt w1 wJ gp gpl w6.heap.size N (s + 1) S ls from ⟨HX1.out.trans xJ, HPl.out.ext xJ, hJ, HT9.out.ext xJ, HNew.out⟩)
                have HMs := Lib.hid (setAt_eq hJ)
                clear hI xI hJ xJ
                go_wp2
                clear eI eJ i0 i1 i2 s0
                go_roundw
                case rel => exact ⟨s + 1, _, by omega, by omega, rfl, HFin⟩
                case measure =>
                  have h2 := HMs.out
                  have h3 := HMr.out
                  rw [show ((s : Int) + 1).toNat = s + 1 by omega] at h2
                  rw [Int.toNat_natCast] at h3
                  rw [HW5.out, h2, h3]
                  omega
        · obtain rfl : s = N := by omega
          obtain ⟨pp, hpp⟩ := best_some (S := S) (errR_zero HE.out).1
          have hsm : s - 1 < s := by omega
          have HVal := Lib.hid (bestE_some HE.out (by rw [HN.out] at hn12; exact hn12) hpp)
          have eN2 : 2 ^ ls.length - 1 = s - 1 := by rw [← HN.out, HNN.out]
          have hpp' : planS S ls (s - 1) = some pp := by rw [← eN2]; exact hpp
          obtain ⟨x, cx, ox⟩ := hst.out.tab.get hsm hsm
          rw [hpp'] at ox
          obtain ⟨b, rfl, hpa⟩ := ox
          obtain ⟨oa, oc, d1, d2, d3, d4, d5⟩ := hpa.cells
          have i3 : IntKind.i64.wrap ((s : Int) - 1) = ((s - 1 : Nat) : Int) := by
            rw [show (s : Int) - 1 = ((s - 1 : Nat) : Int) by omega]
            exact IntWalk.i64_in _ (by omega)
          have i4 : ((s : Int) - 1) = ((s - 1 : Nat) : Int) := by omega
          have i5 : ((s : Int) - 1).toNat = s - 1 := by omega
          obtain ⟨m, em⟩ : ∃ m, m = pp.1.length := ⟨_, rfl⟩
          obtain ⟨pc, epc⟩ : ∃ pc, pc = pp.2 := ⟨_, rfl⟩
          rw [← em] at d1
          rw [← epc] at d2
          have HD := Lib.hid (And.intro d3 (And.intro d4 (And.intro d5 (And.intro em epc))))
          have HX := Lib.hid (X1.out.trans hst.out.ext)
          clear hpp hpp' hpa d3 d4 d5 em epc eN2 hst
          go_wp2
          go_quiet (fail)
          go_wp2
          go_ret3
          refine RetN.mk (HX.out.drewN _) ?_
          rw [HVal.out]
          obtain ⟨h1, h2, h3, h4, h5⟩ := HD.out
          refine ⟨oa, oc, ?_, h1.drewN _, h2, h3⟩
          rw [h4, h5]; rfl
--ENDBODY
  · have hv := hbv.no (fun q => he (EE.out.trans q))
    rw [← EE.out] at hv
    subst hv
    have b1 : ((e : Int) == 0) = false := by simp; omega
    have b2 : ((e : Int) != 0) = true := by simp; omega
    have HH := Lib.hid he
    clear he hbv
    go_wp2
    go_ret3
    exact RetN.mk X1.out (by rw [bestE_bad (fun q => HH.out (EE.out.trans q)), ← EE.out]; exact ⟨none, 0, rfl, CellsAt.nil _ _, Nat.le_refl _, by unfold maxLen; omega⟩)
end Go.Proofs.Ytcphalpcdcddpaa

/- The law of costs: what is known, as the program takes it, with marks behind the lists: stats. -/
namespace Go.Proofs.Ytcphalpcdcddpaa
open Go.RowKit
set_option linter.unusedVariables false
attribute [local go_sem] run_store_float

theorem elem_stat : ElemT Try.prog 35 56 3 48 (.agg #[.string ⟨#[]⟩, .float .f64 0, .slice none 0 0]) := ⟨by kernel_rfl, by kernel_rfl, rfl, by decide⟩
def markS : List Value := [.string ⟨#[109, 97, 114, 107]⟩, .float .f64 0, .slice none 0 0]
abbrev markF : Nat := 4649993003539103744
/-- A list of counts in a block of its own, with a mark behind it. -/
def DistM (w0 w : World) (x : StatZ × (Nat × Nat)) : Prop := ∃ rest, x.1.2.2.1.length + 1 ≤ x.2.2 ∧ x.2.2 ≤ maxLen ∧ w0.heap.size ≤ x.2.1 ∧ Blk w x.2.1 (flts (x.1.2.2.1 ++ [markF]) ++ rest) 37
def statM (x : StatZ × (Nat × Nat)) : List Value := [.string x.1.1, .float .f64 x.1.2.1, .slice (some ⟨x.2.1, 0, none⟩) x.1.2.2.1.length x.2.2]
theorem statM_len (x : StatZ × (Nat × Nat)) : (statM x).length = 3 := rfl
theorem DistM.kp {F : Nat → Prop} {w0 w w' : World} {x : StatZ × (Nat × Nat)} (h : DistM w0 w x) (hk : Kp F w w') (hf : ¬ F x.2.1) : DistM w0 w' x := by
  obtain ⟨rest, h1, h2, h3, h4⟩ := h
  exact ⟨rest, h1, h2, h3, h4.kp hk hf⟩
theorem DistM.ext {w0 w w' : World} {x : StatZ × (Nat × Nat)} (h : DistM w0 w x) (hk : Ext w w') : DistM w0 w' x := h.kp hk id
theorem DistM.blk {w0 w : World} {x : StatZ × (Nat × Nat)} (h : DistM w0 w x) : ∃ cs, Blk w x.2.1 cs 37 := by
  obtain ⟨rest, _, _, _, h4⟩ := h
  exact ⟨_, h4⟩
theorem DistM.at {w0 w : World} {x : StatZ × (Nat × Nat)} (h : DistM w0 w x) : CellsAt w (some ⟨x.2.1, 0, none⟩) (flts x.1.2.2.1) := by
  obtain ⟨rest, h1, h2, h3, h4⟩ := h
  have e : flts (x.1.2.2.1 ++ [markF]) ++ rest = flts x.1.2.2.1 ++ ([.float .f64 markF] ++ rest) := by simp [flts]
  rw [e] at h4
  exact CellsAt.pre h4
theorem DistM.mark {w0 w : World} {x : StatZ × (Nat × Nat)} (h : DistM w0 w x) : w.cell? ⟨x.2.1, x.1.2.2.1.length, none⟩ = some (.float .f64 markF) := by
  obtain ⟨rest, h1, h2, h3, h4⟩ := h
  rw [h4.cell']
  simp [flts]

/-- What is known, in memory of its own, with marks. -/
structure StatsM (w0 w : World) (g n cap : Nat) (S : List StatZ) : Prop where
  body : ∃ (rest : List Value) (vs : List (Nat × Nat)), n = S.length ∧ n + 1 ≤ cap ∧ cap ≤ maxLen ∧ w0.heap.size ≤ g ∧ vs.length = S.length ∧ (vs.map (·.1)).Nodup ∧ Blk w g ((S.zip vs).flatMap statM ++ (markS ++ rest)) 56 ∧ ∀ x ∈ S.zip vs, DistM w0 w x
theorem typ_fc : 37 ≠ 56 := by decide
theorem StatsM.kp {F : Nat → Prop} {w0 w w' : World} {g n cap : Nat} {S : List StatZ} (h : StatsM w0 w g n cap S) (hk : Kp F w w') (hg : ¬ F g) (hf : ∀ k cs, Blk w k cs 37 → ¬ F k) : StatsM w0 w' g n cap S := by
  obtain ⟨rest, vs, h1, h2, h3, h4, h5, h6, h7, h8⟩ := h.body
  exact ⟨rest, vs, h1, h2, h3, h4, h5, h6, h7.kp hk hg, fun x hx => by
    obtain ⟨cs, hb⟩ := (h8 x hx).blk
    exact (h8 x hx).kp hk (hf _ _ hb)⟩
theorem StatsM.ext {w0 w w' : World} {g n cap : Nat} {S : List StatZ} (h : StatsM w0 w g n cap S) (hk : Ext w w') : StatsM w0 w' g n cap S := h.kp hk id fun _ _ _ => id
theorem StatsM.old {w0 w1 w : World} {g n cap : Nat} {S : List StatZ} (h : StatsM w1 w g n cap S) (hs : w0.heap.size ≤ w1.heap.size) : StatsM w0 w g n cap S := by
  obtain ⟨rest, vs, h1, h2, h3, h4, h5, h6, h7, h8⟩ := h.body
  exact ⟨rest, vs, h1, h2, h3, Nat.le_trans hs h4, h5, h6, h7, fun x hx => by
    obtain ⟨r, a, b, c, d⟩ := h8 x hx
    exact ⟨r, a, b, Nat.le_trans hs c, d⟩⟩
theorem StatsM.at {w0 w : World} {g n cap : Nat} {S : List StatZ} (h : StatsM w0 w g n cap S) : StatsAt w (some ⟨g, 0, none⟩) S := fun i s hs => by
  obtain ⟨rest, vs, h1, h2, h3, h4, h5, h6, h7, h8⟩ := h.body
  have hv : i < vs.length := by rw [h5]; exact (List.getElem?_eq_some_iff.1 hs).1
  have hz : (S.zip vs)[i]? = some (s, vs[i]) := by rw [List.getElem?_zip_eq_some]; exact ⟨hs, List.getElem?_eq_getElem hv⟩
  have hd := h8 _ (List.mem_of_getElem? hz)
  have hb : ∀ c, c < 3 → w.cell? ⟨g, 0 + i * 3 + c, none⟩ = (statM (s, vs[i]))[c]? := fun c hc => by
    have hg := flat_get statM 3 statM_len (S.zip vs) i _ c hz hc
    have hlt : i * 3 + c < ((S.zip vs).flatMap statM).length := by
      rw [flat_len statM 3 statM_len, List.length_zip, h5, Nat.min_self]
      have := (List.getElem?_eq_some_iff.1 hs).1
      omega
    rw [h7.cell', Nat.zero_add, List.getElem?_append_left hlt, hg]
  obtain ⟨r, a, b, c, d⟩ := id hd
  refine ⟨g, 0, _, vs[i].2, rfl, hb 0 (by decide), hb 1 (by decide), hb 2 (by decide), ?_, b, hd.at⟩
  exact Nat.le_trans (Nat.le_succ _) a

def StatMTo (S : List StatZ) (w0 : World) (n : Nat) (iv ov : Value) (w : World) : Prop := ∃ i : Nat, i ≤ n ∧ iv = .int .i64 i ∧ Hid (∃ vs : List (Nat × Nat), vs.length = i ∧ (vs.map (·.1)).Nodup ∧ Row w 56 3 ov i (((S.take i).zip vs).flatMap statM) (New w0) ∧ ∀ x ∈ (S.take i).zip vs, DistM w0 w x) ∧ Hid (Ext w0 w)
def FltsTo (ds : List Nat) (w0 : World) (m : Nat) (kv dv : Value) (w : World) : Prop := ∃ k : Nat, k ≤ m ∧ kv = .int .i64 k ∧ Hid (Row w 37 1 dv k (flts (ds.take k)) (New w0)) ∧ Hid (Ext w0 w)
theorem nodup_snoc {xs : List Nat} {x : Nat} (h : xs.Nodup) (hx : ∀ y ∈ xs, y < x) : (xs ++ [x]).Nodup := by
  rw [List.nodup_append]
  refine ⟨h, by simp, ?_⟩
  intro a ha b hb
  rw [List.mem_singleton] at hb
  have := hx a ha
  omega

set_option maxRecDepth 100000 in
set_option maxHeartbeats 4000000 in
theorem stats_any (S : List StatZ) (ao : Option Addr) (n cap : Nat) (w : World) (hn : n = S.length) (h : KnownAt w ao S) (hf : StatsFit S) :
    Calls Try.prog 10 #[.slice ao n cap] w (RetN w fun w' v => ∃ g c, v = .slice (some ⟨g, 0, none⟩) n c ∧ StatsM w w' g n c S) := by
  have HN := Lib.hid hn
  have HK := Lib.hid h
  have HF := Lib.hid hf
  have hl : n ≤ 1048576 := by have := hf.len; omega
  have hq := frombits_run
  clear hn h hf
  go_enter Try.func10, Try.ntmps10
  go_wp2
  go_loopw [4, 3] (fun iv ov wr => StatMTo S w n iv ov wr) (fun iv _ _ => n - (intOf iv).toNat)
  case atStart => exact ⟨0, Nat.zero_le _, rfl, ⟨[], rfl, List.nodup_nil, Row.nil _ _ _ _, fun x hx => by simp at hx⟩, Kp.refl _⟩
  case round =>
    obtain ⟨i, hi, rfl, hin, hex⟩ := hrel
    by_cases hlt : i < n
    · obtain ⟨s, hs⟩ : ∃ s, S[i]? = some s := ⟨_, List.getElem?_eq_getElem (by rw [← HN.out]; exact hlt)⟩
      obtain ⟨b, off, da, dcap, eao, c0, c1, c2, d1, d2, d3⟩ := HK.out i s hs
      subst eao
      have hm : s.2.2.1.length ≤ 1048576 := HF.out.dist s (List.mem_of_getElem? hs)
      replace c0 := hex.out.cell c0 id
      replace c1 := hex.out.cell c1 id
      replace c2 := hex.out.cell c2 id
      have HD := Lib.hid (d3.ext hex.out)
      obtain ⟨p, ep⟩ : ∃ p, p = s.1 := ⟨_, rfl⟩
      obtain ⟨r, er⟩ : ∃ r, r = s.2.1 := ⟨_, rfl⟩
      obtain ⟨ds, eds⟩ : ∃ ds, ds = s.2.2.1 := ⟨_, rfl⟩
      obtain ⟨m, em⟩ : ∃ m, m = ds.length := ⟨_, rfl⟩
      rw [← ep] at c0
      rw [← er] at c1
      rw [← eds] at HD hm d1
      rw [← eds, ← em] at c2
      rw [← em] at hm d1
      have HS := Lib.hid (And.intro hs (And.intro ep (And.intro er eds)))
      have EM := Lib.hid em
      have HC2 := Lib.hid c2
      have HC0 := Lib.hid c0
      have HC1 := Lib.hid c1
      clear hs ep er eds em d3 c0 c1 c2
      go_wp2
      generalize hw5 : wr = w5 at *; clear hw5
      go_loopw [6, 5] (fun kv dv wk => FltsTo ds w5 m kv dv wk) (fun kv _ _ => m - (intOf kv).toNat)
      case atStart => exact ⟨0, Nat.zero_le _, rfl, Row.nil _ _ _ _, Kp.refl _⟩
      case round =>
        obtain ⟨j, hj, rfl, hr, hex2⟩ := hrel
        obtain ⟨ba, bc, edv, _, _⟩ := hr.out.shape
        subst edv
        have c2 := hex2.out.cell HC2.out id
        by_cases hlt2 : j < m
        · obtain ⟨x, hx⟩ : ∃ x, ds[j]? = some x := ⟨_, List.getElem?_eq_getElem (by rw [← EM.out]; exact hlt2)⟩
          obtain ⟨b2, off2, eda, e0⟩ := HD.out.word hx
          subst eda
          replace e0 := hex2.out.cell e0 id
          have HX := Lib.hid hx
          clear hx
          go_wp2_with (first | (at_builtin; refine Halted.out ?_))
          refine Halted.mk (wp_appN (m := 1) (n := j) elem_flt rfl _ _ rfl (hex2.out.alloc _) rfl (hr.out.alloc _) rfl (CellsAt.one wr (.float .f64 x) 37) (by rfl) (by simp [Value.oneCell']) (by omega) (by unfold maxLen; omega) ?_)
          intro v1 w6 hr1 hk1 hk2 _
          have e7 : flts (ds.take (j + 1)) = flts (ds.take j) ++ [.float .f64 x] := by rw [takeSnoc HX.out]; simp [flts]
          rw [← e7] at hr1
          have HR1 := Lib.hid hr1
          have HX1 := Lib.hid hk1
          clear e7 hr1 hk1 hk2 c2 e0
          go_wp2
          go_roundw
          case rel => exact ⟨j + 1, by omega, by first | rfl | (congr 1; done) | (congr 1; omega), HR1.out, HX1.out⟩
          case measure => simp [intOf]; omega
        · obtain rfl : j = m := by omega
          have hall : ds.take j = ds := List.take_of_length_le (by have := EM.out; omega)
          rw [hall] at hr
          go_wp2_with (first | (at_builtin; refine Halted.out ?_))
          refine Halted.mk (wp_appN (m := 1) (n := j) elem_flt rfl _ _ rfl (hex2.out.alloc _) rfl (hr.out.alloc _) rfl (CellsAt.one wr (.float .f64 markF) 37) (by rfl) (by simp [Value.oneCell']) (by omega) (by unfold maxLen; omega) ?_)
          intro v1 w6 hr1 hk1 hk2 _
          obtain ⟨h1, ⟨rfl, h0⟩ | ⟨gd, dc, rest, rfl, hM, hB, hlen, hnc, hcm⟩⟩ := hr1
          · omega
          have X6 := Lib.hid hk1
          have XX := Lib.hid (hex.out.trans hk1)
          have e8 : flts ds ++ [.float .f64 markF] = flts (ds ++ [markF]) := by simp [flts]
          rw [e8] at hB
          have HB := Lib.hid (And.intro hB (And.intro hnc (And.intro hcm (show w5.heap.size ≤ gd from hM))))
          have hcm2 : dc ≤ 9223372036854775807 := hcm
          have i1 : (j : Int) ≤ (dc : Int) := by omega
          have i2 : IntKind.i64.wrap (j : Int) = (j : Int) := IntWalk.i64_in _ (by omega)
          have c0 := hk1.cell HC0.out id
          have c1 := hk1.cell HC1.out id
          obtain ⟨vs, hvs, hnd, hrow, hds⟩ := hin.out
          obtain ⟨oa, oc, eov, _, _⟩ := hrow.shape
          subst eov
          have HV := Lib.hid (And.intro hvs (And.intro hnd hds))
          have HRo := Lib.hid (hrow.ext hk1)
          have HCells := Lib.hid (show ∀ w', Ext w6 w' → (fun w' : World => w'.cell? ⟨b, off + i * 3, none⟩ = some (.string p) ∧ w'.cell? ⟨b, off + i * 3 + 1, none⟩ = some (.int .u64 r)) w' from fun w' hw => ⟨hw.cell c0 id, hw.cell c1 id⟩)
          clear hall h1 hk1 hk2 hB hM hlen e8 hcm hvs hnd hrow hds hin c0 c1 c2
          go_wp2
          refine draw_begin (fun w' : World => w'.cell? ⟨b, off + i * 3, none⟩ = some (.string p) ∧ w'.cell? ⟨b, off + i * 3 + 1, none⟩ = some (.int .u64 r)) [19] (by kernel_rfl) (HCells.out _ (Kp.refl w6).drew) (fun hHeld => ?_)
          (refine draw_free (i := 0) (v := ?_) rfl ?_ ?_; rotate_left; (intro w; go_simp; try with_reducible rfl)); (try simp only [Act.put, List.setIfInBounds_toArray, List.set_cons_zero, List.set_cons_succ])
          (refine draw_free (i := 1) (v := ?_) rfl ?_ ?_; rotate_left; (intro w; go_simp; try with_reducible rfl)); (try simp only [Act.put, List.setIfInBounds_toArray, List.set_cons_zero, List.set_cons_succ])
          (refine draw_free (i := 2) (v := ?_) rfl ?_ ?_; rotate_left; (intro w; go_simp; try with_reducible rfl)); (try simp only [Act.put, List.setIfInBounds_toArray, List.set_cons_zero, List.set_cons_succ])
          (refine draw_in (i := 3) (v := ?_) rfl ?_ ?_; rotate_left; (intro w hSw; (try dsimp only at hSw); go_simp; try with_reducible rfl)); (try simp only [Act.put, List.setIfInBounds_toArray, List.set_cons_zero, List.set_cons_succ])
          (refine draw_free (i := 4) (v := ?_) rfl ?_ ?_; rotate_left; (intro w; go_simp; try with_reducible rfl)); (try simp only [Act.put, List.setIfInBounds_toArray, List.set_cons_zero, List.set_cons_succ])
          (refine draw_in (i := 5) (v := ?_) rfl ?_ ?_; rotate_left; (intro w hSw; (try dsimp only at hSw); go_simp; try with_reducible rfl)); (try simp only [Act.put, List.setIfInBounds_toArray, List.set_cons_zero, List.set_cons_succ])
          (refine draw_free (i := 6) (v := ?_) rfl ?_ ?_; rotate_left; (intro w; go_simp; try with_reducible rfl)); (try simp only [Act.put, List.setIfInBounds_toArray, List.set_cons_zero, List.set_cons_succ])
          (refine draw_free (i := 7) (v := ?_) rfl ?_ ?_; rotate_left; (intro w; go_simp; try with_reducible rfl)); (try simp only [Act.put, List.setIfInBounds_toArray, List.set_cons_zero, List.set_cons_succ])
          (refine draw_in (i := 8) (v := ?_) rfl ?_ ?_; rotate_left; (intro w hSw; (try dsimp only at hSw); go_simp; try with_reducible rfl)); (try simp only [Act.put, List.setIfInBounds_toArray, List.set_cons_zero, List.set_cons_succ])
          (refine draw_free (i := 9) (v := ?_) rfl ?_ ?_; rotate_left; (intro w; go_simp; try with_reducible rfl)); (try simp only [Act.put, List.setIfInBounds_toArray, List.set_cons_zero, List.set_cons_succ])
          (refine draw_in (i := 10) (v := ?_) rfl ?_ ?_; rotate_left; (intro w hSw; (try dsimp only at hSw); go_simp; try with_reducible rfl)); (try simp only [Act.put, List.setIfInBounds_toArray, List.set_cons_zero, List.set_cons_succ])
          (refine draw_free (i := 11) (v := ?_) rfl ?_ ?_; rotate_left; (intro w; go_simp; try with_reducible rfl)); (try simp only [Act.put, List.setIfInBounds_toArray, List.set_cons_zero, List.set_cons_succ])
          (refine draw_free (i := 12) (v := ?_) rfl ?_ ?_; rotate_left; (intro w; go_simp; try with_reducible rfl)); (try simp only [Act.put, List.setIfInBounds_toArray, List.set_cons_zero, List.set_cons_succ])
          (refine draw_free (i := 13) (v := ?_) rfl ?_ ?_; rotate_left; (intro w; go_simp; try with_reducible rfl)); (try simp only [Act.put, List.setIfInBounds_toArray, List.set_cons_zero, List.set_cons_succ])
          (refine draw_in (i := 14) (v := ?_) rfl ?_ ?_; rotate_left; (intro w hSw; (try dsimp only at hSw); go_simp; try with_reducible rfl)); (try simp only [Act.put, List.setIfInBounds_toArray, List.set_cons_zero, List.set_cons_succ])
          (refine draw_free (i := 15) (v := ?_) rfl ?_ ?_; rotate_left; (intro w; go_simp; try with_reducible rfl)); (try simp only [Act.put, List.setIfInBounds_toArray, List.set_cons_zero, List.set_cons_succ])
          (refine draw_in (i := 16) (v := ?_) rfl ?_ ?_; rotate_left; (intro w hSw; (try dsimp only at hSw); go_simp; try with_reducible rfl)); (try simp only [Act.put, List.setIfInBounds_toArray, List.set_cons_zero, List.set_cons_succ])
          (refine draw_free (i := 17) (v := ?_) rfl ?_ ?_; rotate_left; (intro w; go_simp; try with_reducible rfl)); (try simp only [Act.put, List.setIfInBounds_toArray, List.set_cons_zero, List.set_cons_succ])
          refine draw_one (i := 18) ?_
          refine comes_turn (i := 18) rfl (fun K hK => ?_)
          go_simp
          refine hK.out _ _ ?_ (fun hHeld => ?_)
          · (try dsimp only); (exact HCells.out _ ((Kp.refl w6).alloc _).drew)
          clear hK K; (try simp only [Act.put, List.setIfInBounds_toArray, List.set_cons_zero, List.set_cons_succ])
          refine draw_one (i := 19) ?_
          refine comes_late (i := 19) rfl (by kernel_rfl) (fun K hK => ?_)
          refine draw_appN elem_stat rfl _ _ rfl (XX.out.alloc _).drew rfl (HRo.out.alloc _).drew rfl (CellsAt.new w6 [.string p, .float .f64 r, .slice (some ⟨gd, 0, none⟩) j dc] 56) (by rfl) (by simp [Value.oneCell']) (by omega) (by unfold maxLen; omega) ?_; intro v2 w7 hr2 hk3 hk4
          refine hK.out _ _ ?_
          clear hK K; (try simp only [Act.put, List.setIfInBounds_toArray, List.set_cons_zero, List.set_cons_succ])
          (refine draw_free (i := 20) (v := ?_) rfl ?_ ?_; rotate_left; (intro w; go_simp; try with_reducible rfl)); (try simp only [Act.put, List.setIfInBounds_toArray, List.set_cons_zero, List.set_cons_succ])
          refine wpAnyD_done (by kernel_rfl) ?_ _
          have hk5 : Kp (fun g => (Value.slice oa i oc).ownBlock = some g) ((w6.alloc (.cells #[.string p, .float .f64 r, .slice (some ⟨gd, 0, none⟩) j dc] 56)).drew) w7 := hk4
          have HFin := Lib.hid (show ∃ vs : List (Nat × Nat), vs.length = i + 1 ∧ (vs.map (·.1)).Nodup ∧ Row w7 56 3 v2 (i + 1) (((S.take (i + 1)).zip vs).flatMap statM) (New w) ∧ ∀ x ∈ (S.take (i + 1)).zip vs, DistM w w7 x by
            have hlen : (S.take i).length = vs.length := by rw [List.length_take, HV.out.1]; have := HN.out; omega
            have et := takeSnoc HS.out.1
            have hkd : ∀ x, DistM w (w6.alloc (.cells #[.string p, .float .f64 r, .slice (some ⟨gd, 0, none⟩) j dc] 56)) x → DistM w w7 x := fun x hx => DistM.kp (w := (w6.alloc (.cells #[.string p, .float .f64 r, .slice (some ⟨gd, 0, none⟩) j dc] 56)).drew) (hx.ext (Kp.refl _).drew) hk5 fun e => by
              obtain ⟨cs, hb⟩ := (HRo.out.alloc _).blkOf e
              obtain ⟨cs', hb'⟩ := hx.blk
              exact typ_fc (blk_ne hb' hb)
            refine ⟨vs ++ [(gd, dc)], by rw [List.length_append, HV.out.1]; rfl, ?_, ?_, ?_⟩
            · rw [List.map_append]
              refine nodup_snoc HV.out.2.1 fun y hy => ?_
              obtain ⟨q, hq1, rfl⟩ := List.mem_map.1 hy
              obtain ⟨k, hk, ek⟩ := List.mem_iff_getElem.1 hq1
              have hz : ((S.take i).zip vs)[k]? = some ((S.take i)[k]'(by omega), q) := by
                rw [List.getElem?_zip_eq_some]
                exact ⟨List.getElem?_eq_getElem _, by rw [List.getElem?_eq_getElem hk, ek]⟩
              obtain ⟨cs, hb⟩ := (HV.out.2.2 _ (List.mem_of_getElem? hz)).blk
              exact Nat.lt_of_lt_of_le hb.lt HB.out.2.2.2
            · rw [et, List.zip_append hlen, List.flatMap_append]
              have e2 : (([s].zip [(gd, dc)]).flatMap statM) = [.string p, .float .f64 r, .slice (some ⟨gd, 0, none⟩) j dc] := by
                show statM (s, (gd, dc)) ++ [] = _
                rw [List.append_nil, HS.out.2.1, HS.out.2.2.1, EM.out, HS.out.2.2.2]; rfl
              rw [e2]; exact hr2
            · intro x hx
              rw [et, List.zip_append hlen, List.mem_append] at hx
              rcases hx with hx | hx
              · exact hkd _ ((HV.out.2.2 x hx).ext (X6.out.alloc _))
              · simp at hx; subst hx
                refine hkd _ ⟨rest, ?_, HB.out.2.2.1, Nat.le_trans hex.out.size HB.out.2.2.2, ?_⟩
                · show s.2.2.1.length + 1 ≤ dc
                  rw [← HS.out.2.2.2, ← EM.out]; exact HB.out.2.1
                · show Blk _ gd (flts (s.2.2.1 ++ [markF]) ++ rest) _
                  rw [← HS.out.2.2.2]; exact HB.out.1.alloc _)
          have HX7 := Lib.hid hk3
          clear hr2 hk3 hk4 hk5 hHeld
          go_wp2
          go_roundw
          case rel => exact ⟨i + 1, by omega, by first | rfl | (congr 1; done) | (congr 1; omega), HFin.out, HX7.out⟩
          case measure => simp [intOf]; omega
    · obtain rfl : i = n := by omega
      obtain ⟨vs, hvs, hnd, hrow, hds⟩ := hin.out
      have hall : S.take i = S := List.take_of_length_le (by have := HN.out; omega)
      rw [hall] at hrow hds
      obtain ⟨oa, oc, eov, _, _⟩ := hrow.shape
      subst eov
      have HV := Lib.hid (And.intro hvs (And.intro hnd hds))
      have HRo := Lib.hid hrow
      clear hvs hnd hrow hds hin hall
      go_wp2_with (first | (at_builtin; refine Halted.out ?_))
      refine Halted.mk (wp_appN (m := 1) (n := i) elem_stat rfl _ _ rfl (hex.out.alloc _) rfl (HRo.out.alloc _) rfl (CellsAt.new wr markS 56) (by rfl) (by simp [Value.oneCell', markS]) (by omega) (by unfold maxLen; omega) ?_)
      intro v2 w7 hr2 hk3 hk4 _
      have hkd : ∀ x ∈ S.zip vs, DistM w w7 x := fun x hx => by
        have h := (HV.out.2.2 x hx).ext ((Kp.refl wr).alloc (.cells markS.toArray 56))
        refine h.kp hk4 fun e => ?_
        obtain ⟨cs, hb⟩ := (HRo.out.alloc _).blkOf e
        obtain ⟨cs', hb'⟩ := h.blk
        exact typ_fc (blk_ne hb' hb)
      have HKD := Lib.hid hkd
      have X7 := Lib.hid hk3
      obtain ⟨h1, ⟨rfl, h0⟩ | ⟨g, cap2, rest, rfl, hM, hB, hlen, hnc, hcm⟩⟩ := hr2
      · omega
      · have hcm2 : cap2 ≤ 9223372036854775807 := hcm
        have i1 : (i : Int) ≤ (cap2 : Int) := by omega
        have i2 : ((i : Int) + 1 - 1) = (i : Int) := by omega
        have HBB := Lib.hid (And.intro hnc (And.intro hcm (And.intro hM hB)))
        clear h1 hk3 hk4 hkd hB hM hlen hcm
        go_wp2
        go_ret
        refine RetN.mk X7.out ⟨_, _, rfl, rest, vs, HN.out, HBB.out.1, HBB.out.2.1, HBB.out.2.2.1, HV.out.1.trans HN.out, HV.out.2.1, ?_, HKD.out⟩
        have h := HBB.out.2.2.2
        rw [List.append_assoc] at h
        exact h
end Go.Proofs.Ytcphalpcdcddpaa

/- The law of costs: what is known is as it was, the marks too: kept. -/
namespace Go.Proofs.Ytcphalpcdcddpaa
open Go.RowKit
set_option linter.unusedVariables false
attribute [local go_sem] run_store_float

theorem StatsM.cells {w0 w : World} {g n cap : Nat} {S : List StatZ} (h : StatsM w0 w g n cap S) {i : Nat} {s : StatZ} (hs : S[i]? = some s) : ∃ gd dc, w.cell? ⟨g, i * 3, none⟩ = some (.string s.1) ∧ w.cell? ⟨g, i * 3 + 1, none⟩ = some (.float .f64 s.2.1) ∧ w.cell? ⟨g, i * 3 + 2, none⟩ = some (.slice (some ⟨gd, 0, none⟩) s.2.2.1.length dc) ∧ s.2.2.1.length + 1 ≤ dc ∧ dc ≤ maxLen ∧ CellsAt w (some ⟨gd, 0, none⟩) (flts s.2.2.1) ∧ w.cell? ⟨gd, s.2.2.1.length, none⟩ = some (.float .f64 markF) := by
  obtain ⟨rest, vs, h1, h2, h3, h4, h5, h6, h7, h8⟩ := h.body
  have hv : i < vs.length := by rw [h5]; exact (List.getElem?_eq_some_iff.1 hs).1
  have hz : (S.zip vs)[i]? = some (s, vs[i]) := by rw [List.getElem?_zip_eq_some]; exact ⟨hs, List.getElem?_eq_getElem hv⟩
  have hd := h8 _ (List.mem_of_getElem? hz)
  have hb : ∀ c, c < 3 → w.cell? ⟨g, i * 3 + c, none⟩ = (statM (s, vs[i]))[c]? := fun c hc => by
    have hg := flat_get statM 3 statM_len (S.zip vs) i _ c hz hc
    have hlt : i * 3 + c < ((S.zip vs).flatMap statM).length := by
      rw [flat_len statM 3 statM_len, List.length_zip, h5, Nat.min_self]
      have := (List.getElem?_eq_some_iff.1 hs).1
      omega
    rw [h7.cell', List.getElem?_append_left hlt, hg]
  obtain ⟨r, a, b, c, d⟩ := id hd
  exact ⟨_, _, hb 0 (by decide), hb 1 (by decide), hb 2 (by decide), a, b, hd.at, hd.mark⟩
theorem StatsM.mark {w0 w : World} {g n cap : Nat} {S : List StatZ} (h : StatsM w0 w g n cap S) : n + 1 ≤ cap ∧ cap ≤ maxLen ∧ w.cell? ⟨g, n * 3, none⟩ = some (.string ⟨#[109, 97, 114, 107]⟩) := by
  obtain ⟨rest, vs, h1, h2, h3, h4, h5, h6, h7, h8⟩ := h.body
  refine ⟨h2, h3, ?_⟩
  have hfl : ((S.zip vs).flatMap statM).length = n * 3 := by rw [flat_len statM 3 statM_len, List.length_zip, h5, Nat.min_self, h1]
  rw [h7.cell', ← hfl, List.getElem?_append_right (Nat.le_refl _), Nat.sub_self]; rfl

set_option maxRecDepth 100000 in
set_option maxHeartbeats 8000000 in
theorem kept_any (S : List StatZ) (w0 : World) (g n cap : Nat) (ao : Option Addr) (lcap : Nat) (w : World) (hn : n = S.length) (h : KnownAt w ao S) (hf : StatsFit S) (hM : StatsM w0 w g n cap S) :
    Calls Try.prog 19 #[.slice (some ⟨g, 0, none⟩) n cap, .slice ao n lcap] w (RetN w fun w' v => v = .bool true) := by
  have HN := Lib.hid hn
  have HK := Lib.hid h
  have HF := Lib.hid hf
  have HA := Lib.hid (fun (i : Nat) (s : StatZ) (hs : S[i]? = some s) => hM.cells hs)
  have hl : n ≤ 1048576 := by have := hf.len; omega
  obtain ⟨hc1, hc2, hmk⟩ := hM.mark
  have hc3 : cap ≤ 9223372036854775807 := hc2
  have i1 : (n : Int) + 1 ≤ (cap : Int) := by omega
  have hq := bits_run
  have q1 : ((n : Int) != (n : Int)) = false := by simp
  have q3 : ((FloatKind.format .f64).order 4649993003539103744 4649993003539103744 != some .eq) = false := by decide
  clear hn h hf hM hc1 hc2
  go_enter Try.func19, Try.ntmps19
  go_wp2
  clear hmk
  go_loopw [5] (fun iv wr => SameTo w n iv wr) (fun iv _ => n - (intOf iv).toNat)
  case atStart => exact ⟨0, Nat.zero_le _, rfl, Kp.refl _⟩
  case round =>
    obtain ⟨i, hi, rfl, hex⟩ := hrel
    by_cases hlt : i < n
    · obtain ⟨s, hs⟩ : ∃ s, S[i]? = some s := ⟨_, List.getElem?_eq_getElem (by rw [← HN.out]; exact hlt)⟩
      obtain ⟨b, off, da, dcap, eao, c0, c1, c2, d1, d2, d3⟩ := HK.out i s hs
      obtain ⟨gd, dc, k0, k1, k2, k3, k4, k5, k6⟩ := HA.out i s hs
      subst eao
      have hm : s.2.2.1.length ≤ 1048576 := HF.out.dist s (List.mem_of_getElem? hs)
      replace c0 := hex.out.cell c0 id
      replace c1 := hex.out.cell c1 id
      replace c2 := hex.out.cell c2 id
      replace k0 := hex.out.cell k0 id
      replace k1 := hex.out.cell k1 id
      replace k2 := hex.out.cell k2 id
      replace k6 := hex.out.cell k6 id
      have HD := Lib.hid (And.intro (d3.ext hex.out) (k5.ext hex.out))
      have k4' : dc ≤ 9223372036854775807 := k4
      generalize s.1 = p at *
      generalize s.2.1 = r at *
      generalize s.2.2.1 = ds at *
      obtain ⟨m, em⟩ : ∃ m, m = ds.length := ⟨_, rfl⟩
      rw [← em] at c2 k2 k3 k6 hm d1
      have EM := Lib.hid em
      have i2 : (m : Int) + 1 ≤ (dc : Int) := by omega
      have q2 : ((m : Int) != (m : Int)) = false := by simp
      have i5 : (0 : Int) ≤ (m : Int) + 1 := by omega
      have i6 : (m : Int) < (m : Int) + 1 := by omega
      have i4 : IntKind.i64.wrap ((m : Int) + 1) = (m : Int) + 1 := IntWalk.i64_in _ (by omega)
      have q4 : ((r : Int) != (r : Int)) = false := by simp
      have q5 := str_eq p
      obtain ⟨gt, egt⟩ : ∃ gt, gt = wr.heap.size := ⟨_, rfl⟩
      obtain ⟨wx, ewx⟩ : ∃ wx, wr.alloc (.cells #[.string p, .float .f64 r, .slice (some ⟨gd, 0, none⟩) m dc] 56) = wx := ⟨_, rfl⟩
      have hgt := Blk.new wr [.string p, .float .f64 r, .slice (some ⟨gd, 0, none⟩) m dc] 56
      have ewx' : wr.alloc (.cells [Value.string p, .float .f64 r, .slice (some ⟨gd, 0, none⟩) m dc].toArray 56) = wx := ewx
      rw [ewx', ← egt] at hgt
      have hxx : Ext wr wx := by rw [← ewx]; exact (Kp.refl wr).alloc _
      have HXX := Lib.hid hxx
      have HGT := Lib.hid hgt
      have EGT := Lib.hid egt
      have HCells := Lib.hid (show ∀ w', Ext wx w' → (fun w' : World => w'.cell? ⟨gt, 0, none⟩ = some (.string p) ∧ w'.cell? ⟨gt, 1, none⟩ = some (.float .f64 r) ∧ w'.cell? ⟨gt, 2, none⟩ = some (.slice (some ⟨gd, 0, none⟩) m dc) ∧ w'.cell? ⟨b, off + i * 3, none⟩ = some (.string p) ∧ w'.cell? ⟨b, off + i * 3 + 1, none⟩ = some (.int .u64 r) ∧ w'.cell? ⟨b, off + i * 3 + 2, none⟩ = some (.slice da m dcap) ∧ w'.cell? ⟨gd, m, none⟩ = some (.float .f64 4649993003539103744)) w' from fun w' hw => ⟨by rw [(HGT.out.ext hw).cell']; rfl, by rw [(HGT.out.ext hw).cell']; rfl, by rw [(HGT.out.ext hw).cell']; rfl, hw.cell (hxx.cell c0 id) id, hw.cell (hxx.cell c1 id) id, hw.cell (hxx.cell c2 id) id, hw.cell (hxx.cell k6 id) id⟩)
      clear hs em k4 k5 k6 d3 hgt ewx' hxx egt c0 c1 c2
      go_wp2_with fail
      rw [← EGT.out]
      clear ewx k0 k1 k2
      refine draw_begin (fun w' : World => w'.cell? ⟨gt, 0, none⟩ = some (.string p) ∧ w'.cell? ⟨gt, 1, none⟩ = some (.float .f64 r) ∧ w'.cell? ⟨gt, 2, none⟩ = some (.slice (some ⟨gd, 0, none⟩) m dc) ∧ w'.cell? ⟨b, off + i * 3, none⟩ = some (.string p) ∧ w'.cell? ⟨b, off + i * 3 + 1, none⟩ = some (.int .u64 r) ∧ w'.cell? ⟨b, off + i * 3 + 2, none⟩ = some (.slice da m dcap) ∧ w'.cell? ⟨gd, m, none⟩ = some (.float .f64 4649993003539103744)) [] (by kernel_rfl) (HCells.out _ (Kp.refl wx).drew) (fun hHeld => ?_)
      (refine draw_free (i := 0) (v := ?_) rfl ?_ ?_; rotate_left; (intro w; go_simp; try with_reducible rfl)); (try simp only [Act.put, List.setIfInBounds_toArray, List.set_cons_zero, List.set_cons_succ])
      (refine draw_in (i := 1) (v := ?_) rfl ?_ ?_; rotate_left; (intro w hSw; (try dsimp only at hSw); go_simp; try with_reducible rfl)); (try simp only [Act.put, List.setIfInBounds_toArray, List.set_cons_zero, List.set_cons_succ])
      (refine draw_free (i := 2) (v := ?_) rfl ?_ ?_; rotate_left; (intro w; go_simp; try with_reducible rfl)); (try simp only [Act.put, List.setIfInBounds_toArray, List.set_cons_zero, List.set_cons_succ])
      (refine draw_free (i := 3) (v := ?_) rfl ?_ ?_; rotate_left; (intro w; go_simp; try with_reducible rfl)); (try simp only [Act.put, List.setIfInBounds_toArray, List.set_cons_zero, List.set_cons_succ])
      (refine draw_in (i := 4) (v := ?_) rfl ?_ ?_; rotate_left; (intro w hSw; (try dsimp only at hSw); go_simp; try with_reducible rfl)); (try simp only [Act.put, List.setIfInBounds_toArray, List.set_cons_zero, List.set_cons_succ])
      (refine draw_free (i := 5) (v := ?_) rfl ?_ ?_; rotate_left; (intro w; go_simp; try with_reducible rfl)); (try simp only [Act.put, List.setIfInBounds_toArray, List.set_cons_zero, List.set_cons_succ])
      (refine draw_in (i := 6) (v := ?_) rfl ?_ ?_; rotate_left; (intro w hSw; (try dsimp only at hSw); go_simp; try with_reducible rfl)); (try simp only [Act.put, List.setIfInBounds_toArray, List.set_cons_zero, List.set_cons_succ])
      (refine draw_free (i := 7) (v := ?_) rfl ?_ ?_; rotate_left; (intro w; go_simp; try with_reducible rfl)); (try simp only [Act.put, List.setIfInBounds_toArray, List.set_cons_zero, List.set_cons_succ])
      (refine draw_free (i := 8) (v := ?_) rfl ?_ ?_; rotate_left; (intro w; go_simp; try with_reducible rfl)); (try simp only [Act.put, List.setIfInBounds_toArray, List.set_cons_zero, List.set_cons_succ])
      (first | (refine draw_free (i := 9) (v := ?_) rfl ?_ ?_; rotate_left; (intro w; go_simp; try with_reducible rfl)) | (refine draw_out (i := 9) rfl ?_)); (try simp only [Act.put, List.setIfInBounds_toArray, List.set_cons_zero, List.set_cons_succ])
      (first | (refine draw_in (i := 10) (v := ?_) rfl ?_ ?_; rotate_left; (intro w hSw; (try dsimp only at hSw); go_simp; try with_reducible rfl)) | (refine draw_out (i := 10) rfl ?_)); (try simp only [Act.put, List.setIfInBounds_toArray, List.set_cons_zero, List.set_cons_succ])
      (first | (refine draw_free (i := 11) (v := ?_) rfl ?_ ?_; rotate_left; (intro w; go_simp; try with_reducible rfl)) | (refine draw_out (i := 11) rfl ?_)); (try simp only [Act.put, List.setIfInBounds_toArray, List.set_cons_zero, List.set_cons_succ])
      (first | (refine draw_free (i := 12) (v := ?_) rfl ?_ ?_; rotate_left; (intro w; go_simp; try with_reducible rfl)) | (refine draw_out (i := 12) rfl ?_)); (try simp only [Act.put, List.setIfInBounds_toArray, List.set_cons_zero, List.set_cons_succ])
      (first | (refine draw_free (i := 13) (v := ?_) rfl ?_ ?_; rotate_left; (intro w; go_simp; try with_reducible rfl)) | (refine draw_out (i := 13) rfl ?_)); (try simp only [Act.put, List.setIfInBounds_toArray, List.set_cons_zero, List.set_cons_succ])
      (first | (refine draw_in (i := 14) (v := ?_) rfl ?_ ?_; rotate_left; (intro w hSw; (try dsimp only at hSw); go_simp; try with_reducible rfl)) | (refine draw_out (i := 14) rfl ?_)); (try simp only [Act.put, List.setIfInBounds_toArray, List.set_cons_zero, List.set_cons_succ])
      (first | (refine draw_free (i := 15) (v := ?_) rfl ?_ ?_; rotate_left; (intro w; go_simp; try with_reducible rfl)) | (refine draw_out (i := 15) rfl ?_)); (try simp only [Act.put, List.setIfInBounds_toArray, List.set_cons_zero, List.set_cons_succ])
      (first | (refine draw_in (i := 16) (v := ?_) rfl ?_ ?_; rotate_left; (intro w hSw; (try dsimp only at hSw); go_simp; try with_reducible rfl)) | (refine draw_out (i := 16) rfl ?_)); (try simp only [Act.put, List.setIfInBounds_toArray, List.set_cons_zero, List.set_cons_succ])
      (first | (refine draw_free (i := 17) (v := ?_) rfl ?_ ?_; rotate_left; (intro w; go_simp; try with_reducible rfl)) | (refine draw_out (i := 17) rfl ?_)); (try simp only [Act.put, List.setIfInBounds_toArray, List.set_cons_zero, List.set_cons_succ])
      (refine draw_free (i := 18) (v := ?_) rfl ?_ ?_; rotate_left; (intro w; go_simp; try with_reducible rfl)); (try simp only [Act.put, List.setIfInBounds_toArray, List.set_cons_zero, List.set_cons_succ])
      (refine draw_free (i := 19) (v := ?_) rfl ?_ ?_; rotate_left; (intro w; go_simp; try with_reducible rfl)); (try simp only [Act.put, List.setIfInBounds_toArray, List.set_cons_zero, List.set_cons_succ])
      (first | (refine draw_free (i := 20) (v := ?_) rfl ?_ ?_; rotate_left; (intro w; go_simp; try with_reducible rfl)) | (refine draw_out (i := 20) rfl ?_)); (try simp only [Act.put, List.setIfInBounds_toArray, List.set_cons_zero, List.set_cons_succ])
      (first | (refine draw_in (i := 21) (v := ?_) rfl ?_ ?_; rotate_left; (intro w hSw; (try dsimp only at hSw); go_simp; try with_reducible rfl)) | (refine draw_out (i := 21) rfl ?_)); (try simp only [Act.put, List.setIfInBounds_toArray, List.set_cons_zero, List.set_cons_succ])
      (first | (refine draw_in (i := 22) (v := ?_) rfl ?_ ?_; rotate_left; (intro w hSw; (try dsimp only at hSw); go_simp; try with_reducible rfl)) | (refine draw_out (i := 22) rfl ?_)); (try simp only [Act.put, List.setIfInBounds_toArray, List.set_cons_zero, List.set_cons_succ])
      (first | (refine draw_free (i := 23) (v := ?_) rfl ?_ ?_; rotate_left; (intro w; go_simp; try with_reducible rfl)) | (refine draw_out (i := 23) rfl ?_)); (try simp only [Act.put, List.setIfInBounds_toArray, List.set_cons_zero, List.set_cons_succ])
      (first | (refine draw_free (i := 24) (v := ?_) rfl ?_ ?_; rotate_left; (intro w; go_simp; try with_reducible rfl)) | (refine draw_out (i := 24) rfl ?_)); (try simp only [Act.put, List.setIfInBounds_toArray, List.set_cons_zero, List.set_cons_succ])
      (first | (refine draw_in (i := 25) (v := ?_) rfl ?_ ?_; rotate_left; (intro w hSw; (try dsimp only at hSw); go_simp; try with_reducible rfl)) | (refine draw_out (i := 25) rfl ?_)); (try simp only [Act.put, List.setIfInBounds_toArray, List.set_cons_zero, List.set_cons_succ])
      (first | (refine draw_free (i := 26) (v := ?_) rfl ?_ ?_; rotate_left; (intro w; go_simp; try with_reducible rfl)) | (refine draw_out (i := 26) rfl ?_)); (try simp only [Act.put, List.setIfInBounds_toArray, List.set_cons_zero, List.set_cons_succ])
      (first | (refine draw_in (i := 27) (v := ?_) rfl ?_ ?_; rotate_left; (intro w hSw; (try dsimp only at hSw); go_simp; try with_reducible rfl)) | (refine draw_out (i := 27) rfl ?_)); (try simp only [Act.put, List.setIfInBounds_toArray, List.set_cons_zero, List.set_cons_succ])
      (first | (refine draw_in (i := 28) (v := ?_) rfl ?_ ?_; rotate_left; (intro w hSw; (try dsimp only at hSw); go_simp; try with_reducible rfl)) | (refine draw_out (i := 28) rfl ?_)); (try simp only [Act.put, List.setIfInBounds_toArray, List.set_cons_zero, List.set_cons_succ])
      (first | (refine draw_free (i := 29) (v := ?_) rfl ?_ ?_; rotate_left; (intro w; go_simp; try with_reducible rfl)) | (refine draw_out (i := 29) rfl ?_)); (try simp only [Act.put, List.setIfInBounds_toArray, List.set_cons_zero, List.set_cons_succ])
      (refine draw_free (i := 30) (v := ?_) rfl ?_ ?_; rotate_left; (intro w; go_simp; try with_reducible rfl)); (try simp only [Act.put, List.setIfInBounds_toArray, List.set_cons_zero, List.set_cons_succ])
      (refine draw_free (i := 31) (v := ?_) rfl ?_ ?_; rotate_left; (intro w; go_simp; try with_reducible rfl)); (try simp only [Act.put, List.setIfInBounds_toArray, List.set_cons_zero, List.set_cons_succ])
      (first | (refine draw_free (i := 32) (v := ?_) rfl ?_ ?_; rotate_left; (intro w; go_simp; try with_reducible rfl)) | (refine draw_out (i := 32) rfl ?_)); (try simp only [Act.put, List.setIfInBounds_toArray, List.set_cons_zero, List.set_cons_succ])
      (first | (refine draw_in (i := 33) (v := ?_) rfl ?_ ?_; rotate_left; (intro w hSw; (try dsimp only at hSw); go_simp; try with_reducible rfl)) | (refine draw_out (i := 33) rfl ?_)); (try simp only [Act.put, List.setIfInBounds_toArray, List.set_cons_zero, List.set_cons_succ])
      (first | (refine draw_free (i := 34) (v := ?_) rfl ?_ ?_; rotate_left; (intro w; go_simp; try with_reducible rfl)) | (refine draw_out (i := 34) rfl ?_)); (try simp only [Act.put, List.setIfInBounds_toArray, List.set_cons_zero, List.set_cons_succ])
      (first | (refine draw_in (i := 35) (v := ?_) rfl ?_ ?_; rotate_left; (intro w hSw; (try dsimp only at hSw); go_simp; try with_reducible rfl)) | (refine draw_out (i := 35) rfl ?_)); (try simp only [Act.put, List.setIfInBounds_toArray, List.set_cons_zero, List.set_cons_succ])
      (first | (refine draw_in (i := 36) (v := ?_) rfl ?_ ?_; rotate_left; (intro w hSw; (try dsimp only at hSw); go_simp; try with_reducible rfl)) | (refine draw_out (i := 36) rfl ?_)); (try simp only [Act.put, List.setIfInBounds_toArray, List.set_cons_zero, List.set_cons_succ])
      (first | (refine draw_free (i := 37) (v := ?_) rfl ?_ ?_; rotate_left; (intro w; go_simp; try with_reducible rfl)) | (refine draw_out (i := 37) rfl ?_)); (try simp only [Act.put, List.setIfInBounds_toArray, List.set_cons_zero, List.set_cons_succ])
      (first | (refine draw_in (i := 38) (v := ?_) rfl ?_ ?_; rotate_left; (intro w hSw; (try dsimp only at hSw); go_simp; try with_reducible rfl)) | (refine draw_out (i := 38) rfl ?_)); (try simp only [Act.put, List.setIfInBounds_toArray, List.set_cons_zero, List.set_cons_succ])
      (first | (refine draw_free (i := 39) (v := ?_) rfl ?_ ?_; rotate_left; (intro w; go_simp; try with_reducible rfl)) | (refine draw_out (i := 39) rfl ?_)); (try simp only [Act.put, List.setIfInBounds_toArray, List.set_cons_zero, List.set_cons_succ])
      (first | (refine draw_in (i := 40) (v := ?_) rfl ?_ ?_; rotate_left; (intro w hSw; (try dsimp only at hSw); go_simp; try with_reducible rfl)) | (refine draw_out (i := 40) rfl ?_)); (try simp only [Act.put, List.setIfInBounds_toArray, List.set_cons_zero, List.set_cons_succ])
      (first | (refine draw_in (i := 41) (v := ?_) rfl ?_ ?_; rotate_left; (intro w hSw; (try dsimp only at hSw); go_simp; try with_reducible rfl)) | (refine draw_out (i := 41) rfl ?_)); (try simp only [Act.put, List.setIfInBounds_toArray, List.set_cons_zero, List.set_cons_succ])
      (first | (refine draw_in (i := 42) (v := ?_) rfl ?_ ?_; rotate_left; (intro w hSw; (try dsimp only at hSw); go_simp; try with_reducible rfl)) | (refine draw_out (i := 42) rfl ?_)); (try simp only [Act.put, List.setIfInBounds_toArray, List.set_cons_zero, List.set_cons_succ])
      (first | (refine draw_in (i := 43) (v := ?_) rfl ?_ ?_; rotate_left; (intro w hSw; (try dsimp only at hSw); go_simp; try with_reducible rfl)) | (refine draw_out (i := 43) rfl ?_)); (try simp only [Act.put, List.setIfInBounds_toArray, List.set_cons_zero, List.set_cons_succ])
      (first | (refine draw_free (i := 44) (v := ?_) rfl ?_ ?_; rotate_left; (intro w; go_simp; try with_reducible rfl)) | (refine draw_out (i := 44) rfl ?_)); (try simp only [Act.put, List.setIfInBounds_toArray, List.set_cons_zero, List.set_cons_succ])
      (refine draw_free (i := 45) (v := ?_) rfl ?_ ?_; rotate_left; (intro w; go_simp; try with_reducible rfl)); (try simp only [Act.put, List.setIfInBounds_toArray, List.set_cons_zero, List.set_cons_succ])
      refine wpAnyD_done (by kernel_rfl) ?_ _
      go_wp2
      generalize hw5 : wr = w5 at *; clear hw5
      have X5 := Lib.hid (hex.out.trans HXX.out)
      go_loopw [7] (fun kv wk => SameTo wx m kv wk) (fun kv _ => m - (intOf kv).toNat)
      case atStart => exact ⟨0, Nat.zero_le _, rfl, (Kp.refl wx).drew⟩
      case round =>
        obtain ⟨j, hj, rfl, hex2⟩ := hrel
        have g2 := (HCells.out wr hex2.out).2.2.1
        by_cases hlt2 : j < m
        · obtain ⟨x, hx⟩ : ∃ x, ds[j]? = some x := ⟨_, List.getElem?_eq_getElem (by rw [← EM.out]; exact hlt2)⟩
          obtain ⟨b2, off2, eda, e0⟩ := HD.out.1.word hx
          subst eda
          have e1 : w5.cell? ⟨gd, j, none⟩ = some (.float .f64 x) := by
            obtain ⟨_, _, e, h⟩ := HD.out.2 j (.float .f64 x) (by simp [flts, hx])
            cases e
            rw [Nat.zero_add] at h
            exact h
          have q6 : ((x : Int) != (x : Int)) = false := by simp
          have XX := Lib.hid (HXX.out.trans hex2.out)
          have HJ := Lib.hid (show ∀ w', Ext wr w' → (fun w' : World => w'.cell? ⟨gt, 2, none⟩ = some (.slice (some ⟨gd, 0, none⟩) m dc) ∧ w'.cell? ⟨b, off + i * 3 + 2, none⟩ = some (.slice (some ⟨b2, off2, none⟩) m dcap) ∧ w'.cell? ⟨b2, off2 + j, none⟩ = some (.int .u64 x) ∧ w'.cell? ⟨gd, j, none⟩ = some (.float .f64 x)) w' from fun w' hw => ⟨hw.cell g2 id, hw.cell (HCells.out wr hex2.out).2.2.2.2.2.1 id, hw.cell (XX.out.cell e0 id) id, hw.cell (XX.out.cell e1 id) id⟩)
          clear hx e0 e1
          go_wp2
          clear g2
          refine draw_begin (fun w' : World => w'.cell? ⟨gt, 2, none⟩ = some (.slice (some ⟨gd, 0, none⟩) m dc) ∧ w'.cell? ⟨b, off + i * 3 + 2, none⟩ = some (.slice (some ⟨b2, off2, none⟩) m dcap) ∧ w'.cell? ⟨b2, off2 + j, none⟩ = some (.int .u64 x) ∧ w'.cell? ⟨gd, j, none⟩ = some (.float .f64 x)) [] (by kernel_rfl) (HJ.out _ (Kp.refl wr).drew) (fun hHeld => ?_)
          (refine draw_free (i := 0) (v := ?_) rfl ?_ ?_; rotate_left; (intro w; go_simp; try with_reducible rfl)); (try simp only [Act.put, List.setIfInBounds_toArray, List.set_cons_zero, List.set_cons_succ])
          (refine draw_in (i := 1) (v := ?_) rfl ?_ ?_; rotate_left; (intro w hSw; (try dsimp only at hSw); go_simp; try with_reducible rfl)); (try simp only [Act.put, List.setIfInBounds_toArray, List.set_cons_zero, List.set_cons_succ])
          (refine draw_free (i := 2) (v := ?_) rfl ?_ ?_; rotate_left; (intro w; go_simp; try with_reducible rfl)); (try simp only [Act.put, List.setIfInBounds_toArray, List.set_cons_zero, List.set_cons_succ])
          (refine draw_in (i := 3) (v := ?_) rfl ?_ ?_; rotate_left; (intro w hSw; (try dsimp only at hSw); go_simp; try with_reducible rfl)); (try simp only [Act.put, List.setIfInBounds_toArray, List.set_cons_zero, List.set_cons_succ])
          (refine draw_in (i := 4) (v := ?_) rfl ?_ ?_; rotate_left; (intro w hSw; (try dsimp only at hSw); go_simp; try with_reducible rfl)); (try simp only [Act.put, List.setIfInBounds_toArray, List.set_cons_zero, List.set_cons_succ])
          (refine draw_free (i := 5) (v := ?_) rfl ?_ ?_; rotate_left; (intro w; go_simp; try with_reducible rfl)); (try simp only [Act.put, List.setIfInBounds_toArray, List.set_cons_zero, List.set_cons_succ])
          (refine draw_free (i := 6) (v := ?_) rfl ?_ ?_; rotate_left; (intro w; go_simp; try with_reducible rfl)); (try simp only [Act.put, List.setIfInBounds_toArray, List.set_cons_zero, List.set_cons_succ])
          (refine draw_free (i := 7) (v := ?_) rfl ?_ ?_; rotate_left; (intro w; go_simp; try with_reducible rfl)); (try simp only [Act.put, List.setIfInBounds_toArray, List.set_cons_zero, List.set_cons_succ])
          (refine draw_in (i := 8) (v := ?_) rfl ?_ ?_; rotate_left; (intro w hSw; (try dsimp only at hSw); go_simp; try with_reducible rfl)); (try simp only [Act.put, List.setIfInBounds_toArray, List.set_cons_zero, List.set_cons_succ])
          (refine draw_free (i := 9) (v := ?_) rfl ?_ ?_; rotate_left; (intro w; go_simp; try with_reducible rfl)); (try simp only [Act.put, List.setIfInBounds_toArray, List.set_cons_zero, List.set_cons_succ])
          (refine draw_in (i := 10) (v := ?_) rfl ?_ ?_; rotate_left; (intro w hSw; (try dsimp only at hSw); go_simp; try with_reducible rfl)); (try simp only [Act.put, List.setIfInBounds_toArray, List.set_cons_zero, List.set_cons_succ])
          (refine draw_free (i := 11) (v := ?_) rfl ?_ ?_; rotate_left; (intro w; go_simp; try with_reducible rfl)); (try simp only [Act.put, List.setIfInBounds_toArray, List.set_cons_zero, List.set_cons_succ])
          (refine draw_in (i := 12) (v := ?_) rfl ?_ ?_; rotate_left; (intro w hSw; (try dsimp only at hSw); go_simp; try with_reducible rfl)); (try simp only [Act.put, List.setIfInBounds_toArray, List.set_cons_zero, List.set_cons_succ])
          (refine draw_in (i := 13) (v := ?_) rfl ?_ ?_; rotate_left; (intro w hSw; (try dsimp only at hSw); go_simp; try with_reducible rfl)); (try simp only [Act.put, List.setIfInBounds_toArray, List.set_cons_zero, List.set_cons_succ])
          (refine draw_free (i := 14) (v := ?_) rfl ?_ ?_; rotate_left; (intro w; go_simp; try with_reducible rfl)); (try simp only [Act.put, List.setIfInBounds_toArray, List.set_cons_zero, List.set_cons_succ])
          refine wpAnyD_done (by kernel_rfl) ?_ _
          go_wp2
          go_roundw
          case rel => exact ⟨j + 1, by omega, by first | rfl | (congr 1; done) | (congr 1; omega), hex2.out.drew⟩
          case measure => simp [intOf]; omega
        · go_wp2
          go_roundw
          case rel => exact ⟨i + 1, by omega, by first | rfl | (congr 1; done) | (congr 1; omega), X5.out.trans hex2.out⟩
          case measure => simp [intOf]; omega
    · go_wp2
      go_ret
      exact RetN.mk hex.out rfl
end Go.Proofs.Ytcphalpcdcddpaa
