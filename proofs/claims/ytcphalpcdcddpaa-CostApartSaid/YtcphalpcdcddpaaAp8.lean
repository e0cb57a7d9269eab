/- Proved here: the statement CostApartSaid: the law returns true for every input and leaves its arguments as they were. No condition of its own. -/
import Derived.Test.YtcphalpcdcddpaaAp7
import Derived.Defers
import Derived.Recover
import Derived.Test.YtcphalpcdcddpaaRows
/- cost.Greedy: the function that tries a literal, and what it defers. -/
namespace Go.Proofs.Ytcphalpcdcddpaa
open Go.RowKit
set_option linter.unusedVariables false
attribute [local go_sem] run_store_float

/-- The same, but it does not panic. -/
def NoPanic (Q : Exit → Act → World → Prop) (e : Exit) (a : Act) (w : World) : Prop := match e with
  | .panic _ => False
  | e => Q e a w
theorem wp_nopanic {P : Program} {c : Code} {Q : Exit → Act → World → Prop} {a : Act} {w : World} (h : c.wp P (NoPanic Q) a w) : c.wp P Q a w := wp_mono h fun e a w h => by
  cases e <;> first | exact h.elim | exact h
theorem nopanic_normal {Q : Exit → Act → World → Prop} {a : Act} {w : World} (h : Q .normal a w) : NoPanic Q .normal a w := h
theorem undo_any (gin gi gib n i : Nat) (y : Value) (u : FrameMode) (w : World) (hi : i < n) (c1 : w.cell? ⟨gin, 0, none⟩ = some (.slice (some ⟨gi, 0, none⟩) n n)) (c2 : w.cell? ⟨gib, 0, none⟩ = some (.int .i64 i)) (c3 : w.cell? ⟨gi, i, none⟩ = some (.bool true)) (c4 : w.frozen? ⟨gi, i, none⟩ = false) :
    CallsD Try.prog 42 #[.pointer (some ⟨gin, 0, none⟩), .pointer (some ⟨gib, 0, none⟩)] u w fun e u' w' => u' = u ∧ (e = .returned (.tuple #[]) ∧ w' = w.setCell ⟨gi, i, none⟩ (.bool false)) := by
  go_enter_d Try.func42, Try.ntmps42
  go_wp2
  go_end0
  first | exact ⟨rfl, rfl⟩ | exact ⟨rfl, rfl, rfl⟩

/-- What stays while literals are tried. -/
structure TryI (wB : World) (gin gi gbb gb n : Nat) (inn : List Bool) (w : World) : Prop where
  ext : Ext wB w
  fin : Blk w gin [.slice (some ⟨gi, 0, none⟩) n n] 74
  fgi : Blk w gi (bools inn) 4
  fbb : Blk w gbb [.pointer (some ⟨gb, 0, none⟩)] 71
  new : wB.heap.size ≤ gi
theorem TryI.to {wB : World} {gin gi gbb gb n : Nat} {inn : List Bool} {w w' : World} (h : TryI wB gin gi gbb gb n inn w) (hk : Ext w w') : TryI wB gin gi gbb gb n inn w' := ⟨h.ext.trans hk, h.fin.ext hk, h.fgi.ext hk, h.fbb.ext hk, h.new⟩
theorem typ_bo : 4 ≠ 74 ∧ 4 ≠ 71 ∧ 4 ≠ 95 ∧ 4 ≠ 3 := by decide
theorem TryI.put {wB : World} {gin gi gbb gb n : Nat} {inn : List Bool} {w : World} (h : TryI wB gin gi gbb gb n inn w) (i : Nat) (b : Bool) : TryI wB gin gi gbb gb n (inn.set i b) (w.setCell ⟨gi, i, none⟩ (.bool b)) := by
  have hk : Kp (fun k => k = gi) w (w.setCell ⟨gi, i, none⟩ (.bool b)) := Kp.setCell (F := fun k => k = gi) (Kp.refl w) (fun _ => rfl) _
  refine ⟨Kp.setCell (F := fun _ => False) h.ext (fun hl => by have := h.new; simp only at hl; omega) _, h.fin.kp hk fun e => ?_, ?_, h.fbb.kp hk fun e => ?_, h.new⟩
  · have h2 := h.fin
    rw [e] at h2
    exact typ_bo.1 (blk_ne h.fgi h2)
  · have h2 := h.fgi.set i (.bool b)
    have e : (bools inn).set i (.bool b) = bools (inn.set i b) := by simp [bools, List.map_set]
    rw [e] at h2; exact h2
  · have h2 := h.fbb
    rw [e] at h2
    exact typ_bo.2.1 (blk_ne h.fgi h2)
theorem TryI.noPlan {wB : World} {gin gi gbb gb n : Nat} {inn : List Bool} {w : World} (h : TryI wB gin gi gbb gb n inn w) : NoPlan w (fun k => k = gi) := fun k cs e hb hk => by
  subst hk
  rw [blk_ne hb h.fgi]; exact typ_bo.2.2
theorem set_back {inn : List Bool} {i : Nat} (h : inn[i]? = some false) : (inn.set i true).set i false = inn := by
  rw [List.set_set]; exact set_same h

open Classical in
set_option maxRecDepth 100000 in
set_option maxHeartbeats 4000000 in
theorem tryMade_any (S : List StatZ) (ls : List LitZ) (wB : World) (gin gi gbb gb n i : Nat) (inn : List Bool) (w : World) (hn : n = ls.length) (hf : Fit ls) (K : Known S ls) (hi : i < n) (hin : inn.length = n) (hB : BodyAt wB gb S ls) (hI : TryI wB gin gi gbb gb n inn w) :
    Calls Try.prog 41 #[.int .i64 i, .pointer (some ⟨gin, 0, none⟩), .pointer (some ⟨gbb, 0, none⟩)] w (fun e w' => ∃ v, e = .returned v ∧ TryI wB gin gi gbb gb n inn w' ∧ Kp (fun k => k = gi) w w' ∧ OptAt w' (New w) v (candG S ls inn i)) := by
  have hl : n ≤ 1048576 := by have := hf.len; omega
  have hmf : ∀ (fn : Fn) (first cap : Array Value) (w : World), (Instr.makeFunc fn first cap).run Try.prog w = .ok (.func fn first cap) w := fun _ _ _ _ => rfl
  obtain ⟨b, hb⟩ : ∃ b, inn[i]? = some b := ⟨_, List.getElem?_eq_getElem (by omega)⟩
  have HStands := Lib.hid (fun (inn : List Bool) (W : World) (hW : Ext wB W) (hin : inn.length = n) (hI : CellsAt W (some ⟨gi, 0, none⟩) (bools inn)) => stands_any gb S ls n inn _ n W hn hl (varsL_fit hf) (hB.ext hW) hin hI)
  have HG := Lib.hid (fun (inn : List Bool) (W : World) (hW : Ext wB W) (hin : inn.length = n) (hI : CellsAt W (some ⟨gi, 0, none⟩) (bools inn)) => guess_any gb S ls n inn _ n W hn hf K (hB.ext hW) hin hI)
  have HI := Lib.hid hI
  have HL := Lib.hid hin
  have HBi := Lib.hid hb
  obtain ⟨wb, eb⟩ : ∃ wb, w.alloc (.cells #[.int .i64 i] 3) = wb := ⟨_, rfl⟩
  have HIb := Lib.hid (show TryI wB gin gi gbb gb n inn wb by rw [← eb]; exact hI.to ((Kp.refl w).alloc _))
  have HBox := Lib.hid (show Blk wb w.heap.size [.int .i64 i] 3 by rw [← eb]; exact Blk.new w _ _)
  have HXb := Lib.hid (show Ext w wb by rw [← eb]; exact (Kp.refl w).alloc _)
  have c1 : wb.cell? ⟨gin, 0, none⟩ = some (.slice (some ⟨gi, 0, none⟩) n n) := by rw [HIb.out.fin.cell']; rfl
  have c2 : wb.cell? ⟨w.heap.size, 0, none⟩ = some (.int .i64 i) := by rw [HBox.out.cell']; rfl
  have c3 : wb.cell? ⟨gi, i, none⟩ = some (.bool b) := by rw [HIb.out.fgi.cell']; simp [bools, hb]
  have c4 := HIb.out.fgi.free i
  clear hn hf K hin hB hI hb
  cases b with
  | true =>
    have HR := Lib.hid (show candG S ls inn i = none by
      unfold candG
      rw [if_neg (by rw [HBi.out]; rintro ⟨h, _⟩; cases h)])
    go_enter_defers Try.func41, Try.ntmps41
    go_wp2
    exact ⟨_, results_tmp rfl _ _ _, _, rfl, HIb.out, HXb.out.kp, by rw [HR.out]; rfl⟩
  | false =>
    obtain ⟨gib, egib⟩ : ∃ g, g = w.heap.size := ⟨_, rfl⟩
    obtain ⟨w2, e2⟩ : ∃ w2, wb.setCell ⟨gi, i, none⟩ (.bool true) = w2 := ⟨_, rfl⟩
    have hI2 : TryI wB gin gi gbb gb n (inn.set i true) w2 := by rw [← e2]; exact HIb.out.put i true
    have hk2 : Kp (fun k => k = gi) w w2 := by rw [← e2]; exact Kp.setCell (F := fun k => k = gi) HXb.out.kp (fun _ => rfl) _
    have hbx2 : Blk w2 gib [.int .i64 i] 3 := by
      rw [← e2, egib]
      exact HBox.out.other (fun h => by
        have h2 := HBox.out
        rw [show w.heap.size = gi from h] at h2
        exact typ_bo.2.2.2 (blk_ne HIb.out.fgi h2)) _
    have HI2 := Lib.hid hI2
    have HK2 := Lib.hid hk2
    have HBx2 := Lib.hid hbx2
    have d1 : w2.cell? ⟨gin, 0, none⟩ = some (.slice (some ⟨gi, 0, none⟩) n n) := by rw [hI2.fin.cell']; rfl
    have d2 : w2.cell? ⟨gbb, 0, none⟩ = some (.pointer (some ⟨gb, 0, none⟩)) := by rw [hI2.fbb.cell']; rfl
    have HIn2 := Lib.hid (show (inn.set i true).length = n by rw [List.length_set]; exact HL.out)
    clear hI2 hk2 hbx2
    go_enter_defers Try.func41, Try.ntmps41
    go_wp2_with fail
    rw [← egib]
    refine (HStands.out (inn.set i true) w2 HI2.out.ext HIn2.out (CellsAt.pre (rest := []) (by rw [List.append_nil]; exact HI2.out.fgi))).mono ?_
    rintro e w3 ⟨v, rfl, hk3, rfl⟩
    have HI3 := Lib.hid (HI2.out.to hk3)
    have HK3 := Lib.hid (HK2.out.ext hk3)
    have HBx3 := Lib.hid (HBx2.out.ext hk3)
    clear hk3 d1 d2 c1 c2 c3 c4 e2 eb egib
    have HDone := Lib.hid (show ∀ (W : World), TryI wB gin gi gbb gb n (inn.set i true) W → Blk W gib [.int .i64 i] 3 → Kp (fun k => k = gi) w W → ∀ (o : Option Plan) (v : Value), OptAt W (New w) v o → candG S ls inn i = o →
        CallsD Try.prog 42 #[.pointer (some ⟨gin, 0, none⟩), .pointer (some ⟨gib, 0, none⟩)] .returning W fun e u' w' => u' = .returning ∧ e = .returned (.tuple #[]) ∧ TryI wB gin gi gbb gb n inn w' ∧ Kp (fun k => k = gi) w w' ∧ OptAt w' (New w) v (candG S ls inn i) from fun W hW hbx hk o v ho hc => by
      have hil : i < inn.length := (List.getElem?_eq_some_iff.1 HBi.out).1
      refine (undo_any gin gi gib n i (.bool true) .returning W hi (by rw [hW.fin.cell']; rfl) (by rw [hbx.cell']; rfl) (by rw [hW.fgi.cell']; simp [bools, hil]) (hW.fgi.free i)).mono ?_
      rintro e u' w' ⟨rfl, rfl, rfl⟩
      have h1 := hW.put i false
      rw [set_back HBi.out] at h1
      have hk' : Kp (fun k => k = gi) W (W.setCell ⟨gi, i, none⟩ (.bool false)) := Kp.setCell (F := fun k => k = gi) (Kp.refl W) (fun _ => rfl) _
      exact ⟨rfl, rfl, h1, hk.trans hk', by rw [hc]; exact ho.kp hk' hW.noPlan⟩)
    by_cases hst : stands ls (inn.set i true)
    · have hd : decide (stands ls (inn.set i true)) = true := decide_eq_true hst
      rw [hd]
      have HC := Lib.hid (show candG S ls inn i = some ([(i : Int)], guessW S ls (inn.set i true)) by
        unfold candG
        rw [if_pos ⟨HBi.out, hst⟩])
      obtain ⟨g, eg⟩ : ∃ g, guessW S ls (inn.set i true) = g := ⟨_, rfl⟩
      rw [eg] at HC
      have EG := Lib.hid eg
      clear hd hst eg
      have HJ := Lib.hid (show ∀ w', Ext w3 w' → (fun w' : World => w'.cell? ⟨gib, 0, none⟩ = some (.int .i64 i) ∧ w'.cell? ⟨gbb, 0, none⟩ = some (.pointer (some ⟨gb, 0, none⟩)) ∧ w'.cell? ⟨gin, 0, none⟩ = some (.slice (some ⟨gi, 0, none⟩) n n)) w' from fun w' hw => ⟨by rw [(HBx3.out.ext hw).cell']; rfl, by rw [(HI3.out.to hw).fbb.cell']; rfl, by rw [(HI3.out.to hw).fin.cell']; rfl⟩)
      go_wp2
      refine wp_nopanic ?_
      refine draw_begin (fun w' : World => w'.cell? ⟨gib, 0, none⟩ = some (.int .i64 i) ∧ w'.cell? ⟨gbb, 0, none⟩ = some (.pointer (some ⟨gb, 0, none⟩)) ∧ w'.cell? ⟨gin, 0, none⟩ = some (.slice (some ⟨gi, 0, none⟩) n n)) [] (by kernel_rfl) (HJ.out _ (Kp.refl w3).drew) (fun hHeld => ?_)
      (refine draw_in (i := 0) (v := ?_) rfl ?_ ?_; rotate_left; (intro w hSw; (try dsimp only at hSw); go_simp; try with_reducible rfl)); (try simp only [Act.put, List.setIfInBounds_toArray, List.set_cons_zero, List.set_cons_succ])
      (refine draw_in (i := 2) (v := ?_) rfl ?_ ?_; rotate_left; (intro w hSw; (try dsimp only at hSw); go_simp; try with_reducible rfl)); (try simp only [Act.put, List.setIfInBounds_toArray, List.set_cons_zero, List.set_cons_succ])
      (refine draw_in (i := 3) (v := ?_) rfl ?_ ?_; rotate_left; (intro w hSw; (try dsimp only at hSw); go_simp; try with_reducible rfl)); (try simp only [Act.put, List.setIfInBounds_toArray, List.set_cons_zero, List.set_cons_succ])
      refine draw_two (i := 1) (k := 4) ?_ ?_
      · refine comes_turn (i := 1) rfl (fun K hK => ?_)
        go_simp
        refine hK.out _ _ ?_ (fun hHeld => ?_)
        · (try dsimp only); (first | exact HJ.out _ HK4.out | exact HJ.out _ (HK4.out.alloc _) | exact HJ.out _ ((HK4.out.alloc _).alloc _) | exact HJ.out _ ((Kp.refl w3).alloc _).drew)
        clear hK K; (try simp only [Act.put, List.setIfInBounds_toArray, List.set_cons_zero, List.set_cons_succ])
        refine draw_one (i := 4) ?_
        refine comes_turn (i := 4) rfl (fun K hK => ?_)
        go_simp
        ((with_reducible refine (HG.out (inn.set i true) _ (by first | exact HI3.out.ext.drew | exact (HI3.out.ext.alloc _).drew) HIn2.out (by first | exact CellsAt.ext (CellsAt.pre (rest := []) (by rw [List.append_nil]; exact HI3.out.fgi)) (Kp.refl w3).drew | exact CellsAt.ext (CellsAt.pre (rest := []) (by rw [List.append_nil]; exact HI3.out.fgi)) ((Kp.refl w3).alloc _).drew)).mono ?_); rintro e w4 ⟨v, rfl, hk4, rfl⟩; rw [EG.out]; have HK4 := Lib.hid (show Ext w3 w4 from (by first | exact ((Kp.refl w3).drew).trans hk4 | exact (((Kp.refl w3).alloc _).drew).trans hk4)); have HSl := Lib.hid hk4; clear hk4)
        go_wp2_with fail
        refine hK.out _ _ ?_ (fun hHeld => ?_)
        · (try dsimp only); (first | exact HJ.out _ HK4.out | exact HJ.out _ (HK4.out.alloc _) | exact HJ.out _ ((HK4.out.alloc _).alloc _) | exact HJ.out _ ((Kp.refl w3).alloc _).drew)
        clear hK K; (try simp only [Act.put, List.setIfInBounds_toArray, List.set_cons_zero, List.set_cons_succ])
        (refine draw_free (i := 5) (v := ?_) rfl ?_ ?_; rotate_left; (intro w; go_simp; try with_reducible rfl)); (try simp only [Act.put, List.setIfInBounds_toArray, List.set_cons_zero, List.set_cons_succ])
        refine draw_one (i := 6) ?_
        refine comes_turn (i := 6) rfl (fun K hK => ?_)
        go_simp
        refine hK.out _ _ ?_ (fun hHeld => ?_)
        · (try dsimp only); (first | exact HJ.out _ HK4.out | exact HJ.out _ (HK4.out.alloc _) | exact HJ.out _ ((HK4.out.alloc _).alloc _) | exact HJ.out _ ((Kp.refl w3).alloc _).drew)
        clear hK K; (try simp only [Act.put, List.setIfInBounds_toArray, List.set_cons_zero, List.set_cons_succ])
        (refine draw_free (i := 7) (v := ?_) rfl ?_ ?_; rotate_left; (intro w; go_simp; try with_reducible rfl)); (try simp only [Act.put, List.setIfInBounds_toArray, List.set_cons_zero, List.set_cons_succ])
        refine wpAnyD_done (by kernel_rfl) ?_ _
        clear hHeld HJ
        refine nopanic_normal ?_
        go_wp2
        first
          | (have hW : Ext w3 ((w4.alloc (.cells #[.int .i64 i] 3)).alloc (.cells #[.slice (some ⟨w4.heap.size, 0, none⟩) 1 1, .float .f64 g] 95)) := (HK4.out.alloc _).alloc _
             have hO : OptAt ((w4.alloc (.cells #[.int .i64 i] 3)).alloc (.cells #[.slice (some ⟨w4.heap.size, 0, none⟩) 1 1, .float .f64 g] 95)) (New w) (.pointer (some ⟨w4.heap.size + 1, 0, none⟩)) (some ([(i : Int)], g)) :=
               ⟨_, rfl, .slice (some ⟨w4.heap.size, 0, none⟩) 1 1, (by have h := Blk.new (w4.alloc (.cells #[.int .i64 i] 3)) [.slice (some ⟨w4.heap.size, 0, none⟩) 1 1, .float .f64 g] 95; rw [alloc_size] at h; exact h), (Row.one w4 3 (.int .i64 i) (New w) (Nat.le_trans HK3.out.size HK4.out.size)).alloc _⟩
             refine leaves_cons (f := 42) (args := #[.pointer (some ⟨gin, 0, none⟩), .pointer (some ⟨gib, 0, none⟩)]) (by simp) (by simp [go_sem]) ?_
             refine (HDone.out _ (HI3.out.to hW) (HBx3.out.ext hW) (HK3.out.ext hW) _ (.pointer (some ⟨w4.heap.size + 1, 0, none⟩)) hO HC.out).mono ?_
             rintro e u' w'' ⟨rfl, rfl, h1, h2, h3⟩
             exact ⟨_, results_tmp rfl _ _ _, .pointer (some ⟨w4.heap.size + 1, 0, none⟩), rfl, h1, h2, h3⟩)
          | (have hW : Ext w3 (w4.alloc (.cells #[.slice (some ⟨w3.heap.size, 0, none⟩) 1 1, .float .f64 g] 95)) := HK4.out.alloc _
             have hRw : Row w4 3 1 (.slice (some ⟨w3.heap.size, 0, none⟩) 1 1) 1 [.int .i64 i] (New w) := Row.ext (w := (w3.alloc (.cells #[.int .i64 i] 3)).drew) (Row.one w3 3 (.int .i64 i) (New w) HK3.out.size) HSl.out
             have hO : OptAt (w4.alloc (.cells #[.slice (some ⟨w3.heap.size, 0, none⟩) 1 1, .float .f64 g] 95)) (New w) (.pointer (some ⟨w4.heap.size, 0, none⟩)) (some ([(i : Int)], g)) :=
               ⟨_, rfl, .slice (some ⟨w3.heap.size, 0, none⟩) 1 1, Blk.new w4 [.slice (some ⟨w3.heap.size, 0, none⟩) 1 1, .float .f64 g] 95, hRw.alloc _⟩
             refine leaves_cons (f := 42) (args := #[.pointer (some ⟨gin, 0, none⟩), .pointer (some ⟨gib, 0, none⟩)]) (by simp) (by simp [go_sem]) ?_
             refine (HDone.out _ (HI3.out.to hW) (HBx3.out.ext hW) (HK3.out.ext hW) _ (.pointer (some ⟨w4.heap.size, 0, none⟩)) hO HC.out).mono ?_
             rintro e u' w'' ⟨rfl, rfl, h1, h2, h3⟩
             exact ⟨_, results_tmp rfl _ _ _, .pointer (some ⟨w4.heap.size, 0, none⟩), rfl, h1, h2, h3⟩)
      · refine comes_turn (i := 4) rfl (fun K hK => ?_)
        go_simp
        ((with_reducible refine (HG.out (inn.set i true) _ (by first | exact HI3.out.ext.drew | exact (HI3.out.ext.alloc _).drew) HIn2.out (by first | exact CellsAt.ext (CellsAt.pre (rest := []) (by rw [List.append_nil]; exact HI3.out.fgi)) (Kp.refl w3).drew | exact CellsAt.ext (CellsAt.pre (rest := []) (by rw [List.append_nil]; exact HI3.out.fgi)) ((Kp.refl w3).alloc _).drew)).mono ?_); rintro e w4 ⟨v, rfl, hk4, rfl⟩; rw [EG.out]; have HK4 := Lib.hid (show Ext w3 w4 from (by first | exact ((Kp.refl w3).drew).trans hk4 | exact (((Kp.refl w3).alloc _).drew).trans hk4)); have HSl := Lib.hid hk4; clear hk4)
        go_wp2_with fail
        refine hK.out _ _ ?_ (fun hHeld => ?_)
        · (try dsimp only); (first | exact HJ.out _ HK4.out | exact HJ.out _ (HK4.out.alloc _) | exact HJ.out _ ((HK4.out.alloc _).alloc _) | exact HJ.out _ ((Kp.refl w3).alloc _).drew)
        clear hK K; (try simp only [Act.put, List.setIfInBounds_toArray, List.set_cons_zero, List.set_cons_succ])
        refine draw_one (i := 1) ?_
        refine comes_turn (i := 1) rfl (fun K hK => ?_)
        go_simp
        refine hK.out _ _ ?_ (fun hHeld => ?_)
        · (try dsimp only); (first | exact HJ.out _ HK4.out | exact HJ.out _ (HK4.out.alloc _) | exact HJ.out _ ((HK4.out.alloc _).alloc _) | exact HJ.out _ ((Kp.refl w3).alloc _).drew)
        clear hK K; (try simp only [Act.put, List.setIfInBounds_toArray, List.set_cons_zero, List.set_cons_succ])
        (refine draw_free (i := 5) (v := ?_) rfl ?_ ?_; rotate_left; (intro w; go_simp; try with_reducible rfl)); (try simp only [Act.put, List.setIfInBounds_toArray, List.set_cons_zero, List.set_cons_succ])
        refine draw_one (i := 6) ?_
        refine comes_turn (i := 6) rfl (fun K hK => ?_)
        go_simp
        refine hK.out _ _ ?_ (fun hHeld => ?_)
        · (try dsimp only); (first | exact HJ.out _ HK4.out | exact HJ.out _ (HK4.out.alloc _) | exact HJ.out _ ((HK4.out.alloc _).alloc _) | exact HJ.out _ ((Kp.refl w3).alloc _).drew)
        clear hK K; (try simp only [Act.put, List.setIfInBounds_toArray, List.set_cons_zero, List.set_cons_succ])
        (refine draw_free (i := 7) (v := ?_) rfl ?_ ?_; rotate_left; (intro w; go_simp; try with_reducible rfl)); (try simp only [Act.put, List.setIfInBounds_toArray, List.set_cons_zero, List.set_cons_succ])
        refine wpAnyD_done (by kernel_rfl) ?_ _
        clear hHeld HJ
        refine nopanic_normal ?_
        go_wp2
        first
          | (have hW : Ext w3 ((w4.alloc (.cells #[.int .i64 i] 3)).alloc (.cells #[.slice (some ⟨w4.heap.size, 0, none⟩) 1 1, .float .f64 g] 95)) := (HK4.out.alloc _).alloc _
             have hO : OptAt ((w4.alloc (.cells #[.int .i64 i] 3)).alloc (.cells #[.slice (some ⟨w4.heap.size, 0, none⟩) 1 1, .float .f64 g] 95)) (New w) (.pointer (some ⟨w4.heap.size + 1, 0, none⟩)) (some ([(i : Int)], g)) :=
               ⟨_, rfl, .slice (some ⟨w4.heap.size, 0, none⟩) 1 1, (by have h := Blk.new (w4.alloc (.cells #[.int .i64 i] 3)) [.slice (some ⟨w4.heap.size, 0, none⟩) 1 1, .float .f64 g] 95; rw [alloc_size] at h; exact h), (Row.one w4 3 (.int .i64 i) (New w) (Nat.le_trans HK3.out.size HK4.out.size)).alloc _⟩
             refine leaves_cons (f := 42) (args := #[.pointer (some ⟨gin, 0, none⟩), .pointer (some ⟨gib, 0, none⟩)]) (by simp) (by simp [go_sem]) ?_
             refine (HDone.out _ (HI3.out.to hW) (HBx3.out.ext hW) (HK3.out.ext hW) _ (.pointer (some ⟨w4.heap.size + 1, 0, none⟩)) hO HC.out).mono ?_
             rintro e u' w'' ⟨rfl, rfl, h1, h2, h3⟩
             exact ⟨_, results_tmp rfl _ _ _, .pointer (some ⟨w4.heap.size + 1, 0, none⟩), rfl, h1, h2, h3⟩)
          | (have hW : Ext w3 (w4.alloc (.cells #[.slice (some ⟨w3.heap.size, 0, none⟩) 1 1, .float .f64 g] 95)) := HK4.out.alloc _
             have hRw : Row w4 3 1 (.slice (some ⟨w3.heap.size, 0, none⟩) 1 1) 1 [.int .i64 i] (New w) := Row.ext (w := (w3.alloc (.cells #[.int .i64 i] 3)).drew) (Row.one w3 3 (.int .i64 i) (New w) HK3.out.size) HSl.out
             have hO : OptAt (w4.alloc (.cells #[.slice (some ⟨w3.heap.size, 0, none⟩) 1 1, .float .f64 g] 95)) (New w) (.pointer (some ⟨w4.heap.size, 0, none⟩)) (some ([(i : Int)], g)) :=
               ⟨_, rfl, .slice (some ⟨w3.heap.size, 0, none⟩) 1 1, Blk.new w4 [.slice (some ⟨w3.heap.size, 0, none⟩) 1 1, .float .f64 g] 95, hRw.alloc _⟩
             refine leaves_cons (f := 42) (args := #[.pointer (some ⟨gin, 0, none⟩), .pointer (some ⟨gib, 0, none⟩)]) (by simp) (by simp [go_sem]) ?_
             refine (HDone.out _ (HI3.out.to hW) (HBx3.out.ext hW) (HK3.out.ext hW) _ (.pointer (some ⟨w4.heap.size, 0, none⟩)) hO HC.out).mono ?_
             rintro e u' w'' ⟨rfl, rfl, h1, h2, h3⟩
             exact ⟨_, results_tmp rfl _ _ _, .pointer (some ⟨w4.heap.size, 0, none⟩), rfl, h1, h2, h3⟩)
    · have hd : decide (stands ls (inn.set i true)) = false := decide_eq_false hst
      rw [hd]
      have HC := Lib.hid (show candG S ls inn i = none by
        unfold candG
        rw [if_neg (fun h => hst h.2)])
      clear hd hst
      go_wp2
      refine leaves_cons (f := 42) (args := #[.pointer (some ⟨gin, 0, none⟩), .pointer (some ⟨gib, 0, none⟩)]) (by simp) (by simp [go_sem]) ?_
      refine (HDone.out w3 HI3.out HBx3.out HK3.out none (.pointer none) rfl HC.out).mono ?_
      rintro e u' w'' ⟨rfl, rfl, h1, h2, h3⟩
      exact ⟨_, results_tmp rfl _ _ _, .pointer none, rfl, h1, h2, h3⟩
end Go.Proofs.Ytcphalpcdcddpaa

/- cost.Greedy. -/
namespace Go.Proofs.Ytcphalpcdcddpaa
open Go.RowKit
set_option linter.unusedVariables false
attribute [local go_sem] run_store_float

theorem greedyE_bad {r : RuleZ} {S : List StatZ} (h : errR r S ≠ 0) : greedyE r S = ([], 0, errR r S) := by unfold greedyE; rw [if_neg h]
theorem greedyE_ok {r : RuleZ} {S : List StatZ} (h : errR r S = 0) : greedyE r S = ((greedG S r.2.1 r.2.1.length).1, (greedG S r.2.1 r.2.1.length).2.1, 0) := by unfold greedyE; rw [if_pos h]
theorem greed_succ {S : List StatZ} {ls : List LitZ} {k i : Nat} {g : Nat} (h : nextG S ls (greedG S ls k).2.2 = some ([(i : Int)], g)) : greedG S ls (k + 1) = ((greedG S ls k).1 ++ [(i : Int)], fadd (greedG S ls k).2.1 g, (greedG S ls k).2.2.set i true) := by
  show stepG S ls (greedG S ls k) = _
  unfold stepG
  rw [h]
  simp only [List.headD_cons, Int.toNat_natCast]

def GreedTo (S : List StatZ) (ls : List LitZ) (w1 : World) (gin gi gbb gb n : Nat) (iv ov sv : Value) (w : World) : Prop := ∃ (k : Nat) (o1 : Value), k ≤ n ∧ iv = .int .i64 k ∧ o1 = ov ∧ sv = .float .f64 (greedG S ls k).2.1 ∧ Hid (Row w 3 1 o1 k (ints (greedG S ls k).1) (New w1)) ∧ Hid (TryI w1 gin gi gbb gb n (greedG S ls k).2.2 w)
theorem Row.two {w : World} {e e' : TypeId} {k k' : Nat} {v v' : Value} {n n' : Nat} {xs xs' : List Value} {M M' : Nat → Prop} (h : Row w e k v n xs M) (h' : Row w e' k' v' n' xs' M') (hne : e ≠ e') {g : Nat} (hg : v.ownBlock = some g) : ¬ v'.ownBlock = some g := fun hg' => by
  obtain ⟨cs, hb⟩ := h.blkOf hg
  obtain ⟨cs', hb'⟩ := h'.blkOf hg'
  exact hne (blk_ne hb hb')
theorem TryI.own {wB : World} {gin gi gbb gb n : Nat} {inn : List Bool} {w w' : World} (h : TryI wB gin gi gbb gb n inn w) {v : Value} {k : Nat} {xs : List Value} (hr : Row w 3 1 v k xs (New wB)) (hk : Kp (fun g => v.ownBlock = some g) w w') (hx : Ext wB w') : TryI wB gin gi gbb gb n inn w' := by
  have hn : ∀ {g : Nat} {cs : List Value} {e : TypeId}, Blk w g cs e → e ≠ 3 → ¬ v.ownBlock = some g := fun hb he hg => by
    obtain ⟨cs', hb'⟩ := hr.blkOf hg
    exact he (blk_ne hb hb')
  exact ⟨hx, h.fin.kp hk (hn h.fin (by decide)), h.fgi.kp hk (hn h.fgi (by decide)), h.fbb.kp hk (hn h.fbb (by decide)), h.new⟩

open Classical in
set_option maxRecDepth 100000 in
set_option maxHeartbeats 8000000 in
theorem greedy_any (p : ByteArray) (hs : List TermZ) (ls : List LitZ) (ha : Option Addr) (hn hcap : Nat) (ba : Option Addr) (n bcap : Nat) (S : List StatZ) (sa : Option Addr) (sn scap : Nat) (w : World) (G : Nat → Prop) (hhn : hn = hs.length) (hh : TermsAt w G ha hs) (hhl : hn ≤ 1048576) (hbn : n = ls.length) (h : LitsAt w G ba ls) (hf : Fit ls)
    (hsn : sn = S.length) (hsc : sn ≤ scap) (hS : StatsAt w sa S) (hSf : StatsFit S) :
    Calls Try.prog 23 #[ruleV p ha hn hcap ba n bcap, .slice sa sn scap] w (RetN w (BestV (greedyE ((p, hs, ()), ls, ()) S))) := by
  obtain ⟨e, ee⟩ : ∃ e, e = errR ((p, hs, ()), ls, ()) S := ⟨_, rfl⟩
  have hl : n ≤ 1048576 := by have := hf.len; omega
  have hmf : ∀ (fn : Fn) (first cap : Array Value) (w : World), (Instr.makeFunc fn first cap).run Try.prog w = .ok (.func fn first cap) w := fun _ _ _ _ => rfl
  have HBo := Lib.hid (fun (W : World) (hW : Ext w W) => bodyOf_any p hs ls ha hn hcap ba n bcap S sa sn scap W G hhn (hh.ext hW) hhl hbn (h.ext hW) hf hsn hsc (hS.ext hW) hSf)
  have EE := Lib.hid ee
  have HN := Lib.hid hbn
  have HFt := Lib.hid hf
  clear hhn hh hbn h hf hsn hS hSf ee
  go_enter Try.func23, Try.ntmps23
  go_wp2_with fail
  obtain ⟨wb, eb⟩ : ∃ wb, w.alloc (.cells #[.string p, .slice ha hn hcap, .slice ba n bcap] 27) = wb := ⟨_, rfl⟩
  rw [eb]
  have HB := Lib.hid (Blk.new w [.string p, .slice ha hn hcap, .slice ba n bcap] 27)
  have HX := Lib.hid ((Kp.refl (F := fun _ => False) w).alloc (.cells #[.string p, .slice ha hn hcap, .slice ba n bcap] 27))
  have eb2 : w.alloc (.cells [Value.string p, .slice ha hn hcap, .slice ba n bcap].toArray 27) = wb := eb
  rw [eb2] at HB
  rw [eb] at HX
  clear eb eb2
  refine (HBo.out _ HX.out).mono ?_
  rintro e1 w1 ⟨v, rfl, hk1, hbv⟩
  have X1 := Lib.hid (HX.out.trans hk1)
  clear hk1 HX HB
  by_cases he : e = 0
  · obtain ⟨gb, rfl, _, hB⟩ := hbv.yes (EE.out.symm.trans he)
    have HB := Lib.hid hB
    have HE := Lib.hid (EE.out.symm.trans he)
    have HK := Lib.hid (Known.of (errR_zero HE.out).2)
    have HAll := Lib.hid (full_stands (errR_zero HE.out).1)
    obtain ⟨pa, pcap, na', ncap, gm, mm, ca, ccap, hR⟩ := hB.read
    have b0 : w1.cell? ⟨gb, 0, none⟩ = some (.slice pa n pcap) := by rw [hR.blk.cell', HN.out]; rfl
    clear hbv hB he hR
    obtain ⟨wA, eA⟩ : ∃ wA, w1.alloc (.cells #[.pointer (some ⟨gb, 0, none⟩)] 71) = wA := ⟨_, rfl⟩
    have hA : Blk wA w1.heap.size [.pointer (some ⟨gb, 0, none⟩)] 71 := by rw [← eA]; exact Blk.new w1 _ _
    have xA : Ext w1 wA := by rw [← eA]; exact (Kp.refl w1).alloc _
    have hmk := run_make_row' (P := Try.prog) 74 4 (.bool false) 1 Try.underlying74 (by kernel_rfl) rfl .i64 .i64 n (by omega) (by omega)
    obtain ⟨wC, eC⟩ : ∃ wC, wA.alloc (.cells (madeCells #[.bool false] n) 4) = wC := ⟨_, rfl⟩
    have hC : Blk wC wA.heap.size (List.replicate n (.bool false)) 4 := by rw [← eC]; exact blk_made wA _ n _
    have xC : Ext wA wC := by rw [← eC]; exact (Kp.refl wA).alloc _
    obtain ⟨wD, eD⟩ : ∃ wD, wC.alloc (.cells #[.slice (some ⟨wA.heap.size, 0, none⟩) n n] 74) = wD := ⟨_, rfl⟩
    have hD : Blk wD wC.heap.size [.slice (some ⟨wA.heap.size, 0, none⟩) n n] 74 := by rw [← eD]; exact Blk.new wC _ _
    have xD : Ext wC wD := by rw [← eD]; exact (Kp.refl wC).alloc _
    have a0 : wA.cell? ⟨w1.heap.size, 0, none⟩ = some (.pointer (some ⟨gb, 0, none⟩)) := by rw [hA.cell']; rfl
    have a1 := xA.cell b0 id
    have d0 : wD.cell? ⟨w1.heap.size, 0, none⟩ = some (.pointer (some ⟨gb, 0, none⟩)) := by rw [((hA.ext xC).ext xD).cell']; rfl
    have d1 := xD.cell (xC.cell a1 id) id
    have HT0 := Lib.hid (show TryI w1 wC.heap.size wA.heap.size w1.heap.size gb n (greedG S ls 0).2.2 wD from ⟨(xA.trans xC).trans xD, hD, by
      show Blk wD _ (bools (List.replicate ls.length false)) _
      rw [← HN.out, bools_rep]; exact hC.ext xD, (hA.ext xC).ext xD, xA.size⟩)
    clear hA xA hC xC hD xD b0
    go_wp2
    obtain ⟨gi, egi⟩ : ∃ g, g = wA.heap.size := ⟨_, rfl⟩
    obtain ⟨gin, egin⟩ : ∃ g, g = wC.heap.size := ⟨_, rfl⟩
    obtain ⟨gbb, egbb⟩ : ∃ g, g = w1.heap.size := ⟨_, rfl⟩
    rw [← egi, ← egin, ← egbb] at HT0
    rw [← egi, ← egin, ← egbb]
    clear eA eC eD a0 a1 d0 d1 egi egin egbb hmk
    go_loopw [33, 9, 10] (fun iv ov sv wr => GreedTo S ls w1 gin gi gbb gb n iv ov sv wr) (fun iv _ _ _ => n - (intOf iv).toNat)
    case atStart => exact ⟨0, _, Nat.zero_le _, rfl, rfl, rfl, Row.nil _ _ _ _, HT0.out⟩
    case round =>
      clear HT0
      obtain ⟨k, o1, hk, rfl, rfl, rfl, hrow, htry⟩ := hrel
      have c1 : wr.cell? ⟨gin, 0, none⟩ = some (.slice (some ⟨gi, 0, none⟩) n n) := by rw [htry.out.fin.cell']; rfl
      obtain ⟨oa, oc, eov, _, _⟩ := hrow.out.shape
      subst eov
      by_cases hlt : k < n
      · obtain ⟨x, ex⟩ : ∃ x, x = greedG S ls k := ⟨_, rfl⟩
        have hok := greed_ok HK.out HAll.out (show k ≤ ls.length by rw [← HN.out]; omega)
        rw [← ex] at hrow htry hok
        rw [← ex]
        obtain ⟨i, hi, hi1, hi2, hnext⟩ := next_some (S := S) HAll.out (show k < ls.length by rw [← HN.out]; exact hlt) hok
        rw [← HN.out] at hi
        have HSucc := Lib.hid (greed_succ (by rw [← ex]; exact hnext))
        rw [← ex] at HSucc
        have hxl : x.2.2.length = n := by rw [HN.out]; exact hok.inn
        obtain ⟨g, eg⟩ : ∃ g, guessW S ls (x.2.2.set i true) = g := ⟨_, rfl⟩
        rw [eg] at hnext HSucc
        have hgl : g ≤ infW := by rw [← eg]; exact guessW_le HK.out _
        have hadd : ∀ W, (binOp .add 37 (.float .f64 x.2.1) (.float .f64 g)).run Try.prog W = .ok (.float .f64 (fadd x.2.1 g)) W := fun W => run_float_arith W .add _ .f64 _ _ _ (fadd_eq hok.cost hgl)
        have HNext := Lib.hid (show leastP (candG S ls x.2.2) n = some ([(i : Int)], g) by rw [HN.out]; exact hnext)
        have HMade := Lib.hid (show MadeT 41 #[] #[.pointer (some ⟨gin, 0, none⟩), .pointer (some ⟨gbb, 0, none⟩)] (TryI w1 gin gi gbb gb n x.2.2) (fun k => k = gi) n (candG S ls x.2.2) from
          ⟨enters_of Try.func41 (by kernel_rfl) rfl, fun W h => h.noPlan, fun W W' h hk => h.to hk, fun W h j hj => tryMade_any S ls w1 gin gi gbb gb n j x.2.2 W HN.out HFt.out HK.out hj hxl HB.out h⟩)
        have HOk := Lib.hid (fun (j : Nat) (pp : Plan) (_ : j < n) (hp : candG S ls x.2.2 j = some pp) => show pp.2 ≤ infW ∧ pp.1.length = 1 by
          obtain ⟨rfl, _, _⟩ := candG_some hp
          exact ⟨guessW_le HK.out _, rfl⟩)
        have HIn := Lib.hid (show i < x.2.2.length by rw [hxl]; exact hi)
        clear hok hnext hi1 hi2 eg hxl ex
        go_wp2_with fail
        refine (leastOf_any 41 #[] _ (TryI w1 gin gi gbb gb n x.2.2) (fun k => k = gi) n (candG S ls x.2.2) 1 wr htry.out HMade.out HOk.out (by omega) hl).mono ?_
        rintro e1 w2 ⟨v, rfl, hT2, hk2, ho2⟩
        rw [HNext.out] at ho2
        obtain ⟨b, rfl, ov, hb1, hb2⟩ := ho2
        obtain ⟨pa2, pc2, epv, hcc, hp1, hp2⟩ := hb2.cap
        have HPl := Lib.hid (And.intro hb1 hb2)
        have HT2 := Lib.hid hT2
        have HRow2 := Lib.hid (hrow.out.kp' hk2 fun g' hg' _ e => by
          obtain ⟨cs, hb⟩ := hrow.out.blkOf hg'
          rw [e] at hb
          exact typ_bo.2.2.2 (blk_ne htry.out.fgi hb))
        have HNo := Lib.hid (show ∀ g', (Value.slice oa k oc).ownBlock = some g' → ¬ ov.ownBlock = some g' ∧ g' ≠ b from fun g' hg' => ⟨fun h => by
          have h1 := hb2.block g' h
          have h2 := hrow.out.ltB hg'
          exact absurd h1 (by unfold New; omega), fun e => by
          obtain ⟨cs, hb⟩ := HRow2.out.blkOf hg'
          rw [e] at hb
          exact absurd (blk_ne hb hb1) (by decide)⟩)
        subst epv
        obtain ⟨gp2, go2, epa, hw0⟩ := hcc 0 (.int .i64 i) rfl
        subst epa
        rw [Nat.add_zero] at hw0
        have p0 : w2.cell? ⟨b, 0, none⟩ = some (.slice (some ⟨gp2, go2, none⟩) 1 pc2) := by rw [hb1.cell']; rfl
        clear hT2 hk2 hb1 hb2 hcc hp1 hp2 hrow htry HMade HOk HNext
        go_wp2_with (first | (at_builtin; refine Halted.out ?_))
        refine Halted.mk (wp_appN (m := 1) (n := k) elem_int rfl _ _ rfl (HT2.out.ext.alloc _) rfl (HRow2.out.alloc _) rfl (CellsAt.one w2 (.int .i64 i) 3) (by rfl) (by simp [Value.oneCell']) (by omega) (by unfold maxLen; omega) ?_)
        intro v3 w3 hr3 hk3 hk4 _
        have HX3 := Lib.hid hk3
        have HR3 := Lib.hid hr3
        have HT3 := Lib.hid ((HT2.out.to ((Kp.refl w2).alloc _)).own (HRow2.out.alloc _) hk4 hk3)
        have hpb : Blk w3 b [.slice (some ⟨gp2, go2, none⟩) 1 pc2, .float .f64 g] 95 := (HPl.out.1.alloc _).kp hk4 fun hg => (HNo.out b hg).2 rfl
        have hpr := (HPl.out.2.alloc (.cells #[.int .i64 i] 3)).kp' hk4 fun g' hg' _ hg => (HNo.out g' hg).1 hg'
        obtain ⟨_, _, epv, hcc, _, _⟩ := hpr.cap
        cases epv
        obtain ⟨_, _, epa, hw3⟩ := hcc 0 (.int .i64 i) rfl
        cases epa
        rw [Nat.add_zero] at hw3
        have HJ := Lib.hid (show ∀ w', Ext w3 w' → (fun w' : World => w'.cell? ⟨gin, 0, none⟩ = some (.slice (some ⟨gi, 0, none⟩) n n) ∧ w'.cell? ⟨b, 0, none⟩ = some (.slice (some ⟨gp2, go2, none⟩) 1 pc2) ∧ w'.cell? ⟨gp2, go2, none⟩ = some (.int .i64 i)) w' from fun w' hw => ⟨by rw [(HT3.out.to hw).fin.cell']; rfl, by rw [(hpb.ext hw).cell']; rfl, hw.cell hw3 id⟩)
        have HPb := Lib.hid hpb
        obtain ⟨y, y0⟩ : ∃ y, w3.cell? ⟨gi, i, none⟩ = some (.bool y) := ⟨x.2.2[i]'HIn.out, by rw [HT3.out.fgi.cell']; simp [bools, HIn.out]⟩
        have y1 := HT3.out.fgi.free i
        obtain ⟨w4, e4⟩ : ∃ w4, w3.setCell ⟨gi, i, none⟩ (.bool true) = w4 := ⟨_, rfl⟩
        have HT4 := Lib.hid (show TryI w1 gin gi gbb gb n (x.2.2.set i true) w4 by rw [← e4]; exact HT3.out.put i true)
        have hk34 : Kp (fun j => j = gi) w3 w4 := by rw [← e4]; exact Kp.setCell (F := fun j => j = gi) (Kp.refl w3) (fun _ => rfl) _
        have HR4 := Lib.hid (HR3.out.kp' hk34 fun g' hg' _ e => by
          obtain ⟨cs, hb⟩ := HR3.out.blkOf hg'
          rw [e] at hb
          exact typ_bo.2.2.2 (blk_ne HT3.out.fgi hb))
        have p4 : w4.cell? ⟨b, 1, none⟩ = some (.float .f64 g) := by
          rw [(hpb.kp hk34 fun e => by rw [e] at hpb; exact typ_bo.2.2.1 (blk_ne HT3.out.fgi hpb)).cell']; rfl
        clear hk3 hk4 hr3 hpb hpr hcc hw3 hw0 p0 c1 hk34
        go_wp2
        refine draw_begin (fun w' : World => w'.cell? ⟨gin, 0, none⟩ = some (.slice (some ⟨gi, 0, none⟩) n n) ∧ w'.cell? ⟨b, 0, none⟩ = some (.slice (some ⟨gp2, go2, none⟩) 1 pc2) ∧ w'.cell? ⟨gp2, go2, none⟩ = some (.int .i64 i)) [8] (by kernel_rfl) (HJ.out _ (Kp.refl w3).drew) (fun hHeld => ?_)
        (refine draw_in (i := 0) (v := ?_) rfl ?_ ?_; rotate_left; (intro w hSw; (try dsimp only at hSw); go_simp; try with_reducible rfl)); (try simp only [Act.put, List.setIfInBounds_toArray, List.set_cons_zero, List.set_cons_succ])
        (refine draw_free (i := 1) (v := ?_) rfl ?_ ?_; rotate_left; (intro w; go_simp; try with_reducible rfl)); (try simp only [Act.put, List.setIfInBounds_toArray, List.set_cons_zero, List.set_cons_succ])
        (refine draw_free (i := 2) (v := ?_) rfl ?_ ?_; rotate_left; (intro w; go_simp; try with_reducible rfl)); (try simp only [Act.put, List.setIfInBounds_toArray, List.set_cons_zero, List.set_cons_succ])
        (refine draw_free (i := 3) (v := ?_) rfl ?_ ?_; rotate_left; (intro w; go_simp; try with_reducible rfl)); (try simp only [Act.put, List.setIfInBounds_toArray, List.set_cons_zero, List.set_cons_succ])
        (refine draw_in (i := 4) (v := ?_) rfl ?_ ?_; rotate_left; (intro w hSw; (try dsimp only at hSw); go_simp; try with_reducible rfl)); (try simp only [Act.put, List.setIfInBounds_toArray, List.set_cons_zero, List.set_cons_succ])
        (refine draw_in (i := 5) (v := ?_) rfl ?_ ?_; rotate_left; (intro w hSw; (try dsimp only at hSw); go_simp; try with_reducible rfl)); (try simp only [Act.put, List.setIfInBounds_toArray, List.set_cons_zero, List.set_cons_succ])
        (refine draw_in (i := 6) (v := ?_) rfl ?_ ?_; rotate_left; (intro w hSw; (try dsimp only at hSw); go_simp; try with_reducible rfl)); (try simp only [Act.put, List.setIfInBounds_toArray, List.set_cons_zero, List.set_cons_succ])
        (refine draw_in (i := 7) (v := ?_) rfl ?_ ?_; rotate_left; (intro w hSw; (try dsimp only at hSw); go_simp; try with_reducible rfl)); (try simp only [Act.put, List.setIfInBounds_toArray, List.set_cons_zero, List.set_cons_succ])
        refine draw_one (i := 8) ?_
        refine comes_late (i := 8) rfl (by kernel_rfl) (fun K hK => ?_)
        go_simp
        refine hK.out _ _ ?_
        clear hK K; (try simp only [Act.put, List.setIfInBounds_toArray, List.set_cons_zero, List.set_cons_succ])
        refine wpAnyD_done (by kernel_rfl) ?_ _
        clear hHeld HJ
        have e5 : ints (x.1 ++ [(i : Int)]) = ints x.1 ++ [.int .i64 i] := by simp [ints]
        have HFin := Lib.hid (show Row w4.drew 3 1 v3 (k + 1) (ints (greedG S ls (k + 1)).1) (New w1) by rw [HSucc.out]; show Row _ _ _ _ _ (ints (x.1 ++ [(i : Int)])) _; rw [e5]; exact HR4.out.drew)
        have HFin2 := Lib.hid (show TryI w1 gin gi gbb gb n (greedG S ls (k + 1)).2.2 w4.drew by rw [HSucc.out]; exact HT4.out.to (Kp.refl w4).drew)
        have HFin3 := Lib.hid (show Value.float .f64 (fadd x.2.1 g) = .float .f64 (greedG S ls (k + 1)).2.1 by rw [HSucc.out])
        clear e5
        go_wp2
        clear e4 y0 y1 p4
        go_roundw
        case rel => exact ⟨k + 1, _, by omega, by first | rfl | (congr 1; done) | (congr 1; omega), rfl, HFin3.out, HFin, HFin2⟩
        case measure => simp [intOf]; omega
      · obtain rfl : k = n := by omega
        have HVal := Lib.hid (greedyE_ok HE.out)
        have HX := Lib.hid (X1.out.trans htry.out.ext)
        obtain ⟨_, _, ecp, h2, h3, h4⟩ := hrow.out.cap
        cases ecp
        have HD := Lib.hid (And.intro h2 (And.intro h3 h4))
        have HLn := Lib.hid (greed_ok HK.out HAll.out (show k ≤ ls.length by rw [← HN.out]; exact Nat.le_refl _)).len
        clear h2 h3 h4 c1
        go_wp2
        go_ret3
        refine RetN.mk HX.out ?_
        rw [HVal.out]
        show BestV ((greedG S ls ls.length).1, (greedG S ls ls.length).2.1, 0) _ _
        rw [← HN.out]
        refine ⟨oa, oc, ?_, HD.out.1, ?_, HD.out.2.2⟩
        · rw [show ((greedG S ls k).1, (greedG S ls k).2.1, (0 : Nat)).1.length = k from HLn.out]; rfl
        · rw [show ((greedG S ls k).1, (greedG S ls k).2.1, (0 : Nat)).1.length = k from HLn.out]; exact HD.out.2.1
  · have hv := hbv.no (fun q => he (EE.out.trans q))
    rw [← EE.out] at hv
    subst hv
    have b1 : ((e : Int) == 0) = false := by simp; omega
    have b2 : ((e : Int) != 0) = true := by simp; omega
    have HH := Lib.hid he
    clear he hbv
    go_wp2
    go_ret3
    exact RetN.mk (X1.out.alloc _) (by rw [greedyE_bad (fun q => HH.out (EE.out.trans q)), ← EE.out]; exact ⟨none, 0, rfl, CellsAt.nil _ _, Nat.le_refl _, by unfold maxLen; omega⟩)
end Go.Proofs.Ytcphalpcdcddpaa

/- The law of costs: v, atom. -/
namespace Go.Proofs.Ytcphalpcdcddpaa
open Go.RowKit
set_option linter.unusedVariables false

set_option maxRecDepth 100000 in
theorem v_any (s : ByteArray) (w : World) : Calls Try.prog 49 #[.string s] w (RetN w fun w' u => u = .agg #[.int .i64 1, .string s]) := by
  go_enter Try.func49, Try.ntmps49
  obtain ⟨wb, eb⟩ : ∃ wb, w.alloc (.cells #[.int .i64 1, .string s] 68) = wb := ⟨_, rfl⟩
  have hB : Blk wb w.heap.size [.int .i64 1, .string s] 68 := by rw [← eb]; exact Blk.new w _ _
  have u0 : wb.cell? ⟨w.heap.size, 0, none⟩ = some (.int .i64 1) := by rw [hB.cell']; rfl
  have u1 : wb.cell? ⟨w.heap.size, 1, none⟩ = some (.string s) := by rw [hB.cell']; rfl
  have HX := Lib.hid (show Ext w wb by rw [← eb]; exact (Kp.refl w).alloc _)
  clear hB
  go_wp2
  refine bodyPost_ret (v := .agg #[.int .i64 1, .string s]) (by simp [results, Try.results49, go_sem, u0, u1]) rfl ?_
  exact RetN.mk HX.out rfl

def awNo : TermZ := (0, ⟨#[]⟩, ())
def atomL (p : ByteArray) (ts : List TermZ) : LitZ := (1, (p, ts, ()), 0, awNo, awNo, ())
def varT (s : ByteArray) : TermZ := (1, s, ())
def litZs (k : Int) (p : ByteArray) (tv : Value) : List Value := [.int .i64 k, .string p, tv, .int .i64 0, .int .i64 0, .string ⟨#[]⟩, .int .i64 0, .string ⟨#[]⟩]
theorem row_terms {w : World} {a : Option Addr} {n c : Nat} {ts : List TermZ} {M : Nat → Prop} (h : Row w 68 2 (.slice a n c) n (tcells ts) M) (hf : ∀ t ∈ ts, TermFit t) : TermsAt w M a ts := by
  obtain ⟨h1, ⟨e, rfl⟩ | ⟨g, cap, rest, e, hM, hB, _⟩⟩ := h
  · rw [tcells_len] at h1
    obtain rfl : ts = [] := List.eq_nil_of_length_eq_zero (by omega)
    intro i x hx
    simp at hx
  · cases e
    exact elems_of (s := shTerm) (f := termC) (fun x => rfl) (fun i x hi => term_mk (hf x (List.mem_of_getElem? hi))) hM hB
/-- The terms of atom so far. -/
def AtomTo (w0 : World) (gt gl : Nat) (p : ByteArray) (ns : List ByteArray) (n : Nat) (iv : Value) (w : World) : Prop := ∃ i : Nat, i ≤ n ∧ iv = .int .i64 i ∧ Hid (Ext w0 w) ∧ Hid (∃ tv, Blk w gt (litZs 0 ⟨#[]⟩ (.slice none 0 0)) 70 ∧ Blk w gl (litZs 1 p tv) 70 ∧ Row w 68 2 tv i (tcells ((ns.take i).map varT)) (New w0))

set_option maxRecDepth 100000 in
set_option maxHeartbeats 4000000 in
theorem atom_any (p : ByteArray) (ns : List ByteArray) (na : Option Addr) (n cap : Nat) (w : World) (hn : n = ns.length) (h : CellsAt w na (strs ns)) (hl : n ≤ 1048576) (hs : ∀ s ∈ ns, s.size ≤ maxLen) :
    Calls Try.prog 50 #[.string p, .slice na n cap] w (RetN w fun w' u => ∃ a c, u = .agg (litC (atomL p (ns.map varT), (a, c))).toArray ∧ TermsAt w' (New w) a (ns.map varT) ∧ n ≤ c ∧ c ≤ maxLen) := by
  have HN := Lib.hid hn
  have HC := Lib.hid h
  have HS := Lib.hid hs
  clear hn h hs
  go_enter Try.func50, Try.ntmps50
  go_wp2
  obtain ⟨gt, egt⟩ : ∃ g, w.heap.size = g := ⟨_, rfl⟩
  have EGT := Lib.hid egt
  rw [egt]
  obtain ⟨gl, egl⟩ : ∃ g, gt + 1 = g := ⟨_, rfl⟩
  have EGL := Lib.hid egl
  rw [egl]
  obtain ⟨wb, eb⟩ : ∃ wb, (w.alloc (.cells #[.int .i64 0, .string ⟨#[]⟩, .slice none 0 0, .int .i64 0, .int .i64 0, .string ⟨#[]⟩, .int .i64 0, .string ⟨#[]⟩] 70)).alloc (.cells #[.int .i64 1, .string p, .slice none 0 0, .int .i64 0, .int .i64 0, .string ⟨#[]⟩, .int .i64 0, .string ⟨#[]⟩] 70) = wb := ⟨_, rfl⟩
  rw [eb]
  have HT0 := Lib.hid (show Blk wb gt (litZs 0 ⟨#[]⟩ (.slice none 0 0)) 70 by rw [← eb, ← egt]; exact (Blk.new w (litZs 0 ⟨#[]⟩ (.slice none 0 0)) 70).alloc _)
  have HL0 := Lib.hid (show Blk wb gl (litZs 1 p (.slice none 0 0)) 70 by
    have h := Blk.new (w.alloc (.cells #[.int .i64 0, .string ⟨#[]⟩, .slice none 0 0, .int .i64 0, .int .i64 0, .string ⟨#[]⟩, .int .i64 0, .string ⟨#[]⟩] 70)) (litZs 1 p (.slice none 0 0)) 70
    rw [alloc_size, egt, egl] at h
    rw [← eb]; exact h)
  have XB := Lib.hid (show Ext w wb by rw [← eb]; exact ((Kp.refl w).alloc _).alloc _)
  clear eb egt egl
  go_loopw [6] (fun iv wr => AtomTo w gt gl p ns n iv wr) (fun iv _ => n - (intOf iv).toNat)
  case atStart => exact ⟨0, Nat.zero_le _, rfl, XB.out, _, HT0.out, HL0.out, Row.nil _ _ _ _⟩
  case round =>
    clear HT0 HL0 XB
    obtain ⟨i, hi, rfl, hex, hin⟩ := hrel
    obtain ⟨tv, hBt, hBl, hr⟩ := hin.out
    obtain ⟨ta, tn, tc, etv, hcp1, hcp2⟩ : ∃ ta tn tc, tv = .slice ta tn tc ∧ tn = i ∧ True := by
      obtain ⟨ao, cap, e, _⟩ := hr.shape
      exact ⟨ao, _, cap, e, rfl, trivial⟩
    subst etv
    subst hcp1
    have HBt := Lib.hid hBt
    have HBl := Lib.hid hBl
    have HR := Lib.hid hr
    clear hBt hBl hr hin hcp2
    by_cases hlt : tn < n
    · obtain ⟨s, hs⟩ : ∃ s, ns[tn]? = some s := ⟨_, List.getElem?_eq_getElem (by rw [← HN.out]; exact hlt)⟩
      obtain ⟨b, off, ena, c0⟩ := HC.out tn (.string s) (by simp [strs, hs])
      subst ena
      replace c0 := hex.out.cell c0 id
      have l2 : wr.cell? ⟨gl, 2, none⟩ = some (.slice ta tn tc) := by rw [HBl.out.cell']; rfl
      have l2f := HBl.out.free 2
      have HSI := Lib.hid hs
      have hssz := HS.out s (List.mem_of_getElem? hs)
      clear hs
      go_wp2
      have HJ := Lib.hid (show ∀ w', Ext wr w' → (fun w' : World => w'.cell? ⟨gl, 2, none⟩ = some (.slice ta tn tc) ∧ w'.cell? ⟨b, off + tn, none⟩ = some (.string s)) w' from fun w' hw => ⟨hw.cell l2 id, hw.cell c0 id⟩)
      clear l2 c0 hssz
      refine draw_begin (fun w' : World => w'.cell? ⟨gl, 2, none⟩ = some (.slice ta tn tc) ∧ w'.cell? ⟨b, off + tn, none⟩ = some (.string s)) [9, 12] (by kernel_rfl) (HJ.out _ (Kp.refl wr).drew) (fun hHeld => ?_)
      (refine draw_free (i := 0) (v := ?_) rfl ?_ ?_; rotate_left; (intro w; go_simp; try with_reducible rfl)); (try simp only [Act.put, List.setIfInBounds_toArray, List.set_cons_zero, List.set_cons_succ])
      (refine draw_free (i := 1) (v := ?_) rfl ?_ ?_; rotate_left; (intro w; go_simp; try with_reducible rfl)); (try simp only [Act.put, List.setIfInBounds_toArray, List.set_cons_zero, List.set_cons_succ])
      (refine draw_in (i := 2) (v := ?_) rfl ?_ ?_; rotate_left; (intro w hSw; (try dsimp only at hSw); go_simp; try with_reducible rfl)); (try simp only [Act.put, List.setIfInBounds_toArray, List.set_cons_zero, List.set_cons_succ])
      (refine draw_free (i := 3) (v := ?_) rfl ?_ ?_; rotate_left; (intro w; go_simp; try with_reducible rfl)); (try simp only [Act.put, List.setIfInBounds_toArray, List.set_cons_zero, List.set_cons_succ])
      (refine draw_free (i := 4) (v := ?_) rfl ?_ ?_; rotate_left; (intro w; go_simp; try with_reducible rfl)); (try simp only [Act.put, List.setIfInBounds_toArray, List.set_cons_zero, List.set_cons_succ])
      (refine draw_in (i := 5) (v := ?_) rfl ?_ ?_; rotate_left; (intro w hSw; (try dsimp only at hSw); go_simp; try with_reducible rfl)); (try simp only [Act.put, List.setIfInBounds_toArray, List.set_cons_zero, List.set_cons_succ])
      (refine draw_in (i := 6) (v := ?_) rfl ?_ ?_; rotate_left; (intro w hSw; (try dsimp only at hSw); go_simp; try with_reducible rfl)); (try simp only [Act.put, List.setIfInBounds_toArray, List.set_cons_zero, List.set_cons_succ])
      refine draw_one (i := 7) ?_
      refine comes_turn (i := 7) rfl (fun K hK => ?_)
      go_simp
      (refine (v_any s _).mono ?_; rintro e w5 ⟨v, rfl, hk3, rfl⟩; have X5 := Lib.hid (show Ext wr w5 from ((Kp.refl wr).drew).trans hk3); clear hk3)
      go_wp2_with fail
      refine hK.out _ _ ?_ (fun hHeld => ?_)
      · (try dsimp only); (exact HJ.out _ X5.out)
      clear hK K; (try simp only [Act.put, List.setIfInBounds_toArray, List.set_cons_zero, List.set_cons_succ])
      refine draw_one (i := 8) ?_
      refine comes_turn (i := 8) rfl (fun K hK => ?_)
      go_simp
      refine hK.out _ _ ?_ (fun hHeld => ?_)
      · (try dsimp only); (exact HJ.out _ (X5.out.alloc _))
      clear hK K; (try simp only [Act.put, List.setIfInBounds_toArray, List.set_cons_zero, List.set_cons_succ])
      refine draw_one (i := 9) ?_
      refine comes_late (i := 9) rfl (by kernel_rfl) (fun K hK => ?_)
      refine draw_appN elem_term rfl _ _ rfl ((hex.out.trans X5.out).alloc _) rfl ((HR.out.ext X5.out).alloc _) rfl (CellsAt.new w5 [.int .i64 1, .string s] 68) (by rfl) (by simp [Value.oneCell']) (by omega) (by unfold maxLen; omega) ?_; intro v1 w6 hr1 hk1 hk2
      refine hK.out _ _ ?_
      clear hK K; (try simp only [Act.put, List.setIfInBounds_toArray, List.set_cons_zero, List.set_cons_succ])
      (refine draw_free (i := 10) (v := ?_) rfl ?_ ?_; rotate_left; (intro w; go_simp; try with_reducible rfl)); (try simp only [Act.put, List.setIfInBounds_toArray, List.set_cons_zero, List.set_cons_succ])
      (refine draw_free (i := 11) (v := ?_) rfl ?_ ?_; rotate_left; (intro w; go_simp; try with_reducible rfl)); (try simp only [Act.put, List.setIfInBounds_toArray, List.set_cons_zero, List.set_cons_succ])
      refine draw_one (i := 12) ?_
      refine comes_late (i := 12) rfl (by kernel_rfl) (fun K hK => ?_)
      (obtain ⟨b6, c6, ev6, _, _⟩ := hr1.shape; subst ev6; have hB6 : Blk w6 gl (litZs 1 p (.slice ta tn tc)) 70 := ((HBl.out.ext X5.out).alloc _).kp hk2 (fun e => (by obtain ⟨cs, hb⟩ := (HR.out.ext X5.out).blkOf e; exact typ_tl (blk_ne hb (HBl.out.ext X5.out)))); have hT6 : Blk w6 gt (litZs 0 ⟨#[]⟩ (.slice none 0 0)) 70 := ((HBt.out.ext X5.out).alloc _).kp hk2 (fun e => (by obtain ⟨cs, hb⟩ := (HR.out.ext X5.out).blkOf e; exact typ_tl (blk_ne hb (HBt.out.ext X5.out)))); have x6f := hB6.free 2; have x6 : w6.cell? ⟨gl, 2, none⟩ = some (.slice ta tn tc) := (by rw [hB6.cell']; rfl); have HA := Lib.hid (And.intro hr1 (And.intro hk1 (And.intro hB6 hT6))); clear hr1 hk1 hk2 hB6 hT6)
      go_simp
      refine hK.out _ _ ?_
      clear hK K; (try simp only [Act.put, List.setIfInBounds_toArray, List.set_cons_zero, List.set_cons_succ])
      refine wpAnyD_done (by kernel_rfl) ?_ _
      obtain ⟨hr1, hk1, hB6, hT6⟩ := HA.out
      obtain ⟨w7, ew7⟩ : ∃ w7, w6.setCell ⟨gl, 2, none⟩ (.slice b6 (tn + 1) c6) = w7 := ⟨_, rfl⟩
      have hk67 : Kp (fun k => k = gl) w6 w7 := by rw [← ew7]; exact Kp.setCell (F := fun k => k = gl) (Kp.refl w6) (fun _ => rfl) _
      have hB7 : Blk w7 gl (litZs 1 p (.slice b6 (tn + 1) c6)) 70 := by rw [← ew7]; exact hB6.set 2 _
      have hT7 : Blk w7 gt (litZs 0 ⟨#[]⟩ (.slice none 0 0)) 70 := hT6.kp hk67 (by have := EGL.out; omega)
      have hx7 : Ext w w7 := by rw [← ew7]; exact Kp.setCell (F := fun _ => False) hk1 (fun h => by have := EGL.out; have := EGT.out; simp only at h; omega) _
      have hr7 := hr1.kp' hk67 fun g hg _ e => by
        obtain ⟨cs, hb⟩ := hr1.blkOf hg
        subst e
        exact typ_tl (blk_ne hb hB6)
      have e7 : tcells ((ns.take (tn + 1)).map varT) = tcells ((ns.take tn).map varT) ++ [.int .i64 1, .string s] := by rw [takeSnoc HSI.out, List.map_append]; exact tcells_snoc _ _
      rw [← e7] at hr7
      have HFin := Lib.hid (show ∃ tv, Blk w7 gt (litZs 0 ⟨#[]⟩ (.slice none 0 0)) 70 ∧ Blk w7 gl (litZs 1 p tv) 70 ∧ Row w7 68 2 tv (tn + 1) (tcells ((ns.take (tn + 1)).map varT)) (New w) from ⟨_, hT7, hB7, hr7⟩)
      have HX7 := Lib.hid hx7
      rw [ew7]
      clear hr1 hk1 hB6 hT6 hk67 hB7 hT7 hx7 hr7 e7 x6 x6f HA ew7 hHeld
      go_wp2
      go_roundw
      case rel => exact ⟨tn + 1, by omega, by first | rfl | (congr 1; done) | (congr 1; omega), HX7.out, HFin.out⟩
      case measure => simp [intOf]; omega
    · obtain rfl : tn = n := by omega
      have hall : ns.take tn = ns := List.take_of_length_le (by have := HN.out; omega)
      have hr := HR.out
      rw [hall] at hr
      obtain ⟨_, _, e, q1, q2, q3⟩ := hr.cap
      cases e
      have HTA := Lib.hid (And.intro hr (And.intro q2 q3))
      have l0 : wr.cell? ⟨gl, 0, none⟩ = some (.int .i64 1) := by rw [HBl.out.cell']; rfl
      have l1 : wr.cell? ⟨gl, 1, none⟩ = some (.string p) := by rw [HBl.out.cell']; rfl
      have l2 : wr.cell? ⟨gl, 2, none⟩ = some (.slice ta tn tc) := by rw [HBl.out.cell']; rfl
      have l3 : wr.cell? ⟨gl, 3, none⟩ = some (.int .i64 0) := by rw [HBl.out.cell']; rfl
      have l4 : wr.cell? ⟨gl, 4, none⟩ = some (.int .i64 0) := by rw [HBl.out.cell']; rfl
      have l5 : wr.cell? ⟨gl, 5, none⟩ = some (.string ⟨#[]⟩) := by rw [HBl.out.cell']; rfl
      have l6 : wr.cell? ⟨gl, 6, none⟩ = some (.int .i64 0) := by rw [HBl.out.cell']; rfl
      have l7 : wr.cell? ⟨gl, 7, none⟩ = some (.string ⟨#[]⟩) := by rw [HBl.out.cell']; rfl
      have z0 : ∃ u, wr.cell? ⟨gt, 0, none⟩ = some u := ⟨_, by rw [HBt.out.cell']; rfl⟩
      have z1 : ∃ u, wr.cell? ⟨gt, 1, none⟩ = some u := ⟨_, by rw [HBt.out.cell']; rfl⟩
      have z2 : ∃ u, wr.cell? ⟨gt, 2, none⟩ = some u := ⟨_, by rw [HBt.out.cell']; rfl⟩
      have z3 : ∃ u, wr.cell? ⟨gt, 3, none⟩ = some u := ⟨_, by rw [HBt.out.cell']; rfl⟩
      have z4 : ∃ u, wr.cell? ⟨gt, 4, none⟩ = some u := ⟨_, by rw [HBt.out.cell']; rfl⟩
      have z5 : ∃ u, wr.cell? ⟨gt, 5, none⟩ = some u := ⟨_, by rw [HBt.out.cell']; rfl⟩
      have z6 : ∃ u, wr.cell? ⟨gt, 6, none⟩ = some u := ⟨_, by rw [HBt.out.cell']; rfl⟩
      have z7 : ∃ u, wr.cell? ⟨gt, 7, none⟩ = some u := ⟨_, by rw [HBt.out.cell']; rfl⟩
      have f0 := HBt.out.free 0
      have f1 := HBt.out.free 1
      have f2 := HBt.out.free 2
      have f3 := HBt.out.free 3
      have f4 := HBt.out.free 4
      have f5 := HBt.out.free 5
      have f6 := HBt.out.free 6
      have f7 := HBt.out.free 7
      obtain ⟨u0, y0⟩ := z0
      obtain ⟨u1, y1⟩ := z1
      obtain ⟨u2, y2⟩ := z2
      obtain ⟨u3, y3⟩ := z3
      obtain ⟨u4, y4⟩ := z4
      obtain ⟨u5, y5⟩ := z5
      obtain ⟨u6, y6⟩ := z6
      obtain ⟨u7, y7⟩ := z7
      clear hr hall q1 q2 q3
      go_wp2
      obtain ⟨w9, ew9⟩ : ∃ w9, (((((((wr.setCell ⟨gt, 0, none⟩ (.int .i64 1)).setCell ⟨gt, 1, none⟩ (.string p)).setCell ⟨gt, 2, none⟩ (.slice ta tn tc)).setCell ⟨gt, 3, none⟩ (.int .i64 0)).setCell ⟨gt, 4, none⟩ (.int .i64 0)).setCell ⟨gt, 5, none⟩ (.string ⟨#[]⟩)).setCell ⟨gt, 6, none⟩ (.int .i64 0)).setCell ⟨gt, 7, none⟩ (.string ⟨#[]⟩) = w9 := ⟨_, rfl⟩
      rw [ew9]
      have hB9 : Blk w9 gt (litZs 1 p (.slice ta tn tc)) 70 := by
        rw [← ew9]
        exact (((((((HBt.out.set 0 _).set 1 _).set 2 _).set 3 _).set 4 _).set 5 _).set 6 _).set 7 _
      have hk9 : Kp (fun k => k = gt) wr w9 := by
        rw [← ew9]
        exact ((((((((Kp.refl wr).setCell (F := fun k => k = gt) (p := ⟨gt, 0, none⟩) (fun _ => rfl) _).setCell (p := ⟨gt, 1, none⟩) (fun _ => rfl) _).setCell (p := ⟨gt, 2, none⟩) (fun _ => rfl) _).setCell (p := ⟨gt, 3, none⟩) (fun _ => rfl) _).setCell (p := ⟨gt, 4, none⟩) (fun _ => rfl) _).setCell (p := ⟨gt, 5, none⟩) (fun _ => rfl) _).setCell (p := ⟨gt, 6, none⟩) (fun _ => rfl) _).setCell (p := ⟨gt, 7, none⟩) (fun _ => rfl) _
      have hx9 : Ext w w9 := hex.out.trans' hk9 fun i hi e => absurd hi (by have := EGT.out; omega)
      have hta : TermsAt w9 (New w) ta (ns.map varT) := by
        have hr9 := HTA.out.1.kp' hk9 fun g hg _ e => by
          obtain ⟨cs, hb⟩ := HTA.out.1.blkOf hg
          subst e
          exact typ_tl (blk_ne hb HBt.out)
        exact row_terms hr9 fun t ht => by
          obtain ⟨s, hs, rfl⟩ := List.mem_map.1 ht
          exact ⟨(by decide : (Lit.int .i64 1).wf = true), HS.out s hs⟩
      have v0 := hB9.cell' 0
      have v1 := hB9.cell' 1
      have v2 := hB9.cell' 2
      have v3 := hB9.cell' 3
      have v4 := hB9.cell' 4
      have v5 := hB9.cell' 5
      have v6 := hB9.cell' 6
      have v7 := hB9.cell' 7
      refine bodyPost_ret (v := .agg #[.int .i64 1, .string p, .slice ta tn tc, .int .i64 0, .int .i64 0, .string ⟨#[]⟩, .int .i64 0, .string ⟨#[]⟩]) (by simp [results, Try.results50, go_sem, litZs, v0, v1, v2, v3, v4, v5, v6, v7]) rfl ?_
      refine RetN.mk hx9 ⟨ta, tc, ?_, hta, HTA.out.2.1, HTA.out.2.2⟩
      have e : (termsOf (atomL p (ns.map varT))).length = tn := by show (ns.map varT).length = tn; rw [List.length_map, HN.out]
      simp only [litC, e]; rfl
end Go.Proofs.Ytcphalpcdcddpaa

/- The chapter's example of costs, reckoned: guess 500, best and greedy order 2 0 1 3, cost 424. No program in sight. -/
namespace Go.Proofs.Ytcphalpcdcddpaa
set_option linter.unusedVariables false

/-- Bound, stands: by Bool. -/
def boundB (ls : List LitZ) (inn : List Bool) (v : ByteArray) : Bool := (ls.zip inn).any fun p => p.2 && decide (p.1.1 = 1) && hasT (varsT (termsOf p.1)) v
def standsB (ls : List LitZ) (inn : List Bool) : Bool := (ls.zip inn).all fun p => !p.2 || decide (p.1.1 = 1) || (varsT (asks p.1)).all (boundB ls inn)
theorem bound_iff {ls : List LitZ} {inn : List Bool} {v : ByteArray} : boundB ls inn v = true ↔ boundIn ls inn v := by
  unfold boundB boundIn
  rw [List.any_eq_true]
  constructor
  · rintro ⟨p, hp, h⟩
    obtain ⟨i, hi⟩ := List.mem_iff_getElem?.1 hp
    rw [Bool.and_eq_true, Bool.and_eq_true, decide_eq_true_eq, hasT_iff] at h
    obtain ⟨⟨h1, h2⟩, h3⟩ := h
    obtain ⟨l, b⟩ := p
    rw [List.getElem?_zip_eq_some] at hi
    obtain rfl : b = true := h1
    exact ⟨i, l, hi.1, hi.2, h2, h3⟩
  · rintro ⟨i, l, h1, h2, h3, h4⟩
    refine ⟨(l, true), List.mem_iff_getElem?.2 ⟨i, by rw [List.getElem?_zip_eq_some]; exact ⟨h1, h2⟩⟩, ?_⟩
    rw [Bool.and_eq_true, Bool.and_eq_true, decide_eq_true_eq, hasT_iff]
    exact ⟨⟨rfl, h3⟩, h4⟩
theorem stands_B {ls : List LitZ} {inn : List Bool} : stands ls inn ↔ standsB ls inn = true := by
  unfold standsB stands
  rw [List.all_eq_true]
  constructor
  · intro h p hp
    obtain ⟨i, hi⟩ := List.mem_iff_getElem?.1 hp
    obtain ⟨l, b⟩ := p
    rw [List.getElem?_zip_eq_some] at hi
    cases b with
    | false => rfl
    | true =>
      by_cases h1 : l.1 = 1
      · show (!true || decide (l.1 = 1) || _) = true
        rw [decide_eq_true h1]; rfl
      · show (!true || decide (l.1 = 1) || (varsT (asks l)).all (boundB ls inn)) = true
        rw [decide_eq_false h1, List.all_eq_true.2 fun v hv => bound_iff.2 (h i l hi.1 hi.2 h1 v hv)]; rfl
  · intro h i l h1 h2 h3 v hv
    have h4 := h (l, true) (List.mem_iff_getElem?.2 ⟨i, by rw [List.getElem?_zip_eq_some]; exact ⟨h1, h2⟩⟩)
    have h5 : (!true || decide (l.1 = 1) || (varsT (asks l)).all (boundB ls inn)) = true := h4
    rw [decide_eq_false h3] at h5
    have h6 : (varsT (asks l)).all (boundB ls inn) = true := h5
    exact bound_iff.1 (List.all_eq_true.1 h6 v hv)

/-- The same tables by Bool. -/
noncomputable def rowB (S : List StatZ) (ls : List LitZ) (T : Nat → Option Plan) (s : Nat) : Option Plan := if s = 0 then some ([], 0) else if standsB ls (bitsS ls.length s) = true then leastP (candP T (guessW S ls (bitsS ls.length s)) s) ls.length else none
noncomputable def tabB (S : List StatZ) (ls : List LitZ) : Nat → Nat → Option Plan
  | 0, _ => none
  | k + 1, s => if s = k then rowB S ls (tabB S ls k) k else tabB S ls k s
theorem row_B (S : List StatZ) (ls : List LitZ) (T : Nat → Option Plan) (s : Nat) : rowP S ls T s = rowB S ls T s := by
  unfold rowP rowB
  split
  · rfl
  · by_cases h : stands ls (bitsS ls.length s)
    · rw [if_pos h, if_pos (stands_B.1 h)]
    · rw [if_neg h, if_neg (fun e => h (stands_B.2 e))]
theorem tab_B (S : List StatZ) (ls : List LitZ) : ∀ (k : Nat), tabP S ls k = tabB S ls k
  | 0 => rfl
  | k + 1 => by
    funext s
    show (if s = k then rowP S ls (tabP S ls k) k else tabP S ls k s) = (if s = k then rowB S ls (tabB S ls k) k else tabB S ls k s)
    rw [tab_B S ls k, row_B]
theorem plan_B (S : List StatZ) (ls : List LitZ) (s : Nat) : planS S ls s = tabB S ls (s + 1) s := by
  unfold planS
  rw [tab_B]
noncomputable def candGB (S : List StatZ) (ls : List LitZ) (inn : List Bool) (i : Nat) : Option Plan := if inn[i]? = some false ∧ standsB ls (inn.set i true) = true then some ([(i : Int)], guessW S ls (inn.set i true)) else none
theorem candG_B (S : List StatZ) (ls : List LitZ) (inn : List Bool) : candG S ls inn = candGB S ls inn := by
  funext i
  unfold candG candGB
  by_cases h : inn[i]? = some false ∧ stands ls (inn.set i true)
  · rw [if_pos h, if_pos ⟨h.1, stands_B.1 h.2⟩]
  · rw [if_neg h, if_neg (fun e => h ⟨e.1, stands_B.2 e.2⟩)]
noncomputable def stepGB (S : List StatZ) (ls : List LitZ) (x : GreedZ) : GreedZ := match leastP (candGB S ls x.2.2) ls.length with
  | some p => (x.1 ++ [p.1.headD 0], fadd x.2.1 p.2, x.2.2.set (p.1.headD 0).toNat true)
  | none => x
noncomputable def greedGB (S : List StatZ) (ls : List LitZ) : Nat → GreedZ
  | 0 => ([], 0, List.replicate ls.length false)
  | k + 1 => stepGB S ls (greedGB S ls k)
theorem greedG_B (S : List StatZ) (ls : List LitZ) : ∀ k, greedG S ls k = greedGB S ls k
  | 0 => rfl
  | k + 1 => by
    show stepG S ls (greedG S ls k) = stepGB S ls (greedGB S ls k)
    rw [greedG_B S ls k]
    unfold stepG stepGB nextG
    rw [candG_B]
    cases leastP (candGB S ls (greedGB S ls k).2.2) ls.length <;> rfl

/-- The example. -/
def awX : TermZ := (1, ⟨#[88]⟩, ())
def awY : TermZ := (1, ⟨#[89]⟩, ())
def awZ : TermZ := (1, ⟨#[90]⟩, ())
def awE1 : LitZ := atomL ⟨#[101]⟩ [awX, awY]
def awE2 : LitZ := atomL ⟨#[101]⟩ [awY, awZ]
def awN : LitZ := atomL ⟨#[110]⟩ [awX]
def awC : LitZ := (3, (⟨#[]⟩, [], ()), 2, awX, awZ, ())
def awLs : List LitZ := [awE1, awE2, awN, awC]
def awHs : List TermZ := [awX, awZ]
def awR : RuleZ := ((⟨#[116]⟩, awHs, ()), awLs, ())
def awS : List StatZ := [(⟨#[101]⟩, 4636737291354636288, [4621819117588971520, 4626322717216342016], ()), (⟨#[110]⟩, 4616189618054758400, [4616189618054758400], ())]
theorem aw_check : checkR awR = 0 := by kernel_rfl
theorem aw_err : errR awR awS = 0 := by
  unfold errR
  rw [if_pos aw_check, if_pos]
  intro i s h
  match i, h with
  | 0, h =>
    have e : (⟨#[101]⟩, 4636737291354636288, [4621819117588971520, 4626322717216342016], ()) = s := Option.some.inj h
    have k : statOk awR awS 0 (⟨#[101]⟩, 4636737291354636288, [4621819117588971520, 4626322717216342016], ()) = true := by kernel_rfl
    exact e ▸ k
  | 1, h =>
    have e : (⟨#[110]⟩, 4616189618054758400, [4616189618054758400], ()) = s := Option.some.inj h
    have k : statOk awR awS 1 (⟨#[110]⟩, 4616189618054758400, [4616189618054758400], ()) = true := by kernel_rfl
    exact e ▸ k
  | n + 2, h => cases h
theorem aw_guess : guessE awR awS [0, 1] = (4647503709213818880, 0) := by
  unfold guessE
  have h : setOk awLs [0, 1] = some [true, true, false, false] := by
    unfold setOk
    have e : setW awLs.length [0, 1] = some [true, true, false, false] := by kernel_rfl
    rw [e]
    exact if_pos (stands_B.2 (by kernel_rfl))
  rw [if_pos aw_err, show awR.2.1 = awLs from rfl, h]
  have e : guessW awS awLs [true, true, false, false] = 4647503709213818880 := by kernel_rfl
  exact congrArg (fun x => (x, 0)) e
theorem aw_best : bestE awR awS = ([2, 0, 1, 3], 4646166703074443264, 0) := by
  refine bestE_some (p := ([2, 0, 1, 3], 4646166703074443264)) aw_err (by decide) ?_
  rw [plan_B]
  kernel_rfl
theorem aw_greedy : ∃ x, greedyE awR awS = ([2, 0, 1, 3], x, 0) := by
  refine ⟨(greedG awS awR.2.1 awR.2.1.length).2.1, (greedyE_ok aw_err).trans ?_⟩
  have e : (greedG awS awR.2.1 awR.2.1.length).1 = [2, 0, 1, 3] := by
    rw [greedG_B]
    kernel_rfl
  rw [e]
end Go.Proofs.Ytcphalpcdcddpaa

/- The law of costs: its arguments as they come in. -/
namespace Go.Proofs.Ytcphalpcdcddpaa
open Go.RowKit
set_option linter.unusedVariables false

abbrev KnownZ := ByteArray × Int × List Int × Unit
noncomputable def shI : Shp Try.prog Int := shInt 3 .i64 Try.underlying3 (by kernel_rfl)
noncomputable def shInts : Shp Try.prog (List Int) := shSlice 28 shI Try.underlying28 (by kernel_rfl) (by decide)
noncomputable def shWord : Shp Try.prog Int := shInt 50 .u64 Try.underlying50 (by kernel_rfl)
noncomputable def shWords : Shp Try.prog (List Int) := shSlice 51 shWord Try.underlying51 (by kernel_rfl) (by decide)
noncomputable def shKnown : Shp Try.prog KnownZ := shStruct 53 (fdCons (shStr 9 Try.underlying9 (by kernel_rfl)) (fdCons shWord (fdCons shWords fdNil))) (fs := _) Try.underlying53 ⟨_, _, rfl, rfl, rfl, _, _, rfl, rfl, rfl, _, _, rfl, rfl, rfl, rfl⟩ (by kernel_rfl)
noncomputable def shKnowns : Shp Try.prog (List KnownZ) := shSlice 29 shKnown Try.underlying29 (by kernel_rfl) (by decide)

/-- By words. -/
def natK (k : KnownZ) : StatZ := (k.1, k.2.1.toNat, k.2.2.1.map Int.toNat, ())
theorem wf_u64 {z : Int} (h : (Lit.int .u64 z).wf = true) : 0 ≤ z ∧ z < 18446744073709551616 := by
  have h' : (decide (IntKind.u64.min ≤ z) && decide (z ≤ IntKind.u64.max)) = true := h
  rw [Bool.and_eq_true, decide_eq_true_eq, decide_eq_true_eq] at h'
  have h1 : IntKind.u64.min = 0 := by decide
  have h2 : IntKind.u64.max = 18446744073709551615 := by decide
  rw [h1, h2] at h'
  omega
theorem word_cells {w : World} {G : Nat → Prop} {ao : Option Addr} {zs : List Int} (h : ElemsAt shWord w G ao zs) : CellsAt w ao (words (zs.map Int.toNat)) ∧ (∀ x ∈ zs.map Int.toNat, x < 18446744073709551616) ∧ (zs.map Int.toNat ≠ [] → ∀ a, ao = some a → G a.block) := by
  refine ⟨fun i u hu => ?_, fun x hx => ?_, fun hne a ha => ?_⟩
  · rw [words, List.getElem?_map, List.getElem?_map] at hu
    cases hz : zs[i]? with
    | none => rw [hz] at hu; cases hu
    | some z =>
      rw [hz] at hu; cases hu
      obtain ⟨b, off, es, e, _, _, ⟨ha, hw⟩, hc⟩ := h i z hz
      refine ⟨b, off, e, ?_⟩
      have h0 := hc 0 (.int .u64 z) (by rw [ha]; rfl)
      rw [show shWord.n = 1 from rfl, Nat.mul_one, Nat.add_zero] at h0
      rw [h0]
      show some (Value.int .u64 z) = some (.int .u64 ((z.toNat : Nat) : Int))
      rw [Int.toNat_of_nonneg (wf_u64 hw).1]
  · obtain ⟨z, hz, rfl⟩ := List.mem_map.1 hx
    obtain ⟨i, hi⟩ := List.mem_iff_getElem?.1 hz
    obtain ⟨b, off, es, e, _, _, ⟨ha, hw⟩, hc⟩ := h i z hi
    have := wf_u64 hw
    omega
  · cases zs with
    | nil => exact absurd rfl hne
    | cons z zs =>
      obtain ⟨b, off, es, e, hG, _⟩ := h 0 z rfl
      rw [e] at ha; cases ha; exact hG
theorem known_in {w : World} {G : Nat → Prop} {ao : Option Addr} {ks : List KnownZ} (h : ElemsAt shKnown w G ao ks) : KnownIn w G ao (ks.map natK) := fun i s hs => by
  rw [List.getElem?_map] at hs
  cases hk : ks[i]? with
  | none => rw [hk] at hs; cases hs
  | some k =>
    rw [hk] at hs; cases hs
    obtain ⟨b, off, es, e, hG, _, ⟨a1, b1, e1, ⟨e2, _⟩, a3, b3, e3, ⟨e4, hw⟩, a5, b5, e5, ⟨da, dcap, e6, h1, h2, h3⟩, e7⟩, hc⟩ := h i k hk
    have ees : es = [.string k.1, .int .u64 k.2.1, .slice da k.2.2.1.length dcap] := by
      have e7' : b5 = [] := e7
      rw [e1, e2, e3, e4, e5, e6, e7']; rfl
    rw [ees, show shKnown.n = 3 from rfl] at hc
    obtain ⟨w1, w2, w3⟩ := word_cells h3
    refine ⟨b, off, da, dcap, e, hG, w3, (show w.cell? ⟨b, off + i * 3, none⟩ = some (.string k.1) by simpa using hc 0 _ rfl), ?_, ?_, ?_, h2, w1⟩
    · rw [Nat.add_assoc]
      have h0 := hc 1 _ rfl
      rw [h0]
      show some (Value.int .u64 k.2.1) = some (.int .u64 ((k.2.1.toNat : Nat) : Int))
      rw [Int.toNat_of_nonneg (wf_u64 hw).1]
    · rw [Nat.add_assoc]
      have h0 := hc 2 _ rfl
      rw [h0]
      show some (Value.slice da k.2.2.1.length dcap) = some (.slice da (k.2.2.1.map Int.toNat).length dcap)
      rw [List.length_map]
    · show (k.2.2.1.map Int.toNat).length ≤ dcap
      rw [List.length_map]; exact h1
theorem known_fit {w : World} {G : Nat → Prop} {ao : Option Addr} {ks : List KnownZ} (h : ElemsAt shKnown w G ao ks) (hb : bulkL shKnown.bulk ks + 1 ≤ 1048576) : StatsFit (ks.map natK) := by
  have hall : ∀ k ∈ ks, k.2.2.1.length ≤ 1048576 ∧ k.2.1.toNat < 18446744073709551616 ∧ ∀ x ∈ k.2.2.1.map Int.toNat, x < 18446744073709551616 := fun k hk => by
    obtain ⟨i, hi⟩ := List.mem_iff_getElem?.1 hk
    obtain ⟨b, off, es, e, hG, _, ⟨a1, b1, e1, ⟨e2, _⟩, a3, b3, e3, ⟨e4, hw⟩, a5, b5, e5, ⟨da, dcap, e6, h1, h2, h3⟩, e7⟩, hc⟩ := h i k hi
    have hbk := bulkL_mem shKnown.bulk hk
    have hbk' : shKnown.bulk k = ((k.1.size + 1) + (1 + ((bulkL shWord.bulk k.2.2.1 + 1) + 0))) + 1 := rfl
    have hlen := bulkL_len shWord.bulk (fun _ => Nat.le_refl 1) k.2.2.1
    have hwf := wf_u64 hw
    exact ⟨by omega, by omega, (word_cells h3).2.1⟩
  have hlen := bulkL_len shKnown.bulk (fun k => by show 1 ≤ _ + 1; omega) ks
  refine ⟨by rw [List.length_map]; omega, fun s hs => ?_, fun s hs => ?_, fun s hs => ?_⟩
  all_goals obtain ⟨k, hk, rfl⟩ := List.mem_map.1 hs
  · show (k.2.2.1.map Int.toNat).length ≤ _
    rw [List.length_map]; exact (hall k hk).1
  · exact (hall k hk).2.1
  · exact (hall k hk).2.2
theorem int_cells {w : World} {G : Nat → Prop} {ao : Option Addr} {zs : List Int} (h : ElemsAt shI w G ao zs) : CellsAt w ao (ints zs) ∧ (zs ≠ [] → ∀ a, ao = some a → G a.block) := by
  refine ⟨fun i u hu => ?_, fun hne a ha => ?_⟩
  · rw [ints, List.getElem?_map] at hu
    cases hz : zs[i]? with
    | none => rw [hz] at hu; cases hu
    | some z =>
      rw [hz] at hu; cases hu
      obtain ⟨b, off, es, e, _, _, ⟨ha, hw⟩, hc⟩ := h i z hz
      refine ⟨b, off, e, ?_⟩
      have h0 := hc 0 (.int .i64 z) (by rw [ha]; rfl)
      rw [show shI.n = 1 from rfl, Nat.mul_one, Nat.add_zero] at h0
      exact h0
  · cases zs with
    | nil => exact absurd rfl hne
    | cons z zs =>
      obtain ⟨b, off, es, e, hG, _⟩ := h 0 z rfl
      rw [e] at ha; cases ha; exact hG
/-- A rule that came in is not too big. -/
theorem rule_fit {r : RuleZ} (hb : shRule.bulk r ≤ 1048576) : r.1.2.1.length ≤ 1048576 ∧ Fit r.2.1 := by
  have e : shRule.bulk r = (shAtom.bulk r.1 + ((bulkL shLit.bulk r.2.1 + 1) + 0)) + 1 := rfl
  have ea : ∀ a : AtomZ, shAtom.bulk a = ((a.1.size + 1) + ((bulkL shTerm.bulk a.2.1 + 1) + 0)) + 1 := fun _ => rfl
  have el : ∀ l : LitZ, shLit.bulk l = (1 + (shAtom.bulk l.2.1 + (1 + (shTerm.bulk l.2.2.2.1 + (shTerm.bulk l.2.2.2.2.1 + 0))))) + 1 := fun _ => rfl
  have et : ∀ ts : List TermZ, ts.length ≤ bulkL shTerm.bulk ts := fun ts => bulkL_len shTerm.bulk (fun t => by show 1 ≤ _ + 1; omega) ts
  have h1 := ea r.1
  have h2 := et r.1.2.1
  have h3 := bulkL_len shLit.bulk (fun l => by show 1 ≤ _ + 1; omega) r.2.1
  refine ⟨by omega, by omega, fun l hl => ?_⟩
  have h4 := bulkL_mem shLit.bulk hl
  have h5 := el l
  have h6 := ea l.2.1
  have h7 := et (termsOf l)
  have h8 : bulkL shTerm.bulk (termsOf l) = bulkL shTerm.bulk l.2.1.2.1 := rfl
  omega
end Go.Proofs.Ytcphalpcdcddpaa

/- The law of costs: awake: the chapter's example. -/
namespace Go.Proofs.Ytcphalpcdcddpaa
open Go.RowKit
set_option linter.unusedVariables false
attribute [local go_sem] run_store_float

theorem aw_lits : ∀ l ∈ awLs, LitAll l := by
  intro l hl
  have hv : ∀ s : ByteArray, s.size ≤ maxLen → TermFit (1, s, ()) := fun s hs => ⟨(by decide : (Lit.int .i64 1).wf = true), hs⟩
  have h0 : TermFit awNo := ⟨(by decide : (Lit.int .i64 0).wf = true), (by decide : (⟨#[]⟩ : ByteArray).size ≤ maxLen)⟩
  have hx : TermFit awX := hv _ (by decide)
  have hy : TermFit awY := hv _ (by decide)
  have hz : TermFit awZ := hv _ (by decide)
  simp only [awLs, List.mem_cons, List.not_mem_nil, or_false] at hl
  rcases hl with rfl | rfl | rfl | rfl
  · refine ⟨(by decide : (Lit.int .i64 1).wf = true), (by decide : (⟨#[101]⟩ : ByteArray).size ≤ maxLen), fun t ht => ?_, (by decide : (Lit.int .i64 0).wf = true), h0, h0⟩
    have ht' : t ∈ [awX, awY] := ht
    simp only [List.mem_cons, List.not_mem_nil, or_false] at ht'
    rcases ht' with rfl | rfl <;> assumption
  · refine ⟨(by decide : (Lit.int .i64 1).wf = true), (by decide : (⟨#[101]⟩ : ByteArray).size ≤ maxLen), fun t ht => ?_, (by decide : (Lit.int .i64 0).wf = true), h0, h0⟩
    have ht' : t ∈ [awY, awZ] := ht
    simp only [List.mem_cons, List.not_mem_nil, or_false] at ht'
    rcases ht' with rfl | rfl <;> assumption
  · refine ⟨(by decide : (Lit.int .i64 1).wf = true), (by decide : (⟨#[110]⟩ : ByteArray).size ≤ maxLen), fun t ht => ?_, (by decide : (Lit.int .i64 0).wf = true), h0, h0⟩
    have ht' : t ∈ [awX] := ht
    simp only [List.mem_cons, List.not_mem_nil, or_false] at ht'
    rcases ht' with rfl; assumption
  · refine ⟨(by decide : (Lit.int .i64 3).wf = true), (by decide : (⟨#[]⟩ : ByteArray).size ≤ maxLen), fun t ht => ?_, (by decide : (Lit.int .i64 2).wf = true), hx, hz⟩
    have ht' : t ∈ ([] : List TermZ) := ht
    simp at ht'

theorem aw_names {ns : List ByteArray} (h : ns.all (fun s => decide (s.size ≤ 3)) = true) : ∀ s ∈ ns, s.size ≤ maxLen := fun s hs => by
  have h1 := List.all_eq_true.1 h s hs
  rw [decide_eq_true_eq] at h1
  unfold maxLen; omega
theorem aw_stats {w : World} {g d1 d2 c1 c2 : Nat} {e1 e2 e3 : TypeId} (h1 : Blk w d1 (flts [4621819117588971520, 4626322717216342016]) e1) (h2 : Blk w d2 (flts [4616189618054758400]) e2) (hc1 : 2 ≤ c1) (hm1 : c1 ≤ maxLen) (hc2 : 1 ≤ c2) (hm2 : c2 ≤ maxLen)
    (hB : Blk w g [.string ⟨#[101]⟩, .float .f64 4636737291354636288, .slice (some ⟨d1, 0, none⟩) 2 c1, .string ⟨#[110]⟩, .float .f64 4616189618054758400, .slice (some ⟨d2, 0, none⟩) 1 c2] e3) : StatsAt w (some ⟨g, 0, none⟩) awS := by
  intro i s hs
  match i, hs with
  | 0, h =>
    have e : (⟨#[101]⟩, 4636737291354636288, [4621819117588971520, 4626322717216342016], ()) = s := Option.some.inj h
    subst e
    exact ⟨g, 0, some ⟨d1, 0, none⟩, c1, rfl, by rw [hB.cell']; rfl, by rw [hB.cell']; rfl, by rw [hB.cell']; rfl, hc1, hm1, CellsAt.pre (rest := []) (by rw [List.append_nil]; exact h1)⟩
  | 1, h =>
    have e : (⟨#[110]⟩, 4616189618054758400, [4616189618054758400], ()) = s := Option.some.inj h
    subst e
    exact ⟨g, 0, some ⟨d2, 0, none⟩, c2, rfl, by rw [hB.cell']; rfl, by rw [hB.cell']; rfl, by rw [hB.cell']; rfl, hc2, hm2, CellsAt.pre (rest := []) (by rw [List.append_nil]; exact h2)⟩
  | n + 2, h => cases h
theorem aw_fit : Fit awLs := ⟨by decide, fun l hl => by
  simp only [awLs, List.mem_cons, List.not_mem_nil, or_false] at hl
  rcases hl with rfl | rfl | rfl | rfl <;> decide⟩
theorem aw_sfit : StatsFit awS where
  len := by decide
  dist := fun s hs => by
    simp only [awS, List.mem_cons, List.not_mem_nil, or_false] at hs
    rcases hs with rfl | rfl <;> decide
  rows := fun s hs => by
    simp only [awS, List.mem_cons, List.not_mem_nil, or_false] at hs
    rcases hs with rfl | rfl <;> decide
  words := fun s hs x hx => by
    simp only [awS, List.mem_cons, List.not_mem_nil, or_false] at hs
    rcases hs with rfl | rfl
    · simp only [List.mem_cons, List.not_mem_nil, or_false] at hx
      rcases hx with rfl | rfl <;> decide
    · simp only [List.mem_cons, List.not_mem_nil, or_false] at hx
      rcases hx with rfl; decide

set_option maxRecDepth 100000 in
set_option maxHeartbeats 4000000 in
theorem awake_any (w : World) : Calls Try.prog 27 #[] w (RetN w fun w' v => v = .bool true) := by
  go_enter Try.func27, Try.ntmps27
  go_wp2_with fail
  refine (v_any ⟨#[88]⟩ _).mono ?_
  rintro e w1 ⟨v, rfl, hk1, rfl⟩
  go_wp2_with fail
  refine (v_any ⟨#[90]⟩ _).mono ?_
  rintro e w2 ⟨v, rfl, hk2, rfl⟩
  have X2 := Lib.hid (hk1.trans hk2)
  clear hk1 hk2
  obtain ⟨wa, ea⟩ : ∃ x, w2.alloc (.cells #[.int .i64 1, .string ⟨#[88]⟩, .int .i64 1, .string ⟨#[90]⟩] 68) = x := ⟨_, rfl⟩
  have HA := Lib.hid (show Blk wa w2.heap.size (tcells awHs) 68 by rw [← ea]; exact Blk.new w2 (tcells awHs) _)
  have XA := Lib.hid (show Ext w2 wa by rw [← ea]; exact (Kp.refl w2).alloc _)
  obtain ⟨w3, e3⟩ : ∃ x, wa.alloc (.cells #[.string ⟨#[88]⟩, .string ⟨#[89]⟩] 9) = x := ⟨_, rfl⟩
  have HS3 := Lib.hid (show CellsAt w3 (some ⟨wa.heap.size, 0, none⟩) (strs [⟨#[88]⟩, ⟨#[89]⟩]) by rw [← e3]; exact CellsAt.new wa (strs [⟨#[88]⟩, ⟨#[89]⟩]) _)
  have X3 := Lib.hid (show Ext wa w3 by rw [← e3]; exact (Kp.refl wa).alloc _)
  go_wp2_with fail
  refine (atom_any ⟨#[101]⟩ [⟨#[88]⟩, ⟨#[89]⟩] _ 2 2 w3 rfl HS3.out (by decide) (aw_names (by kernel_rfl))).mono ?_
  rintro e w4 ⟨v, rfl, hk4, a1, c1, hv, ht1, hc1, hm1⟩
  have hv' : v = .agg #[.int .i64 1, .string ⟨#[101]⟩, .slice a1 2 c1, .int .i64 0, .int .i64 0, .string ⟨#[]⟩, .int .i64 0, .string ⟨#[]⟩] := hv
  subst hv'
  have HT1 := Lib.hid (show TermsAt w4 (New w) a1 (termsOf awE1) from ht1.mono fun g hg => by have := (X2.out.trans (XA.out.trans X3.out)).size; exact Nat.le_trans this hg)
  have HB4 := Lib.hid ((HA.out.ext X3.out).ext hk4)
  have X4 := Lib.hid ((X2.out.trans (XA.out.trans X3.out)).trans hk4)
  have EG := Lib.hid (show w.heap.size ≤ w2.heap.size from X2.out.size)
  clear hv ht1 hk4 ea e3 HA HS3 X3 XA
  obtain ⟨gh, egh⟩ : ∃ g, w2.heap.size = g := ⟨_, rfl⟩
  rw [egh] at HB4 EG ⊢
  clear egh X2
  obtain ⟨w5, e5⟩ : ∃ x, w4.alloc (.cells #[.string ⟨#[89]⟩, .string ⟨#[90]⟩] 9) = x := ⟨_, rfl⟩
  have HS5 := Lib.hid (show CellsAt w5 (some ⟨w4.heap.size, 0, none⟩) (strs [⟨#[89]⟩, ⟨#[90]⟩]) by rw [← e5]; exact CellsAt.new w4 (strs [⟨#[89]⟩, ⟨#[90]⟩]) _)
  have X5 := Lib.hid (show Ext w4 w5 by rw [← e5]; exact (Kp.refl w4).alloc _)
  go_wp2_with fail
  refine (atom_any ⟨#[101]⟩ [⟨#[89]⟩, ⟨#[90]⟩] _ 2 2 w5 rfl HS5.out (by decide) (aw_names (by kernel_rfl))).mono ?_
  rintro e w6 ⟨v, rfl, hk6, a2, c2, hv, ht2, hc2, hm2⟩
  have hv' : v = .agg #[.int .i64 1, .string ⟨#[101]⟩, .slice a2 2 c2, .int .i64 0, .int .i64 0, .string ⟨#[]⟩, .int .i64 0, .string ⟨#[]⟩] := hv
  subst hv'
  have X46 := Lib.hid (X5.out.trans hk6)
  have HT2 := Lib.hid (show TermsAt w6 (New w) a2 (termsOf awE2) from ht2.mono fun g hg => by have := (X4.out.trans X5.out).size; exact Nat.le_trans this hg)
  have HT12 := Lib.hid (HT1.out.ext X46.out)
  have HB6 := Lib.hid (HB4.out.ext X46.out)
  have X6 := Lib.hid (X4.out.trans X46.out)
  clear hv ht2 hk6 e5 HS5 X5 X46 X4 HT1 HB4
  obtain ⟨w7, e7⟩ : ∃ x, w6.alloc (.cells #[.string ⟨#[88]⟩] 9) = x := ⟨_, rfl⟩
  have HS7 := Lib.hid (show CellsAt w7 (some ⟨w6.heap.size, 0, none⟩) (strs [⟨#[88]⟩]) by rw [← e7]; exact CellsAt.new w6 (strs [⟨#[88]⟩]) _)
  have X7 := Lib.hid (show Ext w6 w7 by rw [← e7]; exact (Kp.refl w6).alloc _)
  go_wp2_with fail
  refine (atom_any ⟨#[110]⟩ [⟨#[88]⟩] _ 1 1 w7 rfl HS7.out (by decide) (aw_names (by kernel_rfl))).mono ?_
  rintro e w8 ⟨v, rfl, hk8, a3, c3, hv, ht3, hc3, hm3⟩
  have hv' : v = .agg #[.int .i64 1, .string ⟨#[110]⟩, .slice a3 1 c3, .int .i64 0, .int .i64 0, .string ⟨#[]⟩, .int .i64 0, .string ⟨#[]⟩] := hv
  subst hv'
  have HT3 := Lib.hid (show TermsAt w8 (New w) a3 (termsOf awN) from ht3.mono fun g hg => by have := (X6.out.trans X7.out).size; exact Nat.le_trans this hg)
  have X78 := Lib.hid (X7.out.trans hk8)
  have X8 := Lib.hid (X6.out.trans X78.out)
  clear hv ht3 hk8 e7 HS7 X7
  go_wp2_with fail
  refine (v_any ⟨#[88]⟩ _).mono ?_
  rintro e w9 ⟨v, rfl, hk9, rfl⟩
  go_wp2_with fail
  refine (v_any ⟨#[90]⟩ _).mono ?_
  rintro e wt ⟨v, rfl, hkt, rfl⟩
  have X8t := Lib.hid (hk9.trans hkt)
  have X6t := Lib.hid (X78.out.trans X8t.out)
  have HC := Lib.hid (And.intro (HT12.out.ext X6t.out) (And.intro (HT2.out.ext X6t.out) (And.intro (HT3.out.ext X8t.out) (HB6.out.ext X6t.out))))
  have HCap := Lib.hid (And.intro hc1 (And.intro hm1 (And.intro hc2 (And.intro hm2 (And.intro hc3 hm3)))))
  have XT := Lib.hid (X8.out.trans X8t.out)
  clear hk9 hkt X8t X6t X8 X78 X6 HT12 HT2 HT3 HB6 hc1 hm1 hc2 hm2 hc3 hm3
  obtain ⟨W1, e1⟩ : ∃ x, wt.alloc (.cells #[.int .i64 1, .string ⟨#[101]⟩, .slice a1 2 c1, .int .i64 0, .int .i64 0, .string ⟨#[]⟩, .int .i64 0, .string ⟨#[]⟩, .int .i64 1, .string ⟨#[101]⟩, .slice a2 2 c2, .int .i64 0, .int .i64 0, .string ⟨#[]⟩, .int .i64 0, .string ⟨#[]⟩, .int .i64 1, .string ⟨#[110]⟩, .slice a3 1 c3, .int .i64 0, .int .i64 0, .string ⟨#[]⟩, .int .i64 0, .string ⟨#[]⟩, .int .i64 3, .string ⟨#[]⟩, .slice none 0 0, .int .i64 2, .int .i64 1, .string ⟨#[88]⟩, .int .i64 1, .string ⟨#[90]⟩] 70) = x := ⟨_, rfl⟩
  have B1 := Lib.hid (show Blk W1 wt.heap.size ((awLs.zip [(a1, c1), (a2, c2), (a3, c3), (none, 0)]).flatMap litC) 70 by rw [← e1]; exact Blk.new wt ((awLs.zip [(a1, c1), (a2, c2), (a3, c3), (none, 0)]).flatMap litC) _)
  have Y1 := Lib.hid (show Ext wt W1 by rw [← e1]; exact (Kp.refl wt).alloc _)
  obtain ⟨W2, e2⟩ : ∃ x, W1.alloc (.cells #[.string ⟨#[116]⟩, .slice (some ⟨gh, 0, none⟩) 2 2, .slice (some ⟨wt.heap.size, 0, none⟩) 4 4] 27) = x := ⟨_, rfl⟩
  have B2 := Lib.hid (show Blk W2 W1.heap.size [.string ⟨#[116]⟩, .slice (some ⟨gh, 0, none⟩) 2 2, .slice (some ⟨wt.heap.size, 0, none⟩) 4 4] 27 by rw [← e2]; exact Blk.new W1 _ _)
  have Y2 := Lib.hid (show Ext W1 W2 by rw [← e2]; exact (Kp.refl W1).alloc _)
  obtain ⟨W3, e3⟩ : ∃ x, W2.alloc (.cells #[.float .f64 4621819117588971520, .float .f64 4626322717216342016] 37) = x := ⟨_, rfl⟩
  have B3 := Lib.hid (show Blk W3 W2.heap.size (flts [4621819117588971520, 4626322717216342016]) 37 by rw [← e3]; exact Blk.new W2 _ _)
  have Y3 := Lib.hid (show Ext W2 W3 by rw [← e3]; exact (Kp.refl W2).alloc _)
  obtain ⟨W4, e4⟩ : ∃ x, W3.alloc (.cells #[.float .f64 4616189618054758400] 37) = x := ⟨_, rfl⟩
  have B4 := Lib.hid (show Blk W4 W3.heap.size (flts [4616189618054758400]) 37 by rw [← e4]; exact Blk.new W3 _ _)
  have Y4 := Lib.hid (show Ext W3 W4 by rw [← e4]; exact (Kp.refl W3).alloc _)
  obtain ⟨W5, e5⟩ : ∃ x, W4.alloc (.cells #[.string ⟨#[101]⟩, .float .f64 4636737291354636288, .slice (some ⟨W2.heap.size, 0, none⟩) 2 2, .string ⟨#[110]⟩, .float .f64 4616189618054758400, .slice (some ⟨W3.heap.size, 0, none⟩) 1 1] 56) = x := ⟨_, rfl⟩
  have B5 := Lib.hid (show Blk W5 W4.heap.size [.string ⟨#[101]⟩, .float .f64 4636737291354636288, .slice (some ⟨W2.heap.size, 0, none⟩) 2 2, .string ⟨#[110]⟩, .float .f64 4616189618054758400, .slice (some ⟨W3.heap.size, 0, none⟩) 1 1] 56 by rw [← e5]; exact Blk.new W4 _ _)
  have Y5 := Lib.hid (show Ext W4 W5 by rw [← e5]; exact (Kp.refl W4).alloc _)
  obtain ⟨W6, e6⟩ : ∃ x, W5.alloc (.cells #[.int .i64 0, .int .i64 1] 3) = x := ⟨_, rfl⟩
  have B6 := Lib.hid (show CellsAt W6 (some ⟨W5.heap.size, 0, none⟩) (ints [0, 1]) by rw [← e6]; exact CellsAt.new W5 (ints [0, 1]) _)
  have Y6 := Lib.hid (show Ext W5 W6 by rw [← e6]; exact (Kp.refl W5).alloc _)
  have r0 : W5.cell? ⟨W1.heap.size, 0, none⟩ = some (.string ⟨#[116]⟩) := by rw [(B2.out.ext (Y3.out.trans (Y4.out.trans Y5.out))).cell']; rfl
  have r1 : W5.cell? ⟨W1.heap.size, 1, none⟩ = some (.slice (some ⟨gh, 0, none⟩) 2 2) := by rw [(B2.out.ext (Y3.out.trans (Y4.out.trans Y5.out))).cell']; rfl
  have r2 : W5.cell? ⟨W1.heap.size, 2, none⟩ = some (.slice (some ⟨wt.heap.size, 0, none⟩) 4 4) := by rw [(B2.out.ext (Y3.out.trans (Y4.out.trans Y5.out))).cell']; rfl
  go_wp2_with fail
  have Y15 := Lib.hid (Y2.out.trans (Y3.out.trans (Y4.out.trans Y5.out)))
  have hHs : TermsAt W5 (New w) (some ⟨gh, 0, none⟩) awHs := elems_of (s := shTerm) (f := termC) (rest := []) (fun x => rfl) (fun i x hi => by
    have hx : x ∈ awHs := List.mem_of_getElem? hi
    simp only [awHs, List.mem_cons, List.not_mem_nil, or_false] at hx
    refine term_mk ?_
    rcases hx with rfl | rfl <;> exact ⟨(by decide : (Lit.int .i64 1).wf = true), by decide⟩) EG.out (by rw [List.append_nil]; exact (HC.out.2.2.2.ext Y1.out).ext Y15.out)
  have hLs : LitsAt W5 (New w) (some ⟨wt.heap.size, 0, none⟩) awLs := lits_cells (vs := [(a1, c1), (a2, c2), (a3, c3), (none, 0)]) (rest := []) rfl aw_lits (fun x hx => by
    have hx' : x ∈ [(awE1, (a1, c1)), (awE2, (a2, c2)), (awN, (a3, c3)), (awC, ((none : Option Addr), 0))] := hx
    have Z := Y1.out.trans Y15.out
    simp only [List.mem_cons, List.not_mem_nil, or_false] at hx'
    rcases hx' with rfl | rfl | rfl | rfl
    · exact ⟨HC.out.1.ext Z, HCap.out.1, HCap.out.2.1⟩
    · exact ⟨HC.out.2.1.ext Z, HCap.out.2.2.1, HCap.out.2.2.2.1⟩
    · exact ⟨HC.out.2.2.1.ext Z, HCap.out.2.2.2.2.1, HCap.out.2.2.2.2.2⟩
    · exact ⟨fun i t ht => by have h : ([] : List TermZ)[i]? = some t := ht; simp at h, Nat.le_refl _, Nat.zero_le _⟩) XT.out.size (by rw [List.append_nil]; exact B1.out.ext Y15.out)
  have hSs : StatsAt W5 (some ⟨W4.heap.size, 0, none⟩) awS := aw_stats (B3.out.ext (Y4.out.trans Y5.out)) (B4.out.ext Y5.out) (Nat.le_refl _) (by decide) (Nat.le_refl _) (by decide) B5.out
  have HAll := Lib.hid (And.intro hHs (And.intro hLs hSs))
  have HRb := Lib.hid (B2.out.ext (Y3.out.trans (Y4.out.trans Y5.out)))
  have XW := Lib.hid (XT.out.trans (Y1.out.trans Y15.out))
  clear hHs hLs hSs B1 B2 B3 B4 B5 Y1 Y2 Y3 Y4 Y5 Y15 XT HC HCap EG e1 e2 e3 e4 e5 r0 r1 r2
  have hg := guessE_any ⟨#[116]⟩ awHs awLs (some ⟨gh, 0, none⟩) 2 2 (some ⟨wt.heap.size, 0, none⟩) 4 4 [0, 1] (some ⟨W5.heap.size, 0, none⟩) 2 2 awS (some ⟨W4.heap.size, 0, none⟩) 2 2 W6 (New w) rfl (HAll.out.1.ext Y6.out) (by decide) rfl (HAll.out.2.1.ext Y6.out) aw_fit rfl B6.out (by decide) rfl (by decide) (HAll.out.2.2.ext Y6.out) aw_sfit
  rw [show guessE ((⟨#[116]⟩, awHs, ()), awLs, ()) awS [0, 1] = (4647503709213818880, 0) from aw_guess] at hg
  refine hg.mono ?_
  rintro e wg ⟨v, rfl, hkg, rfl⟩
  have XG := Lib.hid (Y6.out.trans hkg)
  have HR := Lib.hid (HRb.out.ext XG.out)
  have r0 : wg.cell? ⟨W1.heap.size, 0, none⟩ = some (.string ⟨#[116]⟩) := by rw [HR.out.cell']; rfl
  have r1 : wg.cell? ⟨W1.heap.size, 1, none⟩ = some (.slice (some ⟨gh, 0, none⟩) 2 2) := by rw [HR.out.cell']; rfl
  have r2 : wg.cell? ⟨W1.heap.size, 2, none⟩ = some (.slice (some ⟨wt.heap.size, 0, none⟩) 4 4) := by rw [HR.out.cell']; rfl
  clear hg hkg e6 B6 Y6 HRb
  go_wp2_with fail
  have hb := best_any ⟨#[116]⟩ awHs awLs (some ⟨gh, 0, none⟩) 2 2 (some ⟨wt.heap.size, 0, none⟩) 4 4 awS (some ⟨W4.heap.size, 0, none⟩) 2 2 wg (New w) rfl (HAll.out.1.ext XG.out) (by decide) rfl (HAll.out.2.1.ext XG.out) aw_fit rfl (by decide) (HAll.out.2.2.ext XG.out) aw_sfit
  rw [show bestE ((⟨#[116]⟩, awHs, ()), awLs, ()) awS = ([2, 0, 1, 3], 4646166703074443264, 0) from aw_best] at hb
  refine hb.mono ?_
  rintro e wh ⟨v, rfl, hkh, la, lc, hv, hl1, hl2, hl3⟩
  have hv' : v = .tuple #[.slice la 4 lc, .float .f64 4646166703074443264, .int .i64 0] := hv
  subst hv'
  have XH := Lib.hid (XG.out.trans hkh)
  have HL := Lib.hid (show CellsAt wh la (ints [2, 0, 1, 3]) from hl1)
  have HR2 := Lib.hid (HR.out.ext hkh)
  clear hb hv hl1 hl2 hl3 hkh r0 r1 r2 HR XG
  have r0 : wh.cell? ⟨W1.heap.size, 0, none⟩ = some (.string ⟨#[116]⟩) := by rw [HR2.out.cell']; rfl
  have r1 : wh.cell? ⟨W1.heap.size, 1, none⟩ = some (.slice (some ⟨gh, 0, none⟩) 2 2) := by rw [HR2.out.cell']; rfl
  have r2 : wh.cell? ⟨W1.heap.size, 2, none⟩ = some (.slice (some ⟨wt.heap.size, 0, none⟩) 4 4) := by rw [HR2.out.cell']; rfl
  go_wp2_with fail
  have hb := greedy_any ⟨#[116]⟩ awHs awLs (some ⟨gh, 0, none⟩) 2 2 (some ⟨wt.heap.size, 0, none⟩) 4 4 awS (some ⟨W4.heap.size, 0, none⟩) 2 2 wh (New w) rfl (HAll.out.1.ext XH.out) (by decide) rfl (HAll.out.2.1.ext XH.out) aw_fit rfl (by decide) (HAll.out.2.2.ext XH.out) aw_sfit
  obtain ⟨gx, hgx⟩ := aw_greedy
  rw [show greedyE ((⟨#[116]⟩, awHs, ()), awLs, ()) awS = ([2, 0, 1, 3], gx, 0) from hgx] at hb
  refine hb.mono ?_
  rintro e wi ⟨v, rfl, hki, ma, mc, hv, hm1, hm2, hm3⟩
  have hv' : v = .tuple #[.slice ma 4 mc, .float .f64 gx, .int .i64 0] := hv
  subst hv'
  have XI := Lib.hid (XH.out.trans hki)
  have HL2 := Lib.hid (HL.out.ext hki)
  have HM := Lib.hid (show CellsAt wi ma (ints [2, 0, 1, 3]) from hm1)
  clear hb hv hm1 hm2 hm3 hki r0 r1 r2 HR2 XH HL hgx HAll
  have q1 : ((FloatKind.format .f64).order 4647503709213818880 4647503709213818880 == some .eq) = true := by decide
  have q2 : ((FloatKind.format .f64).order 4646166703074443264 4646166703074443264 == some .eq) = true := by decide
  obtain ⟨wj, ej⟩ : ∃ x, wi.alloc (.cells #[.int .i64 2, .int .i64 0, .int .i64 1, .int .i64 3] 3) = x := ⟨_, rfl⟩
  have HJ := Lib.hid (show CellsAt wj (some ⟨wi.heap.size, 0, none⟩) (ints [2, 0, 1, 3]) by rw [← ej]; exact CellsAt.new wi (ints [2, 0, 1, 3]) _)
  have XJ := Lib.hid (show Ext wi wj by rw [← ej]; exact (Kp.refl wi).alloc _)
  go_wp2_with fail
  refine (ints_any [2, 0, 1, 3] la _ 4 lc 4 wj rfl (HL2.out.ext XJ.out) HJ.out (by decide)).mono ?_
  rintro e wk ⟨v, rfl, hkk, rfl⟩
  have XK := Lib.hid (XJ.out.trans hkk)
  clear hkk ej HJ XJ q1 q2
  go_wp2_with fail
  refine (ints_any [2, 0, 1, 3] ma la 4 mc lc wk rfl (HM.out.ext XK.out) (HL2.out.ext XK.out) (by decide)).mono ?_
  rintro e wl ⟨v, rfl, hkl, rfl⟩
  have XL := Lib.hid (XW.out.trans (XI.out.trans (XK.out.trans hkl)))
  clear hkl
  go_wp2
  go_ret
  exact RetN.mk XL.out rfl
end Go.Proofs.Ytcphalpcdcddpaa

/- The law of costs: CostApart, walked. -/
namespace Go.Proofs.Ytcphalpcdcddpaa
open Go.RowKit
set_option linter.unusedVariables false
attribute [local go_sem] run_store_float

theorem apart_no {x y : Nat} (h : ¬ (geW x ∧ geW y)) : apartV x y = nanW := if_neg h
theorem apart_yes {x y : Nat} (h : geW x) (h' : geW y) : apartV x y = apartW (normW x) (normW y) := if_pos ⟨h, h'⟩
theorem self_eq {v : Nat} (h : v ≤ infW) : ((FloatKind.format .f64).order v v == some .eq) = true := by
  have ho : (FloatKind.format .f64).order v v = some (compare v v) := order_pos h h
  rw [ho, Nat.compare_eq_eq.2 rfl]; rfl
theorem ge_one {v : Nat} (h : oneW ≤ v) (h' : v ≤ infW) : ((FloatKind.format .f64).order v 4607182418800017408 == some .gt || (FloatKind.format .f64).order v 4607182418800017408 == some .eq) = true := by
  have ho : (FloatKind.format .f64).order v 4607182418800017408 = some (compare v 4607182418800017408) := order_pos h' (by decide)
  rw [ho]
  rcases Nat.lt_or_eq_of_le h with h1 | h1
  · rw [Nat.compare_eq_gt.2 h1]; rfl
  · rw [← h1, Nat.compare_eq_eq.2 rfl]; rfl

set_option maxRecDepth 100000 in
set_option maxHeartbeats 4000000 in
theorem apartLaw_any (x y : Nat) (hx : x < 18446744073709551616) (hy : y < 18446744073709551616) (w : World) :
    Calls Try.prog 5 #[.int .u64 x, .int .u64 y] w (RetN w fun w' v => v = .bool true) := by
  have HA := Lib.hid (fun W => apart_any x y hx hy W)
  have HB := Lib.hid (fun W => apart_any y x hy hx W)
  have gx := ge_zero hx
  have gy := ge_zero hy
  have hq := frombits_run
  clear hx hy
  by_cases h1 : geW x
  · rw [decide_eq_true (show x ≤ infW ∨ x = negW from h1)] at gx
    have fx : ((FloatKind.format .f64).order x 0 == some .gt || (FloatKind.format .f64).order x 0 == some .eq) = true := gx
    by_cases h2 : geW y
    · rw [decide_eq_true (show y ≤ infW ∨ y = negW from h2)] at gy
      have fy : ((FloatKind.format .f64).order y 0 == some .gt || (FloatKind.format .f64).order y 0 == some .eq) = true := gy
      rw [apart_yes h1 h2] at HA
      rw [apart_yes h2 h1, apartW_comm] at HB
      have hv1 := apartW_one (norm_le h1) (norm_le h2)
      have hv2 := apartW_le (norm_le h1) (norm_le h2)
      have e1 := norm_same h1 h2
      have hs := self_eq hv2
      have ho := ge_one hv1 hv2
      by_cases h3 : normW x = normW y
      · rw [decide_eq_true h3] at e1
        have f3 : ((FloatKind.format .f64).order x y == some .eq) = true := e1
        have ev : apartW (normW x) (normW y) = 4607182418800017408 := if_pos h3
        rw [ev] at HA HB hs ho
        have f3n : ((FloatKind.format .f64).order x y != some .eq) = false := by rw [bne, f3]; rfl
        have hsn : ((FloatKind.format .f64).order 4607182418800017408 4607182418800017408 != some .eq) = false := by decide
        clear gx gy e1 hv1 hv2 ev h1 h2 h3
        go_enter Try.func5, Try.ntmps5
        go_wp2_with fail
        refine (awake_any w).mono ?_
        rintro e w1 ⟨v, rfl, hk1, rfl⟩
        go_wp2_with fail
        refine (HA.out _).mono ?_
        rintro e w2 ⟨v, rfl, hk2, rfl⟩
        go_wp2_with fail
        refine (HB.out _).mono ?_
        rintro e w3 ⟨v, rfl, hk3, rfl⟩
        go_wp2_with fail
        refine (alike_any _ w3).mono ?_
        rintro e w4 ⟨v, rfl, hk4, rfl⟩
        have X4 := Lib.hid (((hk1.trans hk2).trans hk3).trans hk4)
        clear hk1 hk2 hk3 hk4
        go_wp2
        go_ret
        exact RetN.mk X4.out rfl
      · rw [decide_eq_false h3] at e1
        have f3 : ((FloatKind.format .f64).order x y == some .eq) = false := e1
        clear gx gy e1 hv1 hv2 h1 h2 h3
        generalize apartW (normW x) (normW y) = vv at *
        have f3n : ((FloatKind.format .f64).order x y != some .eq) = true := by rw [bne, f3]; rfl
        have hsn : ((FloatKind.format .f64).order vv vv != some .eq) = false := by rw [bne, hs]; rfl
        go_enter Try.func5, Try.ntmps5
        go_wp2_with fail
        refine (awake_any w).mono ?_
        rintro e w1 ⟨v, rfl, hk1, rfl⟩
        go_wp2_with fail
        refine (HA.out _).mono ?_
        rintro e w2 ⟨v, rfl, hk2, rfl⟩
        go_wp2_with fail
        refine (HB.out _).mono ?_
        rintro e w3 ⟨v, rfl, hk3, rfl⟩
        go_wp2_with fail
        refine (alike_any _ w3).mono ?_
        rintro e w4 ⟨v, rfl, hk4, rfl⟩
        have X4 := Lib.hid (((hk1.trans hk2).trans hk3).trans hk4)
        clear hk1 hk2 hk3 hk4
        go_wp2
        go_ret
        exact RetN.mk X4.out rfl
    · rw [decide_eq_false (show ¬ (y ≤ infW ∨ y = negW) from h2)] at gy
      have fy : ((FloatKind.format .f64).order y 0 == some .gt || (FloatKind.format .f64).order y 0 == some .eq) = false := gy
      rw [apart_no (fun h => h2 h.2)] at HA
      rw [apart_no (fun h => h2 h.1)] at HB
      have hs : ((FloatKind.format .f64).order 9221120237041090561 9221120237041090561 != some .eq) = true := by decide
      clear gx gy h1 h2
      go_enter Try.func5, Try.ntmps5
      go_wp2_with fail
      refine (awake_any w).mono ?_
      rintro e w1 ⟨v, rfl, hk1, rfl⟩
      go_wp2_with fail
      refine (HA.out _).mono ?_
      rintro e w2 ⟨v, rfl, hk2, rfl⟩
      go_wp2_with fail
      refine (HB.out _).mono ?_
      rintro e w3 ⟨v, rfl, hk3, rfl⟩
      have X4 := Lib.hid ((hk1.trans hk2).trans hk3)
      clear hk1 hk2 hk3
      go_wp2
      go_ret
      exact RetN.mk X4.out rfl
  · rw [decide_eq_false (show ¬ (x ≤ infW ∨ x = negW) from h1)] at gx
    have fx : ((FloatKind.format .f64).order x 0 == some .gt || (FloatKind.format .f64).order x 0 == some .eq) = false := gx
    rw [apart_no (fun h => h1 h.1)] at HA
    rw [apart_no (fun h => h1 h.2)] at HB
    have hs : ((FloatKind.format .f64).order 9221120237041090561 9221120237041090561 != some .eq) = true := by decide
    clear gx gy h1
    go_enter Try.func5, Try.ntmps5
    go_wp2_with fail
    refine (awake_any w).mono ?_
    rintro e w1 ⟨v, rfl, hk1, rfl⟩
    go_wp2_with fail
    refine (HA.out _).mono ?_
    rintro e w2 ⟨v, rfl, hk2, rfl⟩
    go_wp2_with fail
    refine (HB.out _).mono ?_
    rintro e w3 ⟨v, rfl, hk3, rfl⟩
    have X4 := Lib.hid ((hk1.trans hk2).trans hk3)
    clear hk1 hk2 hk3
    go_wp2
    go_ret
    exact RetN.mk X4.out rfl
end Go.Proofs.Ytcphalpcdcddpaa

/- Proved here: the statement CostApartSaid: the law returns true for every input and leaves its arguments as they were. No condition of its own. -/
namespace Go.Proofs.Ytcphalpcdcddpaa.lawCostApart
open Go.ChangeShapes Go.WideShapes Go.ChangeAt Go.RowKit
set_option linter.unusedVariables false

theorem own : ownKnob Try.prog.godebug = none := by kernel_rfl
theorem laidOut : laidOutB Try.prog = true := by kernel_rfl

theorem apart_walk {z u : Int} {W : World} (hz : (Lit.int .u64 z).wf = true) (hu : (Lit.int .u64 u).wf = true) :
    Calls Try.prog 5 #[.int .u64 z, .int .u64 u] W (fun e w' => e = .returned (.bool true) ∧ Below W.heap.size W w') := by
  obtain ⟨z1, z2⟩ := wf_u64 hz
  obtain ⟨u1, u2⟩ := wf_u64 hu
  obtain ⟨x, rfl⟩ := Int.eq_ofNat_of_zero_le z1
  obtain ⟨y, rfl⟩ := Int.eq_ofNat_of_zero_le u1
  refine (apartLaw_any x y (by omega) (by omega) W).mono ?_
  rintro e w' ⟨v, rfl, hk, rfl⟩
  exact ⟨rfl, hk.below⟩

set_option maxRecDepth 100000 in
theorem lifted (os : Os) (started : os.Started) (H : Type) (enc : TypeId × Value → H) :
    ReturnsInHanded {} Try.checked os 5 .any (Rows.costApartSpec.pre6 enc Try.prog Try.f5 Rows.costApartRow.domain false) (Rows.costApartSpec.post enc Try.prog Try.f5 false true false false) := by
  refine returnsInHanded_of_change_sized (C := Try.checked) own started (by kernel_rfl) Try.func5
    (ChangeSpec.witness6 (enc := enc) (C := Try.checked) false ⟨#[], #[.int .u64 0, .int .u64 0], []⟩ 8 (by kernel_rfl) (by kernel_rfl) (by kernel_rfl) (by kernel_rfl)) ?_
  intro W base args ds gs before hval0 hW hcnd hsz0 _
  clear hsz0
  have hval : ∀ (j : Nat) t v, Try.f5.params[j]? = some t → args[j]? = some v → Value.okWide Try.prog W .any base t v := hval0
  have hW' := hW
  obtain ⟨p, q, hA0, hV, rfl, hfz, hnd⟩ := hW
  have hA : DataW.TrodAll enc Try.prog W 0 (fun _ => true) true Try.f5.params.toList args.toList ds p := hA0
  rw [Try.params5] at hA hval
  obtain ⟨v0, vs0, d0, ds0, p0, q0, hargs, rfl, rfl, h0, r0⟩ := trodAll_cons hA
  obtain ⟨v1, vs1, d1, ds1, p1, q1, rfl, rfl, rfl, h1, r1⟩ := trodAll_cons r0
  obtain ⟨rfl, rfl, rfl⟩ := trodAll_nil r1
  obtain rfl : args = #[v0, v1] := by cases args; simp_all
  obtain ⟨rfl, rfl⟩ := trodVars_none hV
  have lt0 : ∀ x ∈ p0, x.block < W.heap.size := by obtain ⟨m, hm⟩ := h0; exact DataW.trod_lt m _ _ _ hm
  have lt1 : ∀ x ∈ p1, x.block < W.heap.size := by obtain ⟨m, hm⟩ := h1; exact DataW.trod_lt m _ _ _ hm
  clear hA0 hval0
  obtain ⟨z, rfl, rfl, _, hz⟩ := open_int Try.underlying50 (hval 0 50 v0 rfl rfl) h0
  obtain ⟨u, rfl, rfl, _, hu⟩ := open_int Try.underlying50 (hval 1 50 v1 rfl rfl) h1
  refine (apart_walk hz hu).mono fun e W' ⟨he, bel⟩ => ?_
  subst he
  exact ⟨_, rfl, _, _, _, [], _, [], hW', trodAll_mk1 (shut_bool Try.underlying4 _), (trodAll_cons_mk (Below.trod laidOut (by kernel_rfl) (of_decide_eq_true (by kernel_rfl)) h0 bel lt0) (trodAll_cons_mk (Below.trod laidOut (by kernel_rfl) (of_decide_eq_true (by kernel_rfl)) h1 bel lt1) trodAll_mk0)), rfl, bel.frame _, fun h => by cases h⟩

theorem over : Rows.costApartRow.holds Try.pinned (OpenSpec.ofChange Rows.costApartSpec) :=
  OpenClaim.holds_of_wide 5 Try.f5 rfl rfl rfl rfl rfl rfl rfl ⟨rfl, rfl, rfl, rfl, rfl⟩ rfl rfl rfl rfl rfl (by kernel_rfl) Try.func5 (by kernel_rfl)
    (of_decide_eq_true (by kernel_rfl)) (by unfold Func.isWrapper; first | (rw [if_pos (by decide +kernel)]; kernel_rfl) | (rw [if_neg (by decide +kernel)]; exact ⟨rfl, rfl⟩))
    (fun os started H enc _ => lifted os started H enc)

theorem proved : Rows.CostApartSaid := over
#print axioms proved
end Go.Proofs.Ytcphalpcdcddpaa.lawCostApart
