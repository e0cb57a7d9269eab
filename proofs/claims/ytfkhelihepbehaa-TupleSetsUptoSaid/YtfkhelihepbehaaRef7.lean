/- sibylref03.Set: Union, Minus, Meet. -/
import Derived.Test.YtfkhelihepbehaaRef6
namespace Go.Proofs.Ytfkhelihepbehaa
open Go.RowKit
set_option linter.unusedVariables false

/-- A step of a drawn region that appends, by what it runs to. -/
theorem step_run {P : Program} {ops : Array Oper} {o : Oper} {a : Act} {w : World} {K : Act → World → Prop} {Q : Exit → Act → World → Prop} {E : Prop} (hgd : o.guard = none) (s x : Operand) {t1 t2 : TypeId}
    (ho : o.op = .call { callee := .builtin .append, args := #[s, x], argTypes := #[t1, t2] }) {v u v' : Value} {w' : World} (hs : a.eval s = v) (hx : a.eval x = u)
    (hr : (Builtin.append_ #[t1, t2] o.type #[v, u]).run P w = .ok v' w') (h : K (a.put o.dst v') w') :
    if Region.wanted o (yielded ops a.tmps) = true then Oper.wp P o a w K Q else E := by
  have hw : Region.wanted o (yielded ops a.tmps) = true := by simp [Region.wanted, hgd]
  rw [if_pos hw]
  unfold Oper.wp execOp
  simp only [ho, resolve, invoke, builtin, Sem.run_bind, Sem.run_pure, Result.andThen_ok, List.map_toArray, List.map_cons, List.map_nil, hs, hx, hr]
  exact h

section
variable {w w' : World} {b : Nat} {lv : Value} {which : Int} {zs : List Int}

/-- append(x, y...) of two rows, x a new one. -/
theorem appBoth {w0 w : World} {v1 : Value} {ao : Option Addr} {cap n1 n2 : Nat} {xs ys : List Int} (h1 : Row w 3 1 v1 n1 (ints xs) (New w0)) (h2 : CellsAt w ao (ints ys)) (hn : n2 = ys.length) (hs : w0.heap.size ≤ w.heap.size) (hl : n1 + n2 ≤ 1048576 * 1048576) :
    ∃ ao3 cap3 w3, (Builtin.append_ #[26, 26] 26 #[v1, .slice ao n2 cap]).run Try.prog w = .ok (.slice ao3 (n1 + n2) cap3) w3 ∧ CellsAt w3 ao3 (ints (xs ++ ys)) ∧ ∀ W, Ext W w → (∀ g, v1.ownBlock = some g → W.heap.size ≤ g) → Ext W w3 := by
  obtain ⟨v3, w3, hrun, hr, hk, _⟩ := run_app (P := Try.prog) elemInt 26 h1 (m := n2) (c := cap) (by simp [ints, hn]) h2 (ints_one ys) (by omega) (by unfold maxLen; omega)
  obtain ⟨ao3, cap3, e3, hc, _⟩ := hr.shape
  subst e3
  refine ⟨ao3, cap3, w3, hrun, by rw [← ints_append]; exact hc, fun W hW hb => hW.trans' hk fun i hi hg => ?_⟩
  have := hb i hg; omega

set_option maxRecDepth 100000 in
set_option maxHeartbeats 2000000 in
theorem refUnion_any {vo : Value} {which2 : Int} {zs2 : List Int} (h : RefAt w b lv which zs) (h2 : PtrRef w vo which2 zs2) (hl : zs.length + zs2.length ≤ 1048576 * 1048576) : Calls Try.prog 43 #[.pointer (some ⟨b, 0, none⟩), vo] w
    (RetN w fun w' v => ∃ b' lv', v = .pointer (some ⟨b', 0, none⟩) ∧ w.heap.size ≤ b' ∧ (∀ k, lv'.ownBlock = some k → w.heap.size ≤ k) ∧ RefAt w' b' lv' which (newS (ordC which) (zs ++ zs2))) := by
  obtain ⟨c1, c2⟩ := h.cells
  have HS := Lib.hid (show ∀ W, Ext w W → Calls Try.prog 52 #[.pointer (some ⟨b, 0, none⟩)] W (RetN W fun w' r => Row w' 3 1 r zs.length (ints zs) (New W)) from fun W hW => refItems_any (h.ext hW))
  have HO := Lib.hid (show ∀ W, Ext w W → Calls Try.prog 52 #[vo] W (RetN W fun w' r => Row w' 3 1 r zs2.length (ints zs2) (New W)) from fun W hW => refItems_ptr (h2.ext hW))
  clear h h2
  go_enter Try.func43, Try.ntmps43
  go_wp2
  go_region_held3 (fun w' => w'.cell? ⟨b, 0, none⟩ = some (.int .i64 which)) (first | assumption | go_keep)
    (first
      | (go_at_call 52; (with_reducible refine (HS.out _ ?_).mono ?_); (first | exact hexo | exact (Kp.refl w).drew); rintro e ws ⟨vs, rfl, hks, hrs⟩; have hexs : Ext w ws := Kp.trans (by first | exact hexo | exact (Kp.refl w).drew) hks; have ds := hexs.cell c1 id; (try (obtain ⟨ao3, cap3, w3, hrunA, hc3, hk3⟩ := appBoth (cap := capo) hrs (hco.ext hks) rfl hks.size hl; have hex3 := hk3 w hexs (fun g hg => Nat.le_trans (Kp.size (by first | exact hexo | exact (Kp.refl w).drew)) (hrs.block g hg)); have d3 := hex3.cell c1 id)))
      | (go_at_call 52; (with_reducible refine (HO.out _ ?_).mono ?_); (first | exact hexs | exact (Kp.refl w).drew); rintro e wo ⟨vo', rfl, hko, hro⟩; obtain ⟨aoo, capo, evo, hco, _⟩ := hro.shape; subst evo; have hexo : Ext w wo := Kp.trans (by first | exact hexs | exact (Kp.refl w).drew) hko; have dd := hexo.cell c1 id; (try (obtain ⟨ao3, cap3, w3, hrunA, hc3, hk3⟩ := appBoth (cap := capo) (hrs.ext hko) hco rfl hexo.size hl; have hex3 := hk3 w hexo (fun g hg => Nat.le_trans (Kp.size (Kp.refl (F := fun _ => False) w).drew) (hrs.block g hg)); have d3 := hex3.cell c1 id)))
      | (go_at_call 14; (with_reducible refine (refNewSet_any which (zs ++ zs2) ao3 (zs.length + zs2.length) cap3 (by simp) hc3 hl).mono ?_); rintro e w5 ⟨v5, rfl, hk5, b', lv', rfl, hb', hlv', href⟩; have d5 := hk5.cell d3 id)
      | (refine step_run rfl _ _ rfl rfl rfl hrunA ?_))
  all_goals
    go_wp2
    go_ret
    exact RetN.mk (hex3.trans hk5) ⟨b', lv', rfl, Nat.le_trans hex3.size hb', fun k h => Nat.le_trans hex3.size (hlv' k h), href⟩
end
end Go.Proofs.Ytfkhelihepbehaa
