/- sibylref03.Set: Minus, Meet. -/
import Derived.Test.YtfkhelihepbehaaRef7
import Derived.Deep.RegionLaw
namespace Go.Proofs.Ytfkhelihepbehaa
open Go.RowKit
set_option linter.unusedVariables false

/-- Between two rounds of Minus. -/
def MinusAt (n : Nat) (w0 : World) (b : Nat) (which : Int) (te : TypeId) (p : Int → Bool) (zs : List Int) (kv : Value) (w : World) : Prop :=
  ∃ i : Nat, i ≤ n ∧ kv = .int .i64 i ∧ Ext w0 w ∧ ∃ rv, Blk w b [.int .i64 which, rv] te ∧ Row w 3 1 rv ((zs.take i).filter p).length (ints ((zs.take i).filter p)) (fun g => w0.heap.size ≤ g ∧ g ≠ b)

section
variable {w w' : World} {b : Nat} {lv : Value} {which : Int} {zs : List Int}
set_option maxRecDepth 100000 in
set_option maxHeartbeats 4000000 in
theorem refMinus_any {vo : Value} {which2 : Int} {zs2 : List Int} (h : RefAt w b lv which zs) (h2 : PtrRef w vo which2 zs2) (hl2 : zs2.length ≤ 1048576 * 1048576) : Calls Try.prog 45 #[.pointer (some ⟨b, 0, none⟩), vo] w
    (RetN w fun w' v => ∃ b' lv', v = .pointer (some ⟨b', 0, none⟩) ∧ w.heap.size ≤ b' ∧ (∀ k, lv'.ownBlock = some k → w.heap.size ≤ k) ∧ RefAt w' b' lv' which (zs.filter fun x => !isIn (ordC which) zs2 x)) := by
  obtain ⟨c1, c2⟩ := h.cells
  obtain ⟨ao, cap, rfl, hc, _⟩ := h.row.shape
  have hl := h.len
  obtain ⟨n, en⟩ : ∃ n, n = zs.length := ⟨_, rfl⟩
  rw [← en] at c2 hl
  have hb0 : b < w.heap.size := h.blk.lt
  have HH := Lib.hid h; have H2 := Lib.hid h2; have HC := Lib.hid hc; have EN := Lib.hid en
  clear h h2 hc en
  go_enter Try.func45, Try.ntmps45
  go_wp2
  obtain ⟨b', eb⟩ : ∃ b', b' = w.heap.size := ⟨_, rfl⟩
  rw [← eb]
  have hbw : w.heap.size ≤ b' := by omega
  have EB := Lib.hid eb; clear eb
  obtain ⟨p, ep⟩ : ∃ p : Int → Bool, p = fun x => !isIn (ordC which) zs2 x := ⟨_, rfl⟩
  have EP := Lib.hid ep; clear ep
  go_loopw [6] (MinusAt n w b' which 81 p zs) (fun k _ => n - (intOf k).toNat)
  case atStart => exact ⟨0, Nat.zero_le _, rfl, (Kp.refl w).alloc _, .slice none 0 0, by rw [EB.out]; exact Blk.new w [_, _] _, by simpa [ints] using Row.nil _ _ _ _⟩
  case round =>
    obtain ⟨i, hi, rfl, hex, rv, hB, hr⟩ := hrel
    have d1 := hex.cell c1 id
    have d2 := hex.cell c2 id
    by_cases hlt : i < n
    · obtain ⟨x, hx⟩ : ∃ x, zs[i]? = some x := ⟨_, List.getElem?_eq_getElem (by have := EN.out; omega)⟩
      obtain ⟨g1, o1, eao, c3⟩ := (HC.out.ext hex) i (.int .i64 x) (by simp [ints, hx])
      subst eao
      have hstep := pick_step p zs i x hx
      have HX := Lib.hid (And.intro hx hstep); clear hx hstep
      have i1 : (i : Int) < (n : Int) := by omega
      have i2 : (0 : Int) ≤ (i : Int) := by omega
      have HO := Lib.hid (show ∀ W, Ext w W → Calls Try.prog 52 #[vo] W (RetN W fun w' r => Row w' 3 1 r zs2.length (ints zs2) (New W)) from fun W hW => refItems_ptr (H2.out.ext hW))
      have HA := Lib.hid (show ∀ W ao cap, Ext w W → CellsAt W ao (ints zs2) → Calls Try.prog 95 #[.pointer (some ⟨b, 0, none⟩), .slice ao zs2.length cap, .int .i64 x] W (RetF (fun _ => False) W fun w' v => v = .bool (isIn (ordC which) zs2 x)) from fun W ao cap hW hc => refAmong_any x _ _ (HH.out.ext hW).blk ao zs2.length cap rfl hc hl2)
      have HB := Lib.hid (And.intro hB hr); clear hB hr
      have hd : Ext w wr.drew := hex.drew
      cases hin : isIn (ordC which) zs2 x
      · have hp : p x = true := by rw [EP.out]; simp [hin]
        have HP := Lib.hid hp; clear hp
        rw [hin] at HA
        go_wp2
        go_region_held3 (fun w' => w'.cell? ⟨b, 1, none⟩ = some (.slice (some ⟨g1, o1, none⟩) n cap) ∧ w'.cell? ⟨g1, o1 + i, none⟩ = some (.int .i64 x)) (first | exact ⟨by assumption, by assumption⟩ | go_keep)
          (first
            | (go_at_call 52; (with_reducible refine (HO.out _ ?_).mono ?_); exact hd; rintro e wo ⟨vo', rfl, hko, hro⟩; obtain ⟨aoo, capo, evo, hco, _⟩ := hro.shape; subst evo; have hexo : Ext w wo := hd.trans hko; have e2 := hko.cell d2 id; have e3 := hko.cell c3 id)
            | (go_at_call 95; (with_reducible refine (HA.out _ _ _ ?_ ?_).mono ?_); exact hexo; exact hco; rintro e wa ⟨va, rfl, hka, rfl⟩; have g2 := hka.cell e2 id; have g3 := hka.cell e3 id))
        all_goals
          have hexa : Ext w wa := hexo.trans hka
          have hkwa : Ext wr wa := (Kp.refl wr).drew.trans (hko.trans hka)
          obtain ⟨ao2, cap2, erv, _, _⟩ := HB.out.2.shape
          subst erv
          have hB1 := HB.out.1.ext hkwa
          have hr1 := HB.out.2.ext hkwa
          have m1 : wa.cell? ⟨b', 1, none⟩ = some (.slice ao2 ((zs.take i).filter p).length cap2) := by rw [hB1.cell']; rfl
          have hbl : b' < wa.heap.size := hB1.lt
          have hfl := List.length_filter_le p (zs.take i)
          have htl : (zs.take i).length ≤ n := by have := EN.out; simp; omega
          have HB1 := Lib.hid (And.intro hB1 hr1)
          clear hB1 hr1 hro hco hko hka hkwa e2 e3 d1 d2 c3 hd hexo
          have hrow : Row (wa.drew.alloc (.cells #[.int .i64 x] 3)) 3 1 (.slice ao2 ((zs.take i).filter p).length cap2) ((zs.take i).filter p).length (ints ((zs.take i).filter p)) (fun g => w.heap.size ≤ g ∧ g ≠ b') := HB1.out.2.drew.alloc _
          obtain ⟨v3, w3, hrunA, hr3, hk3, _⟩ := run_app (P := Try.prog) elemInt 26 hrow (m := 1) (c := 1) rfl (CellsAt.one wa.drew (.int .i64 x) 3) (by simp; rfl) (by omega) (by unfold maxLen; omega)
          obtain ⟨ao3, cap3, e3, _, _⟩ := hr3.shape
          subst e3
          have hB3 : Blk w3 b' [.int .i64 which, .slice ao2 ((zs.take i).filter p).length cap2] 81 := (HB1.out.1.drew.alloc (.cells #[.int .i64 x] 3)).kp hk3 (fun e => (hrow.block _ e).2 rfl)
          have n2 : w3.cell? ⟨b', 1, none⟩ = some (.slice ao2 ((zs.take i).filter p).length cap2) := by rw [hB3.cell']; rfl
          have n3 := hB3.free 1
          have hex3 : Ext w w3 := (hexa.drew.alloc (.cells #[.int .i64 x] 3)).trans' hk3 (fun k hk hg => by have := (hrow.block k hg).1; omega)
          have HR3 := Lib.hid (And.intro hB3 (And.intro hr3 hrow)); clear hB3 hr3 hrow hk3
          go_wp2
          go_region_law (refine step_run rfl _ _ rfl rfl rfl hrunA ?_)
          all_goals
            go_wp2
            go_roundw
            case rel =>
              obtain ⟨hB3, hr3, hrow⟩ := HR3.out
              refine ⟨i + 1, by omega, by first | rfl | (congr 1; done) | (congr 1; omega), Kp.setCell (F := fun _ => False) hex3 (fun h => by exfalso; simp only at h; omega) _, _, hB3.set 1 _, ?_⟩
              rw [HX.out.2, HP.out]
              have hr4 : Row w3 3 1 (.slice ao3 (((zs.take i).filter p).length + 1) cap3) (((zs.take i).filter p).length + 1) (ints ((zs.take i).filter p) ++ [.int .i64 x]) (fun g => w.heap.size ≤ g ∧ g ≠ b') := hr3.mono fun g hg => by
                rcases hg with hg | hg
                · exact hrow.block g hg
                · rw [alloc_size] at hg
                  have h1 : wa.drew.heap.size = wa.heap.size := rfl
                  have := hexa.size
                  exact ⟨by omega, by omega⟩
              have hr5 := hr4.kp (Kp.setCell (F := fun k => k = b') (Kp.refl w3) (p := ⟨b', 1, none⟩) (fun _ => rfl) (.slice ao3 (((zs.take i).filter p).length + 1) cap3)) (fun g h => h.2)
              simpa [ints] using hr5
            case measure => simp [intOf]; omega
      · have hp : p x = false := by rw [EP.out]; simp [hin]
        have HP := Lib.hid hp; clear hp
        rw [hin] at HA
        go_wp2
        go_region_held3 (fun w' => w'.cell? ⟨b, 1, none⟩ = some (.slice (some ⟨g1, o1, none⟩) n cap) ∧ w'.cell? ⟨g1, o1 + i, none⟩ = some (.int .i64 x)) (first | exact ⟨by assumption, by assumption⟩ | go_keep)
          (first
            | (go_at_call 52; (with_reducible refine (HO.out _ ?_).mono ?_); exact hd; rintro e wo ⟨vo', rfl, hko, hro⟩; obtain ⟨aoo, capo, evo, hco, _⟩ := hro.shape; subst evo; have hexo : Ext w wo := hd.trans hko; have e2 := hko.cell d2 id; have e3 := hko.cell c3 id)
            | (go_at_call 95; (with_reducible refine (HA.out _ _ _ ?_ ?_).mono ?_); exact hexo; exact hco; rintro e wa ⟨va, rfl, hka, rfl⟩; have g2 := hka.cell e2 id; have g3 := hka.cell e3 id))
        all_goals
          have hexa : Ext w wa := hexo.trans hka
          have hkwa : Ext wr wa := (Kp.refl wr).drew.trans (hko.trans hka)
          have HB1 := Lib.hid (And.intro (HB.out.1.ext hkwa) (HB.out.2.ext hkwa))
          clear hro hco hko hka hkwa e2 e3 d1 d2 c3 hd hexo
          go_wp2
          go_roundw
          case rel =>
            refine ⟨i + 1, by omega, by first | rfl | (congr 1; done) | (congr 1; omega), hexa, _, HB1.out.1, ?_⟩
            rw [HX.out.2, HP.out]
            simpa using HB1.out.2
          case measure => simp [intOf]; omega
    · go_wp2
      go_ret
      have hi' : zs.take i = zs := List.take_of_length_le (by have := EN.out; omega)
      rw [hi'] at hr
      have hle := List.length_filter_le p zs
      have e : zs.filter (fun x => !isIn (ordC which) zs2 x) = zs.filter p := by rw [EP.out]
      refine RetN.mk hex ⟨b', rv, rfl, by omega, (fun k hk => (hr.block k hk).1), ?_⟩
      rw [e]
      exact ⟨hB, hr.own, (fun e => (hr.block _ e).2 rfl), by have := EN.out; omega⟩
end
end Go.Proofs.Ytfkhelihepbehaa
