/- Texts joined for a claim (LentList, RelsSame, BasePut0, BaseAdd0, Names3, BaseSame, BaseSame2, StockPlain, Mix, RefRow, RefRow2, RefRow3). -/
import Derived.Test.YtfkhelihepbehaaGreatBa4
import Derived.Shelf.SlIter.Nil
import Derived.Deep.MidRow
/- The walk of the statements' helper lentList: relations in memory of their own, with marks. -/
namespace Go.Proofs.YtfkhelihepbehaaGreat
open Go.RowKit
set_option linter.unusedVariables false

def mark3 : ByteArray := ⟨#[60, 109, 97, 114, 107, 62]⟩
/-- A row in a block of its own between lo and hi, with two marks behind it. -/
def LentRow (lo hi : Nat) (w : World) (p : RowP) : Prop := ∃ g cap rest, p.1 = (some ⟨g, 0, none⟩, p.2.length, cap) ∧ lo ≤ g ∧ g < hi ∧ Blk w g (strs (p.2 ++ [mark1, mark2]) ++ rest) 9 ∧ p.2.length + 2 + rest.length = cap ∧ cap ≤ maxLen ∧ p.2.length ≤ 8796093021952
/-- Rows in blocks of their own between lo and hi, a mark behind them. -/
def LentRows (lo hi : Nat) (w : World) (g cap : Nat) (LL : List (List ByteArray)) : Prop := ∃ (ps : List RowP) (mg : Nat) (rest : List Value), LL = ps.map Prod.snd ∧ lo ≤ g ∧ g < hi ∧ Blk w g (rowVs ps ++ .slice (some ⟨mg, 0, none⟩) 1 1 :: rest) 29 ∧
  LL.length + 1 + rest.length = cap ∧ cap ≤ maxLen ∧ lo ≤ mg ∧ mg < hi ∧ Blk w mg [.string mark3] 9 ∧ (∀ p ∈ ps, LentRow lo hi w p) ∧ ps.Pairwise fun p q => p.1.1 ≠ q.1.1
/-- Where a relation's rows lie: block, room, from, to. -/
abbrev LentP := Nat × Nat × Nat × Nat
def lentCells (x : RelZ × LentP) : List Value := [.string x.1.1, .int .i64 x.1.2.1, .slice (some ⟨x.2.1, 0, none⟩) x.1.2.2.1.length x.2.2.1]
theorem lentCells_len (x : RelZ × LentP) : (lentCells x).length = 3 := rfl
def LentAt (w : World) (x : RelZ × LentP) : Prop := LentRows x.2.2.2.1 x.2.2.2.2 w x.2.1 x.2.2.1 x.1.2.2.1
/-- Relations in memory of their own, a mark behind them. -/
def LentV (lo : Nat) (w : World) (v : Value) (L : List RelZ) : Prop := ∃ g cap rest vs, v = .slice (some ⟨g, 0, none⟩) L.length cap ∧ lo ≤ g ∧ vs.length = L.length ∧ Blk w g ((L.zip vs).flatMap lentCells ++ .string mark3 :: .int .i64 0 :: .slice none 0 0 :: rest) 52 ∧
  (L.length + 1) * 3 + rest.length = cap * 3 ∧ L.length + 1 ≤ cap ∧ cap ≤ maxLen ∧ (∀ x ∈ L.zip vs, LentAt w x ∧ lo ≤ x.2.2.2.1 ∧ x.2.2.2.2 ≤ w.heap.size) ∧ (L.zip vs).Pairwise fun x y => x.2.2.2.2 ≤ y.2.2.2.1

section
variable {F : Nat → Prop} {lo hi : Nat} {w w' : World}
theorem LentRow.kpt {p : RowP} (h : LentRow lo hi w p) (hk : Kp F w w') (hF : ∀ g cs, F g → ¬ Blk w g cs 9) : LentRow lo hi w' p := by
  obtain ⟨g, cap, rest, h1, h2, h3, h4, h5⟩ := h
  exact ⟨g, cap, rest, h1, h2, h3, h4.kp hk fun f => hF g _ f h4, h5⟩
theorem LentRow.ext {p : RowP} (h : LentRow lo hi w p) (hk : Ext w w') : LentRow lo hi w' p := h.kpt hk fun _ _ f => f.elim
theorem LentRow.widen {hi' : Nat} {p : RowP} (h : LentRow lo hi w p) (hh : hi ≤ hi') : LentRow lo hi' w p := by
  obtain ⟨g, cap, rest, h1, h2, h3, h4⟩ := h
  exact ⟨g, cap, rest, h1, h2, by omega, h4⟩
theorem LentRows.kpt {g cap : Nat} {LL : List (List ByteArray)} (h : LentRows lo hi w g cap LL) (hk : Kp F w w') (hF : ∀ g cs, F g → ¬ Blk w g cs 29 ∧ ¬ Blk w g cs 9) : LentRows lo hi w' g cap LL := by
  obtain ⟨ps, mg, rest, h1, h2, h3, h4, h5, h6, h7, h8, h9, h10, h11⟩ := h
  exact ⟨ps, mg, rest, h1, h2, h3, h4.kp hk fun f => (hF g _ f).1 h4, h5, h6, h7, h8, h9.kp hk fun f => (hF mg _ f).2 h9, fun p hp => (h10 p hp).kpt hk fun g cs f => (hF g cs f).2, h11⟩
theorem LentRows.ext {g cap : Nat} {LL : List (List ByteArray)} (h : LentRows lo hi w g cap LL) (hk : Ext w w') : LentRows lo hi w' g cap LL := h.kpt hk fun _ _ f => f.elim
theorem LentAt.ext {x : RelZ × LentP} (h : LentAt w x) (hk : Ext w w') : LentAt w' x := LentRows.ext h hk
theorem LentAt.row {x : RelZ × LentP} (h : LentAt w x) {k : Nat} {v : Value} {n : Nat} {xs : List Value} {M : Nat → Prop} (hr : Row w 52 k v n xs M) (hk : Kp (fun g => v.ownBlock = some g) w w') : LentAt w' x :=
  LentRows.kpt h hk fun g cs hg => by
    obtain ⟨cs', hb, _⟩ := hr.has hg
    exact ⟨fun h1 => typ_lr (blk_ne h1 hb), fun h1 => typ_sr (blk_ne h1 hb)⟩
theorem LentV.ext {v : Value} {L : List RelZ} (h : LentV lo w v L) (hk : Ext w w') : LentV lo w' v L := by
  obtain ⟨g, cap, rest, vs, h1, h2, h3, h4, h5, h6, h7, h8, h9⟩ := h
  exact ⟨g, cap, rest, vs, h1, h2, h3, h4.ext hk, h5, h6, h7, fun x hx => ⟨(h8 x hx).1.ext hk, (h8 x hx).2.1, Nat.le_trans (h8 x hx).2.2 hk.size⟩, h9⟩
end
theorem alloc_size1 (w : World) (o : Obj) : (w.alloc o).heap.size = w.heap.size + 1 := by show (w.heap.push o).size = _; simp
theorem typ_ls : 29 ≠ 9 := by decide
/-- The state of the inner loop. -/
def LentIn (w0 : World) (rows : List (List ByteArray)) (m : Nat) (lv kv : Value) (w : World) : Prop := ∃ k : Nat, k ≤ m ∧ kv = .int .i64 k ∧ Hid (Ext w0 w) ∧
  Hid (∃ ps : List RowP, rows.take k = ps.map Prod.snd ∧ Row w 29 1 lv k (rowVs ps) (New w0) ∧ (∀ p ∈ ps, LentRow w0.heap.size w.heap.size w p) ∧ ps.Pairwise fun p q => p.1.1 ≠ q.1.1)
/-- The state of the outer one. -/
def LentTo (w0 : World) (L : List RelZ) (n : Nat) (ov iv : Value) (w : World) : Prop := ∃ i : Nat, i ≤ n ∧ iv = .int .i64 i ∧ Hid (Ext w0 w) ∧
  Hid (∃ vs : List LentP, vs.length = i ∧ Row w 52 3 ov i (((L.take i).zip vs).flatMap lentCells) (New w0) ∧ (∀ x ∈ (L.take i).zip vs, LentAt w x ∧ w0.heap.size ≤ x.2.2.2.1 ∧ x.2.2.2.2 ≤ w.heap.size) ∧ ((L.take i).zip vs).Pairwise fun x y => x.2.2.2.2 ≤ y.2.2.2.1)

set_option maxRecDepth 100000 in
set_option maxHeartbeats 4000000 in
theorem lentList_any (L : List RelZ) (ao : Option Addr) (n cap : Nat) (w : World) (S0 : Nat → Prop) (hn : n = L.length) (hL : RelsIn S0 w ao L) (hl : n ≤ 1048576) (hr : ∀ q ∈ L, q.2.2.1.length ≤ 1048576) :
    Calls Tryz.prog 23 #[.slice ao n cap] w (RetN w fun w' v => LentV w.heap.size w' v L) := by
  have HN := Lib.hid hn
  have HL := Lib.hid hL
  have HR := Lib.hid hr
  clear hn hL hr
  go_enter Tryz.func23, Tryz.ntmps23
  go_wp2
  go_loopw [3, 4] (fun ov iv wr => LentTo w L n ov iv wr) (fun _ iv _ => n - (intOf iv).toNat)
  case atStart => exact ⟨0, Nat.zero_le _, rfl, Kp.refl _, [], rfl, Row.nil _ _ _ _, fun x hx => by simp at hx, by simp⟩
  case round =>
    obtain ⟨i, hi, rfl, hex, hin⟩ := hrel
    by_cases hlt : i < n
    · obtain ⟨q, hq⟩ : ∃ q, L[i]? = some q := ⟨_, List.getElem?_eq_getElem (by rw [← HN.out]; exact hlt)⟩
      obtain ⟨b, off, ra, rcap, eao, hSb, c0, c1, c2, hrl, hrm, hrows⟩ := HL.out i q hq
      subst eao
      replace c0 := hex.out.cell c0 id
      replace c1 := hex.out.cell c1 id
      replace c2 := hex.out.cell c2 id
      obtain ⟨s, es⟩ : ∃ s, q.1 = s := ⟨_, rfl⟩
      obtain ⟨a, ea⟩ : ∃ a, q.2.1 = a := ⟨_, rfl⟩
      obtain ⟨LL, eLL⟩ : ∃ LL, q.2.2.1 = LL := ⟨_, rfl⟩
      obtain ⟨m, em⟩ : ∃ m, LL.length = m := ⟨_, rfl⟩
      rw [es] at c0
      rw [ea] at c1
      rw [eLL] at c2 hrl hrows
      rw [em] at c2 hrl
      have hm1 : m ≤ 1048576 := by rw [← em, ← eLL]; exact HR.out q (List.mem_of_getElem? hq)
      have HQ := Lib.hid (And.intro hq (And.intro es (And.intro ea (And.intro eLL em))))
      have HRows := Lib.hid hrows
      have HCells := Lib.hid (And.intro c0 (And.intro c1 c2))
      obtain ⟨vs, hvs, horow, hods, hopw⟩ := hin.out
      obtain ⟨pa, pc, epv, _, _⟩ := horow.shape
      subst epv
      have HOut := Lib.hid (And.intro hvs (And.intro horow (And.intro hods hopw)))
      clear hq es ea eLL em hrows hSb c0 c1 hin hvs horow hods hopw
      go_wp2
      generalize hw1 : wr = w1 at *; clear hw1
      go_loopw [5, 6] (fun lv kv wk => LentIn w1 LL m lv kv wk) (fun _ kv _ => m - (intOf kv).toNat)
      case atStart => exact ⟨0, Nat.zero_le _, rfl, Kp.refl _, [], rfl, Row.nil _ _ _ _, fun x hx => by simp at hx, List.Pairwise.nil⟩
      case round =>
        obtain ⟨k, hk, rfl, hex2, hin2⟩ := hrel
        obtain ⟨ps, hps, hrow, hlent, hpw⟩ := hin2.out
        obtain ⟨oa, oc, eov, _, _⟩ := hrow.shape
        subst eov
        have HIN := Lib.hid (And.intro hps (And.intro hrow (And.intro hlent hpw)))
        have d0 := hex2.out.cell HCells.out.1 id
        have d1 := hex2.out.cell HCells.out.2.1 id
        have d2 := hex2.out.cell HCells.out.2.2 id
        clear hin2 hps hrow hlent hpw c2
        by_cases hlt2 : k < m
        · obtain ⟨ss, hss⟩ : ∃ ss, LL[k]? = some ss := ⟨_, List.getElem?_eq_getElem (by rw [HQ.out.2.2.2.2]; exact hlt2)⟩
          obtain ⟨g, o, xa, xcap, era, e0, e1, e2, e3⟩ := HRows.out.get hss
          subst era
          replace e0 := (hex.out.trans hex2.out).cell e0 id
          have HSS := Lib.hid hss
          have HLent := Lib.hid (lent_any ss xa xcap wr (e1.ext (hex.out.trans hex2.out)) e2)
          have HE2 := Lib.hid e2
          clear hss e1 e2 e3
          go_wp2_with fail
          refine HLent.out.mono ?_
          rintro e w3 ⟨v, rfl, hk3, g3, cap3, rest3, rfl, hg3, hB3, hl3, hm3⟩
          have HX3 := Lib.hid (And.intro hk3 (And.intro hg3 (And.intro hB3 (And.intro hl3 hm3))))
          clear hk3 hg3 hB3 hl3 hm3 d0 d1 d2 e0
          go_wp2_with (first | (at_builtin; refine Halted.out ?_))
          refine Halted.mk (wp_appN elemRow rfl _ _ rfl ((hex2.out.trans HX3.out.1).alloc _) rfl ((HIN.out.2.1.ext HX3.out.1).alloc _) rfl (CellsAt.one w3 _ _) rfl (by simp; rfl) (by omega) (by unfold maxLen; omega) ?_)
          intro v4 w4 hr4 hk4 hkk _
          have HFin := Lib.hid (show Ext w1 w4 ∧ (∃ ps : List RowP, LL.take (k + 1) = ps.map Prod.snd ∧ Row w4 29 1 v4 (k + 1) (rowVs ps) (New w1) ∧ (∀ p ∈ ps, LentRow w1.heap.size w4.heap.size w4 p) ∧ ps.Pairwise fun p q => p.1.1 ≠ q.1.1) by
            refine ⟨hk4, ps ++ [((some ⟨g3, 0, none⟩, ss.length, cap3), ss)], ?_, ?_, ?_, ?_⟩
            · rw [takeSnoc HSS.out, List.map_append, HIN.out.1]; rfl
            · rw [rowVs_append]; exact hr4
            · have hx := HX3.out
              have hsz := hex2.out.size
              have hsz3 := hx.1.size
              have hsz4 := hkk.size
              have hal : w3.heap.size < (w3.alloc (.cells #[.slice (some ⟨g3, 0, none⟩) ss.length cap3] 29)).heap.size := by rw [alloc_size1]; omega
              have hrw := (HIN.out.2.1.ext hx.1).alloc (.cells #[.slice (some ⟨g3, 0, none⟩) ss.length cap3] 29)
              have hkp : ∀ p lo hi, LentRow lo hi w3 p → LentRow lo hi w4 p := fun p lo hi hp =>
                (hp.ext ((Kp.refl w3).alloc _)).kpt hkk fun g cs hg hb => by
                  obtain ⟨cs', hb', _⟩ := hrw.has hg
                  exact typ_ls (blk_ne hb' hb)
              intro p hp
              rcases List.mem_append.1 hp with hp | hp
              · exact hkp p _ _ ((HIN.out.2.2.1 p hp).ext hx.1 |>.widen (by omega))
              · have e : p = ((some ⟨g3, 0, none⟩, ss.length, cap3), ss) := by simpa using hp
                subst e
                exact hkp _ _ _ ⟨g3, cap3, rest3, rfl, by omega, by have := hx.2.2.1.lt; omega, hx.2.2.1, hx.2.2.2.1, hx.2.2.2.2, HE2.out⟩
            · refine List.pairwise_append.2 ⟨HIN.out.2.2.2, by simp, fun p hp q hq e => ?_⟩
              have e2 : q = ((some ⟨g3, 0, none⟩, ss.length, cap3), ss) := by simpa using hq
              subst e2
              obtain ⟨g, cap, rest, h1, h2, h3, _⟩ := HIN.out.2.2.1 p hp
              rw [h1] at e
              have e3 : g = g3 := by injection e with e; injection e
              have := HX3.out.2.1
              omega)
          clear hr4 hk4 hkk HX3 HIN HLent
          go_wp2
          go_roundw
          case rel => exact ⟨k + 1, by omega, by first | rfl | (congr 1; done) | (congr 1; omega), Lib.hid HFin.out.1, Lib.hid HFin.out.2⟩
          case measure => simp [intOf]; omega
        · obtain rfl : k = m := by omega
          go_wp2_with (first | (at_builtin; refine Halted.out ?_))
          refine Halted.mk (wp_appN elemRow rfl _ _ rfl ((hex2.out.alloc _).alloc _) rfl ((HIN.out.2.1.alloc _).alloc _) rfl (news := [.slice (some ⟨wr.heap.size, 0, none⟩) 1 1]) (by have h := CellsAt.one (wr.alloc (.cells #[.string mark3] 9)) (.slice (some ⟨wr.heap.size, 0, none⟩) 1 1) 29; rw [alloc_size1] at h; exact h) rfl (by intro u hu; rw [List.mem_singleton.1 hu]; rfl) (by omega) (by unfold maxLen; omega) ?_)
          intro v4 w4 hr4 hk4 hkk _
          have hmb := (Blk.new wr [.string mark3] 9).alloc (.cells #[.slice (some ⟨wr.heap.size, 0, none⟩) 1 1] 29)
          have hsA : wr.heap.size + 2 ≤ w4.heap.size := by have h := hkk.size; rw [alloc_size1, alloc_size1] at h; exact h
          have hrw := (HIN.out.2.1.alloc (.cells #[.string mark3] 9)).alloc (.cells #[.slice (some ⟨wr.heap.size, 0, none⟩) 1 1] 29)
          have hty : ∀ g cs, (Value.slice oa k oc).ownBlock = some g → ¬ Blk ((wr.alloc (.cells #[.string mark3] 9)).alloc (.cells #[.slice (some ⟨wr.heap.size, 0, none⟩) 1 1] 29)) g cs 9 := fun g cs hg hb => by
            obtain ⟨cs', hb', _⟩ := hrw.has hg
            exact typ_ls (blk_ne hb' hb)
          obtain ⟨_, ⟨_, h0⟩ | ⟨g4, cap4, rest4, rfl, hg4, hB4, hl4, hc4, hm4⟩⟩ := hr4
          · omega
          have HFin := Lib.hid (show LentRows w1.heap.size w4.heap.size w4 g4 cap4 LL by
            have hs1 := hex2.out.size
            refine ⟨ps, wr.heap.size, rest4, ?_, hg4, hB4.lt, ?_, ?_, hm4, hs1, by omega, hmb.kp hkk (hty _ _ · hmb), fun p hp => ?_, HIN.out.2.2.2⟩
            · rw [← HIN.out.1]; exact (List.take_of_length_le (by rw [HQ.out.2.2.2.2]; exact Nat.le_refl _)).symm
            · rw [List.append_assoc] at hB4; exact hB4
            · rw [HQ.out.2.2.2.2]
              have h1 : (rowVs ps).length = k := by have := HIN.out.2.1.1; omega
              simp only [List.length_append, List.length_cons, List.length_nil, h1] at hl4
              omega
            · exact (((HIN.out.2.2.1 p hp).ext (((Kp.refl wr).alloc _).alloc _)).kpt hkk hty).widen (by omega))
          have HK4 := Lib.hid hk4
          clear hkk hmb hsA hrw hty hg4 hB4 hl4 HIN
          replace d0 := HK4.out.cell HCells.out.1 id
          replace d1 := HK4.out.cell HCells.out.2.1 id
          replace d2 := HK4.out.cell HCells.out.2.2 id
          clear hk4
          have HC4 := Lib.hid (show ∀ w', Ext w4 w' → (fun w' : World => w'.cell? ⟨b, off + i * 3, none⟩ = some (.string s) ∧ w'.cell? ⟨b, off + i * 3 + 1, none⟩ = some (.int .i64 a) ∧ w'.cell? ⟨b, off + i * 3 + 2, none⟩ = some (.slice ra k rcap)) w' from fun w' hw => ⟨hw.cell d0 id, hw.cell d1 id, hw.cell d2 id⟩)
          have hkc : k ≤ cap4 := by omega
          clear d0 d1 d2 hex2 hlt2
          go_wp2
          refine draw_begin (fun w' : World => w'.cell? ⟨b, off + i * 3, none⟩ = some (.string s) ∧ w'.cell? ⟨b, off + i * 3 + 1, none⟩ = some (.int .i64 a) ∧ w'.cell? ⟨b, off + i * 3 + 2, none⟩ = some (.slice ra k rcap)) [21] (by kernel_rfl) (HC4.out _ (Kp.refl w4).drew) (fun hHeld => ?_)
          (refine draw_free (i := 0) (v := ?_) rfl ?_ ?_; rotate_left; (intro w; go_simp; try with_reducible rfl)); (try simp only [Act.put, List.setIfInBounds_toArray, List.set_cons_zero, List.set_cons_succ])
          (refine draw_free (i := 1) (v := ?_) rfl ?_ ?_; rotate_left; (intro w; go_simp; try with_reducible rfl)); (try simp only [Act.put, List.setIfInBounds_toArray, List.set_cons_zero, List.set_cons_succ])
          (refine draw_free (i := 2) (v := ?_) rfl ?_ ?_; rotate_left; (intro w; go_simp; try with_reducible rfl)); (try simp only [Act.put, List.setIfInBounds_toArray, List.set_cons_zero, List.set_cons_succ])
          (refine draw_in (i := 3) (v := ?_) rfl ?_ ?_; rotate_left; (intro w hSw; (try dsimp only at hSw); go_simp; try with_reducible rfl)); (try simp only [Act.put, List.setIfInBounds_toArray, List.set_cons_zero, List.set_cons_succ])
          (refine draw_free (i := 4) (v := ?_) rfl ?_ ?_; rotate_left; (intro w; go_simp; try with_reducible rfl)); (try simp only [Act.put, List.setIfInBounds_toArray, List.set_cons_zero, List.set_cons_succ])
          (refine draw_in (i := 5) (v := ?_) rfl ?_ ?_; rotate_left; (intro w hSw; (try dsimp only at hSw); go_simp; try with_reducible rfl)); (try simp only [Act.put, List.setIfInBounds_toArray, List.set_cons_zero, List.set_cons_succ])
          (refine draw_free (i := 6) (v := ?_) rfl ?_ ?_; rotate_left; (intro w; go_simp; try with_reducible rfl)); (try simp only [Act.put, List.setIfInBounds_toArray, List.set_cons_zero, List.set_cons_succ])
          (refine draw_free (i := 7) (v := ?_) rfl ?_ ?_; rotate_left; (intro w; go_simp; try with_reducible rfl)); (try simp only [Act.put, List.setIfInBounds_toArray, List.set_cons_zero, List.set_cons_succ])
          (refine draw_in (i := 8) (v := ?_) rfl ?_ ?_; rotate_left; (intro w hSw; (try dsimp only at hSw); go_simp; try with_reducible rfl)); (try simp only [Act.put, List.setIfInBounds_toArray, List.set_cons_zero, List.set_cons_succ])
          (refine draw_free (i := 9) (v := ?_) rfl ?_ ?_; rotate_left; (intro w; go_simp; try with_reducible rfl)); (try simp only [Act.put, List.setIfInBounds_toArray, List.set_cons_zero, List.set_cons_succ])
          (refine draw_in (i := 10) (v := ?_) rfl ?_ ?_; rotate_left; (intro w hSw; (try dsimp only at hSw); go_simp; try with_reducible rfl)); (try simp only [Act.put, List.setIfInBounds_toArray, List.set_cons_zero, List.set_cons_succ])
          (refine draw_free (i := 11) (v := ?_) rfl ?_ ?_; rotate_left; (intro w; go_simp; try with_reducible rfl)); (try simp only [Act.put, List.setIfInBounds_toArray, List.set_cons_zero, List.set_cons_succ])
          (refine draw_free (i := 12) (v := ?_) rfl ?_ ?_; rotate_left; (intro w; go_simp; try with_reducible rfl)); (try simp only [Act.put, List.setIfInBounds_toArray, List.set_cons_zero, List.set_cons_succ])
          (refine draw_free (i := 13) (v := ?_) rfl ?_ ?_; rotate_left; (intro w; go_simp; try with_reducible rfl)); (try simp only [Act.put, List.setIfInBounds_toArray, List.set_cons_zero, List.set_cons_succ])
          (refine draw_in (i := 14) (v := ?_) rfl ?_ ?_; rotate_left; (intro w hSw; (try dsimp only at hSw); go_simp; try with_reducible rfl)); (try simp only [Act.put, List.setIfInBounds_toArray, List.set_cons_zero, List.set_cons_succ])
          (refine draw_free (i := 15) (v := ?_) rfl ?_ ?_; rotate_left; (intro w; go_simp; try with_reducible rfl)); (try simp only [Act.put, List.setIfInBounds_toArray, List.set_cons_zero, List.set_cons_succ])
          (refine draw_in (i := 16) (v := ?_) rfl ?_ ?_; rotate_left; (intro w hSw; (try dsimp only at hSw); go_simp; try with_reducible rfl)); (try simp only [Act.put, List.setIfInBounds_toArray, List.set_cons_zero, List.set_cons_succ])
          (refine draw_in (i := 17) (v := ?_) rfl ?_ ?_; rotate_left; (intro w hSw; (try dsimp only at hSw); go_simp; try with_reducible rfl)); (try simp only [Act.put, List.setIfInBounds_toArray, List.set_cons_zero, List.set_cons_succ])
          (refine draw_in (i := 18) (v := ?_) rfl ?_ ?_; rotate_left; (intro w hSw; (try dsimp only at hSw); go_simp; try with_reducible rfl)); (try simp only [Act.put, List.setIfInBounds_toArray, List.set_cons_zero, List.set_cons_succ])
          (refine draw_free (i := 19) (v := ?_) rfl ?_ ?_; rotate_left; (intro w; go_simp; try with_reducible rfl)); (try simp only [Act.put, List.setIfInBounds_toArray, List.set_cons_zero, List.set_cons_succ])
          refine draw_one (i := 20) ?_
          refine comes_turn (i := 20) rfl (fun K hK => ?_)
          go_simp
          refine hK.out _ _ ?_ (fun hHeld => ?_)
          · (try dsimp only); (exact HC4.out _ ((Kp.refl w4).drew.alloc _))
          clear hK K; (try simp only [Act.put, List.setIfInBounds_toArray, List.set_cons_zero, List.set_cons_succ])
          refine draw_one (i := 21) ?_
          refine comes_late (i := 21) rfl (by kernel_rfl) (fun K hK => ?_)
          refine draw_appN elem_rel rfl _ _ rfl ((hex.out.trans HK4.out).drew.alloc _) rfl ((HOut.out.2.1.ext HK4.out).drew.alloc _) rfl (CellsAt.new w4.drew [.string s, .int .i64 a, .slice (some ⟨g4, 0, none⟩) k cap4] 52) (by rfl) (by simp [Value.oneCell']) (by omega) (by unfold maxLen; omega) ?_; intro v5 w5 hr5 hk5 hkk5
          refine hK.out _ _ ?_
          clear hK K; (try simp only [Act.put, List.setIfInBounds_toArray, List.set_cons_zero, List.set_cons_succ])
          (refine draw_free (i := 22) (v := ?_) rfl ?_ ?_; rotate_left; (intro w; go_simp; try with_reducible rfl)); (try simp only [Act.put, List.setIfInBounds_toArray, List.set_cons_zero, List.set_cons_succ])
          refine wpAnyD_done (by kernel_rfl) ?_ _
          have HFin2 := Lib.hid (show Ext w w5 ∧ (∃ vs : List LentP, vs.length = i + 1 ∧ Row w5 52 3 v5 (i + 1) (((L.take (i + 1)).zip vs).flatMap lentCells) (New w) ∧ (∀ x ∈ (L.take (i + 1)).zip vs, LentAt w5 x ∧ w.heap.size ≤ x.2.2.2.1 ∧ x.2.2.2.2 ≤ w5.heap.size) ∧ ((L.take (i + 1)).zip vs).Pairwise fun x y => x.2.2.2.2 ≤ y.2.2.2.1) by
            have hlen : (L.take i).length = vs.length := by rw [List.length_take, HOut.out.1]; have := HN.out; omega
            have et := takeSnoc HQ.out.1
            have hrA := (HOut.out.2.1.ext HK4.out).drew.alloc (.cells #[.string s, .int .i64 a, .slice (some ⟨g4, 0, none⟩) k cap4] 52)
            have hsz1 := hex.out.size
            have hsz4 := HK4.out.size
            have hsz5 : w4.heap.size ≤ w5.heap.size := by
              have h : (w4.alloc (.cells #[.string s, .int .i64 a, .slice (some ⟨g4, 0, none⟩) k cap4] 52)).heap.size ≤ w5.heap.size := hkk5.size
              rw [alloc_size1] at h
              omega
            have hmv : ∀ x, LentAt w4 x → LentAt w5 x := fun x hx => ((hx.ext (Kp.refl w4).drew).ext ((Kp.refl _).alloc _)).row hrA hkk5
            have e2 : ((L.take (i + 1)).zip (vs ++ [(g4, cap4, w1.heap.size, w4.heap.size)])) = (L.take i).zip vs ++ [(q, (g4, cap4, w1.heap.size, w4.heap.size))] := by
              rw [et, List.zip_append hlen]; rfl
            refine ⟨hk5, vs ++ [(g4, cap4, w1.heap.size, w4.heap.size)], by rw [List.length_append, HOut.out.1]; rfl, ?_, ?_, ?_⟩
            · rw [e2, List.flatMap_append]
              have e3 : [(q, (g4, cap4, w1.heap.size, w4.heap.size))].flatMap lentCells = [.string s, .int .i64 a, .slice (some ⟨g4, 0, none⟩) k cap4] := by
                show lentCells (q, (g4, cap4, w1.heap.size, w4.heap.size)) ++ [] = _
                rw [List.append_nil]
                show [Value.string q.1, .int .i64 q.2.1, .slice (some ⟨g4, 0, none⟩) q.2.2.1.length cap4] = _
                rw [HQ.out.2.1, HQ.out.2.2.1, HQ.out.2.2.2.1, HQ.out.2.2.2.2]
              rw [e3]; exact hr5
            · intro x hx
              rw [e2, List.mem_append] at hx
              rcases hx with hx | hx
              · obtain ⟨h1, h2, h3⟩ := HOut.out.2.2.1 x hx
                exact ⟨hmv x (h1.ext HK4.out), h2, by omega⟩
              · have hx' : x = (q, (g4, cap4, w1.heap.size, w4.heap.size)) := by simpa using hx
                subst hx'
                refine ⟨hmv _ ?_, hsz1, hsz5⟩
                show LentRows _ _ w4 g4 cap4 q.2.2.1
                rw [HQ.out.2.2.2.1]
                exact HFin.out
            · rw [e2]
              refine List.pairwise_append.2 ⟨HOut.out.2.2.2, by simp, fun x hx y hy => ?_⟩
              have hy' : y = (q, (g4, cap4, w1.heap.size, w4.heap.size)) := by simpa using hy
              subst hy'
              exact (HOut.out.2.2.1 x hx).2.2)
          clear hr5 hk5 hkk5 hHeld HC4 HFin HK4 HOut
          go_wp2
          go_roundw
          case rel => exact ⟨i + 1, by omega, by first | rfl | (congr 1; done) | (congr 1; omega), Lib.hid HFin2.out.1, Lib.hid HFin2.out.2⟩
          case measure => simp [intOf]; omega
    · obtain rfl : i = n := by omega
      obtain ⟨vs, hvs, horow, hods, hopw⟩ := hin.out
      have hall : L.take i = L := List.take_of_length_le (by have := HN.out; omega)
      rw [hall] at horow hods hopw
      obtain ⟨pa, pc, epv, _, _⟩ := horow.shape
      subst epv
      have HOut := Lib.hid (And.intro hvs (And.intro horow (And.intro hods hopw)))
      clear hin hvs horow hods hopw hall
      go_wp2_with (first | (at_builtin; refine Halted.out ?_))
      refine Halted.mk (wp_appN elem_rel rfl _ _ rfl (hex.out.alloc _) rfl (HOut.out.2.1.alloc _) rfl (news := [.string mark3, .int .i64 0, .slice none 0 0]) (CellsAt.new wr [.string mark3, .int .i64 0, .slice none 0 0] 52) rfl (by simp [Value.oneCell']) (by omega) (by unfold maxLen; omega) ?_)
      intro v5 w5 hr5 hk5 hkk5 _
      obtain ⟨_, ⟨_, h0⟩ | ⟨g4, cap4, rest4, rfl, hg4, hB4, hl4, hc4, hm4⟩⟩ := hr5
      · omega
      have HFin := Lib.hid (show Ext w w5 ∧ LentV w.heap.size w5 (.slice (some ⟨g4, 0, none⟩) i cap4) L by
        have hrA := HOut.out.2.1.alloc (.cells #[.string mark3, .int .i64 0, .slice none 0 0] 52)
        have hsz5 : wr.heap.size ≤ w5.heap.size := by
          have h := hkk5.size
          rw [alloc_size1] at h
          omega
        have hfl := flat_len lentCells 3 lentCells_len (L.zip vs)
        have hzl : (L.zip vs).length = i := by rw [List.length_zip, HOut.out.1, ← HN.out]; omega
        refine ⟨hk5, g4, cap4, rest4, vs, by rw [← HN.out], hg4, by rw [HOut.out.1, HN.out], ?_, ?_, by rw [← HN.out]; exact hc4, hm4, fun x hx => ?_, HOut.out.2.2.2⟩
        · rw [List.append_assoc] at hB4; exact hB4
        · simp only [List.length_append, List.length_cons, List.length_nil, hfl, hzl] at hl4
          rw [← HN.out]; omega
        · obtain ⟨h1, h2, h3⟩ := HOut.out.2.2.1 x hx
          exact ⟨(h1.ext ((Kp.refl wr).alloc _)).row hrA hkk5, h2, by omega⟩)
      have hkc : i ≤ cap4 := by omega
      clear hk5 hkk5 hg4 hB4 hl4 HOut
      go_wp2
      go_ret
      exact RetN.mk HFin.out.1 HFin.out.2
end Go.Proofs.YtfkhelihepbehaaGreat

/- The statements' helpers place, rows, relations. -/
namespace Go.Proofs.YtfkhelihepbehaaGreat
open Go.RowKit
set_option linter.unusedVariables false

theorem place_mod (x : Int) (n : Nat) (hn : 0 < n) : (if x.tmod n < 0 then x.tmod n + n else x.tmod n) = x % (n : Int) := by
  have h1 := Int.tmod_eq_emod (a := x) (b := n)
  have h3 := Int.emod_lt_of_pos x (show (0 : Int) < n by omega)
  have h4 := Int.emod_nonneg x (show (n : Int) ≠ 0 by omega)
  have h5 : (n : Int).natAbs = n := by omega
  rw [h5] at h1
  split at h1 <;> split <;> omega
/-- The place among n. -/
def placeN (x : Int) (n : Nat) : Nat := (x % (n : Int)).toNat
theorem placeN_lt (x : Int) (n : Nat) (hn : 0 < n) : placeN x n < n := by
  have h3 := Int.emod_lt_of_pos x (show (0 : Int) < n by omega)
  have h4 := Int.emod_nonneg x (show (n : Int) ≠ 0 by omega)
  unfold placeN; omega
theorem placeN_eq (x : Int) (n : Nat) (hn : 0 < n) : (placeN x n : Int) = if x.tmod n < 0 then x.tmod n + n else x.tmod n := by
  rw [place_mod x n hn]
  have h4 := Int.emod_nonneg x (show (n : Int) ≠ 0 by omega)
  unfold placeN; omega
theorem place_any (x : Int) (n : Nat) (hn : 0 < n) (hm : n ≤ 1099511627776) (w : World) :
    Calls Tryz.prog 28 #[.int .i64 x, .int .i64 n] w (Ret (.int .i64 (placeN x n : Nat)) w) := by
  have h0 : (n : Int) ≠ 0 := by omega
  have HP := Lib.hid (placeN_eq x n hn)
  have b1 : x.tmod n < n := Int.tmod_lt_of_pos x (by omega)
  have b2 : -(n : Int) < x.tmod n := by
    have h1 := Int.tmod_eq_emod (a := x) (b := n)
    have h3 := Int.emod_lt_of_pos x (show (0 : Int) < n by omega)
    have h4 := Int.emod_nonneg x (show (n : Int) ≠ 0 by omega)
    have h5 : (n : Int).natAbs = n := by omega
    rw [h5] at h1
    split at h1 <;> omega
  have e1 : wrap64 (x.tmod n) = x.tmod n := by unfold wrap64; omega
  by_cases hk : x.tmod n < 0
  · have e2 : wrap64 (x.tmod n + n) = x.tmod n + n := by unfold wrap64; omega
    have E := Lib.hid (And.intro e1 e2); clear e1 e2
    go_enter Tryz.func28, Tryz.ntmps28
    go_wp2
    go_ret
    exact Ret.mk (by rw [HP.out, if_pos hk]; first | rfl | simp [E.out.1, E.out.2])
  · have E := Lib.hid e1; clear e1
    go_enter Tryz.func28, Tryz.ntmps28
    go_wp2
    go_ret
    exact Ret.mk (by rw [HP.out, if_neg (by omega)]; rfl)
set_option maxRecDepth 100000 in
set_option maxHeartbeats 1000000 in
/-- The same rows. -/
theorem rows_yes {w : World} {LL : List (List ByteArray)} {S1 S2 : Nat → Prop} (ao1 ao2 : Option Addr) (N cap1 cap2 : Nat) (hN : N = LL.length) (h1 : RowsIn S1 w ao1 LL) (h2 : RowsIn S2 w ao2 LL) (hl : N ≤ 1048576 * 1048576) :
    Calls Tryz.prog 62 #[.slice ao1 N cap1, .slice ao2 N cap2] w (RetN w fun w' v => v = .bool true) := by
  have HR := Lib.hid (And.intro h1 h2)
  have EN := Lib.hid hN
  clear h1 h2 hN
  go_enter Tryz.func62, Tryz.ntmps62
  go_wp2
  go_loopw [5] (fun kv wr => ∃ i : Nat, i ≤ N ∧ kv = .int .i64 i ∧ True ∧ Ext w wr) (fun k _ => N - (intOf k).toNat)
  case atStart => exact ⟨0, Nat.zero_le _, rfl, trivial, Kp.refl _⟩
  case round =>
    obtain ⟨i, hi, rfl, _, hex⟩ := hrel
    by_cases hlt : i < N
    · obtain ⟨y, hy⟩ : ∃ y, LL[i]? = some y := ⟨_, List.getElem?_eq_getElem (by have := EN.out; omega)⟩
      obtain ⟨g1, o1, x1, xc1, e1, c3, q1, l1, _⟩ := (HR.out.1.ext hex).get hy
      obtain ⟨g2, o2, x2, xc2, e2, c4, q2, l2, _⟩ := (HR.out.2.ext hex).get hy
      subst e1 e2
      have HCM := Lib.hid (fun W (hW : Ext wr W) => same_yes y x1 x2 xc1 xc2 W (q1.ext hW) (q2.ext hW) (by unfold maxLen; omega))
      have i1 : (i : Int) < (N : Int) := by omega
      have i2 : (0 : Int) ≤ (i : Int) := by omega
      clear q1 q2 hy
      go_wp2
      go_region_held3 (fun w' => w'.cell? ⟨g1, o1 + i, none⟩ = some (.slice x1 y.length xc1) ∧ w'.cell? ⟨g2, o2 + i, none⟩ = some (.slice x2 y.length xc2)) (first | exact ⟨by assumption, by assumption⟩ | go_keep)
        (first | (go_at_call 78; (with_reducible refine (HCM.out _ ?_).mono ?_); exact (Kp.refl wr).drew; rintro e wc ⟨rfl, kc, rfl⟩; have c3 : (wr.drew.drewN kc).cell? ⟨g1, o1 + i, none⟩ = some (.slice x1 y.length xc1) := c3; have c4 : (wr.drew.drewN kc).cell? ⟨g2, o2 + i, none⟩ = some (.slice x2 y.length xc2) := c4))
      all_goals
        go_wp2
        go_roundw
        case rel => exact ⟨i + 1, by omega, by first | rfl | (congr 1; done) | (congr 1; omega), trivial, hex.drewN (1 + kc)⟩
        case measure => simp [intOf]; omega
    · go_wp2
      go_ret
      exact RetN.mk hex rfl

set_option maxRecDepth 100000 in
set_option maxHeartbeats 4000000 in
/-- The same relations. -/
theorem relations_yes {w : World} {L : List RelZ} {S1 S2 : Nat → Prop} (ao1 ao2 : Option Addr) (n cap1 cap2 : Nat) (hn : n = L.length) (h1 : RelsIn S1 w ao1 L) (h2 : RelsIn S2 w ao2 L) (hl : n ≤ 4194304) (hr : ∀ q ∈ L, q.2.2.1.length ≤ 1048576) :
    Calls Tryz.prog 27 #[.slice ao1 n cap1, .slice ao2 n cap2] w (RetN w fun w' v => v = .bool true) := by
  have HL := Lib.hid (And.intro hn (And.intro h1 (And.intro h2 hr)))
  clear hn h1 h2 hr
  go_enter Tryz.func27, Tryz.ntmps27
  go_wp2
  go_loopw [5] (fun kv wr => ∃ i : Nat, i ≤ n ∧ kv = .int .i64 i ∧ Hid (Ext w wr)) (fun k _ => n - (intOf k).toNat)
  case atStart => exact ⟨0, Nat.zero_le _, rfl, Lib.hid (Kp.refl _)⟩
  case round =>
    obtain ⟨i, hi, rfl, hex⟩ := hrel
    by_cases hlt : i < n
    · obtain ⟨q, hq⟩ : ∃ q, L[i]? = some q := ⟨_, List.getElem?_eq_getElem (by rw [← HL.out.1]; exact hlt)⟩
      obtain ⟨b1, o1, ra1, rc1, e1, _, c10, c11, c12, _, _, r1⟩ := HL.out.2.1 i q hq
      obtain ⟨b2, o2, ra2, rc2, e2, _, c20, c21, c22, _, _, r2⟩ := HL.out.2.2.1 i q hq
      subst e1 e2
      obtain ⟨s, es⟩ : ∃ s, q.1 = s := ⟨_, rfl⟩
      obtain ⟨a, ea⟩ : ∃ a, q.2.1 = a := ⟨_, rfl⟩
      obtain ⟨LL, eLL⟩ : ∃ LL, q.2.2.1 = LL := ⟨_, rfl⟩
      obtain ⟨m, em⟩ : ∃ m, LL.length = m := ⟨_, rfl⟩
      have hm1 : m ≤ 1048576 := by rw [← em, ← eLL]; exact HL.out.2.2.2 q (List.mem_of_getElem? hq)
      rw [es] at c10 c20
      rw [ea] at c11 c21
      rw [eLL] at c12 c22 r1 r2
      rw [em] at c12 c22
      have HC := Lib.hid (show ∀ w', Ext w w' → (fun w' : World => w'.cell? ⟨b1, o1 + i * 3, none⟩ = some (.string s) ∧ w'.cell? ⟨b1, o1 + i * 3 + 1, none⟩ = some (.int .i64 a) ∧ w'.cell? ⟨b1, o1 + i * 3 + 2, none⟩ = some (.slice ra1 m rc1) ∧
        w'.cell? ⟨b2, o2 + i * 3, none⟩ = some (.string s) ∧ w'.cell? ⟨b2, o2 + i * 3 + 1, none⟩ = some (.int .i64 a) ∧ w'.cell? ⟨b2, o2 + i * 3 + 2, none⟩ = some (.slice ra2 m rc2)) w' from fun w' hw => ⟨hw.cell c10 id, hw.cell c11 id, hw.cell c12 id, hw.cell c20 id, hw.cell c21 id, hw.cell c22 id⟩)
      have HRY := Lib.hid (fun w' (hw : Ext w w') => rows_yes ra1 ra2 m rc1 rc2 em.symm (r1.ext hw) (r2.ext hw) (by omega))
      clear hq es ea eLL em r1 r2 c10 c11 c12 c20 c21 c22
      go_wp2
      refine draw_begin (fun w' : World => w'.cell? ⟨b1, o1 + i * 3, none⟩ = some (.string s) ∧ w'.cell? ⟨b1, o1 + i * 3 + 1, none⟩ = some (.int .i64 a) ∧ w'.cell? ⟨b1, o1 + i * 3 + 2, none⟩ = some (.slice ra1 m rc1) ∧ w'.cell? ⟨b2, o2 + i * 3, none⟩ = some (.string s) ∧ w'.cell? ⟨b2, o2 + i * 3 + 1, none⟩ = some (.int .i64 a) ∧ w'.cell? ⟨b2, o2 + i * 3 + 2, none⟩ = some (.slice ra2 m rc2)) [] (by kernel_rfl) (HC.out _ hex.out.drew) (fun hHeld => ?_)
      (refine draw_free (i := 0) (v := ?_) rfl ?_ ?_; rotate_left; (intro w; go_simp; try with_reducible rfl)); (try simp only [Act.put, List.setIfInBounds_toArray, List.set_cons_zero, List.set_cons_succ])
      (refine draw_free (i := 1) (v := ?_) rfl ?_ ?_; rotate_left; (intro w; go_simp; try with_reducible rfl)); (try simp only [Act.put, List.setIfInBounds_toArray, List.set_cons_zero, List.set_cons_succ])
      (refine draw_in (i := 2) (v := ?_) rfl ?_ ?_; rotate_left; (intro w hSw; (try dsimp only at hSw); go_simp; try with_reducible rfl)); (try simp only [Act.put, List.setIfInBounds_toArray, List.set_cons_zero, List.set_cons_succ])
      (refine draw_free (i := 3) (v := ?_) rfl ?_ ?_; rotate_left; (intro w; go_simp; try with_reducible rfl)); (try simp only [Act.put, List.setIfInBounds_toArray, List.set_cons_zero, List.set_cons_succ])
      (refine draw_in (i := 4) (v := ?_) rfl ?_ ?_; rotate_left; (intro w hSw; (try dsimp only at hSw); go_simp; try with_reducible rfl)); (try simp only [Act.put, List.setIfInBounds_toArray, List.set_cons_zero, List.set_cons_succ])
      (refine draw_free (i := 5) (v := ?_) rfl ?_ ?_; rotate_left; (intro w; go_simp; try with_reducible rfl)); (try simp only [Act.put, List.setIfInBounds_toArray, List.set_cons_zero, List.set_cons_succ])
      (refine draw_free (i := 6) (v := ?_) rfl ?_ ?_; rotate_left; (intro w; go_simp; try with_reducible rfl)); (try simp only [Act.put, List.setIfInBounds_toArray, List.set_cons_zero, List.set_cons_succ])
      (refine draw_in (i := 7) (v := ?_) rfl ?_ ?_; rotate_left; (intro w hSw; (try dsimp only at hSw); go_simp; try with_reducible rfl)); (try simp only [Act.put, List.setIfInBounds_toArray, List.set_cons_zero, List.set_cons_succ])
      (refine draw_free (i := 8) (v := ?_) rfl ?_ ?_; rotate_left; (intro w; go_simp; try with_reducible rfl)); (try simp only [Act.put, List.setIfInBounds_toArray, List.set_cons_zero, List.set_cons_succ])
      (refine draw_in (i := 9) (v := ?_) rfl ?_ ?_; rotate_left; (intro w hSw; (try dsimp only at hSw); go_simp; try with_reducible rfl)); (try simp only [Act.put, List.setIfInBounds_toArray, List.set_cons_zero, List.set_cons_succ])
      (refine draw_free (i := 10) (v := ?_) rfl ?_ ?_; rotate_left; (intro w; go_simp; try with_reducible rfl)); (try simp only [Act.put, List.setIfInBounds_toArray, List.set_cons_zero, List.set_cons_succ])
      (refine draw_free (i := 11) (v := ?_) rfl ?_ ?_; rotate_left; (intro w; go_simp; try with_reducible rfl)); (try simp only [Act.put, List.setIfInBounds_toArray, List.set_cons_zero, List.set_cons_succ])
      (first | (refine draw_free (i := 12) (v := ?_) rfl ?_ ?_; rotate_left; (intro w; go_simp; try with_reducible rfl)) | (refine draw_out (i := 12) rfl ?_)); (try simp only [Act.put, List.setIfInBounds_toArray, List.set_cons_zero, List.set_cons_succ])
      (first | (refine draw_free (i := 13) (v := ?_) rfl ?_ ?_; rotate_left; (intro w; go_simp; try with_reducible rfl)) | (refine draw_out (i := 13) rfl ?_)); (try simp only [Act.put, List.setIfInBounds_toArray, List.set_cons_zero, List.set_cons_succ])
      (first | (refine draw_in (i := 14) (v := ?_) rfl ?_ ?_; rotate_left; (intro w hSw; (try dsimp only at hSw); go_simp; try with_reducible rfl)) | (refine draw_out (i := 14) rfl ?_)); (try simp only [Act.put, List.setIfInBounds_toArray, List.set_cons_zero, List.set_cons_succ])
      (first | (refine draw_free (i := 15) (v := ?_) rfl ?_ ?_; rotate_left; (intro w; go_simp; try with_reducible rfl)) | (refine draw_out (i := 15) rfl ?_)); (try simp only [Act.put, List.setIfInBounds_toArray, List.set_cons_zero, List.set_cons_succ])
      (first | (refine draw_in (i := 16) (v := ?_) rfl ?_ ?_; rotate_left; (intro w hSw; (try dsimp only at hSw); go_simp; try with_reducible rfl)) | (refine draw_out (i := 16) rfl ?_)); (try simp only [Act.put, List.setIfInBounds_toArray, List.set_cons_zero, List.set_cons_succ])
      (first | (refine draw_free (i := 17) (v := ?_) rfl ?_ ?_; rotate_left; (intro w; go_simp; try with_reducible rfl)) | (refine draw_out (i := 17) rfl ?_)); (try simp only [Act.put, List.setIfInBounds_toArray, List.set_cons_zero, List.set_cons_succ])
      (first | (refine draw_free (i := 18) (v := ?_) rfl ?_ ?_; rotate_left; (intro w; go_simp; try with_reducible rfl)) | (refine draw_out (i := 18) rfl ?_)); (try simp only [Act.put, List.setIfInBounds_toArray, List.set_cons_zero, List.set_cons_succ])
      (first | (refine draw_in (i := 19) (v := ?_) rfl ?_ ?_; rotate_left; (intro w hSw; (try dsimp only at hSw); go_simp; try with_reducible rfl)) | (refine draw_out (i := 19) rfl ?_)); (try simp only [Act.put, List.setIfInBounds_toArray, List.set_cons_zero, List.set_cons_succ])
      (first | (refine draw_free (i := 20) (v := ?_) rfl ?_ ?_; rotate_left; (intro w; go_simp; try with_reducible rfl)) | (refine draw_out (i := 20) rfl ?_)); (try simp only [Act.put, List.setIfInBounds_toArray, List.set_cons_zero, List.set_cons_succ])
      (first | (refine draw_in (i := 21) (v := ?_) rfl ?_ ?_; rotate_left; (intro w hSw; (try dsimp only at hSw); go_simp; try with_reducible rfl)) | (refine draw_out (i := 21) rfl ?_)); (try simp only [Act.put, List.setIfInBounds_toArray, List.set_cons_zero, List.set_cons_succ])
      (first | (refine draw_free (i := 22) (v := ?_) rfl ?_ ?_; rotate_left; (intro w; go_simp; try with_reducible rfl)) | (refine draw_out (i := 22) rfl ?_)); (try simp only [Act.put, List.setIfInBounds_toArray, List.set_cons_zero, List.set_cons_succ])
      (refine draw_free (i := 23) (v := ?_) rfl ?_ ?_; rotate_left; (intro w; go_simp; try with_reducible rfl)); (try simp only [Act.put, List.setIfInBounds_toArray, List.set_cons_zero, List.set_cons_succ])
      (refine draw_free (i := 24) (v := ?_) rfl ?_ ?_; rotate_left; (intro w; go_simp; try with_reducible rfl)); (try simp only [Act.put, List.setIfInBounds_toArray, List.set_cons_zero, List.set_cons_succ])
      (first | (refine draw_free (i := 25) (v := ?_) rfl ?_ ?_; rotate_left; (intro w; go_simp; try with_reducible rfl)) | (refine draw_out (i := 25) rfl ?_)); (try simp only [Act.put, List.setIfInBounds_toArray, List.set_cons_zero, List.set_cons_succ])
      (first | (refine draw_free (i := 26) (v := ?_) rfl ?_ ?_; rotate_left; (intro w; go_simp; try with_reducible rfl)) | (refine draw_out (i := 26) rfl ?_)); (try simp only [Act.put, List.setIfInBounds_toArray, List.set_cons_zero, List.set_cons_succ])
      (first | (refine draw_in (i := 27) (v := ?_) rfl ?_ ?_; rotate_left; (intro w hSw; (try dsimp only at hSw); go_simp; try with_reducible rfl)) | (refine draw_out (i := 27) rfl ?_)); (try simp only [Act.put, List.setIfInBounds_toArray, List.set_cons_zero, List.set_cons_succ])
      (first | (refine draw_free (i := 28) (v := ?_) rfl ?_ ?_; rotate_left; (intro w; go_simp; try with_reducible rfl)) | (refine draw_out (i := 28) rfl ?_)); (try simp only [Act.put, List.setIfInBounds_toArray, List.set_cons_zero, List.set_cons_succ])
      (first | (refine draw_in (i := 29) (v := ?_) rfl ?_ ?_; rotate_left; (intro w hSw; (try dsimp only at hSw); go_simp; try with_reducible rfl)) | (refine draw_out (i := 29) rfl ?_)); (try simp only [Act.put, List.setIfInBounds_toArray, List.set_cons_zero, List.set_cons_succ])
      (first | (refine draw_free (i := 30) (v := ?_) rfl ?_ ?_; rotate_left; (intro w; go_simp; try with_reducible rfl)) | (refine draw_out (i := 30) rfl ?_)); (try simp only [Act.put, List.setIfInBounds_toArray, List.set_cons_zero, List.set_cons_succ])
      (first | (refine draw_free (i := 31) (v := ?_) rfl ?_ ?_; rotate_left; (intro w; go_simp; try with_reducible rfl)) | (refine draw_out (i := 31) rfl ?_)); (try simp only [Act.put, List.setIfInBounds_toArray, List.set_cons_zero, List.set_cons_succ])
      (first | (refine draw_in (i := 32) (v := ?_) rfl ?_ ?_; rotate_left; (intro w hSw; (try dsimp only at hSw); go_simp; try with_reducible rfl)) | (refine draw_out (i := 32) rfl ?_)); (try simp only [Act.put, List.setIfInBounds_toArray, List.set_cons_zero, List.set_cons_succ])
      (first | (refine draw_free (i := 33) (v := ?_) rfl ?_ ?_; rotate_left; (intro w; go_simp; try with_reducible rfl)) | (refine draw_out (i := 33) rfl ?_)); (try simp only [Act.put, List.setIfInBounds_toArray, List.set_cons_zero, List.set_cons_succ])
      (first | (refine draw_in (i := 34) (v := ?_) rfl ?_ ?_; rotate_left; (intro w hSw; (try dsimp only at hSw); go_simp; try with_reducible rfl)) | (refine draw_out (i := 34) rfl ?_)); (try simp only [Act.put, List.setIfInBounds_toArray, List.set_cons_zero, List.set_cons_succ])
      refine draw_one (i := 35) ?_
      refine comes_turn (i := 35) rfl (fun K hK => ?_)
      go_simp
      (refine (HRY.out _ hex.out.drew).mono ?_; rintro e w5 ⟨v, rfl, hk3, rfl⟩; have X5 := Lib.hid (show Ext w w5 from hex.out.drew.trans hk3); clear hk3)
      go_wp2_with fail
      refine hK.out _ _ ?_ (fun hHeld => ?_)
      · (try dsimp only); (exact HC.out _ X5.out)
      clear hK K; (try simp only [Act.put, List.setIfInBounds_toArray, List.set_cons_zero, List.set_cons_succ])
      (first | (refine draw_free (i := 36) (v := ?_) rfl ?_ ?_; rotate_left; (intro w; go_simp; try with_reducible rfl)) | (refine draw_out (i := 36) rfl ?_)); (try simp only [Act.put, List.setIfInBounds_toArray, List.set_cons_zero, List.set_cons_succ])
      (refine draw_free (i := 37) (v := ?_) rfl ?_ ?_; rotate_left; (intro w; go_simp; try with_reducible rfl)); (try simp only [Act.put, List.setIfInBounds_toArray, List.set_cons_zero, List.set_cons_succ])
      refine wpAnyD_done (by kernel_rfl) ?_ _
      go_wp2
      go_roundw
      case rel => exact ⟨i + 1, by omega, by first | rfl | (congr 1; done) | (congr 1; omega), X5⟩
      case measure => simp [intOf]; omega
    · go_wp2
      go_ret
      exact RetN.mk hex.out rfl
end Go.Proofs.YtfkhelihepbehaaGreat

/- tuple.Base: put, Declare, Add where the map is not made yet. -/
namespace Go.Proofs.YtfkhelihepbehaaGreat
open Go.RowKit
set_option linter.unusedVariables false
section
variable {S : Nat → Prop} {w : World} {bb : Nat}
set_option maxRecDepth 100000 in
theorem basePut_zero {n : Int} (hB : Blk w bb [.map none, .int .i64 n] 65) (s : ByteArray) (p : Option Addr) :
    Calls Tryz.prog 100 #[.pointer (some ⟨bb, 0, none⟩), .string s, .pointer p] w (RetF (fun k => k = bb) w fun w' v => Blk w' bb [.map (some w.heap.size), .int .i64 n] 65 ∧ MapIs w' w.heap.size [(s, .pointer p)]) := by
  have c0 : w.cell? ⟨bb, 0, none⟩ = some (.map none) := by rw [hB.cell']; rfl
  have hq : ∀ w : World, (binOp .eql 63 (.map none) (.map none)).run Tryz.prog w = .ok (.bool true) w := fun w => by kernel_rfl
  have hmm := @run_makeMap Tryz.prog
  obtain ⟨w1, e1⟩ : ∃ w1, w.alloc (.map #[] 0) = w1 := ⟨_, rfl⟩
  have hx1 : Ext w w1 := by rw [← e1]; exact (Kp.refl w).alloc _
  have hb1 := hB.ext hx1
  have hm1 : MapIs w1 w.heap.size [] := by rw [← e1]; exact MapIs.new w
  have c1 : w1.cell? ⟨bb, 0, none⟩ = some (.map none) := by rw [hb1.cell']; rfl
  have f1 := hb1.free 0
  obtain ⟨w2, e2⟩ : ∃ w2, w1.setCell ⟨bb, 0, none⟩ (.map (some w.heap.size)) = w2 := ⟨_, rfl⟩
  have hlt := hB.lt
  have hb2 : Blk w2 bb [.map (some w.heap.size), .int .i64 n] 65 := by rw [← e2]; exact hb1.set 0 _
  have hk2 : Kp (fun k => k = bb) w1 w2 := by rw [← e2]; exact Kp.setCell (F := fun k => k = bb) (Kp.refl w1) (p := ⟨bb, 0, none⟩) (fun _ => rfl) _
  have hm2 := hm1.kp hk2 (by omega)
  have c2 : w2.cell? ⟨bb, 0, none⟩ = some (.map (some w.heap.size)) := by rw [hb2.cell']; rfl
  obtain ⟨w3, hu, hm3, hk3⟩ := run_update_str (P := Tryz.prog) Tryz.underlying63 Tryz.underlying9 hm2 s (.pointer p)
  have HFin := Lib.hid (show Kp (fun k => k = bb) w w3 ∧ Blk w3 bb [.map (some w.heap.size), .int .i64 n] 65 ∧ MapIs w3 w.heap.size [(s, .pointer p)] from
    ⟨(Kp.trans (Ext.kp hx1) hk2).trans' hk3 fun k hk e => by omega, hb2.kp hk3 (by omega), hm3⟩)
  clear hB hx1 hb1 hm1 hb2 hk2 hm2 hm3 hk3 hlt
  go_enter Tryz.func100, Tryz.ntmps100
  go_wp2
  go_end0
  exact RetF.mk HFin.out.1 HFin.out.2
theorem BaseAt.one {r : Nat} {e : Ent} {n : Nat} (hb : Blk w bb [.map (some r), .int .i64 (n : Nat)] 65) (hn : n = totalC (cntE [e])) (hm : MapIs w r [(e.name, e.ptr)]) (hr : RowsAt S w e.b e.iv e.ar e.LL) (hin : ∀ k, S k → k < w.heap.size) (hs : ¬ S bb ∧ ¬ S r) (hne : bb ≠ r)
    (hoff : ∀ k, e.own k → k ≠ bb ∧ k ≠ r) (hok : BaseOk (cntE [e])) : BaseAt S w bb r [e] :=
  { blk := by rw [← hn]; exact hb, map := hm, rows := fun f hf => by rw [List.mem_singleton.1 hf]; exact hr, apart := List.pairwise_singleton _ _, inS := hin, notS := hs, ne := hne, off := fun f hf => by rw [List.mem_singleton.1 hf]; exact hoff, ok := hok }
/-- What Declare leaves of a base whose map was not made. -/
def ZeroDecled (S : Nat → Prop) (w : World) (bb : Nat) (s : ByteArray) (a : Int) (w' : World) (v : Value) : Prop :=
  v = .int .i64 ((declR [] s a : Nat) : Int) ∧ ((declC [] s a = [] ∧ Ext w w') ∨ ∃ r E', BaseAt S w' bb r E' ∧ cntE E' = declC [] s a ∧ ∀ k, OwnB bb r E' k → k = bb ∨ w.heap.size ≤ k)
set_option maxRecDepth 100000 in
set_option maxHeartbeats 4000000 in
theorem baseDecl_zero (hB : Blk w bb [.map none, .int .i64 0] 65) (hin : ∀ k, S k → k < w.heap.size) (hS : ¬ S bb) (s : ByteArray) (a : Int) :
    Calls Tryz.prog 56 #[.pointer (some ⟨bb, 0, none⟩), .string s, .int .i64 a] w (RetF (fun k => k = bb) w (ZeroDecled S w bb s a)) := by
  have c0 : w.cell? ⟨bb, 0, none⟩ = some (.map none) := by rw [hB.cell']; rfl
  have hnm := named_any s w
  rw [show decide (1 ≤ s.size ∧ s.size ≤ 4096) = namedC s from rfl] at hnm
  have HN := Lib.hid hnm; clear hnm
  have H := Lib.hid (And.intro hB (And.intro hin hS))
  have HLk := Lib.hid (fun w1 => run_lookup_none (P := Tryz.prog) (w := w1) Tryz.underlying63 Tryz.underlying9 (z := .pointer none) (by kernel_rfl) s)
  clear hB hin hS
  cases hn : namedC s with
  | false =>
    rw [hn] at HN
    have HNM := Lib.hid hn
    clear hn c0
    go_enter Tryz.func56, Tryz.ntmps56
    go_wp2_with fail
    refine HN.out.mono ?_
    rintro e w' ⟨rfl, rfl⟩
    go_wp2
    go_ret
    have e2 := declR_name (C := []) a HNM.out
    exact RetF.mk (Kp.refl _) ⟨by rw [e2]; rfl, .inl ⟨declC_not (by rw [e2]; decide), Kp.refl _⟩⟩
  | true =>
    rw [hn] at HN
    have HNM := Lib.hid hn
    clear hn
    by_cases ha : a < 0 ∨ 64 < a
    · have HNB := Lib.hid (newRows_bad a w ha)
      have HAB := Lib.hid ha
      have hlk := HLk.out w
      clear ha
      go_enter Tryz.func56, Tryz.ntmps56
      go_wp2_with fail
      refine HN.out.mono ?_
      rintro e w' ⟨rfl, rfl⟩
      go_wp2_with fail
      refine HNB.out.mono ?_
      rintro e w' ⟨rfl, rfl⟩
      go_wp2
      go_ret
      have e2 := declR_bad (s := s) (C := []) HNM.out HAB.out
      exact RetF.mk (Kp.refl _) ⟨by rw [e2]; rfl, .inl ⟨declC_not (by rw [e2]; decide), Kp.refl _⟩⟩
    · obtain ⟨k, rfl⟩ := Int.eq_ofNat_of_zero_le (show 0 ≤ a by omega)
      have hk64 : k ≤ 64 := by omega
      have HNR := Lib.hid (newRows_any S w k hk64 H.out.2.1)
      have HAN := Lib.hid ha
      clear ha
      go_enter Tryz.func56, Tryz.ntmps56
      go_wp2_with fail
      refine HN.out.mono ?_
      rintro e w' ⟨rfl, rfl⟩
      go_wp2_with fail
      refine HNR.out.mono ?_
      rintro e w1 ⟨v, rfl, hk1, rfl, hrows⟩
      have hlk := HLk.out w1
      have c1 := hk1.cell c0 id
      have HK1 := Lib.hid (And.intro hk1 hrows)
      clear hk1 hrows
      go_wp2_with fail
      refine (basePut_zero (H.out.1.ext HK1.out.1) s (some ⟨w.heap.size, 0, none⟩)).mono ?_
      rintro e w4 ⟨v, rfl, hk4, hb4, hm4⟩
      have HM4 := Lib.hid (And.intro hk4 (And.intro hb4 hm4))
      clear hk4 hb4 hm4
      go_wp2
      go_ret
      have hg : getC ([] : List CntZ) s = none := rfl
      have e2 := declR_none (C := []) HNM.out HAN.out hg
      have e3 : declC [] s (k : Int) = [(s, k, [])] := by
        unfold declC
        rw [if_pos ⟨e2, hg⟩]; simp
      obtain ⟨hk4, hb4, hm4⟩ := HM4.out
      have hlt := H.out.1.lt
      have hs1 := HK1.out.1.size
      have hlr := RowsQ.ownLt (z := True) HK1.out.2.q
      have hlr0 := hlr _ (.inl rfl)
      refine RetF.mk ((Ext.kp HK1.out.1).trans hk4) ⟨by rw [e2]; rfl, .inr ⟨w1.heap.size, [{ name := s, b := w.heap.size, iv := .slice none 0 0, ar := k, LL := [] }], ?_, by rw [e3]; rfl, ?_⟩⟩
      · refine BaseAt.one (n := 0) hb4 (by simp [totalC, cntE, Ent.cnt]) hm4 (HK1.out.2.move hk4 (fun q e ho => ?_) (fun q e hs => H.out.2.2 (e ▸ hs)) (fun _ x => x) (fun q hq => by have := H.out.2.1 q hq; have := hk4.size; omega) HK1.out.2.notS) (fun q hq => by have := H.out.2.1 q hq; have := hk4.size; omega) ⟨H.out.2.2, fun hs => by have := H.out.2.1 _ hs; omega⟩ (by omega) (fun q ho => ?_) (by rw [show cntE [({ name := s, b := w.heap.size, iv := .slice none 0 0, ar := k, LL := [] } : Ent)] = declC [] s (k : Int) by rw [e3]; rfl]; exact ok_decl ok_nil s _)
        · rcases ho with ho | ho
          · omega
          · cases ho
        · rcases ho with ho | ho
          · simp only at ho; omega
          · cases ho
      · rintro q (h1 | h1 | ⟨f, hf, ho⟩)
        · exact .inl h1
        · right; omega
        · rw [List.mem_singleton.1 hf] at ho
          rcases ho with ho | ho
          · right; simp only at ho; omega
          · cases ho
end
end Go.Proofs.YtfkhelihepbehaaGreat

/- tuple.Base: Add where the map is not made yet. -/
namespace Go.Proofs.YtfkhelihepbehaaGreat
open Go.RowKit
set_option linter.unusedVariables false
section
variable {S S' : Nat → Prop} {w w1 w3 w4 : World} {bb : Nat} {s : ByteArray} {ss : List ByteArray} {iv' : Value}
/-- What Add leaves of a base whose map was not made. -/
def ZeroAdded (S : Nat → Prop) (w : World) (bb : Nat) (s : ByteArray) (ss : List ByteArray) (w' : World) (v : Value) : Prop :=
  v = .tuple #[.bool (addR [] s ss).1, .int .i64 ((addR [] s ss).2 : Nat)] ∧ ((addC [] s ss = [] ∧ Ext w w') ∨ ∃ r S' E', (∀ k, S k → S' k) ∧ (∀ k, S' k → S k ∨ w.heap.size ≤ k) ∧ BaseAt S' w' bb r E' ∧ cntE E' = addC [] s ss ∧ ∀ k, OwnB bb r E' k → k = bb ∨ w.heap.size ≤ k)
theorem ZeroAdded.same (hk : Ext w w1) {n : Nat} (hR : addR [] s ss = (false, n)) (hn : n ≠ 0) {v : Value} (hv : v = .tuple #[.bool false, .int .i64 (n : Nat)]) : ZeroAdded S w bb s ss w1 v :=
  ⟨by rw [hv, hR], .inl ⟨addC_not (by rw [hR]; exact hn), hk⟩⟩
theorem baseAdd0_new (hb : Blk w bb [.map none, .int .i64 0] 65) (hin : ∀ k, S k → k < w.heap.size) (hS : ¬ S bb) (hf : namedC s = true ∧ ss.length ≤ 64 ∧ textsC ss = true) (hx : Ext w w3) (hss : ∀ k, S k → S' k) (hsn : ∀ k, S' k → S k ∨ w.heap.size ≤ k)
    (hr : RowsAt S' w3 w.heap.size iv' ss.length [ss]) (hiv : ∀ k, iv'.ownBlock = some k → w.heap.size ≤ k) (hk4 : Kp (fun k => k = bb) w3 w4) (hb4 : Blk w4 bb [.map (some w3.heap.size), .int .i64 0] 65) (hm4 : MapIs w4 w3.heap.size [(s, .pointer (some ⟨w.heap.size, 0, none⟩))]) :
    RetF (fun k => k = bb) w (ZeroAdded S w bb s ss) (.returned (.tuple #[.bool true, .int .i64 0])) (w4.setCell ⟨bb, 1, none⟩ (.int .i64 1)) := by
  obtain ⟨f1, f2, f3⟩ := hf
  have hR : addR [] s ss = (true, 0) := by
    rw [addR_rest f1 (ar_none rfl f2) f3 (fun k => by have : totalC ([] : List CntZ) = 0 := rfl; omega)]
    rw [show rowsC ([] : List CntZ) s = [] from rfl, if_neg (by simp)]; rfl
  have hC : addC [] s ss = [(s, ss.length, [ss])] := by
    unfold addC
    rw [if_pos (by rw [hR]), show rowsC ([] : List CntZ) s = [] from rfl, show addS cmpRow [] ss = [ss] by simp [addS, isIn, below]]
    rfl
  have hk5 : Kp (fun k => k = bb) w4 (w4.setCell ⟨bb, 1, none⟩ (.int .i64 1)) := Kp.setCell (F := fun k => k = bb) (Kp.refl w4) (p := ⟨bb, 1, none⟩) (fun _ => rfl) _
  have hk45 := hk4.trans hk5
  have hlt := hb.lt
  have hs3 := hx.size
  have hs45 := hk45.size
  have ho : ∀ k, Owns w.heap.size iv' k → w.heap.size ≤ k := fun k ho => by
    rcases ho with rfl | ho
    · exact Nat.le_refl _
    · exact hiv k ho
  have hlo : ∀ k, Owns w.heap.size iv' k → k < w3.heap.size := RowsQ.ownLt (z := True) hr.q
  have hSb : ¬ S' bb := fun h => by rcases hsn _ h with h | h; exact hS h; omega
  have hin3 : ∀ k, S' k → k < w3.heap.size := hr.inS
  refine RetF.mk ((Ext.kp hx).trans hk45) ⟨by rw [hR]; rfl, .inr ⟨w3.heap.size, S', [{ name := s, b := w.heap.size, iv := iv', ar := ss.length, LL := [ss] }], hss, hsn, ?_, by rw [hC]; rfl, ?_⟩⟩
  · refine BaseAt.one (n := 1) (hb4.set 1 (.int .i64 1)) (by simp [totalC, cntE, Ent.cnt]) (hm4.kp hk5 (by omega)) (hr.move hk45 (fun q e h => by have := ho q h; omega) (fun q e h => hSb (e ▸ h)) (fun _ x => x) (fun q hq => by have := hin3 q hq; omega) hr.notS) (fun q hq => by have := hin3 q hq; omega) ⟨hSb, fun h => by have := hin3 _ h; omega⟩ (by omega) (fun q h => ?_) ?_
    · have := ho q h; have := hlo q h; omega
    · rw [show cntE [({ name := s, b := w.heap.size, iv := iv', ar := ss.length, LL := [ss] } : Ent)] = addC [] s ss by rw [hC]; rfl]
      exact ok_add ok_nil s ss
  · rintro q (h1 | h1 | ⟨f, hf, h⟩)
    · exact .inl h1
    · right; omega
    · rw [List.mem_singleton.1 hf] at h
      exact .inr (ho q h)
set_option maxRecDepth 100000 in
set_option maxHeartbeats 4000000 in
theorem baseAdd_zero (hB : Blk w bb [.map none, .int .i64 0] 65) (hin : ∀ k, S k → k < w.heap.size) (hS : ¬ S bb) (s : ByteArray) {ao : Option Addr} {k cap : Nat} {ss : List ByteArray} (hx : RowIn w (ao, k, cap) ss) :
    Calls Tryz.prog 40 #[.pointer (some ⟨bb, 0, none⟩), .string s, .slice ao k cap] w (RetF (fun k => k = bb) w (ZeroAdded S w bb s ss)) := by
  have hkn : k = ss.length := hx.1.1
  have hcs : CellsAt w ao (strs ss) := hx.1.2
  have hkl : k ≤ 8796093021952 := by rw [hkn]; exact hx.2.1
  have c0 : w.cell? ⟨bb, 0, none⟩ = some (.map none) := by rw [hB.cell']; rfl
  have hlk := run_lookup_none (P := Tryz.prog) (w := w) Tryz.underlying63 Tryz.underlying9 (z := .pointer none) (by kernel_rfl) s
  have hnm := named_any s w
  rw [show decide (1 ≤ s.size ∧ s.size ≤ 4096) = namedC s from rfl] at hnm
  have HN := Lib.hid hnm; clear hnm
  have HT := Lib.hid (fun w1 (hw : Ext w w1) => texts_any ss ao k cap w1 hkn (hcs.ext hw) (by omega))
  have c1 : w.cell? ⟨bb, 1, none⟩ = some (.int .i64 0) := by rw [hB.cell']; rfl
  have HC1 := Lib.hid (fun w1 (hw : Ext w w1) => (hw.cell c1 id : w1.cell? ⟨bb, 1, none⟩ = some (.int .i64 0)))
  have H := Lib.hid (And.intro hB (And.intro hin hS))
  have HX := Lib.hid (And.intro hx trivial)
  have HKN := Lib.hid hkn
  clear hB hin hS hx hcs hkn c1
  cases hn : namedC s with
  | false =>
    rw [hn] at HN
    have HNM := Lib.hid hn
    clear hn hlk c0
    go_enter Tryz.func40, Tryz.ntmps40
    go_wp2_with fail
    refine HN.out.mono ?_
    rintro e w' ⟨rfl, rfl⟩
    go_wp2
    go_ret2
    exact RetF.mk (Kp.refl _) (ZeroAdded.same (Kp.refl _) (addR_name ss HNM.out) (by decide) rfl)
  | true =>
    rw [hn] at HN
    have HNM := Lib.hid hn
    clear hn
    by_cases hl : 64 < k
    · have HNB := Lib.hid (newRows_bad (k : Int) w (.inr (by omega)))
      go_enter Tryz.func40, Tryz.ntmps40
      go_wp2_with fail
      refine HN.out.mono ?_
      rintro e w' ⟨rfl, rfl⟩
      go_wp2_with fail
      refine HNB.out.mono ?_
      rintro e w' ⟨rfl, rfl⟩
      go_wp2
      go_ret2
      exact RetF.mk (Kp.refl _) (ZeroAdded.same (Kp.refl _) (addR_long HNM.out rfl (by rw [← HKN.out]; exact hl)) (by decide) rfl)
    have hk64 : k ≤ 64 := by omega
    have HNR := Lib.hid (newRows_any S w k hk64 H.out.2.1)
    have HL := Lib.hid (show ss.length ≤ 64 by rw [← HKN.out]; exact hk64)
    clear hl
    cases ht : textsC ss with
    | false =>
      rw [ht] at HT
      have HTX := Lib.hid ht
      clear ht
      go_enter Tryz.func40, Tryz.ntmps40
      go_wp2_with fail
      refine HN.out.mono ?_
      rintro e w' ⟨rfl, rfl⟩
      go_wp2_with fail
      refine HNR.out.mono ?_
      rintro e w1 ⟨v, rfl, hk1, rfl, hrows⟩
      have d2 : w1.cell? ⟨w.heap.size, 2, none⟩ = some (.int .i64 k) := by rw [hrows.blk.cell']; rfl
      have HK1 := Lib.hid hk1
      clear hk1 hrows
      go_wp2_with fail
      refine (HT.out w1 HK1.out).mono ?_
      rintro e w2 ⟨v, rfl, hk2, rfl⟩
      have HK2 := Lib.hid (HK1.out.trans hk2)
      clear hk2
      go_wp2
      go_ret2
      exact RetF.mk (Ext.kp HK2.out) (ZeroAdded.same HK2.out (addR_text HNM.out (ar_none rfl HL.out) HTX.out) (by decide) rfl)
    | true =>
      rw [ht] at HT
      have HTX := Lib.hid ht
      clear ht
      have HAdd := Lib.hid (fun w1 (hw : Ext w w1) (hr : RowsAt S w1 w.heap.size (.slice none 0 0) k []) => rowsAdd_any hr List.Pairwise.nil (ao := ao) (n := k) (cap := cap) (ss := ss) ⟨⟨HKN.out, HX.out.1.1.2.ext hw⟩, HX.out.1.2.1, fun a e => Nat.lt_of_lt_of_le (HX.out.1.2.2 a e) hw.size⟩
        (fun a e ho => by
          have := HX.out.1.2.2 a e
          rcases ho with ho | ho
          · omega
          · cases ho) (by simp))
      go_enter Tryz.func40, Tryz.ntmps40
      go_wp2_with fail
      refine HN.out.mono ?_
      rintro e w' ⟨rfl, rfl⟩
      go_wp2_with fail
      refine HNR.out.mono ?_
      rintro e w1 ⟨v, rfl, hk1, rfl, hrows⟩
      have d2 : w1.cell? ⟨w.heap.size, 2, none⟩ = some (.int .i64 k) := by rw [hrows.blk.cell']; rfl
      have HK1 := Lib.hid (And.intro hk1 hrows)
      clear hk1 hrows
      go_wp2_with fail
      refine (HT.out w1 HK1.out.1).mono ?_
      rintro e w2 ⟨v, rfl, hk2, rfl⟩
      have HK2 := Lib.hid (HK1.out.1.trans hk2)
      have HR2 := Lib.hid (HK1.out.2.ext hk2)
      have c1' := HC1.out w2 HK2.out
      clear hk2 d2
      go_wp2_with fail
      refine (HAdd.out w2 HK2.out HR2.out).mono ?_
      rintro e w3 ⟨v, rfl, hk3, hv, S', iv', hss, hsn, hrows3, hiv⟩
      have e0 : rowsAddR k [] ss = (true, 0) := by
        unfold rowsAddR; rw [if_neg (by rw [HKN.out]; simp), if_neg (by rw [HTX.out]; simp), if_neg (by simp)]; simp [isIn]
      have e1 : rowsAddL k [] ss = [ss] := by
        unfold rowsAddL; rw [e0]; simp [addS, isIn, below]
      rw [e0] at hv
      rw [e1] at hrows3
      subst hv
      have hz := HK2.out.size
      have kk3 : Kp (fun g => g = w.heap.size) w2 w3 := hk3.mono fun g _ h => by
        rcases h with h | h
        · exact h
        · cases h
      have hex3 : Ext w w3 := HK2.out.trans' kk3 (fun i hi e => by omega)
      rw [HKN.out] at hrows3
      have HR3 := Lib.hid (And.intro hex3 (And.intro hss (And.intro (fun q (hq : S' q) => (hsn q hq).imp id fun u => Nat.le_trans hz u) (And.intro hrows3 (fun q (hq : iv'.ownBlock = some q) => show w.heap.size ≤ q by
        rcases hiv q hq with u | u
        · cases u
        · exact Nat.le_trans hz u)))))
      have HB3 := Lib.hid (H.out.1.ext hex3)
      clear hk3 kk3 hex3 hrows3 hss hsn hiv e0 e1 c1' hlk c0 hz
      have hbs : bb < w3.heap.size := HB3.out.lt
      go_wp2_with fail
      refine (basePut_zero HB3.out s (some ⟨w.heap.size, 0, none⟩)).mono ?_
      rintro e w4 ⟨v, rfl, hk4, hb4, hm4⟩
      have HM4 := Lib.hid (And.intro hk4 (And.intro hb4 hm4))
      have c4 : w4.cell? ⟨bb, 1, none⟩ = some (.int .i64 0) := by rw [hb4.cell']; rfl
      have f4 := hb4.free 1
      clear hk4 hb4 hm4 hbs
      go_wp2
      go_ret2
      exact baseAdd0_new H.out.1 H.out.2.1 H.out.2.2 ⟨HNM.out, HL.out, HTX.out⟩ HR3.out.1 HR3.out.2.1 HR3.out.2.2.1 HR3.out.2.2.2.1 HR3.out.2.2.2.2 HM4.out.1 HM4.out.2.1 HM4.out.2.2
end
end Go.Proofs.YtfkhelihepbehaaGreat

/- tuple.Base: Names, Relations where the map is not made yet. -/
namespace Go.Proofs.YtfkhelihepbehaaGreat
open Go.RowKit Go.Maps Go.Sort Go.Shelf
set_option linter.unusedVariables false

theorem collect_nil {w : World} {B : Nat} (hB : w.cell? ⟨B, 0, none⟩ = some (.map none)) :
    Calls Tryz.prog 141 #[.func (.func 143) #[] #[.pointer (some ⟨B, 0, none⟩)]] w (RetN w fun w' v => v = .slice none 0 0) := by
  have hseq := AnyZ.keys_gives_nil (L := { Tryz.laysSlZ7_f108 with }) Fence.wide 3 trivial rfl B w (World.block_lt_of_cell? _ _ hB) hB
  have hc := (callsIn_wide (n := 5)).1 (AnyZ.collect_in Tryz.laysSlZ8_f141 Fence.wide 5 trivial trivial rfl (by omega) 143 #[.pointer (some ⟨B, 0, none⟩)] trivial (enters_of Tryz.func143 (by kernel_rfl) rfl) _ _ (by unfold maxLen; omega) (by omega) w hseq)
  refine Calls.mono hc ?_
  rintro e w' ⟨v, ss, rfl, hS, hrow, hnil, hb⟩
  exact RetN.mk (Kp.of_below hb) (hnil.2 hS)
set_option maxRecDepth 100000 in
theorem sortedNames_nil {w : World} {B : Nat} (hB : w.cell? ⟨B, 0, none⟩ = some (.map none)) :
    Calls Tryz.prog 107 #[.func (.func 143) #[] #[.pointer (some ⟨B, 0, none⟩)], .func (.func 109) #[] #[]] w (RetN w fun w' v => v = .slice none 0 0) := by
  have HC := Lib.hid (collect_nil hB)
  clear hB
  go_enter Tryz.func107, Tryz.ntmps107
  go_wp2_with fail
  refine HC.out.mono ?_
  rintro e w1 ⟨v, rfl, hk1, rfl⟩
  have HK := Lib.hid hk1
  clear hk1
  go_wp2_with fail
  refine (AnyF.slices_SortFunc_none Tryz.laysSlF06_f142 none 0 _ w1).mono ?_
  rintro e w2 ⟨rfl, rfl⟩
  go_wp2
  go_ret
  exact RetN.mk HK.out rfl
set_option maxRecDepth 100000 in
theorem names_zero {w : World} {bb : Nat} {n : Int} (hb : Blk w bb [.map none, .int .i64 n] 65) : Calls Tryz.prog 58 #[.pointer (some ⟨bb, 0, none⟩)] w (RetN w fun w' v => v = .slice none 0 0) := by
  have c0 : w.cell? ⟨bb, 0, none⟩ = some (.map none) := by rw [hb.cell']; rfl
  have HKeys := Lib.hid ((callsIn_wide (n := 5)).1 (AnyZ.keys_in Tryz.laysSlZ7_f108 Fence.wide 5 trivial rfl none w))
  have hB : (w.alloc (.cells #[.map none] 63)).cell? ⟨w.heap.size, 0, none⟩ = some (.map none) := by rw [(Blk.new w [.map none] _).cell']; rfl
  have HS := Lib.hid (sortedNames_nil hB)
  have HXA := Lib.hid (show Ext w (w.alloc (.cells #[.map none] 63)) from (Kp.refl w).alloc _)
  clear hb hB
  go_enter Tryz.func58, Tryz.ntmps58
  go_wp2_with fail
  refine HKeys.out.mono ?_
  rintro e w1 ⟨rfl, rfl⟩
  go_wp2_with fail
  refine HS.out.mono ?_
  rintro e w2 ⟨v, rfl, hk2, rfl⟩
  have HF := Lib.hid (HXA.out.trans hk2)
  clear hk2
  go_wp2
  go_ret
  exact RetN.mk HF.out rfl
set_option maxRecDepth 100000 in
theorem baseRels_zero {w : World} {bb : Nat} {n : Int} (hb : Blk w bb [.map none, .int .i64 n] 65) : Calls Tryz.prog 25 #[.pointer (some ⟨bb, 0, none⟩)] w (RetN w fun w' v => v = .slice none 0 0) := by
  have HN := Lib.hid (names_zero hb)
  clear hb
  go_enter Tryz.func25, Tryz.ntmps25
  go_wp2_with fail
  refine HN.out.mono ?_
  rintro e w1 ⟨v, rfl, hk, rfl⟩
  have HK := Lib.hid hk
  clear hk
  go_wp2
  go_loopw [10, 3] (fun iv ov wr => iv = .int .i64 0 ∧ ov = .slice none 0 0 ∧ wr = w1) (fun _ _ _ => 0)
  case atStart => exact ⟨rfl, rfl, rfl⟩
  case round =>
    obtain ⟨rfl, rfl, rfl⟩ := hrel
    go_wp2
    go_ret
    exact RetN.mk HK.out rfl
end Go.Proofs.YtfkhelihepbehaaGreat

/- tuple.Base: Same: maps.EqualFunc over rows. -/
namespace Go.Proofs.YtfkhelihepbehaaGreat
open Go.RowKit Go.Maps
set_option linter.unusedVariables false

/-- Is one's rows what the other has under its name? -/
def matchE (E2 : List Ent) (e : Ent) : Bool := match findE E2 e.name with | some f => decide (e.ar = f.ar ∧ e.LL = f.LL) | none => false
def sameE (E1 E2 : List Ent) : Bool := decide (E1.length = E2.length) && E1.all (matchE E2)
def EqTo (w0 : World) (E1 E2 : List Ent) (mv : Value) (it : Nat) (w : World) : Prop := ∃ todo cnt, IterE w mv it E1 todo cnt ∧ Hid (Ext w0 w) ∧ Hid (∀ e ∈ E1, todo e.name = false → matchE E2 e = true)
theorem entSame_any {S : Nat → Prop} {w : World} {bb1 bb2 : Nat} {r1 r2 : Value} {E1 E2 : List Ent} (h1 : BaseM S w bb1 r1 E1) (h2 : BaseM S w bb2 r2 E2) {e f : Ent} (he : e ∈ E1) (hf : f ∈ E2) (hap : e = f ∨ ∀ k, e.own k → ¬ f.own k) :
    Calls Tryz.prog 61 #[e.ptr, f.ptr] w (RetN w fun w' v => v = .bool (decide (e.ar = f.ar ∧ e.LL = f.LL))) := by
  have q1 : RowsQ True S w e.b e.iv e.ar e.LL := (h1.rows e he).q
  have q2 : RowsQ True S w f.b f.iv f.ar f.LL := (h2.rows f hf).q
  have a1 := (h1.rows e he)
  have a2 := (h2.rows f hf)
  rcases hap with rfl | hap
  · refine (rowsSame_self (a1.q (z := False))).mono ?_
    rintro e' w' ⟨v, rfl, hk, rfl, _⟩
    exact RetN.mk (Kp.fq hk) (by simp)
  by_cases har : e.ar = f.ar
  · have r1 := (h1.rows e he).q (z := False)
    have r2 := (h2.rows f hf).q (z := False)
    rw [← har] at r2
    refine (rowsSame_q r1 r2 hap).mono ?_
    rintro e' w' ⟨v, rfl, hk, rfl, _, _⟩
    refine RetN.mk (hk.mono fun _ _ h => by rcases h with h | h <;> exact h.1) ?_
    rw [show decide (e.ar = f.ar ∧ e.LL = f.LL) = decide (e.LL = f.LL) by simp [har]]
  · refine (rowsSame_arity q1.ar q2.ar har).mono ?_
    rintro e' w' ⟨rfl, n, rfl⟩
    refine RetN.mk ((Kp.refl _).drewN n) ?_
    rw [decide_eq_false fun h => har h.1]
set_option maxRecDepth 100000 in
set_option maxHeartbeats 4000000 in
theorem equalFunc_any {S : Nat → Prop} {w : World} {bb1 bb2 : Nat} {m1 m2 : Value} {E1 E2 : List Ent} (h1 : BaseM S w bb1 m1 E1) (h2 : BaseM S w bb2 m2 E2) (hap : ∀ e ∈ E1, ∀ f ∈ E2, e.name = f.name → e = f ∨ ∀ k, e.own k → ¬ f.own k) (hl1 : E1.length ≤ 1048576) (hl2 : E2.length ≤ 1048576) :
    Calls Tryz.prog 60 #[m1, m2, .func (.func 61) #[] #[]] w (RetN w fun w' v => v = .bool (sameE E1 E2)) := by
  have hL1 : E1.length ≤ maxLen := by unfold maxLen; omega
  have hL2 : E2.length ≤ maxLen := by unfold maxLen; omega
  obtain ⟨n1, en1⟩ : ∃ n, E1.length = n := ⟨_, rfl⟩
  obtain ⟨n2, en2⟩ : ∃ n, E2.length = n := ⟨_, rfl⟩
  have hlen1 := h1.map.len h1.size hL1
  have hlen2 := h2.map.len h2.size hL2
  rw [en1] at hlen1 hl1
  rw [en2] at hlen2
  have hmap1 := h1.map
  have hsz1 := Lib.hid (And.intro h1.size hL1)
  have H := Lib.hid (And.intro h1 (And.intro h2 hap))
  have EN := Lib.hid (And.intro en1 en2)
  have hent : ∀ args w, (callFunc 61 args).run Tryz.prog w = .ok (.enter 61 args) w := enters_of Tryz.func61 (by kernel_rfl) rfl
  clear h1 h2 hap en1 en2 hl2 hL1 hL2
  by_cases hne : n1 = n2
  · have q1 : ((n1 : Int) != (n2 : Int)) = false := by simp [hne]
    have HNE := Lib.hid hne
    clear hne
    go_enter Tryz.func60, Tryz.ntmps60
    go_wp2_with (at_range; refine wpList_rangeV rfl _ rfl rfl hmap1 hsz1.out.1 hsz1.out.2 ?_; intro w0 cnt0 hrg0 hx0 hs0)
    go_frame
    obtain ⟨it, eit⟩ : ∃ it, w.heap.size = it := ⟨_, rfl⟩
    have HX0 := Lib.hid (And.intro hx0 eit)
    clear hx0 hs0
    rw [eit] at hrg0
    try rw [eit]
    go_loopw [] (fun wr => EqTo w E1 E2 m1 it wr) (fun wr => leftV wr m1 it)
    case atStart => exact ⟨_, _, hrg0, HX0.out.1, Lib.hid fun e he hl => by cases hl⟩
    case round =>
      obtain ⟨todo, cnt, hrg, hex, hin⟩ := hrel
      have HIN := Lib.hid (And.intro hex.out hin.out)
      have HRG := Lib.hid hrg
      clear hex hin
      go_wp2_with (at_next; refine wpList_nextV rfl _ rfl rfl hrg ?_ ?_)
      · intro hl0
        have hall := Lib.hid (fun e he => HIN.out.2 e he (hl0 e he))
        go_wp2
        go_ret
        refine RetN.mk HIN.out.1 ?_
        unfold sameE
        rw [decide_eq_true (by rw [EN.out.1, EN.out.2]; exact HNE.out), List.all_eq_true.2 hall.out]; rfl
      · intro e0 w1 cnt1 he0 hlk hrg1 hlt hg1 hsz hen
        obtain ⟨x, enx⟩ : ∃ x, e0.name = x := ⟨_, rfl⟩
        have hk1 : Ext w w1 := HIN.out.1.trans' hg1 fun i hi e => by have := HX0.out.2; omega
        have hleft : ∀ e ∈ E1, (todo e.name && !decide (e.name = e0.name)) = false → todo e.name = false ∨ e = e0 := fun e he h => by
          rw [Bool.and_eq_false_iff] at h
          rcases h with h | h
          · exact .inl h
          · right
            have h1 := nodup_findC H.out.1.ok he
            have h2 := nodup_findC H.out.1.ok he0
            rw [show e.name = e0.name by simpa using h, h2] at h1
            injection h1 with h1; exact h1.symm
        have HEN := Lib.hid (And.intro he0 (And.intro enx hleft))
        have HRG1 := Lib.hid (And.intro hrg1 (And.intro hlt hk1))
        have hlook : ∀ z, findE E2 x = z → (Instr.lookup 63 m2 (.string x) true).run Tryz.prog w1 = .ok (.tuple #[(z.map Ent.ptr).getD (.pointer none), .bool z.isSome]) w1 := fun z hz => by
          rw [← hz]
          exact (H.out.2.1.map.ext hk1).lookup_ok x
        rw [enx] at hen ⊢
        clear he0 enx hleft hrg1 hlt hk1 hlk hg1 hsz hrg
        cases hf : findE E2 x with
        | none =>
          have hl := hlook none hf
          have HF := Lib.hid hf
          clear hlook hf
          simp only [Option.map_none, Option.getD_none, Option.isSome_none] at hl
          go_wp2_with fail
          go_ret
          refine RetN.mk HRG1.out.2.2 ?_
          have h1 : matchE E2 e0 = false := by unfold matchE; rw [HEN.out.2.1, HF.out]
          have h2 : sameE E1 E2 = false := by
            unfold sameE
            rw [List.all_eq_false.2 ⟨e0, HEN.out.1, by rw [h1]; simp⟩, Bool.and_false]
          rw [h2]; rfl
        | some f =>
          have hl := hlook (some f) hf
          obtain ⟨hf2, hfn⟩ := findE_some hf
          have hmt : matchE E2 e0 = decide (e0.ar = f.ar ∧ e0.LL = f.LL) := by unfold matchE; rw [HEN.out.2.1, hf]
          have HF := Lib.hid (And.intro hf2 (And.intro hfn hmt))
          clear hlook hf hf2 hfn hmt
          simp only [Option.map_some, Option.getD_some, Option.isSome_some] at hl
          go_wp2_with fail
          refine (entSame_any (H.out.1.ext HRG1.out.2.2) (H.out.2.1.ext HRG1.out.2.2) HEN.out.1 HF.out.1 (H.out.2.2 e0 HEN.out.1 f HF.out.1 (by rw [HEN.out.2.1, HF.out.2.1]))).mono ?_
          rintro e w2 ⟨v, rfl, hk2, rfl⟩
          have hrg2 := HRG1.out.1.kp hk2 id (fun _ _ => id)
          have HRG2 := Lib.hid (And.intro hrg2 (HRG1.out.2.2.trans hk2))
          clear hk2 hrg2 hl hen
          cases hv : decide (e0.ar = f.ar ∧ e0.LL = f.LL) with
          | false =>
            have HV := Lib.hid hv
            clear hv
            go_wp2_with fail
            go_ret
            refine RetN.mk HRG2.out.2 ?_
            have h1 : matchE E2 e0 = false := by rw [HF.out.2.2]; exact HV.out
            have h2 : sameE E1 E2 = false := by
              unfold sameE
              rw [List.all_eq_false.2 ⟨e0, HEN.out.1, by rw [h1]; simp⟩, Bool.and_false]
            rw [h2]; rfl
          | true =>
            have HV := Lib.hid hv
            clear hv
            go_wp2_with fail
            go_roundw
            case rel => exact ⟨_, _, HRG2.out.1, Lib.hid HRG2.out.2, Lib.hid fun e he hl => by
              rcases HEN.out.2.2 e he hl with h | rfl
              · exact HIN.out.2 e he h
              · rw [HF.out.2.2]; exact HV.out⟩
            case measure =>
              rw [HRG2.out.1.left_eq, HRG.out.left_eq]
              exact HRG1.out.2.1
  · have q1 : ((n1 : Int) != (n2 : Int)) = true := by rw [bne_iff_ne]; omega
    have HNE := Lib.hid hne
    clear hne
    go_enter Tryz.func60, Tryz.ntmps60
    go_wp2
    go_ret
    exact RetN.mk (Kp.refl _) (by unfold sameE; rw [decide_eq_false (by rw [EN.out.1, EN.out.2]; exact HNE.out)]; rfl)

set_option maxRecDepth 100000 in
set_option maxHeartbeats 4000000 in
theorem baseSameM_any {S : Nat → Prop} {w : World} {bb1 bb2 : Nat} {r1 r2 : Value} {E1 E2 : List Ent} (h1 : BaseM S w bb1 r1 E1) (h2 : BaseM S w bb2 r2 E2) (hap : ∀ e ∈ E1, ∀ f ∈ E2, e.name = f.name → e = f ∨ ∀ k, e.own k → ¬ f.own k) (hl1 : E1.length ≤ 1048576) (hl2 : E2.length ≤ 1048576) :
    Calls Tryz.prog 26 #[.pointer (some ⟨bb1, 0, none⟩), .pointer (some ⟨bb2, 0, none⟩)] w (RetN w fun w' v => v = .bool (sameE E1 E2)) := by
  have c1 := h1.blk.cell 0 (by simp)
  have c2 := h2.blk.cell 0 (by simp)
  have HEQ := Lib.hid (equalFunc_any (h1.ext (Kp.refl w).drew) (h2.ext (Kp.refl w).drew) hap hl1 hl2)
  clear h1 h2 hap
  simp only [List.getElem_cons_zero] at c1 c2
  go_enter Tryz.func26, Tryz.ntmps26
  go_wp2
  refine draw_begin (fun w' : World => w'.cell? ⟨bb1, 0, none⟩ = some r1 ∧ w'.cell? ⟨bb2, 0, none⟩ = some r2) [] (by kernel_rfl) ⟨c1, c2⟩ (fun hHeld => ?_)
  (refine draw_free (i := 0) (v := ?_) rfl ?_ ?_; rotate_left; (intro w; go_simp; try with_reducible rfl)); (try simp only [Act.put, List.setIfInBounds_toArray, List.set_cons_zero, List.set_cons_succ])
  (refine draw_free (i := 1) (v := ?_) rfl ?_ ?_; rotate_left; (intro w; go_simp; try with_reducible rfl)); (try simp only [Act.put, List.setIfInBounds_toArray, List.set_cons_zero, List.set_cons_succ])
  (refine draw_free (i := 2) (v := ?_) rfl ?_ ?_; rotate_left; (intro w; go_simp; try with_reducible rfl)); (try simp only [Act.put, List.setIfInBounds_toArray, List.set_cons_zero, List.set_cons_succ])
  (first | (refine draw_free (i := 3) (v := ?_) rfl ?_ ?_; rotate_left; (intro w; go_simp; try with_reducible rfl)) | (refine draw_out (i := 3) rfl ?_)); (try simp only [Act.put, List.setIfInBounds_toArray, List.set_cons_zero, List.set_cons_succ])
  (first | (refine draw_free (i := 4) (v := ?_) rfl ?_ ?_; rotate_left; (intro w; go_simp; try with_reducible rfl)) | (refine draw_out (i := 4) rfl ?_)); (try simp only [Act.put, List.setIfInBounds_toArray, List.set_cons_zero, List.set_cons_succ])
  (refine draw_free (i := 5) (v := ?_) rfl ?_ ?_; rotate_left; (intro w; go_simp; try with_reducible rfl)); (try simp only [Act.put, List.setIfInBounds_toArray, List.set_cons_zero, List.set_cons_succ])
  (refine draw_free (i := 6) (v := ?_) rfl ?_ ?_; rotate_left; (intro w; go_simp; try with_reducible rfl)); (try simp only [Act.put, List.setIfInBounds_toArray, List.set_cons_zero, List.set_cons_succ])
  (first | (refine draw_free (i := 7) (v := ?_) rfl ?_ ?_; rotate_left; (intro w; go_simp; try with_reducible rfl)) | (refine draw_out (i := 7) rfl ?_)); (try simp only [Act.put, List.setIfInBounds_toArray, List.set_cons_zero, List.set_cons_succ])
  (first | (refine draw_free (i := 8) (v := ?_) rfl ?_ ?_; rotate_left; (intro w; go_simp; try with_reducible rfl)) | (refine draw_out (i := 8) rfl ?_)); (try simp only [Act.put, List.setIfInBounds_toArray, List.set_cons_zero, List.set_cons_succ])
  (first | (refine draw_free (i := 9) (v := ?_) rfl ?_ ?_; rotate_left; (intro w; go_simp; try with_reducible rfl)) | (refine draw_out (i := 9) rfl ?_)); (try simp only [Act.put, List.setIfInBounds_toArray, List.set_cons_zero, List.set_cons_succ])
  (first | (refine draw_in (i := 10) (v := ?_) rfl ?_ ?_; rotate_left; (intro w hSw; (try dsimp only at hSw); go_simp; try with_reducible rfl)) | (refine draw_out (i := 10) rfl ?_)); (try simp only [Act.put, List.setIfInBounds_toArray, List.set_cons_zero, List.set_cons_succ])
  (first | (refine draw_free (i := 11) (v := ?_) rfl ?_ ?_; rotate_left; (intro w; go_simp; try with_reducible rfl)) | (refine draw_out (i := 11) rfl ?_)); (try simp only [Act.put, List.setIfInBounds_toArray, List.set_cons_zero, List.set_cons_succ])
  (first | (refine draw_free (i := 12) (v := ?_) rfl ?_ ?_; rotate_left; (intro w; go_simp; try with_reducible rfl)) | (refine draw_out (i := 12) rfl ?_)); (try simp only [Act.put, List.setIfInBounds_toArray, List.set_cons_zero, List.set_cons_succ])
  (first | (refine draw_free (i := 13) (v := ?_) rfl ?_ ?_; rotate_left; (intro w; go_simp; try with_reducible rfl)) | (refine draw_out (i := 13) rfl ?_)); (try simp only [Act.put, List.setIfInBounds_toArray, List.set_cons_zero, List.set_cons_succ])
  (first | (refine draw_in (i := 14) (v := ?_) rfl ?_ ?_; rotate_left; (intro w hSw; (try dsimp only at hSw); go_simp; try with_reducible rfl)) | (refine draw_out (i := 14) rfl ?_)); (try simp only [Act.put, List.setIfInBounds_toArray, List.set_cons_zero, List.set_cons_succ])
  refine draw_one (i := 15) ?_
  refine comes_turn (i := 15) rfl (fun K hK => ?_)
  go_simp
  (refine HEQ.out.mono ?_; rintro e w5 ⟨v, rfl, hk3, rfl⟩; have X5 := Lib.hid (show Ext w w5 from ((Kp.refl w).drew).trans hk3); clear hk3)
  go_wp2_with fail
  refine hK.out _ _ ?_ (fun hHeld => ?_)
  · (try dsimp only); (exact ⟨X5.out.cell c1 id, X5.out.cell c2 id⟩)
  clear hK K; (try simp only [Act.put, List.setIfInBounds_toArray, List.set_cons_zero, List.set_cons_succ])
  (refine draw_free (i := 16) (v := ?_) rfl ?_ ?_; rotate_left; (intro w; go_simp; try with_reducible rfl)); (try simp only [Act.put, List.setIfInBounds_toArray, List.set_cons_zero, List.set_cons_succ])
  (refine draw_free (i := 17) (v := ?_) rfl ?_ ?_; rotate_left; (intro w; go_simp; try with_reducible rfl)); (try simp only [Act.put, List.setIfInBounds_toArray, List.set_cons_zero, List.set_cons_succ])
  refine wpAnyD_done (by kernel_rfl) ?_ _
  go_wp2
  go_ret
  exact RetN.mk X5.out rfl
end Go.Proofs.YtfkhelihepbehaaGreat

/- tuple.Base: Same, where one is nil. -/
namespace Go.Proofs.YtfkhelihepbehaaGreat
open Go.RowKit
set_option linter.unusedVariables false

set_option maxRecDepth 100000 in
theorem baseSame_nil1 (v : Value) (w : World) : Calls Tryz.prog 26 #[.pointer none, v] w (RetD (.bool false) w) := by
  go_enter Tryz.func26, Tryz.ntmps26
  go_wp2
  refine wp_region_held_drew (S := fun _ => True) (by kernel_rfl) trivial (fun hHeld => ?_)
  (refine take_in (i := 0) (v := ?_) rfl ?_ ?_; rotate_left; (intro w hSw; (try dsimp only at hSw); go_simp; try with_reducible rfl)); (try simp only [Act.put, List.setIfInBounds_toArray, List.set_cons_zero, List.set_cons_succ])
  (refine take_in (i := 1) (v := ?_) rfl ?_ ?_; rotate_left; (intro w hSw; (try dsimp only at hSw); go_simp; try with_reducible rfl)); (try simp only [Act.put, List.setIfInBounds_toArray, List.set_cons_zero, List.set_cons_succ])
  (refine take_in (i := 2) (v := ?_) rfl ?_ ?_; rotate_left; (intro w hSw; (try dsimp only at hSw); go_simp; try with_reducible rfl)); (try simp only [Act.put, List.setIfInBounds_toArray, List.set_cons_zero, List.set_cons_succ])
  (first | (refine take_in (i := 3) (v := ?_) rfl ?_ ?_; rotate_left; (intro w hSw; (try dsimp only at hSw); go_simp; try with_reducible rfl)) | (refine take_out (i := 3) rfl ?_)); (try simp only [Act.put, List.setIfInBounds_toArray, List.set_cons_zero, List.set_cons_succ])
  (first | (refine take_in (i := 4) (v := ?_) rfl ?_ ?_; rotate_left; (intro w hSw; (try dsimp only at hSw); go_simp; try with_reducible rfl)) | (refine take_out (i := 4) rfl ?_)); (try simp only [Act.put, List.setIfInBounds_toArray, List.set_cons_zero, List.set_cons_succ])
  (refine take_in (i := 5) (v := ?_) rfl ?_ ?_; rotate_left; (intro w hSw; (try dsimp only at hSw); go_simp; try with_reducible rfl)); (try simp only [Act.put, List.setIfInBounds_toArray, List.set_cons_zero, List.set_cons_succ])
  (refine take_in (i := 6) (v := ?_) rfl ?_ ?_; rotate_left; (intro w hSw; (try dsimp only at hSw); go_simp; try with_reducible rfl)); (try simp only [Act.put, List.setIfInBounds_toArray, List.set_cons_zero, List.set_cons_succ])
  (first | (refine take_in (i := 7) (v := ?_) rfl ?_ ?_; rotate_left; (intro w hSw; (try dsimp only at hSw); go_simp; try with_reducible rfl)) | (refine take_out (i := 7) rfl ?_)); (try simp only [Act.put, List.setIfInBounds_toArray, List.set_cons_zero, List.set_cons_succ])
  (first | (refine take_in (i := 8) (v := ?_) rfl ?_ ?_; rotate_left; (intro w hSw; (try dsimp only at hSw); go_simp; try with_reducible rfl)) | (refine take_out (i := 8) rfl ?_)); (try simp only [Act.put, List.setIfInBounds_toArray, List.set_cons_zero, List.set_cons_succ])
  (first | (refine take_in (i := 9) (v := ?_) rfl ?_ ?_; rotate_left; (intro w hSw; (try dsimp only at hSw); go_simp; try with_reducible rfl)) | (refine take_out (i := 9) rfl ?_)); (try simp only [Act.put, List.setIfInBounds_toArray, List.set_cons_zero, List.set_cons_succ])
  (first | (refine take_in (i := 10) (v := ?_) rfl ?_ ?_; rotate_left; (intro w hSw; (try dsimp only at hSw); go_simp; try with_reducible rfl)) | (refine take_out (i := 10) rfl ?_)); (try simp only [Act.put, List.setIfInBounds_toArray, List.set_cons_zero, List.set_cons_succ])
  (first | (refine take_in (i := 11) (v := ?_) rfl ?_ ?_; rotate_left; (intro w hSw; (try dsimp only at hSw); go_simp; try with_reducible rfl)) | (refine take_out (i := 11) rfl ?_)); (try simp only [Act.put, List.setIfInBounds_toArray, List.set_cons_zero, List.set_cons_succ])
  (first | (refine take_in (i := 12) (v := ?_) rfl ?_ ?_; rotate_left; (intro w hSw; (try dsimp only at hSw); go_simp; try with_reducible rfl)) | (refine take_out (i := 12) rfl ?_)); (try simp only [Act.put, List.setIfInBounds_toArray, List.set_cons_zero, List.set_cons_succ])
  (first | (refine take_in (i := 13) (v := ?_) rfl ?_ ?_; rotate_left; (intro w hSw; (try dsimp only at hSw); go_simp; try with_reducible rfl)) | (refine take_out (i := 13) rfl ?_)); (try simp only [Act.put, List.setIfInBounds_toArray, List.set_cons_zero, List.set_cons_succ])
  (first | (refine take_in (i := 14) (v := ?_) rfl ?_ ?_; rotate_left; (intro w hSw; (try dsimp only at hSw); go_simp; try with_reducible rfl)) | (refine take_out (i := 14) rfl ?_)); (try simp only [Act.put, List.setIfInBounds_toArray, List.set_cons_zero, List.set_cons_succ])
  (first | (refine take_out (i := 15) rfl ?_) | (refine take_call (i := 15) rfl (fun K hK => ?_); go_simp; (fail); go_wp2_with fail; refine hK.out _ _ ?_ (fun hHeld => ?_); (try dsimp only); (trivial); clear hK K)); (try simp only [Act.put, List.setIfInBounds_toArray, List.set_cons_zero, List.set_cons_succ])
  (refine take_in (i := 16) (v := ?_) rfl ?_ ?_; rotate_left; (intro w hSw; (try dsimp only at hSw); go_simp; try with_reducible rfl)); (try simp only [Act.put, List.setIfInBounds_toArray, List.set_cons_zero, List.set_cons_succ])
  (refine take_in (i := 17) (v := ?_) rfl ?_ ?_; rotate_left; (intro w hSw; (try dsimp only at hSw); go_simp; try with_reducible rfl)); (try simp only [Act.put, List.setIfInBounds_toArray, List.set_cons_zero, List.set_cons_succ])
  refine wpAnyH_done (by kernel_rfl) ?_ _
  go_wp2
  go_ret
  exact RetD.mk rfl 1
set_option maxRecDepth 100000 in
theorem baseSame_nil2 (a : Addr) (w : World) : Calls Tryz.prog 26 #[.pointer (some a), .pointer none] w (RetD (.bool false) w) := by
  go_enter Tryz.func26, Tryz.ntmps26
  go_wp2
  refine wp_region_held_drew (S := fun _ => True) (by kernel_rfl) trivial (fun hHeld => ?_)
  (refine take_in (i := 0) (v := ?_) rfl ?_ ?_; rotate_left; (intro w hSw; (try dsimp only at hSw); go_simp; try with_reducible rfl)); (try simp only [Act.put, List.setIfInBounds_toArray, List.set_cons_zero, List.set_cons_succ])
  (refine take_in (i := 1) (v := ?_) rfl ?_ ?_; rotate_left; (intro w hSw; (try dsimp only at hSw); go_simp; try with_reducible rfl)); (try simp only [Act.put, List.setIfInBounds_toArray, List.set_cons_zero, List.set_cons_succ])
  (refine take_in (i := 2) (v := ?_) rfl ?_ ?_; rotate_left; (intro w hSw; (try dsimp only at hSw); go_simp; try with_reducible rfl)); (try simp only [Act.put, List.setIfInBounds_toArray, List.set_cons_zero, List.set_cons_succ])
  (first | (refine take_in (i := 3) (v := ?_) rfl ?_ ?_; rotate_left; (intro w hSw; (try dsimp only at hSw); go_simp; try with_reducible rfl)) | (refine take_out (i := 3) rfl ?_)); (try simp only [Act.put, List.setIfInBounds_toArray, List.set_cons_zero, List.set_cons_succ])
  (first | (refine take_in (i := 4) (v := ?_) rfl ?_ ?_; rotate_left; (intro w hSw; (try dsimp only at hSw); go_simp; try with_reducible rfl)) | (refine take_out (i := 4) rfl ?_)); (try simp only [Act.put, List.setIfInBounds_toArray, List.set_cons_zero, List.set_cons_succ])
  (refine take_in (i := 5) (v := ?_) rfl ?_ ?_; rotate_left; (intro w hSw; (try dsimp only at hSw); go_simp; try with_reducible rfl)); (try simp only [Act.put, List.setIfInBounds_toArray, List.set_cons_zero, List.set_cons_succ])
  (refine take_in (i := 6) (v := ?_) rfl ?_ ?_; rotate_left; (intro w hSw; (try dsimp only at hSw); go_simp; try with_reducible rfl)); (try simp only [Act.put, List.setIfInBounds_toArray, List.set_cons_zero, List.set_cons_succ])
  (first | (refine take_in (i := 7) (v := ?_) rfl ?_ ?_; rotate_left; (intro w hSw; (try dsimp only at hSw); go_simp; try with_reducible rfl)) | (refine take_out (i := 7) rfl ?_)); (try simp only [Act.put, List.setIfInBounds_toArray, List.set_cons_zero, List.set_cons_succ])
  (first | (refine take_in (i := 8) (v := ?_) rfl ?_ ?_; rotate_left; (intro w hSw; (try dsimp only at hSw); go_simp; try with_reducible rfl)) | (refine take_out (i := 8) rfl ?_)); (try simp only [Act.put, List.setIfInBounds_toArray, List.set_cons_zero, List.set_cons_succ])
  (first | (refine take_in (i := 9) (v := ?_) rfl ?_ ?_; rotate_left; (intro w hSw; (try dsimp only at hSw); go_simp; try with_reducible rfl)) | (refine take_out (i := 9) rfl ?_)); (try simp only [Act.put, List.setIfInBounds_toArray, List.set_cons_zero, List.set_cons_succ])
  (first | (refine take_in (i := 10) (v := ?_) rfl ?_ ?_; rotate_left; (intro w hSw; (try dsimp only at hSw); go_simp; try with_reducible rfl)) | (refine take_out (i := 10) rfl ?_)); (try simp only [Act.put, List.setIfInBounds_toArray, List.set_cons_zero, List.set_cons_succ])
  (first | (refine take_in (i := 11) (v := ?_) rfl ?_ ?_; rotate_left; (intro w hSw; (try dsimp only at hSw); go_simp; try with_reducible rfl)) | (refine take_out (i := 11) rfl ?_)); (try simp only [Act.put, List.setIfInBounds_toArray, List.set_cons_zero, List.set_cons_succ])
  (first | (refine take_in (i := 12) (v := ?_) rfl ?_ ?_; rotate_left; (intro w hSw; (try dsimp only at hSw); go_simp; try with_reducible rfl)) | (refine take_out (i := 12) rfl ?_)); (try simp only [Act.put, List.setIfInBounds_toArray, List.set_cons_zero, List.set_cons_succ])
  (first | (refine take_in (i := 13) (v := ?_) rfl ?_ ?_; rotate_left; (intro w hSw; (try dsimp only at hSw); go_simp; try with_reducible rfl)) | (refine take_out (i := 13) rfl ?_)); (try simp only [Act.put, List.setIfInBounds_toArray, List.set_cons_zero, List.set_cons_succ])
  (first | (refine take_in (i := 14) (v := ?_) rfl ?_ ?_; rotate_left; (intro w hSw; (try dsimp only at hSw); go_simp; try with_reducible rfl)) | (refine take_out (i := 14) rfl ?_)); (try simp only [Act.put, List.setIfInBounds_toArray, List.set_cons_zero, List.set_cons_succ])
  (first | (refine take_out (i := 15) rfl ?_) | (refine take_call (i := 15) rfl (fun K hK => ?_); go_simp; (fail); go_wp2_with fail; refine hK.out _ _ ?_ (fun hHeld => ?_); (try dsimp only); (trivial); clear hK K)); (try simp only [Act.put, List.setIfInBounds_toArray, List.set_cons_zero, List.set_cons_succ])
  (refine take_in (i := 16) (v := ?_) rfl ?_ ?_; rotate_left; (intro w hSw; (try dsimp only at hSw); go_simp; try with_reducible rfl)); (try simp only [Act.put, List.setIfInBounds_toArray, List.set_cons_zero, List.set_cons_succ])
  (refine take_in (i := 17) (v := ?_) rfl ?_ ?_; rotate_left; (intro w hSw; (try dsimp only at hSw); go_simp; try with_reducible rfl)); (try simp only [Act.put, List.setIfInBounds_toArray, List.set_cons_zero, List.set_cons_succ])
  refine wpAnyH_done (by kernel_rfl) ?_ _
  go_wp2
  go_ret
  exact RetD.mk rfl 1
end Go.Proofs.YtfkhelihepbehaaGreat

/- Bases: the same content answers the same; which names there are behind an operation. No program in sight. -/
namespace Go.Proofs.YtfkhelihepbehaaGreat
open Go.RowKit
set_option linter.unusedVariables false

section
variable {C D C' D' : List CntZ} {s t : ByteArray} {row : List ByteArray}
theorem same_dropR (h : SameC C D) (s : ByteArray) (row : List ByteArray) : dropR C s row = dropR D s row := by unfold dropR; rw [h s]
theorem same_dropC (h : SameC C D) (s : ByteArray) (row : List ByteArray) : SameC (dropC C s row) (dropC D s row) := fun t => by
  unfold dropC
  by_cases hn : namedC s = false
  · rw [if_pos hn, if_pos hn]; exact h t
  · rw [if_neg hn, if_neg hn, h s]
    cases getC D s with
    | none => exact h t
    | some v => simp only [getC_set]; rw [h t]
theorem any_perm' {α : Type} {f : α → Bool} {l l' : List α} (h : l.Perm l') : l.any f = l'.any f := by
  rw [Bool.eq_iff_iff, List.any_eq_true, List.any_eq_true]
  exact ⟨fun ⟨x, hx, hf⟩ => ⟨x, h.mem_iff.1 hx, hf⟩, fun ⟨x, hx, hf⟩ => ⟨x, h.mem_iff.2 hx, hf⟩⟩
theorem mergeL_perm (hC : (C.map (·.1)).Nodup) (hC' : (C'.map (·.1)).Nodup) (hD : (D.map (·.1)).Nodup) (hD' : (D'.map (·.1)).Nodup) (h1 : SameC C C') (h2 : SameC D D') : (mergeL C D).Perm (mergeL C' D') := by
  have p1 := same_to_perm hC hC' h1
  have p2 := same_to_perm hD hD' h2
  unfold mergeL
  have e1 : onlyC C' D' = C'.filter fun p => (getC D p.1).isNone := by unfold onlyC; congr 1; funext p; rw [h2]
  have e2 : bothC C = bothC C' := by
    funext p
    unfold bothC unionL
    rw [h1]
  rw [e1, e2]
  exact (p1.filter _).append (p2.map _)
theorem same_mergeR (hC : BaseOk C) (hC' : BaseOk C') (hD : BaseOk D) (hD' : BaseOk D') (h1 : SameC C C') (h2 : SameC D D') : mergeR C D = mergeR C' D' := by
  unfold mergeR
  have e3 : unionL C = unionL C' := by funext p; unfold unionL; rw [h1]
  have p2 := same_to_perm hD.nodup hD'.nodup h2
  rw [clash_perm h1 p2, e3, any_perm' p2, perm_total (mergeL_perm hC.nodup hC'.nodup hD.nodup hD'.nodup h1 h2)]
theorem same_mergeL (hC : BaseOk C) (hC' : BaseOk C') (hD : BaseOk D) (hD' : BaseOk D') (h1 : SameC C C') (h2 : SameC D D') : SameC (mergeL C D) (mergeL C' D') :=
  perm_same (mergeL_perm hC.nodup hC'.nodup hD.nodup hD'.nodup h1 h2) (merge_names hC.nodup hD.nodup)

theorem names_declC {a : Int} {v : Nat × Rows2} (h : getC (declC C s a) t = some v) : t = s ∨ ∃ u, getC C t = some u := by
  unfold declC at h
  split at h
  · next hc =>
    rw [getC_app hc.2] at h
    split at h
    · next e => exact .inl e.symm
    · exact .inr ⟨_, h⟩
  · exact .inr ⟨_, h⟩
theorem names_addC {v : Nat × Rows2} (h : getC (addC C s row) t = some v) : t = s ∨ ∃ u, getC C t = some u := by
  unfold addC at h
  split at h
  · rw [getC_set] at h
    split at h
    · next e => exact .inl e.symm
    · exact .inr ⟨_, h⟩
  · exact .inr ⟨_, h⟩
theorem names_dropC {v : Nat × Rows2} (h : getC (dropC C s row) t = some v) : t = s ∨ ∃ u, getC C t = some u := by
  unfold dropC at h
  split at h
  · exact .inr ⟨_, h⟩
  · cases hg : getC C s with
    | none => rw [hg] at h; exact .inr ⟨_, h⟩
    | some u =>
      rw [hg] at h
      simp only [getC_set] at h
      split at h
      · next e => exact .inl e.symm
      · exact .inr ⟨_, h⟩
theorem names_mergeL (hC : (C.map (·.1)).Nodup) (hD : (D.map (·.1)).Nodup) {v : Nat × Rows2} (h : getC (mergeL C D) t = some v) : (∃ u, getC C t = some u) ∨ ∃ u, getC D t = some u := by
  cases hd : getC D t with
  | some u => exact .inr ⟨_, rfl⟩
  | none =>
    rw [getC_merge hC hD, hd] at h
    exact .inl ⟨_, h⟩
theorem names_addAll {rs : Rows2} : ∀ {C : List CntZ} {v : Nat × Rows2}, getC (addAll C s rs).1 t = some v → t = s ∨ ∃ u, getC C t = some u := by
  induction rs with
  | nil => exact fun h => .inr ⟨_, h⟩
  | cons r rs ih =>
    intro C v h
    unfold addAll at h
    split at h
    · rcases ih h with e | ⟨u, hu⟩
      · exact .inl e
      · exact names_addC hu
    · exact .inr ⟨_, h⟩
theorem names_fromC {L : List RelZ} : ∀ {C : List CntZ} {v : Nat × Rows2}, getC (fromC C L).1 t = some v → (∃ q ∈ L, q.1 = t) ∨ ∃ u, getC C t = some u := by
  induction L with
  | nil => exact fun h => .inr ⟨_, h⟩
  | cons q L ih =>
    intro C v h
    have hall : ∀ {v : Nat × Rows2}, getC (addAll (declC C q.1 q.2.1) q.1 q.2.2.1).1 t = some v → (∃ x ∈ q :: L, x.1 = t) ∨ ∃ u, getC C t = some u := fun h => by
      rcases names_addAll h with e | ⟨u, hu⟩
      · exact .inl ⟨q, by simp, e.symm⟩
      · rcases names_declC hu with e | h1
        · exact .inl ⟨q, by simp, e.symm⟩
        · exact .inr h1
    unfold fromC at h
    split at h
    · split at h
      · rcases ih h with ⟨x, hx, e⟩ | ⟨u, hu⟩
        · exact .inl ⟨x, List.mem_cons_of_mem _ hx, e⟩
        · exact hall hu
      · exact hall h
    · exact .inr ⟨_, h⟩
end
end Go.Proofs.YtfkhelihepbehaaGreat

/- Relations of one's own in turned order, their rows too: what they make. No program in sight but for its types. -/
namespace Go.Proofs.YtfkhelihepbehaaGreat
open Go.RowKit
set_option linter.unusedVariables false

theorem LentRow.own {lo lo' hi : Nat} {w : World} {p : RowP} (h : LentRow lo hi w p) (hl : lo' ≤ lo) : ∃ g cap rs, p.1 = (some ⟨g, 0, none⟩, p.2.length, cap) ∧ lo' ≤ g ∧ Blk w g (strs p.2 ++ rs) 9 ∧ p.2.length ≤ 8796093021952 ∧ p.2.length ≤ cap := by
  obtain ⟨g, cap, rest, h1, h2, h3, h4, h5, h6, h7⟩ := h
  refine ⟨g, cap, .string mark1 :: .string mark2 :: rest, h1, Nat.le_trans hl h2, ?_, h7, by omega⟩
  rw [strs_snoc2, List.append_assoc] at h4
  exact h4
section
variable {F : Nat → Prop} {lo : Nat} {w w' : World} {x : RelZ × LentP}
end
end Go.Proofs.YtfkhelihepbehaaGreat

/- sibylref03.Rows: what lies where; NewRows, Arity, texts, copied, find, Below. -/
namespace Go.Proofs.YtfkhelihepbehaaGreat
open Go.RowKit
set_option linter.unusedVariables false

/-- The document's Rows in memory: an arity, rows; S holds the rows and their list, the box lies off S. -/
def RefRows (S : Nat → Prop) (w : World) (c : Nat) (n : Nat) (LL : List (List ByteArray)) : Prop :=
  ∃ ao cap, Blk w c [.int .i64 n, .slice ao LL.length cap] 152 ∧ RowsIn S w ao LL ∧ (LL.length ≤ cap ∧ cap ≤ maxLen ∧ (ao = none ∧ cap = 0 ∨ ∃ g, ao = some ⟨g, 0, none⟩)) ∧ ¬ S c ∧ (∀ k, S k → k < w.heap.size) ∧ LL.length ≤ 1048576 * 1048576
/-- Between two rounds of a loop that only reads. -/
def ReadR (n : Nat) (ok : Nat → Prop) (w0 : World) (kv : Value) (w : World) : Prop := ∃ i : Nat, i ≤ n ∧ kv = .int .i64 i ∧ ok i ∧ Ext w0 w
/-- Between two rounds of a loop that counts. -/
def CountR (n : Nat) (f : Nat → Nat) (w0 : World) (nv kv : Value) (w : World) : Prop := ∃ i : Nat, i ≤ n ∧ nv = .int .i64 (f i : Nat) ∧ kv = .int .i64 i ∧ Ext w0 w
theorem below_step' {α : Type} (c : α → α → Int) (zs : List α) (x y : α) (i : Nat) (h : zs[i]? = some y) : below c (zs.take (i + 1)) x = below c (zs.take i) x + (if c y x < 0 then 1 else 0) := by
  obtain ⟨hl, e⟩ := List.getElem?_eq_some_iff.1 h
  unfold below
  rw [List.take_succ_eq_append_getElem hl, List.filter_append, e]
  by_cases hc : c y x < 0 <;> simp [hc]
/-- The place of a row; -1: there is none. -/
def findR (LL : List (List ByteArray)) (ss : List ByteArray) : Int := if isIn cmpRow LL ss then (below cmpRow LL ss : Nat) else -1
theorem first_alike' {α : Type} {c : α → α → Int} (O : OrdLaw c) {zs : List α} (hs : Strict c zs) {x y : α} {i : Nat} (hy : zs[i]? = some y) (hz : c y x = 0) : i = below c zs x := by
  refine hs.place O (by have := (List.getElem?_eq_some_iff.1 hy).1; omega) (fun u h0 hu => ?_) (fun u hu => ?_)
  · obtain ⟨h1, e1⟩ := List.getElem?_eq_some_iff.1 hu
    obtain ⟨h2, e2⟩ := List.getElem?_eq_some_iff.1 hy
    have := List.pairwise_iff_getElem.1 hs (i - 1) i h1 h2 (by omega)
    rw [e1, e2] at this
    exact O.lt_trans this (by omega)
  · rw [hy] at hu; cases hu; omega

section
variable {S S' : Nat → Prop} {w w' : World} {c n : Nat} {LL : List (List ByteArray)}
theorem RefRows.kp {F : Nat → Prop} (h : RefRows S w c n LL) (hk : Kp F w w') (hc : ¬ F c) (hF : ∀ k, F k → ¬ S k) : RefRows S w' c n LL := by
  obtain ⟨ao, cap, h1, h2, h3, h4, h5, h6⟩ := h
  exact ⟨ao, cap, h1.kp hk hc, h2.kp hk hF, h3, h4, fun k hS => Nat.lt_of_lt_of_le (h5 k hS) hk.size, h6⟩
theorem RefRows.ext (h : RefRows S w c n LL) (hk : Ext w w') : RefRows S w' c n LL := h.kp hk id fun _ x => x.elim
theorem RefRows.wide (h : RefRows S w c n LL) (hs : ∀ k, S k → S' k) (hc : ¬ S' c) (hl : ∀ k, S' k → k < w.heap.size) : RefRows S' w c n LL := by
  obtain ⟨ao, cap, h1, h2, h3, h4, h5, h6⟩ := h
  exact ⟨ao, cap, h1, h2.mono hs, h3, hc, hl, h6⟩
theorem RefRows.lt (h : RefRows S w c n LL) : c < w.heap.size := by obtain ⟨ao, cap, h1, _⟩ := h; exact h1.lt
theorem RefRows.inS (h : RefRows S w c n LL) : ∀ k, S k → k < w.heap.size := by obtain ⟨ao, cap, h1, h2, h3, h4, h5, _⟩ := h; exact h5
theorem RefRows.notS (h : RefRows S w c n LL) : ¬ S c := by obtain ⟨ao, cap, h1, h2, h3, h4, h5, _⟩ := h; exact h4
theorem RefRows.len (h : RefRows S w c n LL) : LL.length ≤ 1048576 * 1048576 := by obtain ⟨ao, cap, h1, h2, h3, h4, h5, h6⟩ := h; exact h6

theorem refNewRows_any (S : Nat → Prop) (w : World) (a : Nat) (ha : a ≤ 64) (hS : ∀ k, S k → k < w.heap.size) :
    Calls Tryz.prog 114 #[.int .i64 a] w (RetN w fun w' v => v = .tuple #[.pointer (some ⟨w.heap.size, 0, none⟩), .int .i64 0] ∧ RefRows S w' w.heap.size a []) := by
  have t1 : decide ((a : Int) < 0) = false := by simp
  have t2 : decide ((a : Int) > 64) = false := by simp; omega
  have t3 : decide (64 < (a : Int)) = false := by simp; omega
  go_enter Tryz.func114, Tryz.ntmps114
  go_wp2
  go_ret2
  refine RetN.mk ((Kp.refl w).alloc _) ⟨rfl, none, 0, Blk.new w [_, _] _, RowsIn.nil _ _, ⟨Nat.le_refl _, by decide, .inl ⟨rfl, rfl⟩⟩, fun h => by have := hS _ h; omega, fun k h => by have := hS k h; rw [alloc_size]; omega, by simp⟩
theorem refNewRows_bad (a : Int) (w : World) (ha : a < 0 ∨ 64 < a) : Calls Tryz.prog 114 #[.int .i64 a] w (Ret (.tuple #[.pointer none, .int .i64 2]) w) := by
  by_cases h0 : a < 0
  · have t1 : decide (a < 0) = true := by simp [h0]
    go_enter Tryz.func114, Tryz.ntmps114
    go_wp2
    go_ret2
    exact Ret.mk rfl
  · have h1 : 64 < a := by omega
    have t1 : decide (a < 0) = false := by simp; omega
    have t2 : decide (a > 64) = true := by simp; omega
    have t3 : decide (64 < a) = true := by simp; omega
    go_enter Tryz.func114, Tryz.ntmps114
    go_wp2
    go_ret2
    exact Ret.mk rfl
theorem refArity_nil (w : World) : Calls Tryz.prog 83 #[.pointer none] w (Ret (.int .i64 0) w) := by
  go_enter Tryz.func83, Tryz.ntmps83
  go_wp2
  go_ret
  exact Ret.mk rfl
theorem refArity_any (h : RefRows S w c n LL) : Calls Tryz.prog 83 #[.pointer (some ⟨c, 0, none⟩)] w (Ret (.int .i64 n) w) := by
  obtain ⟨ao, cap, h1, _⟩ := h
  have c1 : w.cell? ⟨c, 0, none⟩ = some (.int .i64 n) := by rw [h1.cell']; rfl
  clear h1
  go_enter Tryz.func83, Tryz.ntmps83
  go_wp2
  go_ret
  exact Ret.mk rfl
theorem copied_any (ss : List ByteArray) (ao : Option Addr) (m cap : Nat) (w : World) (hm : m = ss.length) (hc : CellsAt w ao (strs ss)) (hl : ss.length ≤ 8796093021952) :
    Calls Tryz.prog 128 #[.slice ao m cap] w (RetN w fun w' v => OwnRow w w' v ss) := by
  subst hm
  go_enter Tryz.func128, Tryz.ntmps128
  go_wp2_with (first | (at_builtin; refine Halted.out ?_))
  refine Halted.mk (wp_appN elem_str rfl _ _ rfl (Kp.refl (F := fun _ => False) w) rfl (Row.nil w 9 1 (New w)) rfl hc (by simp [strs]) (strs_one ss) (by omega) (by unfold maxLen; omega) ?_)
  intro v1 w1 hr1 hk1 _ _
  have HR := Lib.hid hr1; clear hr1
  go_wp2
  go_ret
  refine RetN.mk hk1 ?_
  unfold OwnRow
  simpa using HR.out
set_option maxRecDepth 100000 in
theorem refTexts_any (ss : List ByteArray) (ao : Option Addr) (m cap : Nat) (w : World) (hm : m = ss.length) (hc : CellsAt w ao (strs ss)) (hl : m ≤ 4611686018427387904) :
    Calls Tryz.prog 116 #[.slice ao m cap] w (Ret (.bool (textsC ss)) w) := by
  have HC := Lib.hid hc; have EN := Lib.hid hm; clear hc hm
  go_enter Tryz.func116, Tryz.ntmps116
  go_wp2
  go_loopw [3] (fun kv wr => wr = w ∧ ∃ i : Nat, i ≤ m ∧ kv = .int .i64 i ∧ ∀ j s, j < i → ss[j]? = some s → s.size ≤ 4096) (fun k _ => m - (intOf k).toNat)
  case atStart => exact ⟨rfl, 0, Nat.zero_le _, rfl, fun j s h => by omega⟩
  case round =>
    obtain ⟨ew, i, hi, rfl, hok⟩ := hrel
    subst ew
    have OK := Lib.hid hok; clear hok
    by_cases hlt : i < m
    · obtain ⟨y, hy⟩ : ∃ y, ss[i]? = some y := ⟨_, List.getElem?_eq_getElem (by have := EN.out; omega)⟩
      obtain ⟨g, o, eao, c3⟩ := HC.out i (.string y) (by simp [strs, hy])
      subst eao
      have HY := Lib.hid hy; clear hy
      have i1 : (i : Int) < (m : Int) := by omega
      by_cases hz : 4096 < y.size
      · have t1 : decide ((y.size : Int) > 4096) = true := by simp; omega
        have t2 : decide ((4096 : Int) < (y.size : Int)) = true := by simp; omega
        go_wp2
        go_ret
        have key : textsC ss = false := by
          cases hb : textsC ss with
          | false => rfl
          | true =>
            have := List.all_eq_true.1 hb y (List.mem_of_getElem? HY.out)
            simp at this; omega
        exact Ret.mk (by rw [key]; rfl)
      · have t1 : decide ((y.size : Int) > 4096) = false := by simp; omega
        have t2 : decide ((4096 : Int) < (y.size : Int)) = false := by simp; omega
        go_wp2
        go_roundw
        case rel =>
          refine ⟨by first | rfl | trivial, i + 1, by omega, by first | rfl | (congr 1; done) | (congr 1; omega), fun j s hj hs => ?_⟩
          by_cases e : j = i
          · subst e; rw [HY.out] at hs; cases hs; omega
          · exact OK.out j s (by omega) hs
        case measure => simp [intOf]; omega
    · go_wp2
      go_ret
      have key : textsC ss = true := List.all_eq_true.2 fun y hy => by
        obtain ⟨j, hj, rfl⟩ := List.mem_iff_getElem.1 hy
        have := OK.out j _ (by have := EN.out; omega) (List.getElem?_eq_getElem hj)
        simpa using this
      exact Ret.mk (by rw [key]; rfl)

theorem refRowFind_nil (v : Value) (w : World) : Calls Tryz.prog 117 #[.pointer none, v] w (Ret (.int .i64 (-1)) w) := by
  go_enter Tryz.func117, Tryz.ntmps117
  go_wp2
  go_ret
  exact Ret.mk rfl
set_option maxRecDepth 100000 in
set_option maxHeartbeats 1000000 in
theorem refRowFind_any (h : RefRows S w c n LL) (hst : Strict cmpRow LL) {xo : Option Addr} {m xc : Nat} {ss : List ByteArray} (hm : m = ss.length) (hx : CellsAt w xo (strs ss)) (hss : ss.length ≤ 8796093021952) :
    Calls Tryz.prog 117 #[.pointer (some ⟨c, 0, none⟩), .slice xo m xc] w (RetN w fun w' v => v = .int .i64 (findR LL ss)) := by
  have hl := h.len
  obtain ⟨ao, cap, h1, h2, _⟩ := h
  have c2 : w.cell? ⟨c, 1, none⟩ = some (.slice ao LL.length cap) := by rw [h1.cell']; rfl
  obtain ⟨N, en⟩ : ∃ n, n = LL.length := ⟨_, rfl⟩
  rw [← en] at c2 hl
  have HC := Lib.hid h2; have EN := Lib.hid en; have HX := Lib.hid hx; have HT := Lib.hid hst; clear h1 h2 en hx hst
  subst hm
  go_enter Tryz.func117, Tryz.ntmps117
  go_wp2
  go_loopw [5] (ReadR N (fun i => ∀ j z, j < i → LL[j]? = some z → ¬ cmpRow z ss = 0) w) (fun k _ => N - (intOf k).toNat)
  case atStart => exact ⟨0, Nat.zero_le _, rfl, fun j z h => by omega, Kp.refl _⟩
  case round =>
    obtain ⟨i, hi, rfl, hok, hex⟩ := hrel
    have OK := Lib.hid hok; clear hok
    have d2 := hex.cell c2 id
    by_cases hlt : i < N
    · obtain ⟨y, hy⟩ : ∃ y, LL[i]? = some y := ⟨_, List.getElem?_eq_getElem (by have := EN.out; omega)⟩
      obtain ⟨g, o, x, xcap, eao, c3, hcy, hly, _⟩ := (HC.out.ext hex).get hy
      subst eao
      have HY := Lib.hid hy; clear hy
      have i1 : (i : Int) < (N : Int) := by omega
      have i2 : (0 : Int) ≤ (i : Int) := by omega
      have HCM := Lib.hid (fun W (hW : Ext wr W) => refCompare_any y ss x xo xcap xc W (hcy.ext hW) ((HX.out.ext hex).ext hW) (by unfold maxLen; omega) (by unfold maxLen; omega))
      generalize hcc : cmpRow y ss = cc at HCM
      have HCC := Lib.hid hcc; clear hcc hcy
      by_cases hz : cc = 0
      · have t1 : (cc == 0) = true := by simp [hz]
        go_wp2_with fail
        refine (HCM.out _ (Kp.refl _)).mono ?_
        rintro e w1 ⟨rfl, k1, rfl⟩
        clear d2 c3
        go_wp2
        go_ret
        have key : findR LL ss = i := by
          unfold findR
          rw [if_pos (isIn_iff.2 ⟨y, List.mem_of_getElem? HY.out, by rw [HCC.out]; exact hz⟩), ← first_alike' (c := cmpRow) (cmpRow_law id) HT.out HY.out (by rw [HCC.out]; exact hz)]
        exact RetN.mk (hex.drewN k1) (by rw [key]; rfl)
      · have t1 : (cc == 0) = false := by simp [hz]
        go_wp2_with fail
        refine (HCM.out _ (Kp.refl _)).mono ?_
        rintro e w1 ⟨rfl, k1, rfl⟩
        clear d2 c3
        go_wp2
        go_roundw
        case rel =>
          refine ⟨i + 1, by omega, by first | rfl | (congr 1; done) | (congr 1; omega), fun j z hj hz' => ?_, hex.drewN k1⟩
          by_cases e : j = i
          · subst e
            rw [HY.out] at hz'; cases hz'
            rw [HCC.out]; exact hz
          · exact OK.out j z (by omega) hz'
        case measure => simp [intOf]; omega
    · go_wp2
      go_ret
      have key : findR LL ss = -1 := by
        unfold findR
        rw [if_neg]
        intro hb
        obtain ⟨y, hy, hz⟩ := isIn_iff.1 hb
        obtain ⟨j, hj, rfl⟩ := List.mem_iff_getElem.1 hy
        exact OK.out j _ (by have := EN.out; omega) (List.getElem?_eq_getElem hj) hz
      exact RetN.mk hex (by rw [key]; rfl)
set_option maxRecDepth 100000 in
set_option maxHeartbeats 1000000 in
theorem refRowBelow_any (h : RefRows S w c n LL) {xo : Option Addr} {m xc : Nat} {ss : List ByteArray} (hm : m = ss.length) (hx : CellsAt w xo (strs ss)) (hss : ss.length ≤ 8796093021952) :
    Calls Tryz.prog 151 #[.pointer (some ⟨c, 0, none⟩), .slice xo m xc] w (RetN w fun w' v => v = .int .i64 (below cmpRow LL ss : Nat)) := by
  have hl := h.len
  obtain ⟨ao, cap, h1, h2, _⟩ := h
  have c2 : w.cell? ⟨c, 1, none⟩ = some (.slice ao LL.length cap) := by rw [h1.cell']; rfl
  obtain ⟨N, en⟩ : ∃ n, n = LL.length := ⟨_, rfl⟩
  rw [← en] at c2 hl
  have HC := Lib.hid h2; have EN := Lib.hid en; have HX := Lib.hid hx; clear h1 h2 en hx
  subst hm
  obtain ⟨f, ef⟩ : ∃ f : Nat → Nat, f = fun i => below cmpRow (LL.take i) ss := ⟨_, rfl⟩
  have F0 : f 0 = 0 := by rw [ef]; rfl
  have FL := Lib.hid (show ∀ i, f i ≤ i from fun i => by rw [ef]; exact Nat.le_trans (below_le _ _) (by simp; omega))
  have FS := Lib.hid (show ∀ i y, LL[i]? = some y → f (i + 1) = f i + (if cmpRow y ss < 0 then 1 else 0) from fun i y h => by rw [ef]; exact below_step' cmpRow LL ss y i h)
  have FN := Lib.hid (show f N = below cmpRow LL ss by rw [ef]; show below cmpRow (LL.take N) ss = _; rw [List.take_of_length_le (by have := EN.out; omega)])
  clear ef
  go_enter Tryz.func151, Tryz.ntmps151
  go_wp2
  go_loopw [5, 6] (CountR N f w) (fun _ k _ => N - (intOf k).toNat)
  case atStart => exact ⟨0, Nat.zero_le _, by rw [F0]; rfl, rfl, Kp.refl _⟩
  case round =>
    obtain ⟨i, hi, rfl, rfl, hex⟩ := hrel
    have d2 := hex.cell c2 id
    by_cases hlt : i < N
    · obtain ⟨y, hy⟩ : ∃ y, LL[i]? = some y := ⟨_, List.getElem?_eq_getElem (by have := EN.out; omega)⟩
      obtain ⟨g, o, x, xcap, eao, c3, hcy, hly, _⟩ := (HC.out.ext hex).get hy
      subst eao
      have hs := FS.out i y hy
      have hbi := FL.out i
      have HCM := Lib.hid (fun W (hW : Ext wr W) => refCompare_any y ss x xo xcap xc W (hcy.ext hW) ((HX.out.ext hex).ext hW) (by unfold maxLen; omega) (by unfold maxLen; omega))
      generalize hcc : cmpRow y ss = cc at HCM hs
      have HS := Lib.hid hs
      have i1 : (i : Int) < (N : Int) := by omega
      have i2 : (0 : Int) ≤ (i : Int) := by omega
      clear hcc hcy hs hy
      by_cases hz : cc < 0
      · have t1 : decide (cc < 0) = true := by simp [hz]
        go_wp2_with fail
        refine (HCM.out _ (Kp.refl _)).mono ?_
        rintro e w1 ⟨rfl, k1, rfl⟩
        clear d2 c3
        go_wp2
        go_roundw
        case rel => exact ⟨i + 1, by omega, by rw [HS.out, if_pos hz]; go_num, by first | rfl | (congr 1; done) | (congr 1; omega), hex.drewN k1⟩
        case measure => simp [intOf]; omega
      · have t1 : decide (cc < 0) = false := by simp; omega
        go_wp2_with fail
        refine (HCM.out _ (Kp.refl _)).mono ?_
        rintro e w1 ⟨rfl, k1, rfl⟩
        clear d2 c3
        go_wp2
        go_roundw
        case rel => exact ⟨i + 1, by omega, by rw [HS.out, if_neg (by omega)]; rfl, by first | rfl | (congr 1; done) | (congr 1; omega), hex.drewN k1⟩
        case measure => simp [intOf]; omega
    · obtain rfl : i = N := by omega
      go_wp2
      go_ret
      exact RetN.mk hex (by rw [← FN.out]; rfl)
end
end Go.Proofs.YtfkhelihepbehaaGreat

/- sibylref03.Rows: All, Copy, Same. -/
namespace Go.Proofs.YtfkhelihepbehaaGreat
open Go.RowKit
set_option linter.unusedVariables false

/-- Between two rounds of a loop that gathers rows. -/
def GathR (n : Nat) (LL : Nat → List (List ByteArray)) (w0 : World) (lv kv : Value) (w : World) : Prop := ∃ i : Nat, i ≤ n ∧ kv = .int .i64 i ∧ Ext w0 w ∧ OwnRows w0.heap.size w lv (LL i)
/-- What may be added to a pool: what came since. -/
def Grows (w : World) (S S' : Nat → Prop) : Prop := (∀ k, S k → S' k) ∧ ∀ k, S' k → S k ∨ w.heap.size ≤ k
theorem Grows.refl (w : World) (S : Nat → Prop) : Grows w S S := ⟨fun _ h => h, fun _ h => .inl h⟩
theorem Grows.trans {w w' : World} {S S' S'' : Nat → Prop} (h : Grows w S S') (h' : Grows w' S' S'') (hs : w.heap.size ≤ w'.heap.size) : Grows w S S'' :=
  ⟨fun k hk => h'.1 k (h.1 k hk), fun k hk => (h'.2 k hk).elim (fun h2 => h.2 k h2) (fun h2 => .inr (Nat.le_trans hs h2))⟩

section
variable {S S' : Nat → Prop} {w w' : World} {c n c1 c2 n1 n2 : Nat} {LL L1 L2 : List (List ByteArray)} {v : Value} {lo : Nat}
/-- Own rows, one more behind them: the walk's law of 'append(l, row)'. -/
theorem OwnRows.wp {W w1 : World} {x : RowZ} {ss : List ByteArray} {ops : Array Oper} {rest : List Oper} {o : Oper} {a : Act} {Q : Exit → Act → World → Prop} (h : OwnRows lo W v LL) (hk : Ext W w1) (hlo : lo ≤ W.heap.size)
    (hx : Row w1 9 1 (.slice x.1 x.2.1 x.2.2) ss.length (strs ss) (New W)) (hss : ss.length ≤ 8796093021952) (hll : LL.length ≤ 1048576 * 1048576) (hgd : o.guard = none) (s y : Operand)
    (ho : o.op = .call { callee := .builtin .append, args := #[s, y], argTypes := #[22, 22] }) (hs : a.eval s = v) (hy : a.eval y = .slice (some ⟨w1.heap.size, 0, none⟩) 1 1)
    (H : ∀ v' w', (∃ ao cap, v' = .slice ao (LL.length + 1) cap) → OwnRows lo w' v' (LL ++ [ss]) → Kp (fun g => v.ownBlock = some g) (w1.alloc (.cells #[.slice x.1 x.2.1 x.2.2] 29)) w' → wpList Tryz.prog ops Q rest (a.put o.dst v') w') :
    wpList Tryz.prog ops Q (o :: rest) a (w1.alloc (.cells #[.slice x.1 x.2.1 x.2.2] 29)) := by
  obtain ⟨ps, rfl, r2, r3, r4⟩ := h
  have hex : Ext W (w1.alloc (.cells #[.slice x.1 x.2.1 x.2.2] 29)) := hk.alloc _
  have r2' := r2.ext hex
  rw [List.length_map] at hll
  refine wp_app elemRow hgd s y ho (Kp.refl (F := fun g => v.ownBlock = some g) _) (M := fun g => v.ownBlock = some g ∨ (w1.alloc (.cells #[.slice x.1 x.2.1 x.2.2] 29)).heap.size ≤ g) (fun g h h' => by rcases h with h | h; exact h; omega) (fun g h => .inr h) hs
    (Row.mono r2'.own fun g h => .inl h) hy (m := 1) (news := [.slice x.1 x.2.1 x.2.2]) rfl (CellsAt.one w1 _ _) (by simp; rfl) (by omega) (by unfold maxLen; omega) ?_
  intro v' w' hr' hk' _ _
  obtain ⟨ao, cap, e, _⟩ := hr'.shape
  refine H v' w' ⟨ao, cap, by rw [e]; simp⟩ ?_ hk'
  exact OwnRows.push r2' (fun p hp => ⟨(r3 p hp).1.ext hex, (r3 p hp).2⟩) r4 (B := W.heap.size) (fun p hp g hg => (r3 p hp).1.lt g hg) hlo (hx.alloc _) hss
    (Row.mono hr' fun g hg => by rcases hg with hg | hg; exact r2.block g hg; exact Nat.le_trans hlo (Nat.le_trans hex.size hg)) hk'

set_option maxRecDepth 100000 in
theorem refAll_nil (w : World) : Calls Tryz.prog 85 #[.pointer none] w (Ret (.slice none 0 0) w) := by
  go_enter Tryz.func85, Tryz.ntmps85
  go_wp2
  go_ret
  exact Ret.mk rfl
set_option maxRecDepth 100000 in
set_option maxHeartbeats 1000000 in
theorem refAll_any (h : RefRows S w c n LL) : Calls Tryz.prog 85 #[.pointer (some ⟨c, 0, none⟩)] w (RetN w fun w' v => OwnRows w.heap.size w' v LL) := by
  have hl := h.len
  obtain ⟨ao, cap, h1, h2, _⟩ := h
  have c2 : w.cell? ⟨c, 1, none⟩ = some (.slice ao LL.length cap) := by rw [h1.cell']; rfl
  obtain ⟨N, en⟩ : ∃ n, n = LL.length := ⟨_, rfl⟩
  rw [← en] at c2 hl
  have HC := Lib.hid h2; have EN := Lib.hid en; clear h1 h2 en
  go_enter Tryz.func85, Tryz.ntmps85
  go_wp2
  go_loopw [3, 4] (GathR N (fun i => LL.take i) w) (fun _ k _ => N - (intOf k).toNat)
  case atStart => exact ⟨0, Nat.zero_le _, rfl, Kp.refl _, OwnRows.nil _ _⟩
  case round =>
    obtain ⟨i, hi, rfl, hex, hown⟩ := hrel
    have d2 := hex.cell c2 id
    by_cases hlt : i < N
    · obtain ⟨y, hy⟩ : ∃ y, LL[i]? = some y := ⟨_, List.getElem?_eq_getElem (by have := EN.out; omega)⟩
      obtain ⟨g, o, x, xcap, eao, c3, hcy, hly, _⟩ := (HC.out.ext hex).get hy
      subst eao
      have et : LL.take (i + 1) = LL.take i ++ [y] := by rw [List.take_add_one, hy]; rfl
      have htl : (LL.take i).length = i := by rw [List.length_take, ← EN.out]; omega
      have hz := hex.size
      have i1 : (i : Int) < (N : Int) := by omega
      have i2 : (0 : Int) ≤ (i : Int) := by omega
      have HCP := Lib.hid (copied_any y x y.length xcap wr rfl hcy hly)
      have hown : OwnRows w.heap.size wr u3 (LL.take i) := hown
      obtain ⟨aov, capv, ev, _⟩ := hown.shape
      rw [htl] at ev
      subst ev
      have HR := Lib.hid hown
      have ET := Lib.hid et
      clear hcy hy et hown
      go_wp2_with fail
      refine HCP.out.mono ?_
      rintro e w1 ⟨v1, rfl, hk1, hr1⟩
      obtain ⟨ao1, cap1, ev, _, _⟩ := hr1.shape
      subst ev
      clear d2 c3
      go_wp2_with (first | (at_builtin; refine Halted.out ?_))
      refine Halted.mk (OwnRows.wp (x := (ao1, y.length, cap1)) HR.out hk1 hz hr1 hly (by omega) rfl _ _ rfl rfl rfl ?_)
      rintro v' w2 ⟨ao2, cap2, rfl⟩ hown2 hk2
      have HO := Lib.hid (And.intro hown2 hk2)
      have HB := Lib.hid (fun g hg => (HR.out.lt g hg).1)
      clear hown2 hk2
      go_wp2
      go_roundw
      case rel => exact ⟨i + 1, by omega, by first | rfl | (congr 1; done) | (congr 1; omega), (hex.trans (hk1.alloc _)).trans' HO.out.2 (fun k hk h => by have := HB.out k h; omega), by have h := HO.out.1; rw [htl] at h; show OwnRows _ _ _ (LL.take (i + 1)); rw [ET.out]; exact h⟩
      case measure => simp [intOf]; omega
    · obtain rfl : i = N := by omega
      have hown : OwnRows w.heap.size wr u3 (LL.take i) := hown
      rw [List.take_of_length_le (by have := EN.out; omega)] at hown
      obtain ⟨aov, capv, ev, _⟩ := hown.shape
      subst ev
      have HR := Lib.hid hown; clear hown
      go_wp2
      go_ret
      exact RetN.mk hex HR.out

theorem OwnRows.form (h : OwnRows lo w v LL) : ∃ ao cap, v = .slice ao LL.length cap ∧ RowsIn (fun g => lo ≤ g ∧ g < w.heap.size) w ao LL ∧ (LL.length ≤ cap ∧ cap ≤ maxLen ∧ (ao = none ∧ cap = 0 ∨ ∃ g, ao = some ⟨g, 0, none⟩)) := by
  obtain ⟨ao, cap, e, h1⟩ := h.shape
  obtain ⟨ps, rfl, h2, _⟩ := h
  refine ⟨ao, cap, e, h1, ?_⟩
  subst e
  obtain ⟨_, ⟨e, h3⟩ | ⟨g, cap', rest, e, _, _, _, h4, h5⟩⟩ := h2
  · simp only [Value.slice.injEq] at e
    obtain ⟨rfl, _, rfl⟩ := e
    exact ⟨by simp; exact List.eq_nil_of_length_eq_zero h3, by decide, .inl ⟨rfl, rfl⟩⟩
  · simp only [Value.slice.injEq] at e
    obtain ⟨rfl, _, rfl⟩ := e
    exact ⟨by simpa using h4, h5, .inr ⟨_, rfl⟩⟩
theorem RefRows.boxed (hS : ∀ k, S k → k < w.heap.size) (h : OwnRows lo w v LL) (hl : LL.length ≤ 1048576 * 1048576) (n : Nat) :
    RefRows (fun k => S k ∨ (lo ≤ k ∧ k < w.heap.size)) (w.alloc (.cells #[.int .i64 n, v] 152)) w.heap.size n LL := by
  obtain ⟨ao, cap, rfl, h1, h2⟩ := h.form
  refine ⟨ao, cap, Blk.new w [_, _] _, (h1.mono fun k h => .inr h).ext ((Kp.refl w).alloc _), h2, fun h => ?_, fun k h => ?_, hl⟩
  · rcases h with h | h
    · have := hS _ h; omega
    · omega
  · rw [alloc_size]
    rcases h with h | h
    · have := hS _ h; omega
    · omega
/-- New Rows of the document's. -/
def RefNew (S : Nat → Prop) (w : World) (n : Nat) (LL : List (List ByteArray)) (w' : World) (v : Value) : Prop :=
  ∃ c' S', v = .pointer (some ⟨c', 0, none⟩) ∧ w.heap.size ≤ c' ∧ Grows w S S' ∧ RefRows S' w' c' n LL
set_option maxRecDepth 100000 in
theorem refCopy_any (h : RefRows S w c n LL) : Calls Tryz.prog 125 #[.pointer (some ⟨c, 0, none⟩)] w (RetN w (RefNew S w n LL)) := by
  have hl := h.len
  have HS := Lib.hid h.inS
  have HA := Lib.hid (refAll_any (h.ext (Kp.refl w).drew))
  have c1 : w.cell? ⟨c, 0, none⟩ = some (.int .i64 n) := by obtain ⟨ao, cap, h1, _⟩ := h; rw [h1.cell']; rfl
  clear h
  go_enter Tryz.func125, Tryz.ntmps125
  go_wp2_with fail
  go_region_with (first | (go_at_call 85; refine HA.out.mono ?_; rintro e w1 ⟨v1, rfl, hk1, hown⟩; have d1 := hk1.cell (w := w.drew) c1 id; have HO := Lib.hid (And.intro hk1 hown); obtain ⟨ao1, n1, cap1, ev, _⟩ : ∃ ao n cap, v1 = .slice ao n cap ∧ True := (by obtain ⟨ao, cap, e, _⟩ := hown.shape; exact ⟨_, _, _, e, trivial⟩); subst ev; clear hk1 hown))
  all_goals
    go_wp2
    go_ret
    obtain ⟨hk1, hown⟩ := HO.out
    have hz : w.heap.size ≤ w1.heap.size := hk1.size
    refine RetN.mk (((Kp.refl w).drew.trans hk1).alloc _) ⟨_, _, rfl, hz, ⟨fun k h => .inl h, fun k h => h.imp id fun h => h.1⟩, RefRows.boxed (S := S) (fun k h => Nat.lt_of_lt_of_le (HS.out k h) hz) (lo := w.heap.size) hown hl n⟩

set_option maxRecDepth 100000 in
theorem refSame_ne (h1 : RefRows S w c1 n1 L1) (h2 : RefRows S w c2 n2 L2) (hne : n1 ≠ n2 ∨ L1.length ≠ L2.length) :
    Calls Tryz.prog 130 #[.pointer (some ⟨c1, 0, none⟩), .pointer (some ⟨c2, 0, none⟩)] w (RetD (.bool false) w) := by
  obtain ⟨ao1, cap1, B1, _⟩ := h1
  obtain ⟨ao2, cap2, B2, _⟩ := h2
  have a1 : w.cell? ⟨c1, 0, none⟩ = some (.int .i64 n1) := by rw [B1.cell']; rfl
  have a2 : w.cell? ⟨c2, 0, none⟩ = some (.int .i64 n2) := by rw [B2.cell']; rfl
  have b1 : w.cell? ⟨c1, 1, none⟩ = some (.slice ao1 L1.length cap1) := by rw [B1.cell']; rfl
  have b2 : w.cell? ⟨c2, 1, none⟩ = some (.slice ao2 L2.length cap2) := by rw [B2.cell']; rfl
  clear B1 B2
  generalize L1.length = N1 at *
  generalize L2.length = N2 at *
  by_cases hn : n1 = n2
  · have hN : N1 ≠ N2 := by omega
    have t1 : ((n1 : Int) != (n2 : Int)) = false := by simp [hn]
    have t2 : ((N1 : Int) != (N2 : Int)) = true := by simp; omega
    go_enter Tryz.func130, Tryz.ntmps130
    go_wp2
    refine wp_region_held_drew (S := fun w' => w'.cell? ⟨c1, 0, none⟩ = some (.int .i64 n1) ∧ w'.cell? ⟨c2, 0, none⟩ = some (.int .i64 n2) ∧ w'.cell? ⟨c1, 1, none⟩ = some (.slice ao1 N1 cap1) ∧ w'.cell? ⟨c2, 1, none⟩ = some (.slice ao2 N2 cap2)) (by kernel_rfl) ⟨by assumption, by assumption, by assumption, by assumption⟩ (fun hHeld => ?_)
    (refine take_in (i := 0) (v := ?_) rfl ?_ ?_; rotate_left; (intro w hSw; (try dsimp only at hSw); go_simp; try with_reducible rfl)); (try simp only [Act.put, List.setIfInBounds_toArray, List.set_cons_zero, List.set_cons_succ])
    (refine take_in (i := 1) (v := ?_) rfl ?_ ?_; rotate_left; (intro w hSw; (try dsimp only at hSw); go_simp; try with_reducible rfl)); (try simp only [Act.put, List.setIfInBounds_toArray, List.set_cons_zero, List.set_cons_succ])
    (refine take_in (i := 2) (v := ?_) rfl ?_ ?_; rotate_left; (intro w hSw; (try dsimp only at hSw); go_simp; try with_reducible rfl)); (try simp only [Act.put, List.setIfInBounds_toArray, List.set_cons_zero, List.set_cons_succ])
    (first | (refine take_in (i := 3) (v := ?_) rfl ?_ ?_; rotate_left; (intro w hSw; (try dsimp only at hSw); go_simp; try with_reducible rfl)) | (refine take_out (i := 3) rfl ?_)); (try simp only [Act.put, List.setIfInBounds_toArray, List.set_cons_zero, List.set_cons_succ])
    (first | (refine take_in (i := 4) (v := ?_) rfl ?_ ?_; rotate_left; (intro w hSw; (try dsimp only at hSw); go_simp; try with_reducible rfl)) | (refine take_out (i := 4) rfl ?_)); (try simp only [Act.put, List.setIfInBounds_toArray, List.set_cons_zero, List.set_cons_succ])
    (refine take_in (i := 5) (v := ?_) rfl ?_ ?_; rotate_left; (intro w hSw; (try dsimp only at hSw); go_simp; try with_reducible rfl)); (try simp only [Act.put, List.setIfInBounds_toArray, List.set_cons_zero, List.set_cons_succ])
    (refine take_in (i := 6) (v := ?_) rfl ?_ ?_; rotate_left; (intro w hSw; (try dsimp only at hSw); go_simp; try with_reducible rfl)); (try simp only [Act.put, List.setIfInBounds_toArray, List.set_cons_zero, List.set_cons_succ])
    (first | (refine take_in (i := 7) (v := ?_) rfl ?_ ?_; rotate_left; (intro w hSw; (try dsimp only at hSw); go_simp; try with_reducible rfl)) | (refine take_out (i := 7) rfl ?_)); (try simp only [Act.put, List.setIfInBounds_toArray, List.set_cons_zero, List.set_cons_succ])
    (first | (refine take_in (i := 8) (v := ?_) rfl ?_ ?_; rotate_left; (intro w hSw; (try dsimp only at hSw); go_simp; try with_reducible rfl)) | (refine take_out (i := 8) rfl ?_)); (try simp only [Act.put, List.setIfInBounds_toArray, List.set_cons_zero, List.set_cons_succ])
    (first | (refine take_in (i := 9) (v := ?_) rfl ?_ ?_; rotate_left; (intro w hSw; (try dsimp only at hSw); go_simp; try with_reducible rfl)) | (refine take_out (i := 9) rfl ?_)); (try simp only [Act.put, List.setIfInBounds_toArray, List.set_cons_zero, List.set_cons_succ])
    (first | (refine take_in (i := 10) (v := ?_) rfl ?_ ?_; rotate_left; (intro w hSw; (try dsimp only at hSw); go_simp; try with_reducible rfl)) | (refine take_out (i := 10) rfl ?_)); (try simp only [Act.put, List.setIfInBounds_toArray, List.set_cons_zero, List.set_cons_succ])
    (first | (refine take_in (i := 11) (v := ?_) rfl ?_ ?_; rotate_left; (intro w hSw; (try dsimp only at hSw); go_simp; try with_reducible rfl)) | (refine take_out (i := 11) rfl ?_)); (try simp only [Act.put, List.setIfInBounds_toArray, List.set_cons_zero, List.set_cons_succ])
    (first | (refine take_in (i := 12) (v := ?_) rfl ?_ ?_; rotate_left; (intro w hSw; (try dsimp only at hSw); go_simp; try with_reducible rfl)) | (refine take_out (i := 12) rfl ?_)); (try simp only [Act.put, List.setIfInBounds_toArray, List.set_cons_zero, List.set_cons_succ])
    (first | (refine take_in (i := 13) (v := ?_) rfl ?_ ?_; rotate_left; (intro w hSw; (try dsimp only at hSw); go_simp; try with_reducible rfl)) | (refine take_out (i := 13) rfl ?_)); (try simp only [Act.put, List.setIfInBounds_toArray, List.set_cons_zero, List.set_cons_succ])
    (first | (refine take_in (i := 14) (v := ?_) rfl ?_ ?_; rotate_left; (intro w hSw; (try dsimp only at hSw); go_simp; try with_reducible rfl)) | (refine take_out (i := 14) rfl ?_)); (try simp only [Act.put, List.setIfInBounds_toArray, List.set_cons_zero, List.set_cons_succ])
    (first | (refine take_in (i := 15) (v := ?_) rfl ?_ ?_; rotate_left; (intro w hSw; (try dsimp only at hSw); go_simp; try with_reducible rfl)) | (refine take_out (i := 15) rfl ?_)); (try simp only [Act.put, List.setIfInBounds_toArray, List.set_cons_zero, List.set_cons_succ])
    (refine take_in (i := 16) (v := ?_) rfl ?_ ?_; rotate_left; (intro w hSw; (try dsimp only at hSw); go_simp; try with_reducible rfl)); (try simp only [Act.put, List.setIfInBounds_toArray, List.set_cons_zero, List.set_cons_succ])
    (refine take_in (i := 17) (v := ?_) rfl ?_ ?_; rotate_left; (intro w hSw; (try dsimp only at hSw); go_simp; try with_reducible rfl)); (try simp only [Act.put, List.setIfInBounds_toArray, List.set_cons_zero, List.set_cons_succ])
    (first | (refine take_in (i := 18) (v := ?_) rfl ?_ ?_; rotate_left; (intro w hSw; (try dsimp only at hSw); go_simp; try with_reducible rfl)) | (refine take_out (i := 18) rfl ?_)); (try simp only [Act.put, List.setIfInBounds_toArray, List.set_cons_zero, List.set_cons_succ])
    (first | (refine take_in (i := 19) (v := ?_) rfl ?_ ?_; rotate_left; (intro w hSw; (try dsimp only at hSw); go_simp; try with_reducible rfl)) | (refine take_out (i := 19) rfl ?_)); (try simp only [Act.put, List.setIfInBounds_toArray, List.set_cons_zero, List.set_cons_succ])
    (first | (refine take_in (i := 20) (v := ?_) rfl ?_ ?_; rotate_left; (intro w hSw; (try dsimp only at hSw); go_simp; try with_reducible rfl)) | (refine take_out (i := 20) rfl ?_)); (try simp only [Act.put, List.setIfInBounds_toArray, List.set_cons_zero, List.set_cons_succ])
    (first | (refine take_in (i := 21) (v := ?_) rfl ?_ ?_; rotate_left; (intro w hSw; (try dsimp only at hSw); go_simp; try with_reducible rfl)) | (refine take_out (i := 21) rfl ?_)); (try simp only [Act.put, List.setIfInBounds_toArray, List.set_cons_zero, List.set_cons_succ])
    (first | (refine take_in (i := 22) (v := ?_) rfl ?_ ?_; rotate_left; (intro w hSw; (try dsimp only at hSw); go_simp; try with_reducible rfl)) | (refine take_out (i := 22) rfl ?_)); (try simp only [Act.put, List.setIfInBounds_toArray, List.set_cons_zero, List.set_cons_succ])
    (first | (refine take_in (i := 23) (v := ?_) rfl ?_ ?_; rotate_left; (intro w hSw; (try dsimp only at hSw); go_simp; try with_reducible rfl)) | (refine take_out (i := 23) rfl ?_)); (try simp only [Act.put, List.setIfInBounds_toArray, List.set_cons_zero, List.set_cons_succ])
    (first | (refine take_in (i := 24) (v := ?_) rfl ?_ ?_; rotate_left; (intro w hSw; (try dsimp only at hSw); go_simp; try with_reducible rfl)) | (refine take_out (i := 24) rfl ?_)); (try simp only [Act.put, List.setIfInBounds_toArray, List.set_cons_zero, List.set_cons_succ])
    (first | (refine take_in (i := 25) (v := ?_) rfl ?_ ?_; rotate_left; (intro w hSw; (try dsimp only at hSw); go_simp; try with_reducible rfl)) | (refine take_out (i := 25) rfl ?_)); (try simp only [Act.put, List.setIfInBounds_toArray, List.set_cons_zero, List.set_cons_succ])
    (first | (refine take_in (i := 26) (v := ?_) rfl ?_ ?_; rotate_left; (intro w hSw; (try dsimp only at hSw); go_simp; try with_reducible rfl)) | (refine take_out (i := 26) rfl ?_)); (try simp only [Act.put, List.setIfInBounds_toArray, List.set_cons_zero, List.set_cons_succ])
    (first | (refine take_in (i := 27) (v := ?_) rfl ?_ ?_; rotate_left; (intro w hSw; (try dsimp only at hSw); go_simp; try with_reducible rfl)) | (refine take_out (i := 27) rfl ?_)); (try simp only [Act.put, List.setIfInBounds_toArray, List.set_cons_zero, List.set_cons_succ])
    (first | (refine take_in (i := 28) (v := ?_) rfl ?_ ?_; rotate_left; (intro w hSw; (try dsimp only at hSw); go_simp; try with_reducible rfl)) | (refine take_out (i := 28) rfl ?_)); (try simp only [Act.put, List.setIfInBounds_toArray, List.set_cons_zero, List.set_cons_succ])
    (refine take_in (i := 29) (v := ?_) rfl ?_ ?_; rotate_left; (intro w hSw; (try dsimp only at hSw); go_simp; try with_reducible rfl)); (try simp only [Act.put, List.setIfInBounds_toArray, List.set_cons_zero, List.set_cons_succ])
    refine wpAnyH_done (by kernel_rfl) ?_ _
    go_wp2
    go_ret
    exact RetD.mk rfl 1
  · have t1 : ((n1 : Int) != (n2 : Int)) = true := by simp; omega
    go_enter Tryz.func130, Tryz.ntmps130
    go_wp2
    refine wp_region_held_drew (S := fun w' => w'.cell? ⟨c1, 0, none⟩ = some (.int .i64 n1) ∧ w'.cell? ⟨c2, 0, none⟩ = some (.int .i64 n2) ∧ w'.cell? ⟨c1, 1, none⟩ = some (.slice ao1 N1 cap1) ∧ w'.cell? ⟨c2, 1, none⟩ = some (.slice ao2 N2 cap2)) (by kernel_rfl) ⟨by assumption, by assumption, by assumption, by assumption⟩ (fun hHeld => ?_)
    (refine take_in (i := 0) (v := ?_) rfl ?_ ?_; rotate_left; (intro w hSw; (try dsimp only at hSw); go_simp; try with_reducible rfl)); (try simp only [Act.put, List.setIfInBounds_toArray, List.set_cons_zero, List.set_cons_succ])
    (refine take_in (i := 1) (v := ?_) rfl ?_ ?_; rotate_left; (intro w hSw; (try dsimp only at hSw); go_simp; try with_reducible rfl)); (try simp only [Act.put, List.setIfInBounds_toArray, List.set_cons_zero, List.set_cons_succ])
    (refine take_in (i := 2) (v := ?_) rfl ?_ ?_; rotate_left; (intro w hSw; (try dsimp only at hSw); go_simp; try with_reducible rfl)); (try simp only [Act.put, List.setIfInBounds_toArray, List.set_cons_zero, List.set_cons_succ])
    (first | (refine take_in (i := 3) (v := ?_) rfl ?_ ?_; rotate_left; (intro w hSw; (try dsimp only at hSw); go_simp; try with_reducible rfl)) | (refine take_out (i := 3) rfl ?_)); (try simp only [Act.put, List.setIfInBounds_toArray, List.set_cons_zero, List.set_cons_succ])
    (first | (refine take_in (i := 4) (v := ?_) rfl ?_ ?_; rotate_left; (intro w hSw; (try dsimp only at hSw); go_simp; try with_reducible rfl)) | (refine take_out (i := 4) rfl ?_)); (try simp only [Act.put, List.setIfInBounds_toArray, List.set_cons_zero, List.set_cons_succ])
    (refine take_in (i := 5) (v := ?_) rfl ?_ ?_; rotate_left; (intro w hSw; (try dsimp only at hSw); go_simp; try with_reducible rfl)); (try simp only [Act.put, List.setIfInBounds_toArray, List.set_cons_zero, List.set_cons_succ])
    (refine take_in (i := 6) (v := ?_) rfl ?_ ?_; rotate_left; (intro w hSw; (try dsimp only at hSw); go_simp; try with_reducible rfl)); (try simp only [Act.put, List.setIfInBounds_toArray, List.set_cons_zero, List.set_cons_succ])
    (first | (refine take_in (i := 7) (v := ?_) rfl ?_ ?_; rotate_left; (intro w hSw; (try dsimp only at hSw); go_simp; try with_reducible rfl)) | (refine take_out (i := 7) rfl ?_)); (try simp only [Act.put, List.setIfInBounds_toArray, List.set_cons_zero, List.set_cons_succ])
    (first | (refine take_in (i := 8) (v := ?_) rfl ?_ ?_; rotate_left; (intro w hSw; (try dsimp only at hSw); go_simp; try with_reducible rfl)) | (refine take_out (i := 8) rfl ?_)); (try simp only [Act.put, List.setIfInBounds_toArray, List.set_cons_zero, List.set_cons_succ])
    (first | (refine take_in (i := 9) (v := ?_) rfl ?_ ?_; rotate_left; (intro w hSw; (try dsimp only at hSw); go_simp; try with_reducible rfl)) | (refine take_out (i := 9) rfl ?_)); (try simp only [Act.put, List.setIfInBounds_toArray, List.set_cons_zero, List.set_cons_succ])
    (first | (refine take_in (i := 10) (v := ?_) rfl ?_ ?_; rotate_left; (intro w hSw; (try dsimp only at hSw); go_simp; try with_reducible rfl)) | (refine take_out (i := 10) rfl ?_)); (try simp only [Act.put, List.setIfInBounds_toArray, List.set_cons_zero, List.set_cons_succ])
    (first | (refine take_in (i := 11) (v := ?_) rfl ?_ ?_; rotate_left; (intro w hSw; (try dsimp only at hSw); go_simp; try with_reducible rfl)) | (refine take_out (i := 11) rfl ?_)); (try simp only [Act.put, List.setIfInBounds_toArray, List.set_cons_zero, List.set_cons_succ])
    (first | (refine take_in (i := 12) (v := ?_) rfl ?_ ?_; rotate_left; (intro w hSw; (try dsimp only at hSw); go_simp; try with_reducible rfl)) | (refine take_out (i := 12) rfl ?_)); (try simp only [Act.put, List.setIfInBounds_toArray, List.set_cons_zero, List.set_cons_succ])
    (first | (refine take_in (i := 13) (v := ?_) rfl ?_ ?_; rotate_left; (intro w hSw; (try dsimp only at hSw); go_simp; try with_reducible rfl)) | (refine take_out (i := 13) rfl ?_)); (try simp only [Act.put, List.setIfInBounds_toArray, List.set_cons_zero, List.set_cons_succ])
    (first | (refine take_in (i := 14) (v := ?_) rfl ?_ ?_; rotate_left; (intro w hSw; (try dsimp only at hSw); go_simp; try with_reducible rfl)) | (refine take_out (i := 14) rfl ?_)); (try simp only [Act.put, List.setIfInBounds_toArray, List.set_cons_zero, List.set_cons_succ])
    (first | (refine take_in (i := 15) (v := ?_) rfl ?_ ?_; rotate_left; (intro w hSw; (try dsimp only at hSw); go_simp; try with_reducible rfl)) | (refine take_out (i := 15) rfl ?_)); (try simp only [Act.put, List.setIfInBounds_toArray, List.set_cons_zero, List.set_cons_succ])
    (refine take_in (i := 16) (v := ?_) rfl ?_ ?_; rotate_left; (intro w hSw; (try dsimp only at hSw); go_simp; try with_reducible rfl)); (try simp only [Act.put, List.setIfInBounds_toArray, List.set_cons_zero, List.set_cons_succ])
    (refine take_in (i := 17) (v := ?_) rfl ?_ ?_; rotate_left; (intro w hSw; (try dsimp only at hSw); go_simp; try with_reducible rfl)); (try simp only [Act.put, List.setIfInBounds_toArray, List.set_cons_zero, List.set_cons_succ])
    (first | (refine take_in (i := 18) (v := ?_) rfl ?_ ?_; rotate_left; (intro w hSw; (try dsimp only at hSw); go_simp; try with_reducible rfl)) | (refine take_out (i := 18) rfl ?_)); (try simp only [Act.put, List.setIfInBounds_toArray, List.set_cons_zero, List.set_cons_succ])
    (first | (refine take_in (i := 19) (v := ?_) rfl ?_ ?_; rotate_left; (intro w hSw; (try dsimp only at hSw); go_simp; try with_reducible rfl)) | (refine take_out (i := 19) rfl ?_)); (try simp only [Act.put, List.setIfInBounds_toArray, List.set_cons_zero, List.set_cons_succ])
    (first | (refine take_in (i := 20) (v := ?_) rfl ?_ ?_; rotate_left; (intro w hSw; (try dsimp only at hSw); go_simp; try with_reducible rfl)) | (refine take_out (i := 20) rfl ?_)); (try simp only [Act.put, List.setIfInBounds_toArray, List.set_cons_zero, List.set_cons_succ])
    (first | (refine take_in (i := 21) (v := ?_) rfl ?_ ?_; rotate_left; (intro w hSw; (try dsimp only at hSw); go_simp; try with_reducible rfl)) | (refine take_out (i := 21) rfl ?_)); (try simp only [Act.put, List.setIfInBounds_toArray, List.set_cons_zero, List.set_cons_succ])
    (first | (refine take_in (i := 22) (v := ?_) rfl ?_ ?_; rotate_left; (intro w hSw; (try dsimp only at hSw); go_simp; try with_reducible rfl)) | (refine take_out (i := 22) rfl ?_)); (try simp only [Act.put, List.setIfInBounds_toArray, List.set_cons_zero, List.set_cons_succ])
    (first | (refine take_in (i := 23) (v := ?_) rfl ?_ ?_; rotate_left; (intro w hSw; (try dsimp only at hSw); go_simp; try with_reducible rfl)) | (refine take_out (i := 23) rfl ?_)); (try simp only [Act.put, List.setIfInBounds_toArray, List.set_cons_zero, List.set_cons_succ])
    (first | (refine take_in (i := 24) (v := ?_) rfl ?_ ?_; rotate_left; (intro w hSw; (try dsimp only at hSw); go_simp; try with_reducible rfl)) | (refine take_out (i := 24) rfl ?_)); (try simp only [Act.put, List.setIfInBounds_toArray, List.set_cons_zero, List.set_cons_succ])
    (first | (refine take_in (i := 25) (v := ?_) rfl ?_ ?_; rotate_left; (intro w hSw; (try dsimp only at hSw); go_simp; try with_reducible rfl)) | (refine take_out (i := 25) rfl ?_)); (try simp only [Act.put, List.setIfInBounds_toArray, List.set_cons_zero, List.set_cons_succ])
    (first | (refine take_in (i := 26) (v := ?_) rfl ?_ ?_; rotate_left; (intro w hSw; (try dsimp only at hSw); go_simp; try with_reducible rfl)) | (refine take_out (i := 26) rfl ?_)); (try simp only [Act.put, List.setIfInBounds_toArray, List.set_cons_zero, List.set_cons_succ])
    (first | (refine take_in (i := 27) (v := ?_) rfl ?_ ?_; rotate_left; (intro w hSw; (try dsimp only at hSw); go_simp; try with_reducible rfl)) | (refine take_out (i := 27) rfl ?_)); (try simp only [Act.put, List.setIfInBounds_toArray, List.set_cons_zero, List.set_cons_succ])
    (first | (refine take_in (i := 28) (v := ?_) rfl ?_ ?_; rotate_left; (intro w hSw; (try dsimp only at hSw); go_simp; try with_reducible rfl)) | (refine take_out (i := 28) rfl ?_)); (try simp only [Act.put, List.setIfInBounds_toArray, List.set_cons_zero, List.set_cons_succ])
    (refine take_in (i := 29) (v := ?_) rfl ?_ ?_; rotate_left; (intro w hSw; (try dsimp only at hSw); go_simp; try with_reducible rfl)); (try simp only [Act.put, List.setIfInBounds_toArray, List.set_cons_zero, List.set_cons_succ])
    refine wpAnyH_done (by kernel_rfl) ?_ _
    go_wp2
    go_ret
    exact RetD.mk rfl 1
set_option maxRecDepth 100000 in
set_option maxHeartbeats 2000000 in
theorem refSame_any (h1 : RefRows S w c1 n1 L1) (h2 : RefRows S w c2 n2 L2) :
    Calls Tryz.prog 130 #[.pointer (some ⟨c1, 0, none⟩), .pointer (some ⟨c2, 0, none⟩)] w (RetN w fun w' v => v = .bool (decide (n1 = n2 ∧ L1 = L2))) := by
  by_cases hne : n1 ≠ n2 ∨ L1.length ≠ L2.length
  · refine (refSame_ne h1 h2 hne).mono ?_
    rintro e w' ⟨rfl, k, rfl⟩
    refine RetN.mk ((Kp.refl w).drewN k) ?_
    rw [decide_eq_false]
    rintro ⟨rfl, rfl⟩
    rcases hne with h | h <;> exact h rfl
  have hnn : n1 = n2 := by omega
  have hN : L1.length = L2.length := by omega
  subst hnn
  clear hne
  have hl := h1.len
  obtain ⟨ao1, cap1, B1, R1, _⟩ := h1
  obtain ⟨ao2, cap2, B2, R2, _⟩ := h2
  have a1 : w.cell? ⟨c1, 0, none⟩ = some (.int .i64 n1) := by rw [B1.cell']; rfl
  have a2 : w.cell? ⟨c2, 0, none⟩ = some (.int .i64 n1) := by rw [B2.cell']; rfl
  have b1 : w.cell? ⟨c1, 1, none⟩ = some (.slice ao1 L1.length cap1) := by rw [B1.cell']; rfl
  have b2 : w.cell? ⟨c2, 1, none⟩ = some (.slice ao2 L2.length cap2) := by rw [B2.cell']; rfl
  have t1 : ((n1 : Int) != (n1 : Int)) = false := by simp
  clear B1 B2
  obtain ⟨N, en⟩ : ∃ n, n = L1.length := ⟨_, rfl⟩
  rw [← hN] at b2
  rw [← en] at b1 b2 hl
  have t2 : ((N : Int) != (N : Int)) = false := by simp
  have HR := Lib.hid (And.intro R1 R2)
  have EN := Lib.hid (And.intro en hN)
  clear R1 R2 en hN
  go_enter Tryz.func130, Tryz.ntmps130
  go_wp2
  refine wp_region_held_drew (S := fun w' => w'.cell? ⟨c1, 0, none⟩ = some (.int .i64 n1) ∧ w'.cell? ⟨c2, 0, none⟩ = some (.int .i64 n1) ∧ w'.cell? ⟨c1, 1, none⟩ = some (.slice ao1 N cap1) ∧ w'.cell? ⟨c2, 1, none⟩ = some (.slice ao2 N cap2)) (by kernel_rfl) ⟨by assumption, by assumption, by assumption, by assumption⟩ (fun hHeld => ?_)
  (refine take_in (i := 0) (v := ?_) rfl ?_ ?_; rotate_left; (intro w hSw; (try dsimp only at hSw); go_simp; try with_reducible rfl)); (try simp only [Act.put, List.setIfInBounds_toArray, List.set_cons_zero, List.set_cons_succ])
  (refine take_in (i := 1) (v := ?_) rfl ?_ ?_; rotate_left; (intro w hSw; (try dsimp only at hSw); go_simp; try with_reducible rfl)); (try simp only [Act.put, List.setIfInBounds_toArray, List.set_cons_zero, List.set_cons_succ])
  (refine take_in (i := 2) (v := ?_) rfl ?_ ?_; rotate_left; (intro w hSw; (try dsimp only at hSw); go_simp; try with_reducible rfl)); (try simp only [Act.put, List.setIfInBounds_toArray, List.set_cons_zero, List.set_cons_succ])
  (first | (refine take_in (i := 3) (v := ?_) rfl ?_ ?_; rotate_left; (intro w hSw; (try dsimp only at hSw); go_simp; try with_reducible rfl)) | (refine take_out (i := 3) rfl ?_)); (try simp only [Act.put, List.setIfInBounds_toArray, List.set_cons_zero, List.set_cons_succ])
  (first | (refine take_in (i := 4) (v := ?_) rfl ?_ ?_; rotate_left; (intro w hSw; (try dsimp only at hSw); go_simp; try with_reducible rfl)) | (refine take_out (i := 4) rfl ?_)); (try simp only [Act.put, List.setIfInBounds_toArray, List.set_cons_zero, List.set_cons_succ])
  (refine take_in (i := 5) (v := ?_) rfl ?_ ?_; rotate_left; (intro w hSw; (try dsimp only at hSw); go_simp; try with_reducible rfl)); (try simp only [Act.put, List.setIfInBounds_toArray, List.set_cons_zero, List.set_cons_succ])
  (refine take_in (i := 6) (v := ?_) rfl ?_ ?_; rotate_left; (intro w hSw; (try dsimp only at hSw); go_simp; try with_reducible rfl)); (try simp only [Act.put, List.setIfInBounds_toArray, List.set_cons_zero, List.set_cons_succ])
  (first | (refine take_in (i := 7) (v := ?_) rfl ?_ ?_; rotate_left; (intro w hSw; (try dsimp only at hSw); go_simp; try with_reducible rfl)) | (refine take_out (i := 7) rfl ?_)); (try simp only [Act.put, List.setIfInBounds_toArray, List.set_cons_zero, List.set_cons_succ])
  (first | (refine take_in (i := 8) (v := ?_) rfl ?_ ?_; rotate_left; (intro w hSw; (try dsimp only at hSw); go_simp; try with_reducible rfl)) | (refine take_out (i := 8) rfl ?_)); (try simp only [Act.put, List.setIfInBounds_toArray, List.set_cons_zero, List.set_cons_succ])
  (first | (refine take_in (i := 9) (v := ?_) rfl ?_ ?_; rotate_left; (intro w hSw; (try dsimp only at hSw); go_simp; try with_reducible rfl)) | (refine take_out (i := 9) rfl ?_)); (try simp only [Act.put, List.setIfInBounds_toArray, List.set_cons_zero, List.set_cons_succ])
  (first | (refine take_in (i := 10) (v := ?_) rfl ?_ ?_; rotate_left; (intro w hSw; (try dsimp only at hSw); go_simp; try with_reducible rfl)) | (refine take_out (i := 10) rfl ?_)); (try simp only [Act.put, List.setIfInBounds_toArray, List.set_cons_zero, List.set_cons_succ])
  (first | (refine take_in (i := 11) (v := ?_) rfl ?_ ?_; rotate_left; (intro w hSw; (try dsimp only at hSw); go_simp; try with_reducible rfl)) | (refine take_out (i := 11) rfl ?_)); (try simp only [Act.put, List.setIfInBounds_toArray, List.set_cons_zero, List.set_cons_succ])
  (first | (refine take_in (i := 12) (v := ?_) rfl ?_ ?_; rotate_left; (intro w hSw; (try dsimp only at hSw); go_simp; try with_reducible rfl)) | (refine take_out (i := 12) rfl ?_)); (try simp only [Act.put, List.setIfInBounds_toArray, List.set_cons_zero, List.set_cons_succ])
  (first | (refine take_in (i := 13) (v := ?_) rfl ?_ ?_; rotate_left; (intro w hSw; (try dsimp only at hSw); go_simp; try with_reducible rfl)) | (refine take_out (i := 13) rfl ?_)); (try simp only [Act.put, List.setIfInBounds_toArray, List.set_cons_zero, List.set_cons_succ])
  (first | (refine take_in (i := 14) (v := ?_) rfl ?_ ?_; rotate_left; (intro w hSw; (try dsimp only at hSw); go_simp; try with_reducible rfl)) | (refine take_out (i := 14) rfl ?_)); (try simp only [Act.put, List.setIfInBounds_toArray, List.set_cons_zero, List.set_cons_succ])
  (first | (refine take_in (i := 15) (v := ?_) rfl ?_ ?_; rotate_left; (intro w hSw; (try dsimp only at hSw); go_simp; try with_reducible rfl)) | (refine take_out (i := 15) rfl ?_)); (try simp only [Act.put, List.setIfInBounds_toArray, List.set_cons_zero, List.set_cons_succ])
  (refine take_in (i := 16) (v := ?_) rfl ?_ ?_; rotate_left; (intro w hSw; (try dsimp only at hSw); go_simp; try with_reducible rfl)); (try simp only [Act.put, List.setIfInBounds_toArray, List.set_cons_zero, List.set_cons_succ])
  (refine take_in (i := 17) (v := ?_) rfl ?_ ?_; rotate_left; (intro w hSw; (try dsimp only at hSw); go_simp; try with_reducible rfl)); (try simp only [Act.put, List.setIfInBounds_toArray, List.set_cons_zero, List.set_cons_succ])
  (first | (refine take_in (i := 18) (v := ?_) rfl ?_ ?_; rotate_left; (intro w hSw; (try dsimp only at hSw); go_simp; try with_reducible rfl)) | (refine take_out (i := 18) rfl ?_)); (try simp only [Act.put, List.setIfInBounds_toArray, List.set_cons_zero, List.set_cons_succ])
  (first | (refine take_in (i := 19) (v := ?_) rfl ?_ ?_; rotate_left; (intro w hSw; (try dsimp only at hSw); go_simp; try with_reducible rfl)) | (refine take_out (i := 19) rfl ?_)); (try simp only [Act.put, List.setIfInBounds_toArray, List.set_cons_zero, List.set_cons_succ])
  (first | (refine take_in (i := 20) (v := ?_) rfl ?_ ?_; rotate_left; (intro w hSw; (try dsimp only at hSw); go_simp; try with_reducible rfl)) | (refine take_out (i := 20) rfl ?_)); (try simp only [Act.put, List.setIfInBounds_toArray, List.set_cons_zero, List.set_cons_succ])
  (first | (refine take_in (i := 21) (v := ?_) rfl ?_ ?_; rotate_left; (intro w hSw; (try dsimp only at hSw); go_simp; try with_reducible rfl)) | (refine take_out (i := 21) rfl ?_)); (try simp only [Act.put, List.setIfInBounds_toArray, List.set_cons_zero, List.set_cons_succ])
  (first | (refine take_in (i := 22) (v := ?_) rfl ?_ ?_; rotate_left; (intro w hSw; (try dsimp only at hSw); go_simp; try with_reducible rfl)) | (refine take_out (i := 22) rfl ?_)); (try simp only [Act.put, List.setIfInBounds_toArray, List.set_cons_zero, List.set_cons_succ])
  (first | (refine take_in (i := 23) (v := ?_) rfl ?_ ?_; rotate_left; (intro w hSw; (try dsimp only at hSw); go_simp; try with_reducible rfl)) | (refine take_out (i := 23) rfl ?_)); (try simp only [Act.put, List.setIfInBounds_toArray, List.set_cons_zero, List.set_cons_succ])
  (first | (refine take_in (i := 24) (v := ?_) rfl ?_ ?_; rotate_left; (intro w hSw; (try dsimp only at hSw); go_simp; try with_reducible rfl)) | (refine take_out (i := 24) rfl ?_)); (try simp only [Act.put, List.setIfInBounds_toArray, List.set_cons_zero, List.set_cons_succ])
  (first | (refine take_in (i := 25) (v := ?_) rfl ?_ ?_; rotate_left; (intro w hSw; (try dsimp only at hSw); go_simp; try with_reducible rfl)) | (refine take_out (i := 25) rfl ?_)); (try simp only [Act.put, List.setIfInBounds_toArray, List.set_cons_zero, List.set_cons_succ])
  (first | (refine take_in (i := 26) (v := ?_) rfl ?_ ?_; rotate_left; (intro w hSw; (try dsimp only at hSw); go_simp; try with_reducible rfl)) | (refine take_out (i := 26) rfl ?_)); (try simp only [Act.put, List.setIfInBounds_toArray, List.set_cons_zero, List.set_cons_succ])
  (first | (refine take_in (i := 27) (v := ?_) rfl ?_ ?_; rotate_left; (intro w hSw; (try dsimp only at hSw); go_simp; try with_reducible rfl)) | (refine take_out (i := 27) rfl ?_)); (try simp only [Act.put, List.setIfInBounds_toArray, List.set_cons_zero, List.set_cons_succ])
  (first | (refine take_in (i := 28) (v := ?_) rfl ?_ ?_; rotate_left; (intro w hSw; (try dsimp only at hSw); go_simp; try with_reducible rfl)) | (refine take_out (i := 28) rfl ?_)); (try simp only [Act.put, List.setIfInBounds_toArray, List.set_cons_zero, List.set_cons_succ])
  (refine take_in (i := 29) (v := ?_) rfl ?_ ?_; rotate_left; (intro w hSw; (try dsimp only at hSw); go_simp; try with_reducible rfl)); (try simp only [Act.put, List.setIfInBounds_toArray, List.set_cons_zero, List.set_cons_succ])
  refine wpAnyH_done (by kernel_rfl) ?_ _
  go_wp2
  clear a1 a2 t1 t2
  go_loopw [5] (ReadR N (fun i => ∀ j : Nat, j < i → L1[j]? = L2[j]?) w) (fun k _ => N - (intOf k).toNat)
  case atStart => exact ⟨0, Nat.zero_le _, rfl, fun j h => by omega, (Kp.refl w).drew⟩
  case round =>
    obtain ⟨i, hi, rfl, hok, hex⟩ := hrel
    have OK := Lib.hid hok; clear hok
    have d1 := hex.cell b1 id
    have d2 := hex.cell b2 id
    by_cases hlt : i < N
    · obtain ⟨y1, hy1⟩ : ∃ y, L1[i]? = some y := ⟨_, List.getElem?_eq_getElem (by have := EN.out; omega)⟩
      obtain ⟨y2, hy2⟩ : ∃ y, L2[i]? = some y := ⟨_, List.getElem?_eq_getElem (by have := EN.out; omega)⟩
      obtain ⟨g1, o1, x1, xc1, e1, c3, q1, l1, _⟩ := (HR.out.1.ext hex).get hy1
      obtain ⟨g2, o2, x2, xc2, e2, c4, q2, l2, _⟩ := (HR.out.2.ext hex).get hy2
      subst e1 e2
      have HCM := Lib.hid (fun W (hW : Ext wr W) => refCompare_any y1 y2 x1 x2 xc1 xc2 W (q1.ext hW) (q2.ext hW) (by unfold maxLen; omega) (by unfold maxLen; omega))
      generalize hcc : cmpRow y1 y2 = cc at HCM
      have HY := Lib.hid (And.intro hy1 (And.intro hy2 hcc))
      have i1 : (i : Int) < (N : Int) := by omega
      have i2 : (0 : Int) ≤ (i : Int) := by omega
      clear hcc q1 q2 hy1 hy2
      by_cases hz : cc = 0
      · have t1 : (cc != 0) = false := by simp [hz]
        go_wp2
        refine wp_region_held_drew (S := fun w' => w'.cell? ⟨c1, 1, none⟩ = some (.slice (some ⟨g1, o1, none⟩) N cap1) ∧ w'.cell? ⟨c2, 1, none⟩ = some (.slice (some ⟨g2, o2, none⟩) N cap2) ∧ w'.cell? ⟨g1, o1 + i, none⟩ = some (.slice x1 y1.length xc1) ∧ w'.cell? ⟨g2, o2 + i, none⟩ = some (.slice x2 y2.length xc2)) (by kernel_rfl) ⟨by assumption, by assumption, by assumption, by assumption⟩ (fun hHeld => ?_)
        (refine take_in (i := 0) (v := ?_) rfl ?_ ?_; rotate_left; (intro w hSw; (try dsimp only at hSw); go_simp; try with_reducible rfl)); (try simp only [Act.put, List.setIfInBounds_toArray, List.set_cons_zero, List.set_cons_succ])
        (refine take_in (i := 1) (v := ?_) rfl ?_ ?_; rotate_left; (intro w hSw; (try dsimp only at hSw); go_simp; try with_reducible rfl)); (try simp only [Act.put, List.setIfInBounds_toArray, List.set_cons_zero, List.set_cons_succ])
        (refine take_in (i := 2) (v := ?_) rfl ?_ ?_; rotate_left; (intro w hSw; (try dsimp only at hSw); go_simp; try with_reducible rfl)); (try simp only [Act.put, List.setIfInBounds_toArray, List.set_cons_zero, List.set_cons_succ])
        (refine take_in (i := 3) (v := ?_) rfl ?_ ?_; rotate_left; (intro w hSw; (try dsimp only at hSw); go_simp; try with_reducible rfl)); (try simp only [Act.put, List.setIfInBounds_toArray, List.set_cons_zero, List.set_cons_succ])
        (refine take_in (i := 4) (v := ?_) rfl ?_ ?_; rotate_left; (intro w hSw; (try dsimp only at hSw); go_simp; try with_reducible rfl)); (try simp only [Act.put, List.setIfInBounds_toArray, List.set_cons_zero, List.set_cons_succ])
        (refine take_in (i := 5) (v := ?_) rfl ?_ ?_; rotate_left; (intro w hSw; (try dsimp only at hSw); go_simp; try with_reducible rfl)); (try simp only [Act.put, List.setIfInBounds_toArray, List.set_cons_zero, List.set_cons_succ])
        (refine take_in (i := 6) (v := ?_) rfl ?_ ?_; rotate_left; (intro w hSw; (try dsimp only at hSw); go_simp; try with_reducible rfl)); (try simp only [Act.put, List.setIfInBounds_toArray, List.set_cons_zero, List.set_cons_succ])
        (refine take_in (i := 7) (v := ?_) rfl ?_ ?_; rotate_left; (intro w hSw; (try dsimp only at hSw); go_simp; try with_reducible rfl)); (try simp only [Act.put, List.setIfInBounds_toArray, List.set_cons_zero, List.set_cons_succ])
        (refine take_in (i := 8) (v := ?_) rfl ?_ ?_; rotate_left; (intro w hSw; (try dsimp only at hSw); go_simp; try with_reducible rfl)); (try simp only [Act.put, List.setIfInBounds_toArray, List.set_cons_zero, List.set_cons_succ])
        (refine take_in (i := 9) (v := ?_) rfl ?_ ?_; rotate_left; (intro w hSw; (try dsimp only at hSw); go_simp; try with_reducible rfl)); (try simp only [Act.put, List.setIfInBounds_toArray, List.set_cons_zero, List.set_cons_succ])
        (refine take_in (i := 10) (v := ?_) rfl ?_ ?_; rotate_left; (intro w hSw; (try dsimp only at hSw); go_simp; try with_reducible rfl)); (try simp only [Act.put, List.setIfInBounds_toArray, List.set_cons_zero, List.set_cons_succ])
        (refine take_in (i := 11) (v := ?_) rfl ?_ ?_; rotate_left; (intro w hSw; (try dsimp only at hSw); go_simp; try with_reducible rfl)); (try simp only [Act.put, List.setIfInBounds_toArray, List.set_cons_zero, List.set_cons_succ])
        (refine take_in (i := 12) (v := ?_) rfl ?_ ?_; rotate_left; (intro w hSw; (try dsimp only at hSw); go_simp; try with_reducible rfl)); (try simp only [Act.put, List.setIfInBounds_toArray, List.set_cons_zero, List.set_cons_succ])
        (refine take_in (i := 13) (v := ?_) rfl ?_ ?_; rotate_left; (intro w hSw; (try dsimp only at hSw); go_simp; try with_reducible rfl)); (try simp only [Act.put, List.setIfInBounds_toArray, List.set_cons_zero, List.set_cons_succ])
        (refine take_call (i := 14) rfl (fun K hK => ?_); go_simp; (refine (HCM.out _ (Kp.refl wr).drew).mono ?_; rintro e wc ⟨rfl, kc, rfl⟩; have d1 : (wr.drew.drewN kc).cell? ⟨c1, 1, none⟩ = some (.slice (some ⟨g1, o1, none⟩) N cap1) := d1; have d2 : (wr.drew.drewN kc).cell? ⟨c2, 1, none⟩ = some (.slice (some ⟨g2, o2, none⟩) N cap2) := d2; have c3 : (wr.drew.drewN kc).cell? ⟨g1, o1 + i, none⟩ = some (.slice x1 y1.length xc1) := c3; have c4 : (wr.drew.drewN kc).cell? ⟨g2, o2 + i, none⟩ = some (.slice x2 y2.length xc2) := c4); go_wp2_with fail; refine hK.out _ _ ?_ (fun hHeld => ?_); (try dsimp only); (exact ⟨by assumption, by assumption, by assumption, by assumption⟩); clear hK K); (try simp only [Act.put, List.setIfInBounds_toArray, List.set_cons_zero, List.set_cons_succ])
        (refine take_in (i := 15) (v := ?_) rfl ?_ ?_; rotate_left; (intro w hSw; (try dsimp only at hSw); go_simp; try with_reducible rfl)); (try simp only [Act.put, List.setIfInBounds_toArray, List.set_cons_zero, List.set_cons_succ])
        refine wpAnyH_done (by kernel_rfl) ?_ _
        go_wp2
        go_roundw
        case rel =>
          refine ⟨i + 1, by omega, by first | rfl | (congr 1; done) | (congr 1; omega), fun j hj => ?_, hex.drewN (1 + kc)⟩
          by_cases e : j = i
          · subst e
            obtain ⟨h1, h2, h3⟩ := HY.out
            rw [h1, h2, cmpRow_zero (h3.trans hz)]
          · exact OK.out j (by omega)
        case measure => simp [intOf]; omega
      · have t1 : (cc != 0) = true := by simp [hz]
        go_wp2
        refine wp_region_held_drew (S := fun w' => w'.cell? ⟨c1, 1, none⟩ = some (.slice (some ⟨g1, o1, none⟩) N cap1) ∧ w'.cell? ⟨c2, 1, none⟩ = some (.slice (some ⟨g2, o2, none⟩) N cap2) ∧ w'.cell? ⟨g1, o1 + i, none⟩ = some (.slice x1 y1.length xc1) ∧ w'.cell? ⟨g2, o2 + i, none⟩ = some (.slice x2 y2.length xc2)) (by kernel_rfl) ⟨by assumption, by assumption, by assumption, by assumption⟩ (fun hHeld => ?_)
        (refine take_in (i := 0) (v := ?_) rfl ?_ ?_; rotate_left; (intro w hSw; (try dsimp only at hSw); go_simp; try with_reducible rfl)); (try simp only [Act.put, List.setIfInBounds_toArray, List.set_cons_zero, List.set_cons_succ])
        (refine take_in (i := 1) (v := ?_) rfl ?_ ?_; rotate_left; (intro w hSw; (try dsimp only at hSw); go_simp; try with_reducible rfl)); (try simp only [Act.put, List.setIfInBounds_toArray, List.set_cons_zero, List.set_cons_succ])
        (refine take_in (i := 2) (v := ?_) rfl ?_ ?_; rotate_left; (intro w hSw; (try dsimp only at hSw); go_simp; try with_reducible rfl)); (try simp only [Act.put, List.setIfInBounds_toArray, List.set_cons_zero, List.set_cons_succ])
        (refine take_in (i := 3) (v := ?_) rfl ?_ ?_; rotate_left; (intro w hSw; (try dsimp only at hSw); go_simp; try with_reducible rfl)); (try simp only [Act.put, List.setIfInBounds_toArray, List.set_cons_zero, List.set_cons_succ])
        (refine take_in (i := 4) (v := ?_) rfl ?_ ?_; rotate_left; (intro w hSw; (try dsimp only at hSw); go_simp; try with_reducible rfl)); (try simp only [Act.put, List.setIfInBounds_toArray, List.set_cons_zero, List.set_cons_succ])
        (refine take_in (i := 5) (v := ?_) rfl ?_ ?_; rotate_left; (intro w hSw; (try dsimp only at hSw); go_simp; try with_reducible rfl)); (try simp only [Act.put, List.setIfInBounds_toArray, List.set_cons_zero, List.set_cons_succ])
        (refine take_in (i := 6) (v := ?_) rfl ?_ ?_; rotate_left; (intro w hSw; (try dsimp only at hSw); go_simp; try with_reducible rfl)); (try simp only [Act.put, List.setIfInBounds_toArray, List.set_cons_zero, List.set_cons_succ])
        (refine take_in (i := 7) (v := ?_) rfl ?_ ?_; rotate_left; (intro w hSw; (try dsimp only at hSw); go_simp; try with_reducible rfl)); (try simp only [Act.put, List.setIfInBounds_toArray, List.set_cons_zero, List.set_cons_succ])
        (refine take_in (i := 8) (v := ?_) rfl ?_ ?_; rotate_left; (intro w hSw; (try dsimp only at hSw); go_simp; try with_reducible rfl)); (try simp only [Act.put, List.setIfInBounds_toArray, List.set_cons_zero, List.set_cons_succ])
        (refine take_in (i := 9) (v := ?_) rfl ?_ ?_; rotate_left; (intro w hSw; (try dsimp only at hSw); go_simp; try with_reducible rfl)); (try simp only [Act.put, List.setIfInBounds_toArray, List.set_cons_zero, List.set_cons_succ])
        (refine take_in (i := 10) (v := ?_) rfl ?_ ?_; rotate_left; (intro w hSw; (try dsimp only at hSw); go_simp; try with_reducible rfl)); (try simp only [Act.put, List.setIfInBounds_toArray, List.set_cons_zero, List.set_cons_succ])
        (refine take_in (i := 11) (v := ?_) rfl ?_ ?_; rotate_left; (intro w hSw; (try dsimp only at hSw); go_simp; try with_reducible rfl)); (try simp only [Act.put, List.setIfInBounds_toArray, List.set_cons_zero, List.set_cons_succ])
        (refine take_in (i := 12) (v := ?_) rfl ?_ ?_; rotate_left; (intro w hSw; (try dsimp only at hSw); go_simp; try with_reducible rfl)); (try simp only [Act.put, List.setIfInBounds_toArray, List.set_cons_zero, List.set_cons_succ])
        (refine take_in (i := 13) (v := ?_) rfl ?_ ?_; rotate_left; (intro w hSw; (try dsimp only at hSw); go_simp; try with_reducible rfl)); (try simp only [Act.put, List.setIfInBounds_toArray, List.set_cons_zero, List.set_cons_succ])
        (refine take_call (i := 14) rfl (fun K hK => ?_); go_simp; (refine (HCM.out _ (Kp.refl wr).drew).mono ?_; rintro e wc ⟨rfl, kc, rfl⟩; have d1 : (wr.drew.drewN kc).cell? ⟨c1, 1, none⟩ = some (.slice (some ⟨g1, o1, none⟩) N cap1) := d1; have d2 : (wr.drew.drewN kc).cell? ⟨c2, 1, none⟩ = some (.slice (some ⟨g2, o2, none⟩) N cap2) := d2; have c3 : (wr.drew.drewN kc).cell? ⟨g1, o1 + i, none⟩ = some (.slice x1 y1.length xc1) := c3; have c4 : (wr.drew.drewN kc).cell? ⟨g2, o2 + i, none⟩ = some (.slice x2 y2.length xc2) := c4); go_wp2_with fail; refine hK.out _ _ ?_ (fun hHeld => ?_); (try dsimp only); (exact ⟨by assumption, by assumption, by assumption, by assumption⟩); clear hK K); (try simp only [Act.put, List.setIfInBounds_toArray, List.set_cons_zero, List.set_cons_succ])
        (refine take_in (i := 15) (v := ?_) rfl ?_ ?_; rotate_left; (intro w hSw; (try dsimp only at hSw); go_simp; try with_reducible rfl)); (try simp only [Act.put, List.setIfInBounds_toArray, List.set_cons_zero, List.set_cons_succ])
        refine wpAnyH_done (by kernel_rfl) ?_ _
        go_wp2
        go_ret
        refine RetN.mk (hex.drewN (1 + kc)) ?_
        rw [decide_eq_false]
        · rfl
        · rintro ⟨_, rfl⟩
          obtain ⟨h1, h2, h3⟩ := HY.out
          rw [h1] at h2; cases h2
          exact hz (h3.symm.trans (cmpRow_self _))
    · obtain rfl : i = N := by omega
      go_wp2
      go_ret
      refine RetN.mk hex ?_
      have : L1 = L2 := List.ext_getElem? fun j => by
        by_cases hj : j < i
        · exact OK.out j hj
        · rw [List.getElem?_eq_none (by have := EN.out; omega), List.getElem?_eq_none (by have := EN.out; omega)]
      rw [decide_eq_true ⟨by trivial, this⟩]
      rfl
end
end Go.Proofs.YtfkhelihepbehaaGreat

/- sibylref03.Rows: Add, Drop. -/
namespace Go.Proofs.YtfkhelihepbehaaGreat
open Go.RowKit
set_option linter.unusedVariables false

theorem CellsAt.sub' {w : World} {g off : Nat} {vs : List Value} (h : CellsAt w (some ⟨g, off, none⟩) vs) (k : Nat) : CellsAt w (some ⟨g, off + k, none⟩) (vs.drop k) := by
  intro i u hu
  rw [List.getElem?_drop] at hu
  obtain ⟨b, o, e, hc⟩ := h (k + i) u hu
  cases e
  exact ⟨g, off + k, rfl, by rw [Nat.add_assoc]; exact hc⟩
theorem CellsAt.take' {w : World} {ao : Option Addr} {vs : List Value} (h : CellsAt w ao vs) (k : Nat) : CellsAt w ao (vs.take k) := by
  intro i u hu
  rw [List.getElem?_take] at hu
  split at hu
  · exact h i u hu
  · cases hu
theorem Row.cast' {w : World} {e : TypeId} {k : Nat} {v : Value} {n n' : Nat} {xs xs' : List Value} {M : Nat → Prop} (h : Row w e k v n xs M) (hn : n = n') (hx : xs = xs') : Row w e k v n' xs' M := by subst hn hx; exact h
theorem rowVs_take (ps : List RowP) (k : Nat) : (rowVs ps).take k = rowVs (ps.take k) := by simp [rowVs]
theorem rowVs_drop (ps : List RowP) (k : Nat) : (rowVs ps).drop k = rowVs (ps.drop k) := by simp [rowVs]

section
variable {S S' : Nat → Prop} {w w0 w' : World} {c n : Nat} {LL : List (List ByteArray)} {v : Value}
theorem RefRows.store {lv0 : Value} (hex : Ext w0 w) (hc : c < w0.heap.size) (hnS : ¬ S c) (hS : ∀ k, S k → k < w0.heap.size) (hB : Blk w c [.int .i64 n, lv0] 152) {ps : List RowP} (hr : Row w 29 1 v ps.length (rowVs ps) (New w0))
    (hall : ∀ p ∈ ps, ReadsAs w p.1 p.2 ∧ p.2.length ≤ 8796093021952 ∧ ∀ a, p.1.1 = some a → S a.block ∨ (w0.heap.size ≤ a.block ∧ a.block < w.heap.size)) (hl : ps.length ≤ 1048576 * 1048576) :
    RefRows (fun k => S k ∨ (w0.heap.size ≤ k ∧ k < w.heap.size)) (w.setCell ⟨c, 1, none⟩ v) c n (ps.map Prod.snd) := by
  have hk : Kp (fun k => k = c) w (w.setCell ⟨c, 1, none⟩ v) := Kp.setCell (F := fun k => k = c) (Kp.refl w) (fun _ => rfl) v
  have hz := hex.size
  have hlt := hr.lt
  have hb := hr.block
  have hform : ∃ ao cap, v = .slice ao ps.length cap ∧ CellsAt w ao (rowVs ps) ∧ (ps.length ≤ cap ∧ cap ≤ maxLen ∧ (ao = none ∧ cap = 0 ∨ ∃ g, ao = some ⟨g, 0, none⟩)) := by
    obtain ⟨ao, cap, e, h1, h2⟩ := hr.shape
    refine ⟨ao, cap, e, h1, h2, ?_⟩
    subst e
    obtain ⟨_, ⟨e, h3⟩ | ⟨g, cap', rest, e, _, _, _, h4, h5⟩⟩ := hr
    · simp only [Value.slice.injEq] at e
      obtain ⟨rfl, _, rfl⟩ := e
      exact ⟨by decide, .inl ⟨rfl, rfl⟩⟩
    · simp only [Value.slice.injEq] at e
      obtain ⟨rfl, _, rfl⟩ := e
      exact ⟨h5, .inr ⟨_, rfl⟩⟩
  obtain ⟨ao, cap, rfl, hcs, hf⟩ := hform
  have hin : RowsIn (fun k => S k ∨ (w0.heap.size ≤ k ∧ k < w.heap.size)) w ao (ps.map Prod.snd) :=
    ⟨ps, rfl, hcs, fun a e => by subst e; exact .inr ⟨hb _ rfl, hlt _ rfl⟩, hall⟩
  have hcn : ¬ (S c ∨ (w0.heap.size ≤ c ∧ c < w.heap.size)) := fun h => by
    rcases h with h | h
    · exact hnS h
    · omega
  refine ⟨ao, cap, by simpa using hB.set 1 (.slice ao ps.length cap), hin.kp hk (fun k e h => by subst e; exact hcn h), by simpa using hf, hcn, fun k h => ?_, by simpa using hl⟩
  have := hk.size
  rcases h with h | h
  · have := hS k h; omega
  · omega

/-- What Add leaves. -/
def RefAdded (S : Nat → Prop) (w : World) (c n : Nat) (LL : List (List ByteArray)) (ss : List ByteArray) (w' : World) (v : Value) : Prop :=
  v = .tuple #[.bool (rowsAddR n LL ss).1, .int .i64 ((rowsAddR n LL ss).2 : Nat)] ∧ ∃ S', Grows w S S' ∧ RefRows S' w' c n (rowsAddL n LL ss)
theorem RefAdded.same {ss : List ByteArray} (h : RefRows S w c n LL) (hk : Ext w w') (hv : v = .tuple #[.bool (rowsAddR n LL ss).1, .int .i64 ((rowsAddR n LL ss).2 : Nat)]) (h0 : rowsAddL n LL ss = LL) : RefAdded S w c n LL ss w' v :=
  ⟨hv, S, Grows.refl _ _, by rw [h0]; exact h.ext hk⟩
set_option maxRecDepth 100000 in
set_option maxHeartbeats 2000000 in
theorem refAdd_any (h : RefRows S w c n LL) (hst : Strict cmpRow LL) {xo : Option Addr} {m xc : Nat} {ss : List ByteArray} (hm : m = ss.length) (hx : CellsAt w xo (strs ss)) (hss : ss.length ≤ 8796093021952) (hl1 : LL.length + 1 ≤ 1048576 * 1048576) :
    Calls Tryz.prog 118 #[.pointer (some ⟨c, 0, none⟩), .slice xo m xc] w (RetF (fun k => k = c) w (RefAdded S w c n LL ss)) := by
  have HH := Lib.hid h
  obtain ⟨ao, cap, B0, R0, ⟨f1, f2, f3⟩, hnS, hSw, _⟩ := h
  have c1 : w.cell? ⟨c, 0, none⟩ = some (.int .i64 n) := by rw [B0.cell']; rfl
  have HT := Lib.hid (refTexts_any ss xo m xc w hm hx (by omega))
  have HF := Lib.hid (refRowFind_any HH.out hst (xc := xc) hm hx hss)
  have HX := Lib.hid (And.intro hx (And.intro hst (And.intro hnS hSw)))
  have HB := Lib.hid (And.intro B0 R0)
  have F3 := Lib.hid f3
  clear hst hx hnS hSw B0 R0 f3
  by_cases h1 : m = n
  · have q1 : ((m : Int) != (n : Int)) = false := by simp [h1]
    have H1 := Lib.hid h1; clear h1
    have hn : ss.length = n := by rw [← hm, H1.out]
    have HN := Lib.hid hn
    have HM := Lib.hid hm
    cases ht : textsC ss with
    | false =>
      have e0 : rowsAddR n LL ss = (false, 31) := by unfold rowsAddR; rw [if_neg (by simp [hn]), if_pos ht]
      rw [ht] at HT; clear ht hn hm f1 f2 hss hl1
      go_enter Tryz.func118, Tryz.ntmps118
      go_wp2_with fail
      refine HT.out.mono ?_
      rintro e w1 ⟨rfl, rfl⟩
      go_wp2
      go_ret2
      exact RetF.mk (Kp.refl _) (RefAdded.same HH.out (Kp.refl _) (by rw [e0]; rfl) (by unfold rowsAddL; rw [e0]; rfl))
    | true =>
      rw [ht] at HT
      cases hin : isIn cmpRow LL ss with
      | true =>
        have e0 : rowsAddR n LL ss = (false, 0) := by unfold rowsAddR; rw [if_neg (by simp [hn]), if_neg (by simp [ht]), if_neg (by simp [hin]), hin]; rfl
        have e1 : rowsAddL n LL ss = LL := by unfold rowsAddL addS; rw [e0, if_pos rfl, if_pos hin]
        have ef : findR LL ss = (below cmpRow LL ss : Nat) := by unfold findR; rw [if_pos hin]
        rw [ef] at HF
        generalize below cmpRow LL ss = bl at HF
        have E := Lib.hid (And.intro e0 e1); clear e0 e1 ef hin ht hn hm f1 f2 hss hl1
        have t1 : decide ((bl : Int) ≥ 0) = true := by simp
        go_enter Tryz.func118, Tryz.ntmps118
        go_wp2_with fail
        refine HT.out.mono ?_
        rintro e w1 ⟨rfl, rfl⟩
        go_wp2_with fail
        refine HF.out.mono ?_
        rintro e w1 ⟨v, rfl, hk, rfl⟩
        have HK := Lib.hid hk; clear hk
        go_wp2
        go_ret2
        exact RetF.mk (Ext.kp HK.out) (RefAdded.same HH.out HK.out (by rw [E.out.1]; rfl) E.out.2)
      | false =>
        have ef : findR LL ss = -1 := by unfold findR; rw [if_neg (by simp [hin])]
        rw [ef] at HF
        by_cases h65 : 65536 ≤ LL.length
        · have e0 : rowsAddR n LL ss = (false, 4) := by unfold rowsAddR; rw [if_neg (by simp [hn]), if_neg (by simp [ht]), if_pos ⟨h65, hin⟩]
          have E := Lib.hid e0; clear e0 ef hin ht hn hm hss hl1
          have c2 : w.cell? ⟨c, 1, none⟩ = some (.slice ao LL.length cap) := by rw [HB.out.1.cell']; rfl
          have t1 : decide ((LL.length : Int) ≥ 65536) = true := by simp; omega
          have t2 : decide ((65536 : Int) ≤ (LL.length : Int)) = true := by simp; omega
          go_enter Tryz.func118, Tryz.ntmps118
          go_wp2_with fail
          refine HT.out.mono ?_
          rintro e w1 ⟨rfl, rfl⟩
          go_wp2_with fail
          refine HF.out.mono ?_
          rintro e w1 ⟨v, rfl, hk, rfl⟩
          have d2 := hk.cell c2 id
          have HK := Lib.hid hk; clear hk
          go_wp2
          go_ret2
          exact RetF.mk (Ext.kp HK.out) (RefAdded.same HH.out HK.out (by rw [E.out]; rfl) (by unfold rowsAddL; rw [E.out]; rfl))
        · have e0 : rowsAddR n LL ss = (true, 0) := by unfold rowsAddR; rw [if_neg (by simp [hn]), if_neg (by simp [ht]), if_neg (by simp [h65]), hin]; rfl
          have e1 : rowsAddL n LL ss = LL.take (below cmpRow LL ss) ++ ss :: LL.drop (below cmpRow LL ss) := by unfold rowsAddL addS; rw [e0, if_pos rfl, if_neg (by simp [hin])]
          have E := Lib.hid (And.intro e0 e1); clear e0 e1 ef hin ht
          have hle := below_le (c := cmpRow) LL ss
          have HW := Lib.hid (fun W (hW : Ext w W) => refRowBelow_any (HH.out.ext hW) (xc := xc) hm (HX.out.1.ext hW) hss)
          generalize below cmpRow LL ss = b at *
          have HCP := Lib.hid (fun W (hW : Ext w W) => copied_any ss xo m xc W hm (HX.out.1.ext hW) hss)
          obtain ⟨N, en⟩ : ∃ n, n = LL.length := ⟨_, rfl⟩
          have c2 : w.cell? ⟨c, 1, none⟩ = some (.slice ao N cap) := by rw [en, HB.out.1.cell']; rfl
          rw [← en] at hle h65 hl1 f1
          have EN := Lib.hid (And.intro en hm); clear en
          have t1 : decide ((N : Int) ≥ 65536) = false := by simp; omega
          have t2 : decide ((65536 : Int) ≤ (N : Int)) = false := by simp; omega
          unfold maxLen at f2
          have hcw := HH.out.lt
          have hmm : m ≤ 8796093021952 := by omega
          clear hm hn
          go_enter Tryz.func118, Tryz.ntmps118
          go_wp2_with fail
          refine HT.out.mono ?_
          rintro e w1 ⟨rfl, rfl⟩
          go_wp2_with fail
          refine HF.out.mono ?_
          rintro e w1 ⟨v, rfl, hk1, rfl⟩
          have d2 := hk1.cell c2 id
          go_wp2_with fail
          refine (HW.out _ hk1).mono ?_
          rintro e w2 ⟨v, rfl, hk2, rfl⟩
          have hx2 := hk1.trans hk2
          have d3 := hx2.cell c2 id
          clear d2 t1 t2
          obtain ⟨ps, hE, hcs, _, hall⟩ := HB.out.2
          have hpn : ps.length = N := by rw [EN.out.1, hE]; simp
          have PS := Lib.hid (And.intro hE (And.intro hcs (And.intro hall hpn)))
          clear hE hcs hall hpn
          rcases F3.out with ⟨rfl, rfl⟩ | ⟨g, rfl⟩
          · have hN0 : N = 0 := by omega
            have hb0 : b = 0 := by omega
            subst hN0 hb0
            clear f1 f2 hle
            go_wp2_with (first | (at_builtin; refine Halted.out ?_))
            refine Halted.mk (wp_appN elemRow rfl _ _ rfl hx2 rfl (Row.nil w2 29 1 (New w)) rfl (news := (rowVs ps).take 0) (by simp; exact CellsAt.nil _ _) (by simp) (by simp) (by decide) (by decide) ?_)
            intro v1 w3 hr1 hk3 _ _
            have HR1 := Lib.hid hr1; clear hr1
            go_wp2_with fail
            refine (HCP.out _ hk3).mono ?_
            rintro e w3c ⟨vc, rfl, hkc, hrc⟩
            obtain ⟨ao1, cap1, ev, _, _⟩ := hrc.shape
            subst ev
            have HRC := Lib.hid (And.intro hkc hrc)
            have hk3c := hk3.trans hkc
            clear hkc hrc
            go_wp2_with (first | (at_builtin; refine Halted.out ?_))
            refine Halted.mk (wp_appN elemRow rfl _ _ rfl (hk3c.alloc (.cells #[.slice ao1 ss.length cap1] 29)) rfl ((HR1.out.ext HRC.out.1).alloc _) rfl (CellsAt.one w3c (.slice ao1 ss.length cap1) 29) rfl (by simp; rfl) (by omega) (by unfold maxLen; omega) ?_)
            intro v2 w4 hr2 hk4 hk4' _
            have HR2 := Lib.hid (And.intro hr2 (And.intro hk4 hk4')); clear hr2 hk4'
            have e1 := hk4.cell c2 id
            go_wp2_with (first | (at_builtin; refine Halted.out ?_))
            refine Halted.mk (wp_appN elemRow rfl _ _ rfl hk4 rfl HR2.out.1 rfl (news := (rowVs ps).drop 0) (by rw [List.drop_of_length_le (by rw [rowVs_len, PS.out.2.2.2]; exact Nat.le_refl _)]; exact CellsAt.nil _ _) (by rw [List.length_drop, rowVs_len]; have := PS.out.2.2.2; omega) (fun u hu => rowVs_one ps u (List.mem_of_mem_drop hu)) (by omega) (by unfold maxLen; omega) ?_)
            intro v3 w5 hr3 hk5 hk5' _
            obtain ⟨ao3, n3, cap3, e3, _⟩ : ∃ ao n cap, v3 = .slice ao n cap ∧ True := by obtain ⟨ao, cap, e, _⟩ := hr3.shape; exact ⟨_, _, _, e, trivial⟩
            subst e3
            have g1 := hk5.cell c2 id
            have g2 := (HB.out.1.ext hk5).free 1
            have HR3 := Lib.hid (And.intro hr3 (And.intro hk5 hk5')); clear hr3 hk5'
            go_wp2
            go_ret2
            obtain ⟨hr3, hk5, hk5'⟩ := HR3.out
            obtain ⟨hr2, hk4, hk4'⟩ := HR2.out
            obtain ⟨hkc, hrc⟩ := HRC.out
            obtain ⟨hE, hcs, hall, hpn⟩ := PS.out
            obtain ⟨hx0, hst0, hnS0, hSw0⟩ := HX.out
            have hne : 9 ≠ 29 := by decide
            have q1 := (show Row w3c 9 1 (.slice ao1 ss.length cap1) ss.length (strs ss) (New w3) from hrc).alloc (.cells #[.slice ao1 ss.length cap1] 29)
            have q2 := q1.kp' hk4' fun g hg _ hf => q1.sort_ne ((HR1.out.ext hkc).alloc (.cells #[.slice ao1 ss.length cap1] 29)) hne hg hf
            have q3 := q2.kp' hk5' fun g hg _ hf => q2.sort_ne hr2 hne hg hf
            have q4 := Row.readsAs (x := (ao1, ss.length, cap1)) q3
            have eL : (ps.take 0 ++ ((ao1, ss.length, cap1), ss) :: ps.drop 0).map Prod.snd = rowsAddL n LL ss := by rw [E.out.2, hE]; simp
            have hlen : (ps.take 0 ++ (((ao1, ss.length, cap1), ss) : RowP) :: ps.drop 0).length = 0 + 1 := by rw [List.length_append, List.length_cons, List.length_take, List.length_drop]; omega
            have hfin := RefRows.store (S := S) (n := n) hk5 hcw hnS0 hSw0 (HB.out.1.ext hk5) (ps := ps.take 0 ++ ((ao1, ss.length, cap1), ss) :: ps.drop 0) (v := .slice ao3 n3 cap3)
              (hr3.cast' (by first | (rw [hlen]; omega) | rw [hlen]) (by rw [rowVs_append, rowVs_take, rowVs_drop]; simp [rowVs])) (fun p hp => by
                have hp' : p ∈ ps ∨ p = ((ao1, ss.length, cap1), ss) := by
                  rcases List.mem_append.1 hp with h | h
                  · exact .inl (List.mem_of_mem_take h)
                  · rcases List.mem_cons.1 h with h | h
                    · exact .inr h
                    · exact .inl (List.mem_of_mem_drop h)
                rcases hp' with hp' | rfl
                · obtain ⟨h1, h2, h3⟩ := hall p hp'
                  exact ⟨⟨h1.1, h1.2.ext hk5⟩, h2, fun a e => .inl (h3 a e)⟩
                · refine ⟨q4.1, hss, fun a e => .inr ?_⟩
                  have := q4.2 a e
                  have hz3 := hk3.size
                  exact ⟨Nat.le_trans hz3 this.1, this.2⟩) (by rw [hlen]; omega)
            rw [eL] at hfin
            refine RetF.mk (Kp.setCell (F := fun k => k = c) (Ext.kp hk5) (fun _ => rfl) _) ⟨by rw [E.out.1]; rfl, _, ⟨fun k h => .inl h, fun k h => h.imp id fun h => h.1⟩, hfin⟩
          · have hp1 : (b : Int) ≤ (cap : Int) := by omega
            have hp2 : (b : Int) ≤ (N : Int) := by omega
            by_cases hcm : cap = b
            all_goals
                go_wp2_with (first | (at_builtin; refine Halted.out ?_))
                refine Halted.mk (wp_appN elemRow rfl _ _ rfl hx2 rfl (Row.nil w2 29 1 (New w)) rfl ((PS.out.2.1.ext hx2).take' b) (by rw [List.length_take, rowVs_len, PS.out.2.2.2]; omega) (fun u hu => rowVs_one ps u (List.mem_of_mem_take hu)) (by omega) (by unfold maxLen; omega) ?_)
                intro v1 w3 hr1 hk3 _ _
                have HR1 := Lib.hid hr1; clear hr1
                go_wp2_with fail
                refine (HCP.out _ hk3).mono ?_
                rintro e w3c ⟨vc, rfl, hkc, hrc⟩
                obtain ⟨ao1, cap1, ev, _, _⟩ := hrc.shape
                subst ev
                have HRC := Lib.hid (And.intro hkc hrc)
                have hk3c := hk3.trans hkc
                clear hkc hrc
                go_wp2_with (first | (at_builtin; refine Halted.out ?_))
                refine Halted.mk (wp_appN elemRow rfl _ _ rfl (hk3c.alloc (.cells #[.slice ao1 ss.length cap1] 29)) rfl ((HR1.out.ext HRC.out.1).alloc _) rfl (CellsAt.one w3c (.slice ao1 ss.length cap1) 29) rfl (by simp; rfl) (by omega) (by unfold maxLen; omega) ?_)
                intro v2 w4 hr2 hk4 hk4' _
                have HR2 := Lib.hid (And.intro hr2 (And.intro hk4 hk4')); clear hr2 hk4'
                have e1 := hk4.cell c2 id
                go_wp2_with (first | (at_builtin; refine Halted.out ?_))
                refine Halted.mk (wp_appN elemRow rfl _ _ rfl hk4 rfl HR2.out.1 rfl (news := (rowVs ps).drop b) (by
                  first
                    | (have := (PS.out.2.1.ext hk4).sub' b; rwa [Nat.zero_add] at this)
                    | (rw [List.drop_of_length_le (by rw [rowVs_len, PS.out.2.2.2]; omega)]; exact CellsAt.nil _ _)) (by rw [List.length_drop, rowVs_len]; have := PS.out.2.2.2; omega) (fun u hu => rowVs_one ps u (List.mem_of_mem_drop hu)) (by omega) (by unfold maxLen; omega) ?_)
                intro v3 w5 hr3 hk5 hk5' _
                obtain ⟨ao3, n3, cap3, e3, _⟩ : ∃ ao n cap, v3 = .slice ao n cap ∧ True := by obtain ⟨ao, cap, e, _⟩ := hr3.shape; exact ⟨_, _, _, e, trivial⟩
                subst e3
                have g1 := hk5.cell c2 id
                have g2 := (HB.out.1.ext hk5).free 1
                have HR3 := Lib.hid (And.intro hr3 (And.intro hk5 hk5')); clear hr3 hk5'
                go_wp2
                go_ret2
                obtain ⟨hr3, hk5, hk5'⟩ := HR3.out
                obtain ⟨hr2, hk4, hk4'⟩ := HR2.out
                obtain ⟨hkc, hrc⟩ := HRC.out
                obtain ⟨hE, hcs, hall, hpn⟩ := PS.out
                obtain ⟨hx0, hst0, hnS0, hSw0⟩ := HX.out
                have hne : 9 ≠ 29 := by decide
                have q1 := (show Row w3c 9 1 (.slice ao1 ss.length cap1) ss.length (strs ss) (New w3) from hrc).alloc (.cells #[.slice ao1 ss.length cap1] 29)
                have q2 := q1.kp' hk4' fun g hg _ hf => q1.sort_ne ((HR1.out.ext hkc).alloc (.cells #[.slice ao1 ss.length cap1] 29)) hne hg hf
                have q3 := q2.kp' hk5' fun g hg _ hf => q2.sort_ne hr2 hne hg hf
                have q4 := Row.readsAs (x := (ao1, ss.length, cap1)) q3
                have eL : (ps.take b ++ ((ao1, ss.length, cap1), ss) :: ps.drop b).map Prod.snd = rowsAddL n LL ss := by rw [E.out.2, hE]; simp
                have hlen : (ps.take b ++ (((ao1, ss.length, cap1), ss) : RowP) :: ps.drop b).length = N + 1 := by rw [List.length_append, List.length_cons, List.length_take, List.length_drop]; omega
                have hfin := RefRows.store (S := S) (n := n) hk5 hcw hnS0 hSw0 (HB.out.1.ext hk5) (ps := ps.take b ++ ((ao1, ss.length, cap1), ss) :: ps.drop b) (v := .slice ao3 n3 cap3)
                  (hr3.cast' (by first | (rw [hlen]; omega) | rw [hlen]) (by rw [rowVs_append, rowVs_take, rowVs_drop]; simp [rowVs])) (fun p hp => by
                    have hp' : p ∈ ps ∨ p = ((ao1, ss.length, cap1), ss) := by
                      rcases List.mem_append.1 hp with h | h
                      · exact .inl (List.mem_of_mem_take h)
                      · rcases List.mem_cons.1 h with h | h
                        · exact .inr h
                        · exact .inl (List.mem_of_mem_drop h)
                    rcases hp' with hp' | rfl
                    · obtain ⟨h1, h2, h3⟩ := hall p hp'
                      exact ⟨⟨h1.1, h1.2.ext hk5⟩, h2, fun a e => .inl (h3 a e)⟩
                    · refine ⟨q4.1, hss, fun a e => .inr ?_⟩
                      have := q4.2 a e
                      have hz3 := hk3.size
                      exact ⟨Nat.le_trans hz3 this.1, this.2⟩) (by rw [hlen]; omega)
                rw [eL] at hfin
                refine RetF.mk (Kp.setCell (F := fun k => k = c) (Ext.kp hk5) (fun _ => rfl) _) ⟨by rw [E.out.1]; rfl, _, ⟨fun k h => .inl h, fun k h => h.imp id fun h => h.1⟩, hfin⟩
  · have q1 : ((m : Int) != (n : Int)) = true := by simp; omega
    have e0 : rowsAddR n LL ss = (false, 30) := by unfold rowsAddR; rw [if_pos (by omega)]
    have E := Lib.hid e0; clear e0 hm hss hl1 f1 f2
    go_enter Tryz.func118, Tryz.ntmps118
    go_wp2
    go_ret2
    exact RetF.mk (Kp.refl _) (RefAdded.same HH.out (Kp.refl _) (by rw [E.out]; rfl) (by unfold rowsAddL; rw [E.out]; rfl))

/-- What Drop leaves. -/
def RefDropped (S : Nat → Prop) (w : World) (c n : Nat) (LL : List (List ByteArray)) (ss : List ByteArray) (w' : World) (v : Value) : Prop :=
  v = .tuple #[.bool (rowsDropR n LL ss).1, .int .i64 ((rowsDropR n LL ss).2 : Nat)] ∧ ∃ S', Grows w S S' ∧ RefRows S' w' c n (rowsDropL n LL ss)
theorem RefDropped.same {ss : List ByteArray} (h : RefRows S w c n LL) (hk : Ext w w') (hv : v = .tuple #[.bool (rowsDropR n LL ss).1, .int .i64 ((rowsDropR n LL ss).2 : Nat)]) (h0 : rowsDropL n LL ss = LL) : RefDropped S w c n LL ss w' v :=
  ⟨hv, S, Grows.refl _ _, by rw [h0]; exact h.ext hk⟩
set_option maxRecDepth 100000 in
set_option maxHeartbeats 2000000 in
theorem refDrop_any (h : RefRows S w c n LL) (hst : Strict cmpRow LL) {xo : Option Addr} {m xc : Nat} {ss : List ByteArray} (hm : m = ss.length) (hx : CellsAt w xo (strs ss)) (hss : ss.length ≤ 8796093021952) :
    Calls Tryz.prog 120 #[.pointer (some ⟨c, 0, none⟩), .slice xo m xc] w (RetF (fun k => k = c) w (RefDropped S w c n LL ss)) := by
  have HH := Lib.hid h
  obtain ⟨ao, cap, B0, R0, ⟨f1, f2, f3⟩, hnS, hSw, hl1⟩ := h
  have c1 : w.cell? ⟨c, 0, none⟩ = some (.int .i64 n) := by rw [B0.cell']; rfl
  have HF := Lib.hid (refRowFind_any HH.out hst (xc := xc) hm hx hss)
  have HX := Lib.hid (And.intro hx (And.intro hst (And.intro hnS hSw)))
  have HB := Lib.hid (And.intro B0 R0)
  have F3 := Lib.hid f3
  clear hst hx hnS hSw B0 R0 f3
  by_cases h1 : m = n
  · have q1 : ((m : Int) != (n : Int)) = false := by simp [h1]
    have H1 := Lib.hid h1; clear h1
    have hn : ss.length = n := by rw [← hm, H1.out]
    cases hin : isIn cmpRow LL ss with
    | false =>
      have e0 : rowsDropR n LL ss = (false, 0) := by unfold rowsDropR; rw [if_neg (by simp [hn]), hin]
      have e1 : rowsDropL n LL ss = LL := by unfold rowsDropL dropS; rw [if_neg (by simp [hn]), if_neg (by simp [hin])]
      have ef : findR LL ss = -1 := by unfold findR; rw [if_neg (by simp [hin])]
      rw [ef] at HF
      have E := Lib.hid (And.intro e0 e1); clear e0 e1 ef hin hn hm f1 f2 hss hl1
      go_enter Tryz.func120, Tryz.ntmps120
      go_wp2_with fail
      refine HF.out.mono ?_
      rintro e w1 ⟨v, rfl, hk, rfl⟩
      have HK := Lib.hid hk; clear hk
      go_wp2
      go_ret2
      exact RetF.mk (Ext.kp HK.out) (RefDropped.same HH.out HK.out (by rw [E.out.1]; rfl) E.out.2)
    | true =>
      have e0 : rowsDropR n LL ss = (true, 0) := by unfold rowsDropR; rw [if_neg (by simp [hn]), hin]
      have e1 : rowsDropL n LL ss = LL.take (below cmpRow LL ss) ++ LL.drop (below cmpRow LL ss + 1) := by unfold rowsDropL dropS; rw [if_neg (by simp [hn]), if_pos hin]
      have ef : findR LL ss = (below cmpRow LL ss : Nat) := by unfold findR; rw [if_pos hin]
      have hlt : below cmpRow LL ss < LL.length := by
        obtain ⟨y, hy, _⟩ := (Strict.there (c := cmpRow) (cmpRow_law id) HX.out.2.1 ss).1 hin
        exact (List.getElem?_eq_some_iff.1 hy).1
      rw [ef] at HF
      generalize below cmpRow LL ss = i at *
      have E := Lib.hid (And.intro e0 e1); clear e0 e1 ef hin
      obtain ⟨N, en⟩ : ∃ n, n = LL.length := ⟨_, rfl⟩
      have c2 : w.cell? ⟨c, 1, none⟩ = some (.slice ao N cap) := by rw [en, HB.out.1.cell']; rfl
      rw [← en] at hlt hl1 f1
      have EN := Lib.hid (And.intro en hm); clear en
      unfold maxLen at f2
      have hcw := HH.out.lt
      have hmm : m ≤ 8796093021952 := by omega
      clear hm hn hss
      obtain ⟨ps, hE, hcs, _, hall⟩ := HB.out.2
      have hpn : ps.length = N := by rw [EN.out.1, hE]; simp
      have PS := Lib.hid (And.intro hE (And.intro hcs (And.intro hall hpn)))
      clear hE hcs hall hpn
      have t1 : decide ((i : Int) < 0) = false := by simp
      rcases F3.out with ⟨_, h0⟩ | ⟨g, rfl⟩
      · omega
      · have hp1 : (i : Int) ≤ (cap : Int) := by omega
        have hp2 : (i : Int) ≤ (N : Int) := by omega
        have hp3 : (i : Int) + 1 ≤ (N : Int) := by omega
        have hp4 : (i : Int) + 1 ≤ (cap : Int) := by omega
        have hp5 : (0 : Int) ≤ (i : Int) + 1 := by omega
        have hi1 : ((i : Int) + 1).toNat = i + 1 := by omega
        have hw1 : IntKind.i64.wrap ((i : Int) + 1) = (i : Int) + 1 := IntWalk.i64_in _ (by omega)
        have hci : ¬ cap = i := by omega
        by_cases hcm : cap = i + 1
        all_goals
          go_enter Tryz.func120, Tryz.ntmps120
          go_wp2_with fail
          refine HF.out.mono ?_
          rintro e w1 ⟨v, rfl, hk, rfl⟩
          have d2 := hk.cell c2 id
          go_wp2_with (first | (at_builtin; refine Halted.out ?_))
          refine Halted.mk (wp_appN elemRow rfl _ _ rfl hk rfl (Row.nil w1 29 1 (New w)) rfl ((PS.out.2.1.ext hk).take' i) (by rw [List.length_take, rowVs_len, PS.out.2.2.2]; omega) (fun u hu => rowVs_one ps u (List.mem_of_mem_take hu)) (by omega) (by unfold maxLen; omega) ?_)
          intro v2 w3 hr2 hk3 _ _
          have HR2 := Lib.hid hr2; clear hr2
          have e1 := hk3.cell c2 id
          go_wp2_with (first | (at_builtin; refine Halted.out ?_))
          refine Halted.mk (wp_appN elemRow rfl _ _ rfl hk3 rfl HR2.out rfl (news := (rowVs ps).drop (i + 1)) (by
              first
                | (have := (PS.out.2.1.ext hk3).sub' (i + 1); rwa [Nat.zero_add] at this)
                | (rw [List.drop_of_length_le (by rw [rowVs_len, PS.out.2.2.2]; omega)]; exact CellsAt.nil _ _)) (by rw [List.length_drop, rowVs_len, PS.out.2.2.2]; omega) (fun u hu => rowVs_one ps u (List.mem_of_mem_drop hu)) (by omega) (by unfold maxLen; omega) ?_)
          intro v3 w5 hr3 hk5 _ _
          obtain ⟨ao3, n3, cap3, e3, _⟩ : ∃ ao n cap, v3 = .slice ao n cap ∧ True := by obtain ⟨ao, cap, e, _⟩ := hr3.shape; exact ⟨_, _, _, e, trivial⟩
          subst e3
          have g1 := hk5.cell c2 id
          have g2 := (HB.out.1.ext hk5).free 1
          have HR3 := Lib.hid (And.intro hr3 hk5); clear hr3 HR2
          go_wp2
          go_ret2
          obtain ⟨hr3, hk5⟩ := HR3.out
          obtain ⟨hE, hcs, hall, hpn⟩ := PS.out
          obtain ⟨hx0, hst0, hnS0, hSw0⟩ := HX.out
          have eL : (ps.take i ++ ps.drop (i + 1)).map Prod.snd = rowsDropL n LL ss := by rw [E.out.2, hE]; simp
          have hlen : (ps.take i ++ ps.drop (i + 1)).length = N - 1 := by rw [List.length_append, List.length_take, List.length_drop]; omega
          have hfin := RefRows.store (S := S) (n := n) hk5 hcw hnS0 hSw0 (HB.out.1.ext hk5) (ps := ps.take i ++ ps.drop (i + 1)) (v := .slice ao3 n3 cap3)
            (hr3.cast' (by rw [hlen]; omega) (by rw [rowVs_append, rowVs_take, rowVs_drop]; simp)) (fun p hp => by
              have hp' : p ∈ ps := by
                rcases List.mem_append.1 hp with h | h
                · exact List.mem_of_mem_take h
                · exact List.mem_of_mem_drop h
              obtain ⟨h1, h2, h3⟩ := hall p hp'
              exact ⟨⟨h1.1, h1.2.ext hk5⟩, h2, fun a e => .inl (h3 a e)⟩) (by rw [hlen]; omega)
          rw [eL] at hfin
          refine RetF.mk (Kp.setCell (F := fun k => k = c) (Ext.kp hk5) (fun _ => rfl) _) ⟨by rw [E.out.1]; rfl, _, ⟨fun k h => .inl h, fun k h => h.imp id fun h => h.1⟩, hfin⟩
  · have q1 : ((m : Int) != (n : Int)) = true := by simp; omega
    have e0 : rowsDropR n LL ss = (false, 30) := by unfold rowsDropR; rw [if_pos (by omega)]
    have e1 : rowsDropL n LL ss = LL := by unfold rowsDropL; rw [if_pos (by omega)]
    have E := Lib.hid (And.intro e0 e1); clear e0 e1 hm hss hl1 f1 f2
    go_enter Tryz.func120, Tryz.ntmps120
    go_wp2
    go_ret2
    exact RetF.mk (Kp.refl _) (RefDropped.same HH.out (Kp.refl _) (by rw [E.out.1]; rfl) E.out.2)
end
end Go.Proofs.YtfkhelihepbehaaGreat
