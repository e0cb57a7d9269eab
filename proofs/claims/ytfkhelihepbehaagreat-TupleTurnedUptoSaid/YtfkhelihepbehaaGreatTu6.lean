/- Texts joined for a claim (LentList, RelsSame, BaseSame, Mix, RelRead, SwapInt, InsInt, SymLInt, SymInt, SymGInt). -/
import Derived.Test.YtfkhelihepbehaaGreatTu5
import Derived.Deep.MidRow
import Derived.Test.YtfkhelihepbehaaGreatProg
import Derived.BigRegion
import Derived.StillTailTactics
import Derived.Deep.QuietTactic
import Derived.BigQuiet
import Derived.Deep.DeepCutAuto
import Derived.Deep.RegionWith
/- The walk of the statements' helper lentList: relations in memory of their own, with marks. -/
namespace Go.Proofs.YtfkhelihepbehaaGreat
open Go.RowKit
set_option linter.unusedVariables false

def mark3 : ByteArray := ⟨#[60, 109, 97, 114, 107, 62]⟩
/-- A row in a block of its own between lo and hi, with two marks behind it. -/
def LentRow (lo hi : Nat) (w : World) (p : RowP) : Prop := ∃ g cap rest, p.1 = (some ⟨g, 0, none⟩, p.2.length, cap) ∧ lo ≤ g ∧ g < hi ∧ Blk w g (strs (p.2 ++ [mark1, mark2]) ++ rest) 9 ∧ p.2.length + 2 + rest.length = cap ∧ cap ≤ maxLen ∧ p.2.length ≤ 8796093021952
/-- Rows in blocks of their own between lo and hi, a mark behind them. -/
def LentRows (lo hi : Nat) (w : World) (g cap : Nat) (LL : List (List ByteArray)) : Prop := ∃ (ps : List RowP) (mg : Nat) (rest : List Value), LL = ps.map Prod.snd ∧ lo ≤ g ∧ g < hi ∧ Blk w g (rowVs ps ++ .slice (some ⟨mg, 0, none⟩) 1 1 :: rest) 29 ∧
  LL.length + 1 + rest.length = cap ∧ cap ≤ maxLen ∧ lo ≤ mg ∧ mg < hi ∧ Blk w mg [.string mark3] 9 ∧ (∀ p ∈ ps, LentRow lo hi w p) ∧ ps.Pairwise fun p q => p.1.1 ≠ q.1.1
/-- Where a relation's rows lie: block, room, from, to. -/
abbrev LentP := Nat × Nat × Nat × Nat
def lentCells (x : RelZ × LentP) : List Value := [.string x.1.1, .int .i64 x.1.2.1, .slice (some ⟨x.2.1, 0, none⟩) x.1.2.2.1.length x.2.2.1]
theorem lentCells_len (x : RelZ × LentP) : (lentCells x).length = 3 := rfl
def LentAt (w : World) (x : RelZ × LentP) : Prop := LentRows x.2.2.2.1 x.2.2.2.2 w x.2.1 x.2.2.1 x.1.2.2.1
/-- Relations in memory of their own, a mark behind them. -/
def LentV (lo : Nat) (w : World) (v : Value) (L : List RelZ) : Prop := ∃ g cap rest vs, v = .slice (some ⟨g, 0, none⟩) L.length cap ∧ lo ≤ g ∧ vs.length = L.length ∧ Blk w g ((L.zip vs).flatMap lentCells ++ .string mark3 :: .int .i64 0 :: .slice none 0 0 :: rest) 52 ∧
  (L.length + 1) * 3 + rest.length = cap * 3 ∧ L.length + 1 ≤ cap ∧ cap ≤ maxLen ∧ (∀ x ∈ L.zip vs, LentAt w x ∧ lo ≤ x.2.2.2.1 ∧ x.2.2.2.2 ≤ w.heap.size) ∧ (L.zip vs).Pairwise fun x y => x.2.2.2.2 ≤ y.2.2.2.1

section
variable {F : Nat → Prop} {lo hi : Nat} {w w' : World}
theorem LentRow.kpt {p : RowP} (h : LentRow lo hi w p) (hk : Kp F w w') (hF : ∀ g cs, F g → ¬ Blk w g cs 9) : LentRow lo hi w' p := by
  obtain ⟨g, cap, rest, h1, h2, h3, h4, h5⟩ := h
  exact ⟨g, cap, rest, h1, h2, h3, h4.kp hk fun f => hF g _ f h4, h5⟩
theorem LentRow.ext {p : RowP} (h : LentRow lo hi w p) (hk : Ext w w') : LentRow lo hi w' p := h.kpt hk fun _ _ f => f.elim
theorem LentRow.widen {hi' : Nat} {p : RowP} (h : LentRow lo hi w p) (hh : hi ≤ hi') : LentRow lo hi' w p := by
  obtain ⟨g, cap, rest, h1, h2, h3, h4⟩ := h
  exact ⟨g, cap, rest, h1, h2, by omega, h4⟩
theorem LentRows.kpt {g cap : Nat} {LL : List (List ByteArray)} (h : LentRows lo hi w g cap LL) (hk : Kp F w w') (hF : ∀ g cs, F g → ¬ Blk w g cs 29 ∧ ¬ Blk w g cs 9) : LentRows lo hi w' g cap LL := by
  obtain ⟨ps, mg, rest, h1, h2, h3, h4, h5, h6, h7, h8, h9, h10, h11⟩ := h
  exact ⟨ps, mg, rest, h1, h2, h3, h4.kp hk fun f => (hF g _ f).1 h4, h5, h6, h7, h8, h9.kp hk fun f => (hF mg _ f).2 h9, fun p hp => (h10 p hp).kpt hk fun g cs f => (hF g cs f).2, h11⟩
theorem LentRows.ext {g cap : Nat} {LL : List (List ByteArray)} (h : LentRows lo hi w g cap LL) (hk : Ext w w') : LentRows lo hi w' g cap LL := h.kpt hk fun _ _ f => f.elim
theorem LentAt.ext {x : RelZ × LentP} (h : LentAt w x) (hk : Ext w w') : LentAt w' x := LentRows.ext h hk
theorem LentAt.row {x : RelZ × LentP} (h : LentAt w x) {k : Nat} {v : Value} {n : Nat} {xs : List Value} {M : Nat → Prop} (hr : Row w 52 k v n xs M) (hk : Kp (fun g => v.ownBlock = some g) w w') : LentAt w' x :=
  LentRows.kpt h hk fun g cs hg => by
    obtain ⟨cs', hb, _⟩ := hr.has hg
    exact ⟨fun h1 => typ_lr (blk_ne h1 hb), fun h1 => typ_sr (blk_ne h1 hb)⟩
theorem LentV.ext {v : Value} {L : List RelZ} (h : LentV lo w v L) (hk : Ext w w') : LentV lo w' v L := by
  obtain ⟨g, cap, rest, vs, h1, h2, h3, h4, h5, h6, h7, h8, h9⟩ := h
  exact ⟨g, cap, rest, vs, h1, h2, h3, h4.ext hk, h5, h6, h7, fun x hx => ⟨(h8 x hx).1.ext hk, (h8 x hx).2.1, Nat.le_trans (h8 x hx).2.2 hk.size⟩, h9⟩
end
theorem alloc_size1 (w : World) (o : Obj) : (w.alloc o).heap.size = w.heap.size + 1 := by show (w.heap.push o).size = _; simp
theorem typ_ls : 29 ≠ 9 := by decide
/-- The state of the inner loop. -/
def LentIn (w0 : World) (rows : List (List ByteArray)) (m : Nat) (lv kv : Value) (w : World) : Prop := ∃ k : Nat, k ≤ m ∧ kv = .int .i64 k ∧ Hid (Ext w0 w) ∧
  Hid (∃ ps : List RowP, rows.take k = ps.map Prod.snd ∧ Row w 29 1 lv k (rowVs ps) (New w0) ∧ (∀ p ∈ ps, LentRow w0.heap.size w.heap.size w p) ∧ ps.Pairwise fun p q => p.1.1 ≠ q.1.1)
/-- The state of the outer one. -/
def LentTo (w0 : World) (L : List RelZ) (n : Nat) (ov iv : Value) (w : World) : Prop := ∃ i : Nat, i ≤ n ∧ iv = .int .i64 i ∧ Hid (Ext w0 w) ∧
  Hid (∃ vs : List LentP, vs.length = i ∧ Row w 52 3 ov i (((L.take i).zip vs).flatMap lentCells) (New w0) ∧ (∀ x ∈ (L.take i).zip vs, LentAt w x ∧ w0.heap.size ≤ x.2.2.2.1 ∧ x.2.2.2.2 ≤ w.heap.size) ∧ ((L.take i).zip vs).Pairwise fun x y => x.2.2.2.2 ≤ y.2.2.2.1)

set_option maxRecDepth 100000 in
set_option maxHeartbeats 4000000 in
theorem lentList_any (L : List RelZ) (ao : Option Addr) (n cap : Nat) (w : World) (S0 : Nat → Prop) (hn : n = L.length) (hL : RelsIn S0 w ao L) (hl : n ≤ 1048576) (hr : ∀ q ∈ L, q.2.2.1.length ≤ 1048576) :
    Calls Tryz.prog 23 #[.slice ao n cap] w (RetN w fun w' v => LentV w.heap.size w' v L) := by
  have HN := Lib.hid hn
  have HL := Lib.hid hL
  have HR := Lib.hid hr
  clear hn hL hr
  go_enter Tryz.func23, Tryz.ntmps23
  go_wp2
  go_loopw [3, 4] (fun ov iv wr => LentTo w L n ov iv wr) (fun _ iv _ => n - (intOf iv).toNat)
  case atStart => exact ⟨0, Nat.zero_le _, rfl, Kp.refl _, [], rfl, Row.nil _ _ _ _, fun x hx => by simp at hx, by simp⟩
  case round =>
    obtain ⟨i, hi, rfl, hex, hin⟩ := hrel
    by_cases hlt : i < n
    · obtain ⟨q, hq⟩ : ∃ q, L[i]? = some q := ⟨_, List.getElem?_eq_getElem (by rw [← HN.out]; exact hlt)⟩
      obtain ⟨b, off, ra, rcap, eao, hSb, c0, c1, c2, hrl, hrm, hrows⟩ := HL.out i q hq
      subst eao
      replace c0 := hex.out.cell c0 id
      replace c1 := hex.out.cell c1 id
      replace c2 := hex.out.cell c2 id
      obtain ⟨s, es⟩ : ∃ s, q.1 = s := ⟨_, rfl⟩
      obtain ⟨a, ea⟩ : ∃ a, q.2.1 = a := ⟨_, rfl⟩
      obtain ⟨LL, eLL⟩ : ∃ LL, q.2.2.1 = LL := ⟨_, rfl⟩
      obtain ⟨m, em⟩ : ∃ m, LL.length = m := ⟨_, rfl⟩
      rw [es] at c0
      rw [ea] at c1
      rw [eLL] at c2 hrl hrows
      rw [em] at c2 hrl
      have hm1 : m ≤ 1048576 := by rw [← em, ← eLL]; exact HR.out q (List.mem_of_getElem? hq)
      have HQ := Lib.hid (And.intro hq (And.intro es (And.intro ea (And.intro eLL em))))
      have HRows := Lib.hid hrows
      have HCells := Lib.hid (And.intro c0 (And.intro c1 c2))
      obtain ⟨vs, hvs, horow, hods, hopw⟩ := hin.out
      obtain ⟨pa, pc, epv, _, _⟩ := horow.shape
      subst epv
      have HOut := Lib.hid (And.intro hvs (And.intro horow (And.intro hods hopw)))
      clear hq es ea eLL em hrows hSb c0 c1 hin hvs horow hods hopw
      go_wp2
      generalize hw1 : wr = w1 at *; clear hw1
      go_loopw [5, 6] (fun lv kv wk => LentIn w1 LL m lv kv wk) (fun _ kv _ => m - (intOf kv).toNat)
      case atStart => exact ⟨0, Nat.zero_le _, rfl, Kp.refl _, [], rfl, Row.nil _ _ _ _, fun x hx => by simp at hx, List.Pairwise.nil⟩
      case round =>
        obtain ⟨k, hk, rfl, hex2, hin2⟩ := hrel
        obtain ⟨ps, hps, hrow, hlent, hpw⟩ := hin2.out
        obtain ⟨oa, oc, eov, _, _⟩ := hrow.shape
        subst eov
        have HIN := Lib.hid (And.intro hps (And.intro hrow (And.intro hlent hpw)))
        have d0 := hex2.out.cell HCells.out.1 id
        have d1 := hex2.out.cell HCells.out.2.1 id
        have d2 := hex2.out.cell HCells.out.2.2 id
        clear hin2 hps hrow hlent hpw c2
        by_cases hlt2 : k < m
        · obtain ⟨ss, hss⟩ : ∃ ss, LL[k]? = some ss := ⟨_, List.getElem?_eq_getElem (by rw [HQ.out.2.2.2.2]; exact hlt2)⟩
          obtain ⟨g, o, xa, xcap, era, e0, e1, e2, e3⟩ := HRows.out.get hss
          subst era
          replace e0 := (hex.out.trans hex2.out).cell e0 id
          have HSS := Lib.hid hss
          have HLent := Lib.hid (lent_any ss xa xcap wr (e1.ext (hex.out.trans hex2.out)) e2)
          have HE2 := Lib.hid e2
          clear hss e1 e2 e3
          go_wp2_with fail
          refine HLent.out.mono ?_
          rintro e w3 ⟨v, rfl, hk3, g3, cap3, rest3, rfl, hg3, hB3, hl3, hm3⟩
          have HX3 := Lib.hid (And.intro hk3 (And.intro hg3 (And.intro hB3 (And.intro hl3 hm3))))
          clear hk3 hg3 hB3 hl3 hm3 d0 d1 d2 e0
          go_wp2_with (first | (at_builtin; refine Halted.out ?_))
          refine Halted.mk (wp_appN elemRow rfl _ _ rfl ((hex2.out.trans HX3.out.1).alloc _) rfl ((HIN.out.2.1.ext HX3.out.1).alloc _) rfl (CellsAt.one w3 _ _) rfl (by simp; rfl) (by omega) (by unfold maxLen; omega) ?_)
          intro v4 w4 hr4 hk4 hkk _
          have HFin := Lib.hid (show Ext w1 w4 ∧ (∃ ps : List RowP, LL.take (k + 1) = ps.map Prod.snd ∧ Row w4 29 1 v4 (k + 1) (rowVs ps) (New w1) ∧ (∀ p ∈ ps, LentRow w1.heap.size w4.heap.size w4 p) ∧ ps.Pairwise fun p q => p.1.1 ≠ q.1.1) by
            refine ⟨hk4, ps ++ [((some ⟨g3, 0, none⟩, ss.length, cap3), ss)], ?_, ?_, ?_, ?_⟩
            · rw [takeSnoc HSS.out, List.map_append, HIN.out.1]; rfl
            · rw [rowVs_append]; exact hr4
            · have hx := HX3.out
              have hsz := hex2.out.size
              have hsz3 := hx.1.size
              have hsz4 := hkk.size
              have hal : w3.heap.size < (w3.alloc (.cells #[.slice (some ⟨g3, 0, none⟩) ss.length cap3] 29)).heap.size := by rw [alloc_size1]; omega
              have hrw := (HIN.out.2.1.ext hx.1).alloc (.cells #[.slice (some ⟨g3, 0, none⟩) ss.length cap3] 29)
              have hkp : ∀ p lo hi, LentRow lo hi w3 p → LentRow lo hi w4 p := fun p lo hi hp =>
                (hp.ext ((Kp.refl w3).alloc _)).kpt hkk fun g cs hg hb => by
                  obtain ⟨cs', hb', _⟩ := hrw.has hg
                  exact typ_ls (blk_ne hb' hb)
              intro p hp
              rcases List.mem_append.1 hp with hp | hp
              · exact hkp p _ _ ((HIN.out.2.2.1 p hp).ext hx.1 |>.widen (by omega))
              · have e : p = ((some ⟨g3, 0, none⟩, ss.length, cap3), ss) := by simpa using hp
                subst e
                exact hkp _ _ _ ⟨g3, cap3, rest3, rfl, by omega, by have := hx.2.2.1.lt; omega, hx.2.2.1, hx.2.2.2.1, hx.2.2.2.2, HE2.out⟩
            · refine List.pairwise_append.2 ⟨HIN.out.2.2.2, by simp, fun p hp q hq e => ?_⟩
              have e2 : q = ((some ⟨g3, 0, none⟩, ss.length, cap3), ss) := by simpa using hq
              subst e2
              obtain ⟨g, cap, rest, h1, h2, h3, _⟩ := HIN.out.2.2.1 p hp
              rw [h1] at e
              have e3 : g = g3 := by injection e with e; injection e
              have := HX3.out.2.1
              omega)
          clear hr4 hk4 hkk HX3 HIN HLent
          go_wp2
          go_roundw
          case rel => exact ⟨k + 1, by omega, by first | rfl | (congr 1; done) | (congr 1; omega), Lib.hid HFin.out.1, Lib.hid HFin.out.2⟩
          case measure => simp [intOf]; omega
        · obtain rfl : k = m := by omega
          go_wp2_with (first | (at_builtin; refine Halted.out ?_))
          refine Halted.mk (wp_appN elemRow rfl _ _ rfl ((hex2.out.alloc _).alloc _) rfl ((HIN.out.2.1.alloc _).alloc _) rfl (news := [.slice (some ⟨wr.heap.size, 0, none⟩) 1 1]) (by have h := CellsAt.one (wr.alloc (.cells #[.string mark3] 9)) (.slice (some ⟨wr.heap.size, 0, none⟩) 1 1) 29; rw [alloc_size1] at h; exact h) rfl (by intro u hu; rw [List.mem_singleton.1 hu]; rfl) (by omega) (by unfold maxLen; omega) ?_)
          intro v4 w4 hr4 hk4 hkk _
          have hmb := (Blk.new wr [.string mark3] 9).alloc (.cells #[.slice (some ⟨wr.heap.size, 0, none⟩) 1 1] 29)
          have hsA : wr.heap.size + 2 ≤ w4.heap.size := by have h := hkk.size; rw [alloc_size1, alloc_size1] at h; exact h
          have hrw := (HIN.out.2.1.alloc (.cells #[.string mark3] 9)).alloc (.cells #[.slice (some ⟨wr.heap.size, 0, none⟩) 1 1] 29)
          have hty : ∀ g cs, (Value.slice oa k oc).ownBlock = some g → ¬ Blk ((wr.alloc (.cells #[.string mark3] 9)).alloc (.cells #[.slice (some ⟨wr.heap.size, 0, none⟩) 1 1] 29)) g cs 9 := fun g cs hg hb => by
            obtain ⟨cs', hb', _⟩ := hrw.has hg
            exact typ_ls (blk_ne hb' hb)
          obtain ⟨_, ⟨_, h0⟩ | ⟨g4, cap4, rest4, rfl, hg4, hB4, hl4, hc4, hm4⟩⟩ := hr4
          · omega
          have HFin := Lib.hid (show LentRows w1.heap.size w4.heap.size w4 g4 cap4 LL by
            have hs1 := hex2.out.size
            refine ⟨ps, wr.heap.size, rest4, ?_, hg4, hB4.lt, ?_, ?_, hm4, hs1, by omega, hmb.kp hkk (hty _ _ · hmb), fun p hp => ?_, HIN.out.2.2.2⟩
            · rw [← HIN.out.1]; exact (List.take_of_length_le (by rw [HQ.out.2.2.2.2]; exact Nat.le_refl _)).symm
            · rw [List.append_assoc] at hB4; exact hB4
            · rw [HQ.out.2.2.2.2]
              have h1 : (rowVs ps).length = k := by have := HIN.out.2.1.1; omega
              simp only [List.length_append, List.length_cons, List.length_nil, h1] at hl4
              omega
            · exact (((HIN.out.2.2.1 p hp).ext (((Kp.refl wr).alloc _).alloc _)).kpt hkk hty).widen (by omega))
          have HK4 := Lib.hid hk4
          clear hkk hmb hsA hrw hty hg4 hB4 hl4 HIN
          replace d0 := HK4.out.cell HCells.out.1 id
          replace d1 := HK4.out.cell HCells.out.2.1 id
          replace d2 := HK4.out.cell HCells.out.2.2 id
          clear hk4
          have HC4 := Lib.hid (show ∀ w', Ext w4 w' → (fun w' : World => w'.cell? ⟨b, off + i * 3, none⟩ = some (.string s) ∧ w'.cell? ⟨b, off + i * 3 + 1, none⟩ = some (.int .i64 a) ∧ w'.cell? ⟨b, off + i * 3 + 2, none⟩ = some (.slice ra k rcap)) w' from fun w' hw => ⟨hw.cell d0 id, hw.cell d1 id, hw.cell d2 id⟩)
          have hkc : k ≤ cap4 := by omega
          clear d0 d1 d2 hex2 hlt2
          go_wp2
          refine draw_begin (fun w' : World => w'.cell? ⟨b, off + i * 3, none⟩ = some (.string s) ∧ w'.cell? ⟨b, off + i * 3 + 1, none⟩ = some (.int .i64 a) ∧ w'.cell? ⟨b, off + i * 3 + 2, none⟩ = some (.slice ra k rcap)) [21] (by kernel_rfl) (HC4.out _ (Kp.refl w4).drew) (fun hHeld => ?_)
          (refine draw_free (i := 0) (v := ?_) rfl ?_ ?_; rotate_left; (intro w; go_simp; try with_reducible rfl)); (try simp only [Act.put, List.setIfInBounds_toArray, List.set_cons_zero, List.set_cons_succ])
          (refine draw_free (i := 1) (v := ?_) rfl ?_ ?_; rotate_left; (intro w; go_simp; try with_reducible rfl)); (try simp only [Act.put, List.setIfInBounds_toArray, List.set_cons_zero, List.set_cons_succ])
          (refine draw_free (i := 2) (v := ?_) rfl ?_ ?_; rotate_left; (intro w; go_simp; try with_reducible rfl)); (try simp only [Act.put, List.setIfInBounds_toArray, List.set_cons_zero, List.set_cons_succ])
          (refine draw_in (i := 3) (v := ?_) rfl ?_ ?_; rotate_left; (intro w hSw; (try dsimp only at hSw); go_simp; try with_reducible rfl)); (try simp only [Act.put, List.setIfInBounds_toArray, List.set_cons_zero, List.set_cons_succ])
          (refine draw_free (i := 4) (v := ?_) rfl ?_ ?_; rotate_left; (intro w; go_simp; try with_reducible rfl)); (try simp only [Act.put, List.setIfInBounds_toArray, List.set_cons_zero, List.set_cons_succ])
          (refine draw_in (i := 5) (v := ?_) rfl ?_ ?_; rotate_left; (intro w hSw; (try dsimp only at hSw); go_simp; try with_reducible rfl)); (try simp only [Act.put, List.setIfInBounds_toArray, List.set_cons_zero, List.set_cons_succ])
          (refine draw_free (i := 6) (v := ?_) rfl ?_ ?_; rotate_left; (intro w; go_simp; try with_reducible rfl)); (try simp only [Act.put, List.setIfInBounds_toArray, List.set_cons_zero, List.set_cons_succ])
          (refine draw_free (i := 7) (v := ?_) rfl ?_ ?_; rotate_left; (intro w; go_simp; try with_reducible rfl)); (try simp only [Act.put, List.setIfInBounds_toArray, List.set_cons_zero, List.set_cons_succ])
          (refine draw_in (i := 8) (v := ?_) rfl ?_ ?_; rotate_left; (intro w hSw; (try dsimp only at hSw); go_simp; try with_reducible rfl)); (try simp only [Act.put, List.setIfInBounds_toArray, List.set_cons_zero, List.set_cons_succ])
          (refine draw_free (i := 9) (v := ?_) rfl ?_ ?_; rotate_left; (intro w; go_simp; try with_reducible rfl)); (try simp only [Act.put, List.setIfInBounds_toArray, List.set_cons_zero, List.set_cons_succ])
          (refine draw_in (i := 10) (v := ?_) rfl ?_ ?_; rotate_left; (intro w hSw; (try dsimp only at hSw); go_simp; try with_reducible rfl)); (try simp only [Act.put, List.setIfInBounds_toArray, List.set_cons_zero, List.set_cons_succ])
          (refine draw_free (i := 11) (v := ?_) rfl ?_ ?_; rotate_left; (intro w; go_simp; try with_reducible rfl)); (try simp only [Act.put, List.setIfInBounds_toArray, List.set_cons_zero, List.set_cons_succ])
          (refine draw_free (i := 12) (v := ?_) rfl ?_ ?_; rotate_left; (intro w; go_simp; try with_reducible rfl)); (try simp only [Act.put, List.setIfInBounds_toArray, List.set_cons_zero, List.set_cons_succ])
          (refine draw_free (i := 13) (v := ?_) rfl ?_ ?_; rotate_left; (intro w; go_simp; try with_reducible rfl)); (try simp only [Act.put, List.setIfInBounds_toArray, List.set_cons_zero, List.set_cons_succ])
          (refine draw_in (i := 14) (v := ?_) rfl ?_ ?_; rotate_left; (intro w hSw; (try dsimp only at hSw); go_simp; try with_reducible rfl)); (try simp only [Act.put, List.setIfInBounds_toArray, List.set_cons_zero, List.set_cons_succ])
          (refine draw_free (i := 15) (v := ?_) rfl ?_ ?_; rotate_left; (intro w; go_simp; try with_reducible rfl)); (try simp only [Act.put, List.setIfInBounds_toArray, List.set_cons_zero, List.set_cons_succ])
          (refine draw_in (i := 16) (v := ?_) rfl ?_ ?_; rotate_left; (intro w hSw; (try dsimp only at hSw); go_simp; try with_reducible rfl)); (try simp only [Act.put, List.setIfInBounds_toArray, List.set_cons_zero, List.set_cons_succ])
          (refine draw_in (i := 17) (v := ?_) rfl ?_ ?_; rotate_left; (intro w hSw; (try dsimp only at hSw); go_simp; try with_reducible rfl)); (try simp only [Act.put, List.setIfInBounds_toArray, List.set_cons_zero, List.set_cons_succ])
          (refine draw_in (i := 18) (v := ?_) rfl ?_ ?_; rotate_left; (intro w hSw; (try dsimp only at hSw); go_simp; try with_reducible rfl)); (try simp only [Act.put, List.setIfInBounds_toArray, List.set_cons_zero, List.set_cons_succ])
          (refine draw_free (i := 19) (v := ?_) rfl ?_ ?_; rotate_left; (intro w; go_simp; try with_reducible rfl)); (try simp only [Act.put, List.setIfInBounds_toArray, List.set_cons_zero, List.set_cons_succ])
          refine draw_one (i := 20) ?_
          refine comes_turn (i := 20) rfl (fun K hK => ?_)
          go_simp
          refine hK.out _ _ ?_ (fun hHeld => ?_)
          · (try dsimp only); (exact HC4.out _ ((Kp.refl w4).drew.alloc _))
          clear hK K; (try simp only [Act.put, List.setIfInBounds_toArray, List.set_cons_zero, List.set_cons_succ])
          refine draw_one (i := 21) ?_
          refine comes_late (i := 21) rfl (by kernel_rfl) (fun K hK => ?_)
          refine draw_appN elem_rel rfl _ _ rfl ((hex.out.trans HK4.out).drew.alloc _) rfl ((HOut.out.2.1.ext HK4.out).drew.alloc _) rfl (CellsAt.new w4.drew [.string s, .int .i64 a, .slice (some ⟨g4, 0, none⟩) k cap4] 52) (by rfl) (by simp [Value.oneCell']) (by omega) (by unfold maxLen; omega) ?_; intro v5 w5 hr5 hk5 hkk5
          refine hK.out _ _ ?_
          clear hK K; (try simp only [Act.put, List.setIfInBounds_toArray, List.set_cons_zero, List.set_cons_succ])
          (refine draw_free (i := 22) (v := ?_) rfl ?_ ?_; rotate_left; (intro w; go_simp; try with_reducible rfl)); (try simp only [Act.put, List.setIfInBounds_toArray, List.set_cons_zero, List.set_cons_succ])
          refine wpAnyD_done (by kernel_rfl) ?_ _
          have HFin2 := Lib.hid (show Ext w w5 ∧ (∃ vs : List LentP, vs.length = i + 1 ∧ Row w5 52 3 v5 (i + 1) (((L.take (i + 1)).zip vs).flatMap lentCells) (New w) ∧ (∀ x ∈ (L.take (i + 1)).zip vs, LentAt w5 x ∧ w.heap.size ≤ x.2.2.2.1 ∧ x.2.2.2.2 ≤ w5.heap.size) ∧ ((L.take (i + 1)).zip vs).Pairwise fun x y => x.2.2.2.2 ≤ y.2.2.2.1) by
            have hlen : (L.take i).length = vs.length := by rw [List.length_take, HOut.out.1]; have := HN.out; omega
            have et := takeSnoc HQ.out.1
            have hrA := (HOut.out.2.1.ext HK4.out).drew.alloc (.cells #[.string s, .int .i64 a, .slice (some ⟨g4, 0, none⟩) k cap4] 52)
            have hsz1 := hex.out.size
            have hsz4 := HK4.out.size
            have hsz5 : w4.heap.size ≤ w5.heap.size := by
              have h : (w4.alloc (.cells #[.string s, .int .i64 a, .slice (some ⟨g4, 0, none⟩) k cap4] 52)).heap.size ≤ w5.heap.size := hkk5.size
              rw [alloc_size1] at h
              omega
            have hmv : ∀ x, LentAt w4 x → LentAt w5 x := fun x hx => ((hx.ext (Kp.refl w4).drew).ext ((Kp.refl _).alloc _)).row hrA hkk5
            have e2 : ((L.take (i + 1)).zip (vs ++ [(g4, cap4, w1.heap.size, w4.heap.size)])) = (L.take i).zip vs ++ [(q, (g4, cap4, w1.heap.size, w4.heap.size))] := by
              rw [et, List.zip_append hlen]; rfl
            refine ⟨hk5, vs ++ [(g4, cap4, w1.heap.size, w4.heap.size)], by rw [List.length_append, HOut.out.1]; rfl, ?_, ?_, ?_⟩
            · rw [e2, List.flatMap_append]
              have e3 : [(q, (g4, cap4, w1.heap.size, w4.heap.size))].flatMap lentCells = [.string s, .int .i64 a, .slice (some ⟨g4, 0, none⟩) k cap4] := by
                show lentCells (q, (g4, cap4, w1.heap.size, w4.heap.size)) ++ [] = _
                rw [List.append_nil]
                show [Value.string q.1, .int .i64 q.2.1, .slice (some ⟨g4, 0, none⟩) q.2.2.1.length cap4] = _
                rw [HQ.out.2.1, HQ.out.2.2.1, HQ.out.2.2.2.1, HQ.out.2.2.2.2]
              rw [e3]; exact hr5
            · intro x hx
              rw [e2, List.mem_append] at hx
              rcases hx with hx | hx
              · obtain ⟨h1, h2, h3⟩ := HOut.out.2.2.1 x hx
                exact ⟨hmv x (h1.ext HK4.out), h2, by omega⟩
              · have hx' : x = (q, (g4, cap4, w1.heap.size, w4.heap.size)) := by simpa using hx
                subst hx'
                refine ⟨hmv _ ?_, hsz1, hsz5⟩
                show LentRows _ _ w4 g4 cap4 q.2.2.1
                rw [HQ.out.2.2.2.1]
                exact HFin.out
            · rw [e2]
              refine List.pairwise_append.2 ⟨HOut.out.2.2.2, by simp, fun x hx y hy => ?_⟩
              have hy' : y = (q, (g4, cap4, w1.heap.size, w4.heap.size)) := by simpa using hy
              subst hy'
              exact (HOut.out.2.2.1 x hx).2.2)
          clear hr5 hk5 hkk5 hHeld HC4 HFin HK4 HOut
          go_wp2
          go_roundw
          case rel => exact ⟨i + 1, by omega, by first | rfl | (congr 1; done) | (congr 1; omega), Lib.hid HFin2.out.1, Lib.hid HFin2.out.2⟩
          case measure => simp [intOf]; omega
    · obtain rfl : i = n := by omega
      obtain ⟨vs, hvs, horow, hods, hopw⟩ := hin.out
      have hall : L.take i = L := List.take_of_length_le (by have := HN.out; omega)
      rw [hall] at horow hods hopw
      obtain ⟨pa, pc, epv, _, _⟩ := horow.shape
      subst epv
      have HOut := Lib.hid (And.intro hvs (And.intro horow (And.intro hods hopw)))
      clear hin hvs horow hods hopw hall
      go_wp2_with (first | (at_builtin; refine Halted.out ?_))
      refine Halted.mk (wp_appN elem_rel rfl _ _ rfl (hex.out.alloc _) rfl (HOut.out.2.1.alloc _) rfl (news := [.string mark3, .int .i64 0, .slice none 0 0]) (CellsAt.new wr [.string mark3, .int .i64 0, .slice none 0 0] 52) rfl (by simp [Value.oneCell']) (by omega) (by unfold maxLen; omega) ?_)
      intro v5 w5 hr5 hk5 hkk5 _
      obtain ⟨_, ⟨_, h0⟩ | ⟨g4, cap4, rest4, rfl, hg4, hB4, hl4, hc4, hm4⟩⟩ := hr5
      · omega
      have HFin := Lib.hid (show Ext w w5 ∧ LentV w.heap.size w5 (.slice (some ⟨g4, 0, none⟩) i cap4) L by
        have hrA := HOut.out.2.1.alloc (.cells #[.string mark3, .int .i64 0, .slice none 0 0] 52)
        have hsz5 : wr.heap.size ≤ w5.heap.size := by
          have h := hkk5.size
          rw [alloc_size1] at h
          omega
        have hfl := flat_len lentCells 3 lentCells_len (L.zip vs)
        have hzl : (L.zip vs).length = i := by rw [List.length_zip, HOut.out.1, ← HN.out]; omega
        refine ⟨hk5, g4, cap4, rest4, vs, by rw [← HN.out], hg4, by rw [HOut.out.1, HN.out], ?_, ?_, by rw [← HN.out]; exact hc4, hm4, fun x hx => ?_, HOut.out.2.2.2⟩
        · rw [List.append_assoc] at hB4; exact hB4
        · simp only [List.length_append, List.length_cons, List.length_nil, hfl, hzl] at hl4
          rw [← HN.out]; omega
        · obtain ⟨h1, h2, h3⟩ := HOut.out.2.2.1 x hx
          exact ⟨(h1.ext ((Kp.refl wr).alloc _)).row hrA hkk5, h2, by omega⟩)
      have hkc : i ≤ cap4 := by omega
      clear hk5 hkk5 hg4 hB4 hl4 HOut
      go_wp2
      go_ret
      exact RetN.mk HFin.out.1 HFin.out.2
end Go.Proofs.YtfkhelihepbehaaGreat

/- The statements' helpers place, rows, relations. -/
namespace Go.Proofs.YtfkhelihepbehaaGreat
open Go.RowKit
set_option linter.unusedVariables false

theorem place_mod (x : Int) (n : Nat) (hn : 0 < n) : (if x.tmod n < 0 then x.tmod n + n else x.tmod n) = x % (n : Int) := by
  have h1 := Int.tmod_eq_emod (a := x) (b := n)
  have h3 := Int.emod_lt_of_pos x (show (0 : Int) < n by omega)
  have h4 := Int.emod_nonneg x (show (n : Int) ≠ 0 by omega)
  have h5 : (n : Int).natAbs = n := by omega
  rw [h5] at h1
  split at h1 <;> split <;> omega
/-- The place among n. -/
def placeN (x : Int) (n : Nat) : Nat := (x % (n : Int)).toNat
theorem placeN_lt (x : Int) (n : Nat) (hn : 0 < n) : placeN x n < n := by
  have h3 := Int.emod_lt_of_pos x (show (0 : Int) < n by omega)
  have h4 := Int.emod_nonneg x (show (n : Int) ≠ 0 by omega)
  unfold placeN; omega
theorem placeN_eq (x : Int) (n : Nat) (hn : 0 < n) : (placeN x n : Int) = if x.tmod n < 0 then x.tmod n + n else x.tmod n := by
  rw [place_mod x n hn]
  have h4 := Int.emod_nonneg x (show (n : Int) ≠ 0 by omega)
  unfold placeN; omega
theorem place_any (x : Int) (n : Nat) (hn : 0 < n) (hm : n ≤ 1099511627776) (w : World) :
    Calls Tryz.prog 28 #[.int .i64 x, .int .i64 n] w (Ret (.int .i64 (placeN x n : Nat)) w) := by
  have h0 : (n : Int) ≠ 0 := by omega
  have HP := Lib.hid (placeN_eq x n hn)
  have b1 : x.tmod n < n := Int.tmod_lt_of_pos x (by omega)
  have b2 : -(n : Int) < x.tmod n := by
    have h1 := Int.tmod_eq_emod (a := x) (b := n)
    have h3 := Int.emod_lt_of_pos x (show (0 : Int) < n by omega)
    have h4 := Int.emod_nonneg x (show (n : Int) ≠ 0 by omega)
    have h5 : (n : Int).natAbs = n := by omega
    rw [h5] at h1
    split at h1 <;> omega
  have e1 : wrap64 (x.tmod n) = x.tmod n := by unfold wrap64; omega
  by_cases hk : x.tmod n < 0
  · have e2 : wrap64 (x.tmod n + n) = x.tmod n + n := by unfold wrap64; omega
    have E := Lib.hid (And.intro e1 e2); clear e1 e2
    go_enter Tryz.func28, Tryz.ntmps28
    go_wp2
    go_ret
    exact Ret.mk (by rw [HP.out, if_pos hk]; first | rfl | simp [E.out.1, E.out.2])
  · have E := Lib.hid e1; clear e1
    go_enter Tryz.func28, Tryz.ntmps28
    go_wp2
    go_ret
    exact Ret.mk (by rw [HP.out, if_neg (by omega)]; rfl)
set_option maxRecDepth 100000 in
set_option maxHeartbeats 1000000 in
/-- The same rows. -/
theorem rows_yes {w : World} {LL : List (List ByteArray)} {S1 S2 : Nat → Prop} (ao1 ao2 : Option Addr) (N cap1 cap2 : Nat) (hN : N = LL.length) (h1 : RowsIn S1 w ao1 LL) (h2 : RowsIn S2 w ao2 LL) (hl : N ≤ 1048576 * 1048576) :
    Calls Tryz.prog 62 #[.slice ao1 N cap1, .slice ao2 N cap2] w (RetN w fun w' v => v = .bool true) := by
  have HR := Lib.hid (And.intro h1 h2)
  have EN := Lib.hid hN
  clear h1 h2 hN
  go_enter Tryz.func62, Tryz.ntmps62
  go_wp2
  go_loopw [5] (fun kv wr => ∃ i : Nat, i ≤ N ∧ kv = .int .i64 i ∧ True ∧ Ext w wr) (fun k _ => N - (intOf k).toNat)
  case atStart => exact ⟨0, Nat.zero_le _, rfl, trivial, Kp.refl _⟩
  case round =>
    obtain ⟨i, hi, rfl, _, hex⟩ := hrel
    by_cases hlt : i < N
    · obtain ⟨y, hy⟩ : ∃ y, LL[i]? = some y := ⟨_, List.getElem?_eq_getElem (by have := EN.out; omega)⟩
      obtain ⟨g1, o1, x1, xc1, e1, c3, q1, l1, _⟩ := (HR.out.1.ext hex).get hy
      obtain ⟨g2, o2, x2, xc2, e2, c4, q2, l2, _⟩ := (HR.out.2.ext hex).get hy
      subst e1 e2
      have HCM := Lib.hid (fun W (hW : Ext wr W) => same_yes y x1 x2 xc1 xc2 W (q1.ext hW) (q2.ext hW) (by unfold maxLen; omega))
      have i1 : (i : Int) < (N : Int) := by omega
      have i2 : (0 : Int) ≤ (i : Int) := by omega
      clear q1 q2 hy
      go_wp2
      go_region_held3 (fun w' => w'.cell? ⟨g1, o1 + i, none⟩ = some (.slice x1 y.length xc1) ∧ w'.cell? ⟨g2, o2 + i, none⟩ = some (.slice x2 y.length xc2)) (first | exact ⟨by assumption, by assumption⟩ | go_keep)
        (first | (go_at_call 78; (with_reducible refine (HCM.out _ ?_).mono ?_); exact (Kp.refl wr).drew; rintro e wc ⟨rfl, kc, rfl⟩; have c3 : (wr.drew.drewN kc).cell? ⟨g1, o1 + i, none⟩ = some (.slice x1 y.length xc1) := c3; have c4 : (wr.drew.drewN kc).cell? ⟨g2, o2 + i, none⟩ = some (.slice x2 y.length xc2) := c4))
      all_goals
        go_wp2
        go_roundw
        case rel => exact ⟨i + 1, by omega, by first | rfl | (congr 1; done) | (congr 1; omega), trivial, hex.drewN (1 + kc)⟩
        case measure => simp [intOf]; omega
    · go_wp2
      go_ret
      exact RetN.mk hex rfl

set_option maxRecDepth 100000 in
set_option maxHeartbeats 4000000 in
/-- The same relations. -/
theorem relations_yes {w : World} {L : List RelZ} {S1 S2 : Nat → Prop} (ao1 ao2 : Option Addr) (n cap1 cap2 : Nat) (hn : n = L.length) (h1 : RelsIn S1 w ao1 L) (h2 : RelsIn S2 w ao2 L) (hl : n ≤ 4194304) (hr : ∀ q ∈ L, q.2.2.1.length ≤ 1048576) :
    Calls Tryz.prog 27 #[.slice ao1 n cap1, .slice ao2 n cap2] w (RetN w fun w' v => v = .bool true) := by
  have HL := Lib.hid (And.intro hn (And.intro h1 (And.intro h2 hr)))
  clear hn h1 h2 hr
  go_enter Tryz.func27, Tryz.ntmps27
  go_wp2
  go_loopw [5] (fun kv wr => ∃ i : Nat, i ≤ n ∧ kv = .int .i64 i ∧ Hid (Ext w wr)) (fun k _ => n - (intOf k).toNat)
  case atStart => exact ⟨0, Nat.zero_le _, rfl, Lib.hid (Kp.refl _)⟩
  case round =>
    obtain ⟨i, hi, rfl, hex⟩ := hrel
    by_cases hlt : i < n
    · obtain ⟨q, hq⟩ : ∃ q, L[i]? = some q := ⟨_, List.getElem?_eq_getElem (by rw [← HL.out.1]; exact hlt)⟩
      obtain ⟨b1, o1, ra1, rc1, e1, _, c10, c11, c12, _, _, r1⟩ := HL.out.2.1 i q hq
      obtain ⟨b2, o2, ra2, rc2, e2, _, c20, c21, c22, _, _, r2⟩ := HL.out.2.2.1 i q hq
      subst e1 e2
      obtain ⟨s, es⟩ : ∃ s, q.1 = s := ⟨_, rfl⟩
      obtain ⟨a, ea⟩ : ∃ a, q.2.1 = a := ⟨_, rfl⟩
      obtain ⟨LL, eLL⟩ : ∃ LL, q.2.2.1 = LL := ⟨_, rfl⟩
      obtain ⟨m, em⟩ : ∃ m, LL.length = m := ⟨_, rfl⟩
      have hm1 : m ≤ 1048576 := by rw [← em, ← eLL]; exact HL.out.2.2.2 q (List.mem_of_getElem? hq)
      rw [es] at c10 c20
      rw [ea] at c11 c21
      rw [eLL] at c12 c22 r1 r2
      rw [em] at c12 c22
      have HC := Lib.hid (show ∀ w', Ext w w' → (fun w' : World => w'.cell? ⟨b1, o1 + i * 3, none⟩ = some (.string s) ∧ w'.cell? ⟨b1, o1 + i * 3 + 1, none⟩ = some (.int .i64 a) ∧ w'.cell? ⟨b1, o1 + i * 3 + 2, none⟩ = some (.slice ra1 m rc1) ∧
        w'.cell? ⟨b2, o2 + i * 3, none⟩ = some (.string s) ∧ w'.cell? ⟨b2, o2 + i * 3 + 1, none⟩ = some (.int .i64 a) ∧ w'.cell? ⟨b2, o2 + i * 3 + 2, none⟩ = some (.slice ra2 m rc2)) w' from fun w' hw => ⟨hw.cell c10 id, hw.cell c11 id, hw.cell c12 id, hw.cell c20 id, hw.cell c21 id, hw.cell c22 id⟩)
      have HRY := Lib.hid (fun w' (hw : Ext w w') => rows_yes ra1 ra2 m rc1 rc2 em.symm (r1.ext hw) (r2.ext hw) (by omega))
      clear hq es ea eLL em r1 r2 c10 c11 c12 c20 c21 c22
      go_wp2
      refine draw_begin (fun w' : World => w'.cell? ⟨b1, o1 + i * 3, none⟩ = some (.string s) ∧ w'.cell? ⟨b1, o1 + i * 3 + 1, none⟩ = some (.int .i64 a) ∧ w'.cell? ⟨b1, o1 + i * 3 + 2, none⟩ = some (.slice ra1 m rc1) ∧ w'.cell? ⟨b2, o2 + i * 3, none⟩ = some (.string s) ∧ w'.cell? ⟨b2, o2 + i * 3 + 1, none⟩ = some (.int .i64 a) ∧ w'.cell? ⟨b2, o2 + i * 3 + 2, none⟩ = some (.slice ra2 m rc2)) [] (by kernel_rfl) (HC.out _ hex.out.drew) (fun hHeld => ?_)
      (refine draw_free (i := 0) (v := ?_) rfl ?_ ?_; rotate_left; (intro w; go_simp; try with_reducible rfl)); (try simp only [Act.put, List.setIfInBounds_toArray, List.set_cons_zero, List.set_cons_succ])
      (refine draw_free (i := 1) (v := ?_) rfl ?_ ?_; rotate_left; (intro w; go_simp; try with_reducible rfl)); (try simp only [Act.put, List.setIfInBounds_toArray, List.set_cons_zero, List.set_cons_succ])
      (refine draw_in (i := 2) (v := ?_) rfl ?_ ?_; rotate_left; (intro w hSw; (try dsimp only at hSw); go_simp; try with_reducible rfl)); (try simp only [Act.put, List.setIfInBounds_toArray, List.set_cons_zero, List.set_cons_succ])
      (refine draw_free (i := 3) (v := ?_) rfl ?_ ?_; rotate_left; (intro w; go_simp; try with_reducible rfl)); (try simp only [Act.put, List.setIfInBounds_toArray, List.set_cons_zero, List.set_cons_succ])
      (refine draw_in (i := 4) (v := ?_) rfl ?_ ?_; rotate_left; (intro w hSw; (try dsimp only at hSw); go_simp; try with_reducible rfl)); (try simp only [Act.put, List.setIfInBounds_toArray, List.set_cons_zero, List.set_cons_succ])
      (refine draw_free (i := 5) (v := ?_) rfl ?_ ?_; rotate_left; (intro w; go_simp; try with_reducible rfl)); (try simp only [Act.put, List.setIfInBounds_toArray, List.set_cons_zero, List.set_cons_succ])
      (refine draw_free (i := 6) (v := ?_) rfl ?_ ?_; rotate_left; (intro w; go_simp; try with_reducible rfl)); (try simp only [Act.put, List.setIfInBounds_toArray, List.set_cons_zero, List.set_cons_succ])
      (refine draw_in (i := 7) (v := ?_) rfl ?_ ?_; rotate_left; (intro w hSw; (try dsimp only at hSw); go_simp; try with_reducible rfl)); (try simp only [Act.put, List.setIfInBounds_toArray, List.set_cons_zero, List.set_cons_succ])
      (refine draw_free (i := 8) (v := ?_) rfl ?_ ?_; rotate_left; (intro w; go_simp; try with_reducible rfl)); (try simp only [Act.put, List.setIfInBounds_toArray, List.set_cons_zero, List.set_cons_succ])
      (refine draw_in (i := 9) (v := ?_) rfl ?_ ?_; rotate_left; (intro w hSw; (try dsimp only at hSw); go_simp; try with_reducible rfl)); (try simp only [Act.put, List.setIfInBounds_toArray, List.set_cons_zero, List.set_cons_succ])
      (refine draw_free (i := 10) (v := ?_) rfl ?_ ?_; rotate_left; (intro w; go_simp; try with_reducible rfl)); (try simp only [Act.put, List.setIfInBounds_toArray, List.set_cons_zero, List.set_cons_succ])
      (refine draw_free (i := 11) (v := ?_) rfl ?_ ?_; rotate_left; (intro w; go_simp; try with_reducible rfl)); (try simp only [Act.put, List.setIfInBounds_toArray, List.set_cons_zero, List.set_cons_succ])
      (first | (refine draw_free (i := 12) (v := ?_) rfl ?_ ?_; rotate_left; (intro w; go_simp; try with_reducible rfl)) | (refine draw_out (i := 12) rfl ?_)); (try simp only [Act.put, List.setIfInBounds_toArray, List.set_cons_zero, List.set_cons_succ])
      (first | (refine draw_free (i := 13) (v := ?_) rfl ?_ ?_; rotate_left; (intro w; go_simp; try with_reducible rfl)) | (refine draw_out (i := 13) rfl ?_)); (try simp only [Act.put, List.setIfInBounds_toArray, List.set_cons_zero, List.set_cons_succ])
      (first | (refine draw_in (i := 14) (v := ?_) rfl ?_ ?_; rotate_left; (intro w hSw; (try dsimp only at hSw); go_simp; try with_reducible rfl)) | (refine draw_out (i := 14) rfl ?_)); (try simp only [Act.put, List.setIfInBounds_toArray, List.set_cons_zero, List.set_cons_succ])
      (first | (refine draw_free (i := 15) (v := ?_) rfl ?_ ?_; rotate_left; (intro w; go_simp; try with_reducible rfl)) | (refine draw_out (i := 15) rfl ?_)); (try simp only [Act.put, List.setIfInBounds_toArray, List.set_cons_zero, List.set_cons_succ])
      (first | (refine draw_in (i := 16) (v := ?_) rfl ?_ ?_; rotate_left; (intro w hSw; (try dsimp only at hSw); go_simp; try with_reducible rfl)) | (refine draw_out (i := 16) rfl ?_)); (try simp only [Act.put, List.setIfInBounds_toArray, List.set_cons_zero, List.set_cons_succ])
      (first | (refine draw_free (i := 17) (v := ?_) rfl ?_ ?_; rotate_left; (intro w; go_simp; try with_reducible rfl)) | (refine draw_out (i := 17) rfl ?_)); (try simp only [Act.put, List.setIfInBounds_toArray, List.set_cons_zero, List.set_cons_succ])
      (first | (refine draw_free (i := 18) (v := ?_) rfl ?_ ?_; rotate_left; (intro w; go_simp; try with_reducible rfl)) | (refine draw_out (i := 18) rfl ?_)); (try simp only [Act.put, List.setIfInBounds_toArray, List.set_cons_zero, List.set_cons_succ])
      (first | (refine draw_in (i := 19) (v := ?_) rfl ?_ ?_; rotate_left; (intro w hSw; (try dsimp only at hSw); go_simp; try with_reducible rfl)) | (refine draw_out (i := 19) rfl ?_)); (try simp only [Act.put, List.setIfInBounds_toArray, List.set_cons_zero, List.set_cons_succ])
      (first | (refine draw_free (i := 20) (v := ?_) rfl ?_ ?_; rotate_left; (intro w; go_simp; try with_reducible rfl)) | (refine draw_out (i := 20) rfl ?_)); (try simp only [Act.put, List.setIfInBounds_toArray, List.set_cons_zero, List.set_cons_succ])
      (first | (refine draw_in (i := 21) (v := ?_) rfl ?_ ?_; rotate_left; (intro w hSw; (try dsimp only at hSw); go_simp; try with_reducible rfl)) | (refine draw_out (i := 21) rfl ?_)); (try simp only [Act.put, List.setIfInBounds_toArray, List.set_cons_zero, List.set_cons_succ])
      (first | (refine draw_free (i := 22) (v := ?_) rfl ?_ ?_; rotate_left; (intro w; go_simp; try with_reducible rfl)) | (refine draw_out (i := 22) rfl ?_)); (try simp only [Act.put, List.setIfInBounds_toArray, List.set_cons_zero, List.set_cons_succ])
      (refine draw_free (i := 23) (v := ?_) rfl ?_ ?_; rotate_left; (intro w; go_simp; try with_reducible rfl)); (try simp only [Act.put, List.setIfInBounds_toArray, List.set_cons_zero, List.set_cons_succ])
      (refine draw_free (i := 24) (v := ?_) rfl ?_ ?_; rotate_left; (intro w; go_simp; try with_reducible rfl)); (try simp only [Act.put, List.setIfInBounds_toArray, List.set_cons_zero, List.set_cons_succ])
      (first | (refine draw_free (i := 25) (v := ?_) rfl ?_ ?_; rotate_left; (intro w; go_simp; try with_reducible rfl)) | (refine draw_out (i := 25) rfl ?_)); (try simp only [Act.put, List.setIfInBounds_toArray, List.set_cons_zero, List.set_cons_succ])
      (first | (refine draw_free (i := 26) (v := ?_) rfl ?_ ?_; rotate_left; (intro w; go_simp; try with_reducible rfl)) | (refine draw_out (i := 26) rfl ?_)); (try simp only [Act.put, List.setIfInBounds_toArray, List.set_cons_zero, List.set_cons_succ])
      (first | (refine draw_in (i := 27) (v := ?_) rfl ?_ ?_; rotate_left; (intro w hSw; (try dsimp only at hSw); go_simp; try with_reducible rfl)) | (refine draw_out (i := 27) rfl ?_)); (try simp only [Act.put, List.setIfInBounds_toArray, List.set_cons_zero, List.set_cons_succ])
      (first | (refine draw_free (i := 28) (v := ?_) rfl ?_ ?_; rotate_left; (intro w; go_simp; try with_reducible rfl)) | (refine draw_out (i := 28) rfl ?_)); (try simp only [Act.put, List.setIfInBounds_toArray, List.set_cons_zero, List.set_cons_succ])
      (first | (refine draw_in (i := 29) (v := ?_) rfl ?_ ?_; rotate_left; (intro w hSw; (try dsimp only at hSw); go_simp; try with_reducible rfl)) | (refine draw_out (i := 29) rfl ?_)); (try simp only [Act.put, List.setIfInBounds_toArray, List.set_cons_zero, List.set_cons_succ])
      (first | (refine draw_free (i := 30) (v := ?_) rfl ?_ ?_; rotate_left; (intro w; go_simp; try with_reducible rfl)) | (refine draw_out (i := 30) rfl ?_)); (try simp only [Act.put, List.setIfInBounds_toArray, List.set_cons_zero, List.set_cons_succ])
      (first | (refine draw_free (i := 31) (v := ?_) rfl ?_ ?_; rotate_left; (intro w; go_simp; try with_reducible rfl)) | (refine draw_out (i := 31) rfl ?_)); (try simp only [Act.put, List.setIfInBounds_toArray, List.set_cons_zero, List.set_cons_succ])
      (first | (refine draw_in (i := 32) (v := ?_) rfl ?_ ?_; rotate_left; (intro w hSw; (try dsimp only at hSw); go_simp; try with_reducible rfl)) | (refine draw_out (i := 32) rfl ?_)); (try simp only [Act.put, List.setIfInBounds_toArray, List.set_cons_zero, List.set_cons_succ])
      (first | (refine draw_free (i := 33) (v := ?_) rfl ?_ ?_; rotate_left; (intro w; go_simp; try with_reducible rfl)) | (refine draw_out (i := 33) rfl ?_)); (try simp only [Act.put, List.setIfInBounds_toArray, List.set_cons_zero, List.set_cons_succ])
      (first | (refine draw_in (i := 34) (v := ?_) rfl ?_ ?_; rotate_left; (intro w hSw; (try dsimp only at hSw); go_simp; try with_reducible rfl)) | (refine draw_out (i := 34) rfl ?_)); (try simp only [Act.put, List.setIfInBounds_toArray, List.set_cons_zero, List.set_cons_succ])
      refine draw_one (i := 35) ?_
      refine comes_turn (i := 35) rfl (fun K hK => ?_)
      go_simp
      (refine (HRY.out _ hex.out.drew).mono ?_; rintro e w5 ⟨v, rfl, hk3, rfl⟩; have X5 := Lib.hid (show Ext w w5 from hex.out.drew.trans hk3); clear hk3)
      go_wp2_with fail
      refine hK.out _ _ ?_ (fun hHeld => ?_)
      · (try dsimp only); (exact HC.out _ X5.out)
      clear hK K; (try simp only [Act.put, List.setIfInBounds_toArray, List.set_cons_zero, List.set_cons_succ])
      (first | (refine draw_free (i := 36) (v := ?_) rfl ?_ ?_; rotate_left; (intro w; go_simp; try with_reducible rfl)) | (refine draw_out (i := 36) rfl ?_)); (try simp only [Act.put, List.setIfInBounds_toArray, List.set_cons_zero, List.set_cons_succ])
      (refine draw_free (i := 37) (v := ?_) rfl ?_ ?_; rotate_left; (intro w; go_simp; try with_reducible rfl)); (try simp only [Act.put, List.setIfInBounds_toArray, List.set_cons_zero, List.set_cons_succ])
      refine wpAnyD_done (by kernel_rfl) ?_ _
      go_wp2
      go_roundw
      case rel => exact ⟨i + 1, by omega, by first | rfl | (congr 1; done) | (congr 1; omega), X5⟩
      case measure => simp [intOf]; omega
    · go_wp2
      go_ret
      exact RetN.mk hex.out rfl
end Go.Proofs.YtfkhelihepbehaaGreat

/- tuple.Base: Same: maps.EqualFunc over rows. -/
namespace Go.Proofs.YtfkhelihepbehaaGreat
open Go.RowKit Go.Maps
set_option linter.unusedVariables false

/-- Is one's rows what the other has under its name? -/
def matchE (E2 : List Ent) (e : Ent) : Bool := match findE E2 e.name with | some f => decide (e.ar = f.ar ∧ e.LL = f.LL) | none => false
def sameE (E1 E2 : List Ent) : Bool := decide (E1.length = E2.length) && E1.all (matchE E2)
abbrev OwnsD (w : World) (r n : Nat) (D : DataW Value) : Prop := w.ownsMap Tryz.prog 9 readV r n D
def EqTo (w0 : World) (E1 E2 : List Ent) (r it n : Nat) (D : DataW Value) (w : World) : Prop := ∃ left cnt, w.ranges Tryz.prog 9 readV r it n D left cnt ∧ Hid (Ext w0 w) ∧ Hid (∀ e ∈ E1, left (strL e.name) = false → matchE E2 e = true)
theorem base_owns {S : Nat → Prop} {w : World} {bb r : Nat} {E : List Ent} (h : BaseAt S w bb r E) (hl : E.length ≤ 1048576) : ∃ D, OwnsD w r E.length D ∧ MapD (entM E) D := by
  have hks : ∀ p ∈ entM E, p.1.size ≤ maxLen := fun p hp => by
    obtain ⟨e, he, rfl⟩ := List.mem_map.1 hp
    have h2 : 1 ≤ e.name.size ∧ e.name.size ≤ 4096 := of_decide_eq_true (h.ok.all _ (mem_cntE he)).name
    show e.name.size ≤ maxLen
    unfold maxLen; omega
  have hlen : (entM E).length = E.length := by simp [entM]
  obtain ⟨D, h1, h2⟩ := mapOwns h.map hks (by rw [hlen]; unfold maxLen; omega)
  rw [hlen] at h1
  exact ⟨D, h1, h2⟩
theorem Kp.of_grown {a c : World} (h : a.grownBy c none) : Ext a c := ⟨h.os, h.tape, h.output, h.size, fun k hk _ => h.block k hk (by simp)⟩
theorem Kp.of_row {a c : World} {row : Option Nat} (h : a.grownBy c row) : Kp (fun k => row = some k) a c := ⟨h.os, h.tape, h.output, h.size, fun k hk hf => h.block k hk fun e => hf e.symm⟩

theorem entSame_any {S : Nat → Prop} {w : World} {bb1 r1 bb2 r2 : Nat} {E1 E2 : List Ent} (h1 : BaseAt S w bb1 r1 E1) (h2 : BaseAt S w bb2 r2 E2) {e f : Ent} (he : e ∈ E1) (hf : f ∈ E2) (hap : ∀ k, e.own k → ¬ f.own k) :
    Calls Tryz.prog 61 #[e.ptr, f.ptr] w (RetN w fun w' v => v = .bool (decide (e.ar = f.ar ∧ e.LL = f.LL))) := by
  have q1 : RowsQ True S w e.b e.iv e.ar e.LL := (h1.rows e he).q
  have q2 : RowsQ True S w f.b f.iv f.ar f.LL := (h2.rows f hf).q
  have a1 := (h1.rows e he)
  have a2 := (h2.rows f hf)
  by_cases har : e.ar = f.ar
  · have r1 := (h1.rows e he).q (z := False)
    have r2 := (h2.rows f hf).q (z := False)
    rw [← har] at r2
    refine (rowsSame_q r1 r2 hap).mono ?_
    rintro e' w' ⟨v, rfl, hk, rfl, _, _⟩
    refine RetN.mk (hk.mono fun _ _ h => by rcases h with h | h <;> exact h.1) ?_
    rw [show decide (e.ar = f.ar ∧ e.LL = f.LL) = decide (e.LL = f.LL) by simp [har]]
  · refine (rowsSame_arity q1.ar q2.ar har).mono ?_
    rintro e' w' ⟨rfl, n, rfl⟩
    refine RetN.mk ((Kp.refl _).drewN n) ?_
    rw [decide_eq_false fun h => har h.1]
theorem Map.nodup_find {S : Nat → Prop} {w : World} {bb r : Nat} {E : List Ent} (h : BaseAt S w bb r E) {e : Ent} (he : e ∈ E) : findE E e.name = some e := by
  have hnd : (E.map Ent.name).Nodup := by
    have := h.ok.nodup
    unfold cntE at this
    rw [List.map_map] at this
    exact this
  clear h
  induction E with
  | nil => simp at he
  | cons a E ih =>
    rw [List.map_cons, List.nodup_cons] at hnd
    unfold findE
    rw [List.find?_cons]
    by_cases ha : a.name = e.name
    · rw [decide_eq_true ha]
      rcases List.mem_cons.1 he with rfl | he
      · rfl
      · exact absurd (List.mem_map.2 ⟨e, he, ha.symm⟩) hnd.1
    · rw [decide_eq_false ha]
      rcases List.mem_cons.1 he with rfl | he
      · exact absurd rfl ha
      · exact ih he hnd.2
set_option maxRecDepth 100000 in
set_option maxHeartbeats 4000000 in
theorem equalFunc_any {S : Nat → Prop} {w : World} {bb1 r1 bb2 r2 : Nat} {E1 E2 : List Ent} (h1 : BaseAt S w bb1 r1 E1) (h2 : BaseAt S w bb2 r2 E2) (hap : ∀ e ∈ E1, ∀ f ∈ E2, ∀ k, e.own k → ¬ f.own k) (hl1 : E1.length ≤ 1048576) (hl2 : E2.length ≤ 1048576) :
    Calls Tryz.prog 60 #[.map (some r1), .map (some r2), .func (.func 61) #[] #[]] w (RetN w fun w' v => v = .bool (sameE E1 E2)) := by
  obtain ⟨D1, o1, d1⟩ := base_owns h1 hl1
  obtain ⟨D2, o2, d2⟩ := base_owns h2 hl2
  have K := string_keyed (P := Tryz.prog) Tryz.underlying9
  obtain ⟨n1, en1⟩ : ∃ n, E1.length = n := ⟨_, rfl⟩
  obtain ⟨n2, en2⟩ : ∃ n, E2.length = n := ⟨_, rfl⟩
  have hs1 : Maps.size D1 = n1 := by rw [d1.size, ← en1]; simp [entM]
  have hs2 : Maps.size D2 = n2 := by rw [d2.size, ← en2]; simp [entM]
  have hlen1 := fun ty => o1.len (P := Tryz.prog) Tryz.underlying63 ty
  have hlen2 := fun ty => o2.len (P := Tryz.prog) Tryz.underlying63 ty
  rw [hs1] at hlen1
  rw [hs2] at hlen2
  rw [en1] at o1 hl1
  have H := Lib.hid (And.intro h1 (And.intro h2 hap))
  have HD := Lib.hid (And.intro d1 d2)
  have EN := Lib.hid (And.intro en1 en2)
  have hent : ∀ args w, (callFunc 61 args).run Tryz.prog w = .ok (.enter 61 args) w := enters_of Tryz.func61 (by kernel_rfl) rfl
  clear h1 h2 hap d1 d2 o2 en1 en2 hs1 hs2 hl2
  by_cases hne : n1 = n2
  · have q1 : ((n1 : Int) != (n2 : Int)) = false := by simp [hne]
    have HNE := Lib.hid hne
    clear hne
    go_enter Tryz.func60, Tryz.ntmps60
    go_wp2_with (at_range; refine wpList_range_own _ rfl _ 63 rfl 9 94 K Tryz.underlying63 _ r1 n1 D1 rfl o1 ?_; intro w0 hrg0 hg0 hs0)
    go_frame
    obtain ⟨it, eit⟩ : ∃ it, w.heap.size = it := ⟨_, rfl⟩
    have HX0 := Lib.hid (And.intro (show Ext w w0 from Kp.of_grown hg0) eit)
    have hEnt0 := Lib.hid (And.intro hg0 hs0)
    clear hg0 hs0
    rw [eit] at hrg0
    try rw [eit]
    go_loopw [] (fun wr => EqTo w E1 E2 r1 it n1 D1 wr) (fun wr => wr.rangeLeft r1 it)
    case atStart => exact ⟨_, _, hrg0, HX0.out.1, Lib.hid fun e he hl => by
      have := HD.out.1.has (e.name, e.ptr) (List.mem_map.2 ⟨e, he, rfl⟩)
      rw [show Maps.has D1 (strL e.name) = false from hl] at this
      cases this⟩
    case round =>
      obtain ⟨left, cnt, hrg, hex, hin⟩ := hrel
      have HIN := Lib.hid (And.intro hex.out hin.out)
      have HRG := Lib.hid hrg
      clear hex hin
      go_wp2_with (at_next; refine wpList_next_ranges _ rfl _ rfl 9 K readV Value.string id (fun key kl h => (keyV h).imp fun x h => h.1) (fun v y h => ⟨v, rfl⟩) r1 it n1 D1 left cnt rfl hrg ?_ ?_)
      · intro hc0 hl0
        have hall := Lib.hid (fun e he => HIN.out.2 e he (hl0 _))
        go_wp2
        go_ret
        refine RetN.mk HIN.out.1 ?_
        unfold sameE
        rw [decide_eq_true (by rw [EN.out.1, EN.out.2]; exact HNE.out), List.all_eq_true.2 hall.out]; rfl
      · intro x c kl y yl w1 cnt1 hkey hlk hv hat hrg1 hlt hgr hsz hen
        obtain rfl : kl = strL x := by
          obtain ⟨x', e1, e2⟩ := keyV hkey
          injection e1 with e1
          rw [e1]; exact e2
        obtain ⟨e0, he0, enx, rfl⟩ : ∃ e0 ∈ E1, e0.name = x ∧ c = e0.ptr := by
          obtain ⟨e0, h1, h2⟩ := List.mem_map.1 (HD.out.1.key x c fun zd => by
            rw [hat zd]
            have : some (DataW.held c, ([] : List MemPlace)) = some (y, yl) := hv
            injection this with this
            injection this with t1 t2
            exact t1.symm)
          exact ⟨e0, h1, congrArg Prod.fst h2, (congrArg Prod.snd h2).symm⟩
        have hk1 : Ext w w1 := HIN.out.1.trans' (Kp.of_row hgr) fun i hi e => by
          injection e with e
          have := HX0.out.2
          omega
        have hleft : ∀ e ∈ E1, (left (strL e.name) && !(strL e.name).sameKey (strL x)) = false → left (strL e.name) = false ∨ e = e0 := fun e he h => by
          rcases left_step h with h | h
          · exact .inl h
          · right
            have h1 := (Map.nodup_find H.out.1 he)
            have h2 := (Map.nodup_find H.out.1 he0)
            rw [h] at h1; rw [enx] at h2
            rw [h1] at h2; injection h2
        have HEN := Lib.hid (And.intro he0 (And.intro enx hleft))
        have HRG1 := Lib.hid (And.intro hrg1 (And.intro hlt hk1))
        have hlook : ∀ z, getM (entM E2) x = z → (Instr.lookup 63 (.map (some r2)) (.string x) true).run Tryz.prog w1 = .ok (.tuple #[z.getD (.pointer none), .bool z.isSome]) w1 := fun z hz => by
          rw [← hz]
          exact run_lookup_str_ok (P := Tryz.prog) Tryz.underlying63 Tryz.underlying9 (by rfl) (H.out.2.1.map.ext hk1) x
        rw [entM_get] at hlook
        clear he0 enx hleft hrg1 hlt hk1 hkey hlk hv hat hgr hsz hrg
        cases hf : findE E2 x with
        | none =>
          have hl := hlook none (by rw [hf]; rfl)
          have HF := Lib.hid hf
          clear hlook hf
          simp only [Option.getD_none, Option.isSome_none] at hl
          go_wp2_with fail
          go_ret
          refine RetN.mk HRG1.out.2.2 ?_
          have h1 : matchE E2 e0 = false := by unfold matchE; rw [HEN.out.2.1, HF.out]
          have h2 : sameE E1 E2 = false := by
            unfold sameE
            rw [List.all_eq_false.2 ⟨e0, HEN.out.1, by rw [h1]; simp⟩, Bool.and_false]
          rw [h2]; rfl
        | some f =>
          have hl := hlook (some f.ptr) (by rw [hf]; rfl)
          obtain ⟨hf2, hfn⟩ := findE_some hf
          have hmt : matchE E2 e0 = decide (e0.ar = f.ar ∧ e0.LL = f.LL) := by unfold matchE; rw [HEN.out.2.1, hf]
          have HF := Lib.hid (And.intro hf2 hmt)
          clear hlook hf hf2 hfn hmt
          simp only [Option.getD_some, Option.isSome_some] at hl
          go_wp2_with fail
          refine (entSame_any (H.out.1.ext HRG1.out.2.2) (H.out.2.1.ext HRG1.out.2.2) HEN.out.1 HF.out.1 (H.out.2.2 e0 HEN.out.1 f HF.out.1)).mono ?_
          rintro e w2 ⟨v, rfl, hk2, rfl⟩
          have hgr2 : w1.grownBy w2 none := ⟨hk2.os, hk2.tape, hk2.output, hk2.size, fun k hk _ => hk2.block k hk id⟩
          have hrg2 := HRG1.out.1.kept hgr2 (by simp) (by simp)
          have HRG2 := Lib.hid (And.intro hrg2 (HRG1.out.2.2.trans hk2))
          clear hk2 hgr2 hrg2 hl hen
          cases hv : decide (e0.ar = f.ar ∧ e0.LL = f.LL) with
          | false =>
            have HV := Lib.hid hv
            clear hv
            go_wp2_with fail
            go_ret
            refine RetN.mk HRG2.out.2 ?_
            have h1 : matchE E2 e0 = false := by rw [HF.out.2]; exact HV.out
            have h2 : sameE E1 E2 = false := by
              unfold sameE
              rw [List.all_eq_false.2 ⟨e0, HEN.out.1, by rw [h1]; simp⟩, Bool.and_false]
            rw [h2]; rfl
          | true =>
            have HV := Lib.hid hv
            clear hv
            go_wp2_with fail
            go_roundw
            case rel => exact ⟨_, _, HRG2.out.1, Lib.hid HRG2.out.2, Lib.hid fun e he hl => by
              rcases HEN.out.2.2 e he hl with h | rfl
              · exact HIN.out.2 e he h
              · rw [HF.out.2]; exact HV.out⟩
            case measure =>
              rw [HRG2.out.1.left_eq, HRG.out.left_eq]
              exact HRG1.out.2.1
  · have q1 : ((n1 : Int) != (n2 : Int)) = true := by rw [bne_iff_ne]; omega
    have HNE := Lib.hid hne
    clear hne
    go_enter Tryz.func60, Tryz.ntmps60
    go_wp2
    go_ret
    exact RetN.mk (Kp.refl _) (by unfold sameE; rw [decide_eq_false (by rw [EN.out.1, EN.out.2]; exact HNE.out)]; rfl)

set_option maxRecDepth 100000 in
set_option maxHeartbeats 4000000 in
theorem baseSame_any {S : Nat → Prop} {w : World} {bb1 r1 bb2 r2 : Nat} {E1 E2 : List Ent} (h1 : BaseAt S w bb1 r1 E1) (h2 : BaseAt S w bb2 r2 E2) (hap : ∀ e ∈ E1, ∀ f ∈ E2, ∀ k, e.own k → ¬ f.own k) (hl1 : E1.length ≤ 1048576) (hl2 : E2.length ≤ 1048576) :
    Calls Tryz.prog 26 #[.pointer (some ⟨bb1, 0, none⟩), .pointer (some ⟨bb2, 0, none⟩)] w (RetN w fun w' v => v = .bool (sameE E1 E2)) := by
  have c1 := h1.blk.cell 0 (by simp)
  have c2 := h2.blk.cell 0 (by simp)
  have HEQ := Lib.hid (equalFunc_any (h1.ext (Kp.refl w).drew) (h2.ext (Kp.refl w).drew) hap hl1 hl2)
  clear h1 h2 hap
  simp only [List.getElem_cons_zero] at c1 c2
  go_enter Tryz.func26, Tryz.ntmps26
  go_wp2
  refine draw_begin (fun w' : World => w'.cell? ⟨bb1, 0, none⟩ = some (.map (some r1)) ∧ w'.cell? ⟨bb2, 0, none⟩ = some (.map (some r2))) [] (by kernel_rfl) ⟨c1, c2⟩ (fun hHeld => ?_)
  (refine draw_free (i := 0) (v := ?_) rfl ?_ ?_; rotate_left; (intro w; go_simp; try with_reducible rfl)); (try simp only [Act.put, List.setIfInBounds_toArray, List.set_cons_zero, List.set_cons_succ])
  (refine draw_free (i := 1) (v := ?_) rfl ?_ ?_; rotate_left; (intro w; go_simp; try with_reducible rfl)); (try simp only [Act.put, List.setIfInBounds_toArray, List.set_cons_zero, List.set_cons_succ])
  (refine draw_free (i := 2) (v := ?_) rfl ?_ ?_; rotate_left; (intro w; go_simp; try with_reducible rfl)); (try simp only [Act.put, List.setIfInBounds_toArray, List.set_cons_zero, List.set_cons_succ])
  (first | (refine draw_free (i := 3) (v := ?_) rfl ?_ ?_; rotate_left; (intro w; go_simp; try with_reducible rfl)) | (refine draw_out (i := 3) rfl ?_)); (try simp only [Act.put, List.setIfInBounds_toArray, List.set_cons_zero, List.set_cons_succ])
  (first | (refine draw_free (i := 4) (v := ?_) rfl ?_ ?_; rotate_left; (intro w; go_simp; try with_reducible rfl)) | (refine draw_out (i := 4) rfl ?_)); (try simp only [Act.put, List.setIfInBounds_toArray, List.set_cons_zero, List.set_cons_succ])
  (refine draw_free (i := 5) (v := ?_) rfl ?_ ?_; rotate_left; (intro w; go_simp; try with_reducible rfl)); (try simp only [Act.put, List.setIfInBounds_toArray, List.set_cons_zero, List.set_cons_succ])
  (refine draw_free (i := 6) (v := ?_) rfl ?_ ?_; rotate_left; (intro w; go_simp; try with_reducible rfl)); (try simp only [Act.put, List.setIfInBounds_toArray, List.set_cons_zero, List.set_cons_succ])
  (first | (refine draw_free (i := 7) (v := ?_) rfl ?_ ?_; rotate_left; (intro w; go_simp; try with_reducible rfl)) | (refine draw_out (i := 7) rfl ?_)); (try simp only [Act.put, List.setIfInBounds_toArray, List.set_cons_zero, List.set_cons_succ])
  (first | (refine draw_free (i := 8) (v := ?_) rfl ?_ ?_; rotate_left; (intro w; go_simp; try with_reducible rfl)) | (refine draw_out (i := 8) rfl ?_)); (try simp only [Act.put, List.setIfInBounds_toArray, List.set_cons_zero, List.set_cons_succ])
  (first | (refine draw_free (i := 9) (v := ?_) rfl ?_ ?_; rotate_left; (intro w; go_simp; try with_reducible rfl)) | (refine draw_out (i := 9) rfl ?_)); (try simp only [Act.put, List.setIfInBounds_toArray, List.set_cons_zero, List.set_cons_succ])
  (first | (refine draw_in (i := 10) (v := ?_) rfl ?_ ?_; rotate_left; (intro w hSw; (try dsimp only at hSw); go_simp; try with_reducible rfl)) | (refine draw_out (i := 10) rfl ?_)); (try simp only [Act.put, List.setIfInBounds_toArray, List.set_cons_zero, List.set_cons_succ])
  (first | (refine draw_free (i := 11) (v := ?_) rfl ?_ ?_; rotate_left; (intro w; go_simp; try with_reducible rfl)) | (refine draw_out (i := 11) rfl ?_)); (try simp only [Act.put, List.setIfInBounds_toArray, List.set_cons_zero, List.set_cons_succ])
  (first | (refine draw_free (i := 12) (v := ?_) rfl ?_ ?_; rotate_left; (intro w; go_simp; try with_reducible rfl)) | (refine draw_out (i := 12) rfl ?_)); (try simp only [Act.put, List.setIfInBounds_toArray, List.set_cons_zero, List.set_cons_succ])
  (first | (refine draw_free (i := 13) (v := ?_) rfl ?_ ?_; rotate_left; (intro w; go_simp; try with_reducible rfl)) | (refine draw_out (i := 13) rfl ?_)); (try simp only [Act.put, List.setIfInBounds_toArray, List.set_cons_zero, List.set_cons_succ])
  (first | (refine draw_in (i := 14) (v := ?_) rfl ?_ ?_; rotate_left; (intro w hSw; (try dsimp only at hSw); go_simp; try with_reducible rfl)) | (refine draw_out (i := 14) rfl ?_)); (try simp only [Act.put, List.setIfInBounds_toArray, List.set_cons_zero, List.set_cons_succ])
  refine draw_one (i := 15) ?_
  refine comes_turn (i := 15) rfl (fun K hK => ?_)
  go_simp
  (refine HEQ.out.mono ?_; rintro e w5 ⟨v, rfl, hk3, rfl⟩; have X5 := Lib.hid (show Ext w w5 from ((Kp.refl w).drew).trans hk3); clear hk3)
  go_wp2_with fail
  refine hK.out _ _ ?_ (fun hHeld => ?_)
  · (try dsimp only); (exact ⟨X5.out.cell c1 id, X5.out.cell c2 id⟩)
  clear hK K; (try simp only [Act.put, List.setIfInBounds_toArray, List.set_cons_zero, List.set_cons_succ])
  (refine draw_free (i := 16) (v := ?_) rfl ?_ ?_; rotate_left; (intro w; go_simp; try with_reducible rfl)); (try simp only [Act.put, List.setIfInBounds_toArray, List.set_cons_zero, List.set_cons_succ])
  (refine draw_free (i := 17) (v := ?_) rfl ?_ ?_; rotate_left; (intro w; go_simp; try with_reducible rfl)); (try simp only [Act.put, List.setIfInBounds_toArray, List.set_cons_zero, List.set_cons_succ])
  refine wpAnyD_done (by kernel_rfl) ?_ _
  go_wp2
  go_ret
  exact RetN.mk X5.out rfl
end Go.Proofs.YtfkhelihepbehaaGreat

/- Relations of one's own in turned order, their rows too: what they make. No program in sight but for its types. -/
namespace Go.Proofs.YtfkhelihepbehaaGreat
open Go.RowKit
set_option linter.unusedVariables false

/-- A store of several cells in a region that draws its order. -/
theorem draw_store {P : Program} {l : List Oper} {a : Act} {w : World} {Q : Exit → Act → World → Prop} {o : Oper} {K : Act → World → Prop} {El : Prop} (hgd : o.guard = none) (ty : TypeId) (x y : Operand) (ho : o.op = .store ty x y) (b off : Nat) (cells : Array Value)
    (hx : a.eval x = .pointer (some ⟨b, off, none⟩)) (hy : a.eval y = .agg cells) (ht : w.there b off cells.size) (hi : (P.info? ty).map (·.size) = some cells.size) (h1 : cells.all (·.oneCell') = true)
    (h : K (a.put o.dst undef) (w.setCells b off cells.toList)) : if Region.wanted o (yielded l.toArray a.tmps) = true then Oper.wp P o a w K Q else El := by
  have hw : Region.wanted o (yielded l.toArray a.tmps) = true := by simp [Region.wanted, hgd]
  rw [if_pos hw]
  exact wp_store_mid ty x y ho b off cells hx hy ht hi h1 h
theorem run_storeVar_1 {P : Program} (w : World) (b o : Nat) (ty : TypeId) (v : Value) (hv : v.cells = #[v]) (ht : w.there b o 1) (hi : (P.info? ty).map (·.size) = some 1) (h1 : v.oneCell' = true) :
    (storeVar ty ⟨b, o, none⟩ v).run P w = .ok () (w.setCells b o [v]) := by
  have := run_storeCells_cells (P := P) b o [v] 0 w (fun j hj => by simpa using (ht j (by simpa using hj)).1) (fun j hj => by simpa using (ht j (by simpa using hj)).2) (fun u hu => by rw [List.mem_singleton.1 hu]; exact h1)
  cases hq : P.info? ty with
  | none => simp [hq] at hi
  | some i =>
    have hs : 1 = i.size := by simp [hq] at hi; omega
    simp only [Nat.add_zero] at this
    simp [storeVar, sizeOf, typeInfo, hq, hv, ← hs, this]
/-- A store of one cell. -/
theorem draw_store1 {P : Program} {l : List Oper} {a : Act} {w : World} {Q : Exit → Act → World → Prop} {o : Oper} {K : Act → World → Prop} {El : Prop} (hgd : o.guard = none) (ty : TypeId) (x y : Operand) (ho : o.op = .store ty x y) (b off : Nat) (v : Value)
    (hx : a.eval x = .pointer (some ⟨b, off, none⟩)) (hy : a.eval y = v) (hv : v.cells = #[v]) (ht : w.there b off 1) (hi : (P.info? ty).map (·.size) = some 1) (h1 : v.oneCell' = true)
    (h : K (a.put o.dst undef) (w.setCells b off [v])) : if Region.wanted o (yielded l.toArray a.tmps) = true then Oper.wp P o a w K Q else El := by
  have hw : Region.wanted o (yielded l.toArray a.tmps) = true := by simp [Region.wanted, hgd]
  rw [if_pos hw]
  unfold Oper.wp execOp
  simp only [ho, hx, hy, Instr.storeAt, Instr.sureAddr, Sem.run_bind, Sem.run_pure, Result.andThen_ok, run_storeVar_1 w b off ty v hv ht hi h1]
  exact h
theorem Blk.there {w : World} {g : Nat} {cs : List Value} {e : TypeId} (h : Blk w g cs e) {o n : Nat} (hl : o + n ≤ cs.length) : w.there g o n := fun j hj => ⟨by rw [h.cell', List.getElem?_eq_getElem (by omega)]; rfl, h.free _⟩
theorem Blk.set3 {w : World} {g : Nat} {cs : List Value} {e : TypeId} (h : Blk w g cs e) (o : Nat) (a b c : Value) : Blk (w.setCells g o [a, b, c]) g (((cs.set o a).set (o + 1) b).set (o + 2) c) e := ((h.set o a).set (o + 1) b).set (o + 2) c
theorem kp_set3 (w : World) (g o : Nat) (a b c : Value) : Kp (fun k => k = g) w (w.setCells g o [a, b, c]) :=
  Kp.setCell (F := fun k => k = g) (p := ⟨g, o + 2, none⟩) (Kp.setCell (F := fun k => k = g) (p := ⟨g, o + 1, none⟩) (Kp.setCell (F := fun k => k = g) (p := ⟨g, o, none⟩) (Kp.refl w) (fun _ => rfl) a) (fun _ => rfl) b) (fun _ => rfl) c
theorem swap_perm {α : Type} {l : List α} {i j : Nat} {x y : α} (hi : l[i]? = some x) (hj : l[j]? = some y) : ((l.set i y).set j x).Perm l := by
  obtain ⟨h1, e1⟩ := List.getElem?_eq_some_iff.1 hi
  obtain ⟨h2, e2⟩ := List.getElem?_eq_some_iff.1 hj
  have h := Array.perm_iff_toList_perm.1 (Array.swap_perm (xs := l.toArray) (i := i) (j := j) (by simpa using h1) (by simpa using h2))
  simpa [Array.swap, e1, e2] using h
theorem list3 {α : Type} {l : List α} (h : l.length = 3) : ∃ p q r, l = [p, q, r] := by
  match l, h with
  | [p, q, r], _ => exact ⟨p, q, r, rfl⟩
theorem flat_set3 {α : Type} (f : α → List Value) (hk : ∀ x, (f x).length = 3) {a b c : Value} {x : α} (hx : f x = [a, b, c]) (rest : List Value) : ∀ (L : List α) (i : Nat), i < L.length →
    (((L.flatMap f ++ rest).set (i * 3) a).set (i * 3 + 1) b).set (i * 3 + 2) c = (L.set i x).flatMap f ++ rest
  | [], i, h => by simp at h
  | y :: L, 0, _ => by
    obtain ⟨p, q, r, e⟩ := list3 (hk y)
    simp [List.flatMap_cons, e, hx]
  | y :: L, i + 1, h => by
    obtain ⟨p, q, r, e⟩ := list3 (hk y)
    have ih := flat_set3 f hk hx rest L i (by simpa using h)
    have e1 : (i + 1) * 3 = i * 3 + 3 := by omega
    rw [e1]
    simp only [List.flatMap_cons, e, List.cons_append, List.nil_append, List.set_cons_succ]
    rw [← ih]
/-- Two relations exchanged. -/
theorem Blk.swap3 {α : Type} {w : World} {g : Nat} {M : List α} {f : α → List Value} {rest : List Value} {e : TypeId} (h : Blk w g (M.flatMap f ++ rest) e) (hk : ∀ x, (f x).length = 3) {k j : Nat} {x y : α} {x0 x1 x2 y0 y1 y2 : Value} (hx : M[k]? = some x) (hy : M[j]? = some y) (ex : f x = [x0, x1, x2]) (ey : f y = [y0, y1, y2]) :
    Blk ((w.setCells g (k * 3) [y0, y1, y2]).setCells g (j * 3) [x0, x1, x2]) g (((M.set k y).set j x).flatMap f ++ rest) e := by
  have h1 := (h.set3 (k * 3) y0 y1 y2)
  rw [flat_set3 f hk ey rest M k (List.getElem?_eq_some_iff.1 hx).1] at h1
  have h2 := (h1.set3 (j * 3) x0 x1 x2)
  rwa [flat_set3 f hk ex rest _ j (by rw [List.length_set]; exact (List.getElem?_eq_some_iff.1 hy).1)] at h2
theorem pair_inj {α β : Type} {f : α → β} : ∀ {l : List α}, (l.Pairwise fun x y => f x ≠ f y) → ∀ x ∈ l, ∀ y ∈ l, f x = f y → x = y
  | [], _, x, hx, _, _, _ => by simp at hx
  | a :: l, h, x, hx, y, hy, e => by
    obtain ⟨h1, h2⟩ := List.pairwise_cons.1 h
    rcases List.mem_cons.1 hx with hx1 | hx1
    · rcases List.mem_cons.1 hy with hy1 | hy1
      · rw [hx1, hy1]
      · exact absurd (by rw [← hx1]; exact e) (h1 y hy1)
    · rcases List.mem_cons.1 hy with hy1 | hy1
      · exact absurd (by rw [← hy1]; exact e.symm) (h1 x hx1)
      · exact pair_inj h2 x hx1 y hy1 e
theorem from_len {L : List RelZ} (h : (fromC [] L).2 = 0) : (fromC [] L).1.length ≤ L.length := by
  have ho := ok_from (L := L) ok_nil
  obtain ⟨_, _, _, r4⟩ := from_res ok_nil h
  have h1 := nodup_len (U := L.map (·.1)) ho.nodup fun s hs => by
    obtain ⟨v, hv⟩ : ∃ v, getC (fromC [] L).1 s = some v := by
      cases hg : getC (fromC [] L).1 s with
      | none => exact absurd hs (getC_none.1 hg)
      | some v => exact ⟨v, rfl⟩
    rcases r4 s v hv with ⟨u, hu⟩ | ⟨r, hr, e⟩
    · cases hu
    · exact List.mem_map.2 ⟨r, hr, e⟩
  rwa [List.length_map, List.length_map] at h1
theorem sameE_of {E1 E2 : List Ent} (h1 : BaseOk (cntE E1)) (h2 : BaseOk (cntE E2)) (h : SameC (cntE E1) (cntE E2)) : sameE E1 E2 = true := by
  have hl : E1.length = E2.length := by
    have a := (names_perm (cntE E1)).length_eq
    have b := (names_perm (cntE E2)).length_eq
    rw [names_same h1.nodup h2.nodup h] at a
    rw [a] at b
    simpa [cntE] using b
  unfold sameE
  rw [decide_eq_true hl, Bool.true_and, List.all_eq_true]
  intro e he
  have hg : getC (cntE E1) e.name = some (e.ar, e.LL) := (getC_mem h1.nodup).2 (mem_cntE he)
  rw [h e.name, cntE_get] at hg
  unfold matchE
  cases hf : findE E2 e.name with
  | none => rw [hf] at hg; cases hg
  | some f =>
    rw [hf] at hg
    have hg' : (f.ar, f.LL) = (e.ar, e.LL) := by simpa using hg
    injection hg' with h3 h4
    exact decide_eq_true ⟨h3.symm, h4.symm⟩
theorem sameC_len {C D : List CntZ} (h1 : BaseOk C) (h2 : BaseOk D) (h : SameC C D) : C.length = D.length := by
  have a := (names_perm C).length_eq
  have b := (names_perm D).length_eq
  rw [names_same h1.nodup h2.nodup h] at a
  rw [a] at b
  simpa using b
def sumL (Q : List RelZ) (i : Nat) : Nat := ((Q.take i).map fun r => r.2.2.1.length).sum
theorem sumL_step {Q : List RelZ} {i : Nat} {q : RelZ} (h : Q[i]? = some q) : sumL Q (i + 1) = sumL Q i + q.2.2.1.length := by
  unfold sumL
  rw [takeSnoc h, List.map_append, List.sum_append]; simp
theorem sumL_le {C : List CntZ} (hC : BaseOk C) (i : Nat) : sumL (relsC C) i ≤ totalC C := by
  rw [← rels_total hC]
  have h : ((relsC C).map fun r => r.2.2.1.length).sum = sumL (relsC C) i + (((relsC C).drop i).map fun r => r.2.2.1.length).sum := by
    unfold sumL
    rw [← List.sum_append, ← List.map_append, List.take_append_drop]
  omega
theorem sumL_all {C : List CntZ} (hC : BaseOk C) {m : Nat} (hm : (relsC C).length = m) : sumL (relsC C) m = totalC C := by
  rw [← rels_total hC]
  unfold sumL
  rw [List.take_of_length_le (by omega)]
theorem rels_len {C : List CntZ} : (relsC C).length = C.length := by
  unfold relsC
  rw [List.length_map, (names_perm C).length_eq, List.length_map]

/-- A relation's rows in whatever order, in memory of their own. -/
def BagAt (lo : Nat) (w : World) (x : RelZ × LentP) : Prop := ∃ (ps : List RowP) (rest : List Value), (ps.map Prod.snd).Perm x.1.2.2.1 ∧ lo ≤ x.2.1 ∧ Blk w x.2.1 (rowVs ps ++ rest) 29 ∧ ps.length ≤ x.2.2.1 ∧ x.2.2.1 ≤ maxLen ∧
  ∀ p ∈ ps, ∃ g cap rs, p.1 = (some ⟨g, 0, none⟩, p.2.length, cap) ∧ lo ≤ g ∧ Blk w g (strs p.2 ++ rs) 9 ∧ p.2.length ≤ 8796093021952 ∧ p.2.length ≤ cap
theorem LentRow.own {lo lo' hi : Nat} {w : World} {p : RowP} (h : LentRow lo hi w p) (hl : lo' ≤ lo) : ∃ g cap rs, p.1 = (some ⟨g, 0, none⟩, p.2.length, cap) ∧ lo' ≤ g ∧ Blk w g (strs p.2 ++ rs) 9 ∧ p.2.length ≤ 8796093021952 ∧ p.2.length ≤ cap := by
  obtain ⟨g, cap, rest, h1, h2, h3, h4, h5, h6, h7⟩ := h
  refine ⟨g, cap, .string mark1 :: .string mark2 :: rest, h1, Nat.le_trans hl h2, ?_, h7, by omega⟩
  rw [strs_snoc2, List.append_assoc] at h4
  exact h4
theorem LentAt.bag {lo : Nat} {w : World} {x : RelZ × LentP} (h : LentAt w x) (hl : lo ≤ x.2.2.2.1) : BagAt lo w x := by
  obtain ⟨ps, mg, rest, h1, h2, h3, h4, h5, h6, h7, h8, h9, h10, h11⟩ := h
  refine ⟨ps, _, by rw [h1], Nat.le_trans hl h2, h4, by have := congrArg List.length h1; rw [List.length_map] at this; omega, h6, fun p hp => (h10 p hp).own hl⟩
theorem LentAt.g {w : World} {x : RelZ × LentP} (h : LentAt w x) : x.2.2.2.1 ≤ x.2.1 ∧ x.2.1 < x.2.2.2.2 := by
  obtain ⟨ps, mg, rest, h1, h2, h3, _⟩ := h
  exact ⟨h2, h3⟩
theorem lentCells_one (M : List (RelZ × LentP)) : ∀ u ∈ M.flatMap lentCells, u.oneCell' = true := by
  intro u hu
  obtain ⟨x, hx, h⟩ := List.mem_flatMap.1 hu
  simp only [lentCells, List.mem_cons, List.not_mem_nil, or_false] at h
  rcases h with rfl | rfl | rfl <;> rfl
/-- Lent twice. -/
theorem mix_apart {w1 w2 : World} {Q : List RelZ} {vs1 vs2 : List LentP} {cut : Nat} (h1 : ∀ x ∈ Q.zip vs1, LentAt w1 x ∧ x.2.2.2.2 ≤ cut) (p1 : (Q.zip vs1).Pairwise fun x y => x.2.2.2.2 ≤ y.2.2.2.1) (h2 : ∀ x ∈ Q.zip vs2, LentAt w2 x ∧ cut ≤ x.2.2.2.1) (p2 : (Q.zip vs2).Pairwise fun x y => x.2.2.2.2 ≤ y.2.2.2.1) :
    (Q.zip vs1 ++ Q.zip vs2).Pairwise fun x y => x.2.1 ≠ y.2.1 := by
  refine List.pairwise_append.2 ⟨p1.imp_of_mem fun {x y} hx hy h e => ?_, p2.imp_of_mem fun {x y} hx hy h e => ?_, fun x hx y hy e => ?_⟩
  · have := (h1 x hx).1.g; have := (h1 y hy).1.g; omega
  · have := (h2 x hx).1.g; have := (h2 y hy).1.g; omega
  · have := (h1 x hx).1.g; have := (h1 x hx).2; have := (h2 y hy).1.g; have := (h2 y hy).2; omega
section
variable {F : Nat → Prop} {lo : Nat} {w w' : World} {x : RelZ × LentP}
theorem BagAt.kpt (h : BagAt lo w x) (hk : Kp F w w') (hF : ¬ F x.2.1) (hT : ∀ g cs, F g → ¬ Blk w g cs 9) : BagAt lo w' x := by
  obtain ⟨ps, rest, h1, h2, h3, h4, h5, h6⟩ := h
  exact ⟨ps, rest, h1, h2, h3.kp hk hF, h4, h5, fun p hp => by
    obtain ⟨g, cap, rs, e, q1, q2, q3⟩ := h6 p hp
    exact ⟨g, cap, rs, e, q1, q2.kp hk fun f => hT _ _ f q2, q3⟩⟩
theorem BagAt.ext (h : BagAt lo w x) (hk : Ext w w') : BagAt lo w' x := h.kpt hk id fun _ _ f => f.elim
theorem BagAt.reads (h : BagAt lo w x) {S : Nat → Prop} (hS : ∀ g, lo ≤ g → g < w.heap.size → S g) : ∃ LL : List (List ByteArray), LL.Perm x.1.2.2.1 ∧ RowsIn S w (some ⟨x.2.1, 0, none⟩) LL ∧ x.1.2.2.1.length = LL.length ∧ LL.length ≤ x.2.2.1 ∧ x.2.2.1 ≤ maxLen := by
  obtain ⟨ps, rest, h1, h2, h3, h4, h5, h6⟩ := h
  refine ⟨ps.map Prod.snd, h1, ⟨ps, rfl, CellsAt.pre h3, fun a e => by cases e; exact hS _ h2 h3.lt, fun p hp => ?_⟩, h1.length_eq.symm, by rw [List.length_map]; exact h4, h5⟩
  obtain ⟨g, cap, rs, e, q1, q2, q3, q4⟩ := h6 p hp
  rw [e]
  exact ⟨⟨rfl, CellsAt.pre q2⟩, q3, fun a e => by cases e; exact hS _ q1 q2.lt⟩
end
/-- Relations that were lent, turned. -/
def MixAt (lo : Nat) (M0 : List (RelZ × LentP)) (g : Nat) (w : World) : Prop := ∃ (M : List (RelZ × LentP)) (rest : List Value), M.Perm M0 ∧ Blk w g (M.flatMap lentCells ++ rest) 52 ∧ ∀ x ∈ M0, BagAt lo w x
theorem mix_cells {M : List (RelZ × LentP)} {g : Nat} {w : World} {rest : List Value} (hB : Blk w g (M.flatMap lentCells ++ rest) 52) {i : Nat} {x : RelZ × LentP} (hx : M[i]? = some x) :
    w.cell? ⟨g, i * 3, none⟩ = some (.string x.1.1) ∧ w.cell? ⟨g, i * 3 + 1, none⟩ = some (.int .i64 x.1.2.1) ∧ w.cell? ⟨g, i * 3 + 2, none⟩ = some (.slice (some ⟨x.2.1, 0, none⟩) x.1.2.2.1.length x.2.2.1) := by
  have hi := (List.getElem?_eq_some_iff.1 hx).1
  have hc : ∀ c v, c < 3 → (lentCells x)[c]? = some v → w.cell? ⟨g, i * 3 + c, none⟩ = some v := fun c v hc hv => by
    rw [hB.cell', List.getElem?_append_left (by rw [flat_len lentCells 3 lentCells_len]; have := Nat.mul_le_mul_right 3 hi; omega), flat_get lentCells 3 lentCells_len M i _ c hx hc]
    exact hv
  exact ⟨hc 0 _ (by omega) rfl, hc 1 _ (by omega) rfl, hc 2 _ (by omega) rfl⟩
/-- Two relations exchanged. -/
theorem MixAt.swap {lo : Nat} {M0 M : List (RelZ × LentP)} {g : Nat} {w w' : World} {rest : List Value} (hp : M.Perm M0) (hB : Blk w g (M.flatMap lentCells ++ rest) 52) (hb : ∀ x ∈ M0, BagAt lo w x) {k j : Nat} {x y : RelZ × LentP} (hx : M[k]? = some x) (hy : M[j]? = some y)
    (hw : w' = (w.setCells g (k * 3) (lentCells y)).setCells g (j * 3) (lentCells x)) :
    ((M.set k y).set j x).Perm M0 ∧ Blk w' g (((M.set k y).set j x).flatMap lentCells ++ rest) 52 ∧ (∀ x ∈ M0, BagAt lo w' x) ∧ Kp (fun k => k = g) w w' := by
  subst hw
  have hk := (kp_set3 w g (k * 3) (.string y.1.1) (.int .i64 y.1.2.1) (.slice (some ⟨y.2.1, 0, none⟩) y.1.2.2.1.length y.2.2.1)).trans (kp_set3 _ g (j * 3) (.string x.1.1) (.int .i64 x.1.2.1) (.slice (some ⟨x.2.1, 0, none⟩) x.1.2.2.1.length x.2.2.1))
  refine ⟨(swap_perm hx hy).trans hp, hB.swap3 lentCells_len hx hy rfl rfl, fun z hz => (hb z hz).kpt hk (fun e => ?_) (fun k cs e hc => ?_), hk⟩
  · obtain ⟨ps, rest, _, _, h3, _⟩ := hb z hz
    rw [e] at h3
    exact typ_lr (blk_ne h3 hB)
  · rw [e] at hc
    exact typ_sr (blk_ne hc hB)
/-- Two rows exchanged. -/
theorem MixAt.swapRows {lo : Nat} {M0 M : List (RelZ × LentP)} {g : Nat} {w w' : World} {rest : List Value} (hap : M0.Pairwise fun x y => x.2.1 ≠ y.2.1) (hp : M.Perm M0) (hB : Blk w g (M.flatMap lentCells ++ rest) 52) (hb : ∀ x ∈ M0, BagAt lo w x) {z : RelZ × LentP} (hz : z ∈ M0)
    {ps : List RowP} {rs : List Value} (h1 : (ps.map Prod.snd).Perm z.1.2.2.1) (h2 : lo ≤ z.2.1) (h3 : Blk w z.2.1 (rowVs ps ++ rs) 29) (h4 : ps.length ≤ z.2.2.1) (h5 : z.2.2.1 ≤ maxLen)
    (h6 : ∀ p ∈ ps, ∃ g cap rs, p.1 = (some ⟨g, 0, none⟩, p.2.length, cap) ∧ lo ≤ g ∧ Blk w g (strs p.2 ++ rs) 9 ∧ p.2.length ≤ 8796093021952 ∧ p.2.length ≤ cap) {p q : Nat} {x y : RowP} (hx : ps[p]? = some x) (hy : ps[q]? = some y)
    (hw : w' = (w.setCells z.2.1 p [.slice y.1.1 y.1.2.1 y.1.2.2]).setCells z.2.1 q [.slice x.1.1 x.1.2.1 x.1.2.2]) : MixAt lo M0 g w' ∧ Kp (fun k => k = z.2.1) w w' := by
  subst hw
  have hk : Kp (fun k => k = z.2.1) w ((w.setCells z.2.1 p [.slice y.1.1 y.1.2.1 y.1.2.2]).setCells z.2.1 q [.slice x.1.1 x.1.2.1 x.1.2.2]) :=
    Kp.setCell (F := fun k => k = z.2.1) (p := ⟨z.2.1, q, none⟩) (Kp.setCell (F := fun k => k = z.2.1) (p := ⟨z.2.1, p, none⟩) (Kp.refl w) (fun _ => rfl) _) (fun _ => rfl) _
  have hpl := (List.getElem?_eq_some_iff.1 hx).1
  have hql := (List.getElem?_eq_some_iff.1 hy).1
  refine ⟨⟨M, rest, hp, hB.kp hk fun e => typ_lr (blk_ne h3 (by rw [← e]; exact hB)), fun v hv => ?_⟩, hk⟩
  by_cases e : v.2.1 = z.2.1
  · have e2 := pair_inj (f := fun x : RelZ × LentP => x.2.1) hap v hv z hz e
    subst e2
    have hpm := swap_perm hx hy
    refine ⟨(ps.set p y).set q x, rs, (hpm.map Prod.snd).trans h1, h2, ?_, by rw [List.length_set, List.length_set]; exact h4, h5, fun r hr => ?_⟩
    · have hb2 : Blk _ v.2.1 _ 29 := (h3.set p (.slice y.1.1 y.1.2.1 y.1.2.2)).set q (.slice x.1.1 x.1.2.1 x.1.2.2)
      have e3 : rowVs ((ps.set p y).set q x) ++ rs = ((rowVs ps ++ rs).set p (.slice y.1.1 y.1.2.1 y.1.2.2)).set q (.slice x.1.1 x.1.2.1 x.1.2.2) := by
        rw [List.set_append_left _ _ (by rw [rowVs_len]; exact hpl), List.set_append_left _ _ (by rw [List.length_set, rowVs_len]; exact hql)]
        unfold rowVs
        rw [List.map_set, List.map_set]
      rw [e3]; exact hb2
    · obtain ⟨g', cap, rs', q1, q2, q3, q4⟩ := h6 r (hpm.mem_iff.1 hr)
      exact ⟨g', cap, rs', q1, q2, q3.kp hk fun e => typ_ls (blk_ne h3 (by rw [← e]; exact q3)), q4⟩
  · exact (hb v hv).kpt hk e fun k cs e hc => by
      rw [e] at hc
      exact typ_ls (blk_ne h3 hc)
/-- What they read as. -/
theorem mix_list {S : Nat → Prop} {w : World} : ∀ (M : List (RelZ × LentP)), (∀ x ∈ M, ∃ LL : List (List ByteArray), LL.Perm x.1.2.2.1 ∧ RowsIn S w (some ⟨x.2.1, 0, none⟩) LL ∧ x.1.2.2.1.length = LL.length ∧ LL.length ≤ x.2.2.1 ∧ x.2.2.1 ≤ maxLen) →
    ∃ Q : List RelZ, Q.length = M.length ∧ ∀ (i : Nat) (x : RelZ × LentP), M[i]? = some x → ∃ q : RelZ, Q[i]? = some q ∧ q.1 = x.1.1 ∧ q.2.1 = x.1.2.1 ∧ q.2.2.1.Perm x.1.2.2.1 ∧ RowsIn S w (some ⟨x.2.1, 0, none⟩) q.2.2.1 ∧ q.2.2.1.length ≤ x.2.2.1 ∧ x.2.2.1 ≤ maxLen
  | [], _ => ⟨[], rfl, fun i x h => by simp at h⟩
  | x :: M, h => by
    obtain ⟨Q, h1, h2⟩ := mix_list M fun y hy => h y (List.mem_cons_of_mem _ hy)
    obtain ⟨LL, l1, l2, l3, l4, l5⟩ := h x List.mem_cons_self
    refine ⟨(x.1.1, x.1.2.1, LL, ()) :: Q, by rw [List.length_cons, List.length_cons, h1], fun i y hy => ?_⟩
    cases i with
    | zero =>
      simp only [List.getElem?_cons_zero, Option.some.injEq] at hy
      subst hy
      exact ⟨_, rfl, rfl, rfl, l1, l2, l4, l5⟩
    | succ i => exact h2 i y (by simpa using hy)
theorem mix_reads {lo : Nat} {M : List (RelZ × LentP)} {g : Nat} {w : World} {rest : List Value} (hB : Blk w g (M.flatMap lentCells ++ rest) 52) (hg : lo ≤ g) (hb : ∀ x ∈ M, BagAt lo w x) :
    ∃ Q : List RelZ, Q.length = M.length ∧ RelsIn (fun k => lo ≤ k ∧ k < w.heap.size) w (some ⟨g, 0, none⟩) Q ∧ ∀ (i : Nat) (x : RelZ × LentP), M[i]? = some x → ∃ q : RelZ, Q[i]? = some q ∧ q.1 = x.1.1 ∧ q.2.1 = x.1.2.1 ∧ q.2.2.1.Perm x.1.2.2.1 := by
  obtain ⟨Q, h1, h2⟩ := mix_list (S := fun k => lo ≤ k ∧ k < w.heap.size) M fun x hx => (hb x hx).reads fun k h1 h2 => ⟨h1, h2⟩
  refine ⟨Q, h1, fun i q hq => ?_, fun i x hx => by obtain ⟨q, a, b, c, d, _⟩ := h2 i x hx; exact ⟨q, a, b, c, d⟩⟩
  have hi : i < M.length := by rw [← h1]; exact (List.getElem?_eq_some_iff.1 hq).1
  obtain ⟨q', a, b, c, d, e, f1, f2⟩ := h2 i _ (List.getElem?_eq_getElem hi)
  rw [hq] at a
  cases a
  have hc : ∀ c v, c < 3 → (lentCells M[i])[c]? = some v → w.cell? ⟨g, 0 + i * 3 + c, none⟩ = some v := fun c v hc hv => by
    rw [hB.cell', Nat.zero_add, List.getElem?_append_left (by rw [flat_len lentCells 3 lentCells_len]; have := Nat.mul_le_mul_right 3 hi; omega), flat_get lentCells 3 lentCells_len M i _ c (List.getElem?_eq_getElem hi) hc]
    exact hv
  exact ⟨g, 0, some ⟨M[i].2.1, 0, none⟩, M[i].2.2.1, rfl, ⟨hg, hB.lt⟩, hc 0 _ (by omega) (by rw [b]; rfl), hc 1 _ (by omega) (by rw [c]; rfl), hc 2 _ (by omega) (by rw [d.length_eq]; rfl), f1, f2, e⟩
/-- What they make is the base. -/
theorem mix_made {C : List CntZ} (hC : BaseOk C) {M : List (RelZ × LentP)} {Q : List RelZ} (hl : Q.length = M.length) (h1 : ∀ x ∈ M, x.1 ∈ relsC C) (h2 : ∀ r ∈ relsC C, ∃ x ∈ M, x.1 = r)
    (h : ∀ (i : Nat) (x : RelZ × LentP), M[i]? = some x → ∃ q : RelZ, Q[i]? = some q ∧ q.1 = x.1.1 ∧ q.2.1 = x.1.2.1 ∧ q.2.2.1.Perm x.1.2.2.1) : (fromC [] Q).2 = 0 ∧ SameC (fromC [] Q).1 C ∧ BaseOk (fromC [] Q).1 :=
  mix_ok hC (fun r hr => by
    obtain ⟨i, hi, e⟩ := List.getElem_of_mem hr
    obtain ⟨q, a, b, c, d⟩ := h i _ (List.getElem?_eq_getElem (by rw [← hl]; exact hi))
    rw [List.getElem?_eq_getElem hi, e] at a
    cases a
    obtain ⟨v, v1, v2, v3⟩ := rels_mem (h1 _ (List.getElem_mem (by rw [← hl]; exact hi)))
    exact ⟨v, by rw [b]; exact v1, by rw [c]; exact v2, fun x => by rw [d.mem_iff, v3]⟩) fun s v hv => by
    obtain ⟨r, hr, e⟩ := rels_has hv
    obtain ⟨x, hx, e2⟩ := h2 r hr
    obtain ⟨i, hi, e3⟩ := List.getElem_of_mem hx
    obtain ⟨q, a, b, _⟩ := h i x (by rw [List.getElem?_eq_getElem hi, e3])
    exact ⟨q, List.mem_of_getElem? a, by rw [b, e2, e]⟩
end Go.Proofs.YtfkhelihepbehaaGreat

/- Relations that came in: how they lie. -/
namespace Go.Proofs.YtfkhelihepbehaaGreat
open Go.ChangeShapes Go.WideShapes Go.ChangeAt Go.RowKit
set_option linter.unusedVariables false

noncomputable def shT : Shp Tryz.prog ByteArray := shStr 9 Tryz.underlying9 (by kernel_rfl)
noncomputable def shTs : Shp Tryz.prog (List ByteArray) := shSlice 29 shT Tryz.underlying29 (by kernel_rfl) (by decide)
noncomputable def shTss : Shp Tryz.prog (List (List ByteArray)) := shSlice 22 shTs Tryz.underlying22 (by kernel_rfl) (by decide)
noncomputable def shRel : Shp Tryz.prog RelZ := shStruct 52 (fdCons shT (fdCons (shInt 3 .i64 Tryz.underlying3 (by kernel_rfl)) (fdCons shTss fdNil))) (fs := _) Tryz.underlying52 ⟨_, _, rfl, rfl, rfl, _, _, rfl, rfl, rfl, _, _, rfl, rfl, rfl, rfl⟩ (by kernel_rfl)
noncomputable def shIn : Shp Tryz.prog Int := shInt 3 .i64 Tryz.underlying3 (by kernel_rfl)

theorem list_choose {α β : Type} {P : Nat → α → β → Prop} : ∀ (L : List α), (∀ i x, L[i]? = some x → ∃ y, P i x y) → ∃ ys : List β, ys.length = L.length ∧ ∀ (i : Nat) (x : α) (y : β), L[i]? = some x → ys[i]? = some y → P i x y := by
  intro L
  induction L generalizing P with
  | nil => exact fun _ => ⟨[], rfl, fun i x y h => by simp at h⟩
  | cons a L ih =>
    intro h
    obtain ⟨y0, h0⟩ := h 0 a rfl
    obtain ⟨ys, h1, h2⟩ := ih (P := fun i x y => P (i + 1) x y) fun i x hx => h (i + 1) x (by simpa using hx)
    refine ⟨y0 :: ys, by simp [h1], fun i x y hx hy => ?_⟩
    cases i with
    | zero => simp at hx hy; subst hx; subst hy; exact h0
    | succ i => exact h2 i x y (by simpa using hx) (by simpa using hy)
/-- Rows. -/
theorem elems_rows {w : World} {G : Nat → Prop} {ao : Option Addr} {LL : List (List ByteArray)} (h : ElemsAt shTs w G ao LL) (hl : ∀ ss ∈ LL, ss.length ≤ 8796093021952) : RowsIn (fun _ => True) w ao LL := by
  have h1 : ∀ (i : Nat) (ss : List ByteArray), LL[i]? = some ss → ∃ p : Option Addr × Nat × Nat, ∃ b off, ao = some ⟨b, off, none⟩ ∧ w.cell? ⟨b, off + i, none⟩ = some (.slice p.1 p.2.1 p.2.2) ∧ p.2.1 = ss.length ∧ CellsAt w p.1 (strs ss) := fun i ss hi => by
    obtain ⟨b, off, es, e, _, _, ⟨a1, c1, ee, hl, _, hc⟩, hcell⟩ := h i ss hi
    refine ⟨(a1, ss.length, c1), b, off, e, ?_, rfl, elems_strs (hu := Tryz.underlying9) (hc := by kernel_rfl) hc⟩
    have := hcell 0 (.slice a1 ss.length c1) (by rw [ee]; rfl)
    rw [show shTs.n = 1 from rfl, Nat.mul_one, Nat.add_zero] at this
    exact this
  obtain ⟨qs, hq, hP⟩ := list_choose LL h1
  have hz : ∀ p ∈ qs.zip LL, ReadsAs w p.1 p.2 ∧ p.2.length ≤ 8796093021952 ∧ ∀ a, p.1.1 = some a → True := fun p hp => by
    obtain ⟨i, hi, e⟩ := List.getElem_of_mem hp
    have h2 : (qs.zip LL)[i]? = some p := by rw [List.getElem?_eq_getElem hi, e]
    obtain ⟨h3, h4⟩ := List.getElem?_zip_eq_some.1 h2
    obtain ⟨b, off, _, _, h5, h6⟩ := hP i _ _ h4 h3
    exact ⟨⟨h5, h6⟩, hl _ (List.mem_of_getElem? h4), fun _ _ => trivial⟩
  refine ⟨qs.zip LL, ?_, fun i u hu => ?_, fun _ _ => trivial, hz⟩
  · rw [List.map_snd_zip (by omega)]
  · cases hp : (qs.zip LL)[i]? with
    | none => rw [show (rowVs (qs.zip LL))[i]? = ((qs.zip LL)[i]?).map _ from List.getElem?_map .., hp] at hu; cases hu
    | some p =>
      rw [rowVs_get _ _ _ hp] at hu
      cases hu
      obtain ⟨h3, h4⟩ := List.getElem?_zip_eq_some.1 hp
      obtain ⟨b, off, e, hc, _⟩ := hP i _ _ h4 h3
      exact ⟨b, off, e, hc⟩
/-- Relations. -/
theorem elems_rels {w : World} {G : Nat → Prop} {ao : Option Addr} {L : List RelZ} (h : ElemsAt shRel w G ao L) (hl : ∀ q ∈ L, ∀ ss ∈ q.2.2.1, ss.length ≤ 8796093021952) : RelsIn (fun _ => True) w ao L := fun i q hq => by
  obtain ⟨b, off, es, e, _, _, hat, hcell⟩ := h i q hq
  obtain ⟨x1, y1, e1, ⟨ex1, _⟩, x2, y2, e2, ⟨ex2, _⟩, x3, y3, e3, ⟨ra, rcap, ex3, r1, r2, r3⟩, e4⟩ := hat
  have e4' : y3 = [] := e4
  have ee : es = [.string q.1, .int .i64 q.2.1, .slice ra q.2.2.1.length rcap] := by
    rw [e1, ex1, e2, ex2, e3, ex3, e4']; rfl
  have hc : ∀ c u, es[c]? = some u → w.cell? ⟨b, off + i * 3 + c, none⟩ = some u := fun c u hu => by
    have := hcell c u hu
    rw [show shRel.n = 3 from rfl, ← Nat.add_assoc] at this
    exact this
  exact ⟨b, off, ra, rcap, e, trivial, hc 0 _ (by rw [ee]; rfl), hc 1 _ (by rw [ee]; rfl), hc 2 _ (by rw [ee]; rfl), r1, r2, elems_rows r3 (hl q (List.mem_of_getElem? hq))⟩
theorem elems_ints {w : World} {G : Nat → Prop} {ao : Option Addr} {zs : List Int} (h : ElemsAt shIn w G ao zs) : CellsAt w ao (ints zs) := fun i u hu => by
  simp only [ints, List.getElem?_map] at hu
  cases hx : zs[i]? with
  | none => rw [hx] at hu; cases hu
  | some x =>
    rw [hx] at hu
    cases hu
    obtain ⟨b, off, es, e, _, _, ⟨ee, _⟩, hcell⟩ := h i x hx
    refine ⟨b, off, e, ?_⟩
    have := hcell 0 (.int .i64 x) (by rw [ee]; rfl)
    rw [show shIn.n = 1 from rfl, Nat.mul_one, Nat.add_zero] at this
    exact this
theorem rel_bulk {L : List RelZ} {N : Nat} (h : bulkL shRel.bulk L ≤ N) : L.length ≤ N ∧ ∀ q ∈ L, q.2.2.1.length ≤ N ∧ ∀ ss ∈ q.2.2.1, ss.length ≤ N := by
  refine ⟨Nat.le_trans (bulkL_len shRel.bulk (fun x => by show 1 ≤ _ + 1; omega) L) h, fun q hq => ?_⟩
  have h1 : shRel.bulk q ≤ N := Nat.le_trans (bulkL_mem shRel.bulk hq) h
  have h2 : shT.bulk q.1 + (1 + ((bulkL shTs.bulk q.2.2.1 + 1) + 0)) + 1 ≤ N := h1
  have h3 := bulkL_len shTs.bulk (fun x => by show 1 ≤ _ + 1; omega) q.2.2.1
  refine ⟨by omega, fun ss hs => ?_⟩
  have h4 : shTs.bulk ss ≤ _ := bulkL_mem shTs.bulk hs
  have h5 : bulkL shT.bulk ss + 1 ≤ bulkL shTs.bulk q.2.2.1 := h4
  have h6 := bulkL_len shT.bulk (fun x => by show 1 ≤ _ + 1; omega) ss
  omega
end Go.Proofs.YtfkhelihepbehaaGreat

/- slices at int: swapRangeCmpFunc and rotateCmpFunc: what they do to a row of cells. -/
namespace Go.Proofs.YtfkhelihepbehaaGreat
open Go.RowKit
set_option linter.unusedVariables false

def valInt (z : Nat → Int) (i : Nat) : Value := (Value.int .i64 (z (i)))


set_option maxHeartbeats 1000000 in
theorem swapRangeInt_any (z : Nat → Int) (g n cap : Nat) (rest : List Value) (fv : Value) (w0 w : World) (hk0 : Kp (fun k => k = g) w0 w) (p X M Y q : List Nat) (hXY : X.length = Y.length)
    (hn : (p ++ X ++ M ++ Y ++ q).length = n) (hB : Blk w g ((p ++ X ++ M ++ Y ++ q).map (valInt z) ++ rest) 3) (hm : n ≤ 4611686018427387904) (a b m : Nat) (ea : a = p.length) (eb : b = (p.length + X.length + M.length : Nat)) (em : m = X.length) :
    Calls Tryz.prog 192 #[.slice (some ⟨g, 0, none⟩) n cap, .int .i64 a, .int .i64 b, .int .i64 m, fv] w
      (RetF (fun k => k = g) w0 fun w' v => v = .tuple #[] ∧ Blk w' g ((p ++ Y ++ M ++ X ++ q).map (valInt z) ++ rest) 3) := by
  simp only [List.length_append] at hn
  have b1 : a ≤ n := by omega
  have b2 : b + m ≤ n := by omega
  have b3 : a + m ≤ b := by omega
  have HX := Lib.hid hXY; clear hXY
  have HN := Lib.hid hn; clear hn
  have EA := Lib.hid ea; clear ea
  have EB := Lib.hid eb; clear eb
  have EM := Lib.hid em; clear em
  go_enter Tryz.func192, Tryz.ntmps192
  go_wp2
  go_loopw [10] (fun i wr => ∃ (k : Nat) (X1 X2 Y1 Y2 : List Nat), Hid (X = X1 ++ X2 ∧ Y = Y1 ++ Y2 ∧ X1.length = k ∧ Y1.length = k) ∧ k ≤ m ∧ i = .int .i64 k ∧ Kp (fun k => k = g) w0 wr ∧ Hid (Blk wr g ((p ++ Y1 ++ X2 ++ M ++ X1 ++ Y2 ++ q).map (valInt z) ++ rest) 3)) (fun i _ => m - (intOf i).toNat)
  case atStart => exact ⟨0, [], X, [], Y, ⟨rfl, rfl, rfl, rfl⟩, Nat.zero_le _, rfl, hk0, by show Blk _ _ _ _; simpa using hB⟩
  case round =>
    obtain ⟨k, X1, X2, Y1, Y2, HH, hkm, rfl, hkp, hb⟩ := hrel
    by_cases hlt : k < m
    · have key : ∃ x y X2' Y2', X2 = x :: X2' ∧ Y2 = y :: Y2' ∧ X2'.length + k + 1 = m := by
        obtain ⟨rfl, rfl, h3, h4⟩ := HH.out
        have h5 := EM.out; have h6 := HX.out
        simp only [List.length_append] at h5 h6
        cases X2 with
        | nil => simp at h5; omega
        | cons x X2 =>
          cases Y2 with
          | nil => simp at h6; simp at h5; omega
          | cons y Y2 => exact ⟨x, y, X2, Y2, rfl, rfl, by simp at h5; omega⟩
      obtain ⟨x, y, X2', Y2', rfl, rfl, hl2⟩ := key
      obtain ⟨s1, s2, c1, c2⟩ := swapCells (u := p ++ Y1) (v := X2' ++ M ++ X1) (t := Y2' ++ q) (x := x) (y := y) (i := a + k) (j := b + k) (by simpa using hb.out) (by
          have := EA.out; have := HH.out.2.2.2; simp; omega) (by
          have := EA.out; have := EB.out; have := EM.out; have := HH.out.2.2; simp; omega)
      have f1 := hb.out.free (a + k)
      have f2 := hb.out.free (b + k)
      have S1 := Lib.hid s1; have S2 := Lib.hid s2
      clear s1 s2
      unfold valInt at c1 c2
      have hne : ¬ (a + k = b + k) := by omega
      have hne' : ¬ (b + k = a + k) := by omega
      have HL2 := Lib.hid hl2; clear hl2
      obtain ⟨i1, i2, i3, i4⟩ := idx_facts (a := a) (b := k) (n := n) (by omega) hm
      obtain ⟨j1, j2, j3, j4⟩ := idx_facts (a := b) (b := k) (n := n) (by omega) hm
      go_wp2
      go_region
      clear i1 i2 i3 i4 j1 j2 j3 j4
      go_wp2
      go_roundw
      case rel =>
        refine ⟨k + 1, X1 ++ [x], X2', Y1 ++ [y], Y2', ⟨?_, ?_, ?_, ?_⟩, by omega, by go_num, ?_, ?_⟩
        · simpa using HH.out.1
        · simpa using HH.out.2.1
        · simpa using HH.out.2.2.1
        · simpa using HH.out.2.2.2
        · exact ((hkp.setCell (fun _ => rfl) _).setCell (fun _ => rfl) _).drew
        · exact S1.out.drew.congrL (by simp)
      case measure => simp [intOf]; omega
    · have key : X2 = [] ∧ Y2 = [] := by
        obtain ⟨rfl, rfl, h3, h4⟩ := HH.out
        have h5 := EM.out; have h6 := HX.out
        simp only [List.length_append] at h5 h6
        exact ⟨List.eq_nil_of_length_eq_zero (by omega), List.eq_nil_of_length_eq_zero (by omega)⟩
      obtain ⟨rfl, rfl⟩ := key
      go_wp2
      go_end0
      refine RetF.mk hkp ⟨rfl, ?_⟩
      obtain ⟨h1, h2, _, _⟩ := HH.out
      have h3 := hb.out
      rw [h1, h2]
      simpa using h3

theorem swapRangeInt_int (z : Nat → Int) (g n cap : Nat) (rest : List Value) (fv : Value) (w0 w : World) (hk0 : Kp (fun k => k = g) w0 w) (p X M Y q : List Nat) (hXY : X.length = Y.length)
    (hn : (p ++ X ++ M ++ Y ++ q).length = n) (hB : Blk w g ((p ++ X ++ M ++ Y ++ q).map (valInt z) ++ rest) 3) (hm : n ≤ 4611686018427387904) (a b m : Int) (ea : a = (p.length : Nat)) (eb : b = (p.length + X.length + M.length : Nat)) (em : m = (X.length : Nat)) :
    Calls Tryz.prog 192 #[.slice (some ⟨g, 0, none⟩) n cap, .int .i64 a, .int .i64 b, .int .i64 m, fv] w
      (RetF (fun k => k = g) w0 fun w' v => v = .tuple #[] ∧ Blk w' g ((p ++ Y ++ M ++ X ++ q).map (valInt z) ++ rest) 3) := by
  subst ea eb em
  exact swapRangeInt_any z g n cap rest fv w0 w hk0 p X M Y q hXY hn hB hm _ _ _ rfl rfl rfl

set_option maxHeartbeats 1000000 in
theorem rotateInt_any (z : Nat → Int) (g n cap : Nat) (rest : List Value) (fv : Value) (w0 w : World) (hk0 : Kp (fun k => k = g) w0 w) (p X Y q : List Nat) (hX : X ≠ []) (hY : Y ≠ [])
    (hn : (p ++ X ++ Y ++ q).length = n) (hB : Blk w g ((p ++ X ++ Y ++ q).map (valInt z) ++ rest) 3) (hm : n ≤ 4611686018427387904) (a m b : Nat) (ea : a = p.length) (em : m = p.length + X.length) (eb : b = p.length + X.length + Y.length) :
    Calls Tryz.prog 176 #[.slice (some ⟨g, 0, none⟩) n cap, .int .i64 a, .int .i64 m, .int .i64 b, fv] w
      (RetF (fun k => k = g) w0 fun w' v => v = .tuple #[] ∧ Blk w' g ((p ++ Y ++ X ++ q).map (valInt z) ++ rest) 3) := by
  have b1 : a < m := by have := List.length_pos_iff.2 hX; omega
  have b2 : m < b := by have := List.length_pos_iff.2 hY; omega
  have b3 : b ≤ n := by simp at hn; omega
  have HN := Lib.hid hn; clear hn
  have EA := Lib.hid ea; clear ea
  have EB := Lib.hid eb; clear eb
  have EM := Lib.hid em; clear em
  go_enter Tryz.func176, Tryz.ntmps176
  go_wp2
  go_loopw [10, 11] (fun i j wr => ∃ (x y : Nat) (p' X' Y' q' : List Nat), Hid (X'.length = x ∧ Y'.length = y ∧ p'.length + x = m ∧ p' ++ Y' ++ X' ++ q' = p ++ Y ++ X ++ q) ∧ 0 < x ∧ 0 < y ∧ x ≤ m ∧ m + y ≤ n ∧ i = .int .i64 x ∧ j = .int .i64 y ∧ Kp (fun k => k = g) w0 wr ∧ Hid (Blk wr g ((p' ++ X' ++ Y' ++ q').map (valInt z) ++ rest) 3)) (fun i j _ => (intOf i).toNat + (intOf j).toNat)
  case atStart =>
    have h1 := EA.out; have h2 := EB.out; have h3 := EM.out
    refine ⟨X.length, Y.length, p, X, Y, q, ⟨rfl, rfl, by omega, rfl⟩, by omega, by omega, by omega, by omega, ?_, ?_, hk0, hB⟩
    · congr 1; omega
    · congr 1; omega
  case round =>
    obtain ⟨x, y, p', X', Y', q', HH, hx, hy, hxm, hyn, rfl, rfl, hkp, hb⟩ := hrel
    have HNn : (p' ++ X' ++ Y' ++ q').length = n := by
      have h1 := congrArg List.length HH.out.2.2.2
      have h2 := HN.out
      simp at h1 h2 ⊢
      omega
    have HNN := Lib.hid HNn; clear HNn
    rcases Nat.lt_trichotomy y x with hlt | heq | hgt
    · have h1 : ((x : Int) != (y : Int)) = true := by rw [bne_iff_ne]; omega
      obtain ⟨hX1, hY1, hp1, ht⟩ := HH.out
      have HT := Lib.hid ht; clear ht
      have key : ∃ X1 X2, X' = X1 ++ X2 ∧ X1.length = y ∧ X2.length = x - y := ⟨_, _, (List.take_append_drop y X').symm, by simp; omega, by simp; omega⟩
      obtain ⟨X1, X2, rfl, lX1, lX2⟩ := key
      have HL := Lib.hid (And.intro hX1 (And.intro hY1 (And.intro hp1 (And.intro lX1 lX2))))
      clear hX1 hY1 hp1 lX1 lX2
      go_wp2_with fail
      refine (swapRangeInt_int z g n cap rest fv w0 wr hkp p' X1 X2 Y' q' (by have := HL.out; omega) (by simpa using HNN.out) (by simpa using hb.out) hm _ _ _ (by have := HL.out; omega) (by have := HL.out; omega) (by have := HL.out; omega)).mono ?_
      rintro e w1 ⟨v, rfl, hk1, rfl, hb1⟩
      have HB1 := Lib.hid hb1; clear hb1
      go_wp2
      go_roundw
      case rel =>
        refine ⟨x - y, y, p' ++ Y', X2, X1, q', ⟨by have := HL.out; omega, by have := HL.out; omega, by have := HL.out; simp; omega, by rw [← HT.out]; simp⟩, by omega, hy, by omega, hyn, ?_, rfl, hk1, HB1.out.congrL (by simp)⟩
        congr 1; omega
      case measure => simp [intOf]; omega
    · subst heq
      have h1 : ((y : Int) != (y : Int)) = false := by simp
      obtain ⟨hX1, hY1, hp1, ht⟩ := HH.out
      have HT := Lib.hid ht; clear ht
      have HL := Lib.hid (And.intro hX1 (And.intro hY1 hp1))
      clear hX1 hY1 hp1
      go_wp2_with fail
      refine (swapRangeInt_int z g n cap rest fv w0 wr hkp p' X' [] Y' q' (by have := HL.out; omega) (by simpa using HNN.out) (by simpa using hb.out) hm _ _ _ (by have := HL.out; omega) (by have := HL.out; simp; omega) (by have := HL.out; omega)).mono ?_
      rintro e w1 ⟨v, rfl, hk1, rfl, hb1⟩
      have HB1 := Lib.hid hb1; clear hb1
      go_wp2
      go_end0
      refine RetF.mk hk1 ⟨rfl, ?_⟩
      have := HT.out
      rw [← this]
      simpa using HB1.out
    · have h1 : ((x : Int) != (y : Int)) = true := by rw [bne_iff_ne]; omega
      obtain ⟨hX1, hY1, hp1, ht⟩ := HH.out
      have HT := Lib.hid ht; clear ht
      have key : ∃ Y1 Y2, Y' = Y1 ++ Y2 ∧ Y1.length = y - x ∧ Y2.length = x := ⟨_, _, (List.take_append_drop (y - x) Y').symm, by simp; omega, by simp; omega⟩
      obtain ⟨Y1, Y2, rfl, lY1, lY2⟩ := key
      have HL := Lib.hid (And.intro hX1 (And.intro hY1 (And.intro hp1 (And.intro lY1 lY2))))
      clear hX1 hY1 hp1 lY1 lY2
      go_wp2_with fail
      refine (swapRangeInt_int z g n cap rest fv w0 wr hkp p' X' Y1 Y2 q' (by have := HL.out; omega) (by simpa using HNN.out) (by simpa using hb.out) hm _ _ _ (by have := HL.out; omega) (by have := HL.out; omega) (by have := HL.out; omega)).mono ?_
      rintro e w1 ⟨v, rfl, hk1, rfl, hb1⟩
      have HB1 := Lib.hid hb1; clear hb1
      go_wp2
      go_roundw
      case rel =>
        refine ⟨x, y - x, p', Y2, Y1, X' ++ q', ⟨by have := HL.out; omega, by have := HL.out; omega, by have := HL.out; omega, by rw [← HT.out]; simp⟩, hx, by omega, by omega, by omega, rfl, ?_, hk1, HB1.out.congrL (by simp)⟩
        congr 1; omega
      case measure => simp [intOf]; omega
end Go.Proofs.YtfkhelihepbehaaGreat

/- slices.insertionSortCmpFunc at int. -/
namespace Go.Proofs.YtfkhelihepbehaaGreat
open Go.RowKit
set_option linter.unusedVariables false

set_option maxRecDepth 100000 in
set_option maxHeartbeats 2000000 in
theorem insSortInt_any (z : Nat → Int) (g n cap N : Nat) (rest : List Value) (f : FuncId) (first captured : Array Value) (c : Nat → Nat → Int) (L : CmpLaw c) (w0 w : World)
    (hcmp : CmpOn Tryz.prog f first captured g N w0 (valInt z) c) (hk0 : Kp (fun k => k = g) w0 w) (p seg q : List Nat) (hN : ∀ i ∈ seg, i < N) (hinc : seg.Pairwise (· < ·))
    (hn : (p ++ seg ++ q).length = n) (hB : Blk w g ((p ++ seg ++ q).map (valInt z) ++ rest) 3) (hm : n ≤ 4611686018427387904) (a b : Nat) (ea : a = p.length) (eb : b = p.length + seg.length) :
    Calls Tryz.prog 158 #[.slice (some ⟨g, 0, none⟩) n cap, .int .i64 a, .int .i64 b, .func (Fn.func f) first captured] w
      (RetF (fun k => k = g) w0 fun w' v => v = .tuple #[] ∧ ∃ C, C.Perm seg ∧ Sorted c C ∧ Blk w' g ((p ++ C ++ q).map (valInt z) ++ rest) 3) := by
  simp only [List.length_append] at hn
  have b1 : a ≤ b := by omega
  have b2 : b ≤ n := by omega
  have HN := Lib.hid hn; clear hn
  have EA := Lib.hid ea; clear ea
  have EB := Lib.hid eb; clear eb
  have HI := Lib.hid hinc; clear hinc
  have HNs := Lib.hid hN; clear hN
  have hent := hcmp.1
  have HC := Lib.hid hcmp.2; clear hcmp
  go_enter Tryz.func158, Tryz.ntmps158
  go_wp2
  go_loopw [8] (fun i wr => ∃ (k : Nat) (S R : List Nat), Hid ((seg = [] ∧ S = [] ∧ R = [] ∧ b < k ∨ S ≠ [] ∧ k = a + S.length ∧ S.length + R.length = seg.length) ∧ (S ++ R).Perm seg ∧ Sorted c S ∧ R.Pairwise (· < ·) ∧ ∀ s ∈ S, ∀ r ∈ R, s < r) ∧ k ≤ b + 1 ∧ i = .int .i64 k ∧ Kp (fun k => k = g) w0 wr ∧ Hid (Blk wr g ((p ++ S ++ R ++ q).map (valInt z) ++ rest) 3)) (fun i _ => b + 1 - (intOf i).toNat)
  case atStart =>
    have h1 := EA.out; have h2 := EB.out
    cases seg with
    | nil => exact ⟨a + 1, [], [], ⟨.inl ⟨rfl, rfl, rfl, by simp at h2; omega⟩, List.Perm.refl _, Sorted.nil, List.Pairwise.nil, by simp⟩, by omega, by go_num, hk0, hB.congrL (by simp)⟩
    | cons x seg =>
      have hp := List.pairwise_cons.1 HI.out
      exact ⟨a + 1, [x], seg, ⟨.inr ⟨by simp, rfl, by simp; omega⟩, List.Perm.refl _, Sorted.one x, hp.2, by simpa using hp.1⟩, by simp at h2; omega, by go_num, hk0, hB.congrL (by simp)⟩
  case round =>
    obtain ⟨k, S, R, HH, hkb, rfl, hkp, hb⟩ := hrel
    by_cases hlt : k < b
    · have key : ∃ x R', R = x :: R' ∧ k = a + S.length ∧ S ≠ [] ∧ S.length + R'.length + 1 = seg.length := by
        obtain ⟨h1, h2, h3, h4, h5⟩ := HH.out
        have e2 := EB.out; have e1 := EA.out
        rcases h1 with ⟨_, _, _, h⟩ | ⟨h, h', h''⟩
        · omega
        · cases R with
          | nil => simp at h''; omega
          | cons x R => exact ⟨x, R, rfl, h', h, by simp at h''; omega⟩
      obtain ⟨x, R', rfl, ek, hS, hSR⟩ := key
      have EK := Lib.hid ek; clear ek
      have HSR := Lib.hid hSR; clear hSR
      have HS := Lib.hid hS; clear hS
      go_wp2
      obtain ⟨wo, rfl⟩ : ∃ wo : World, wo = wr := ⟨_, rfl⟩
      go_loopw [9] (fun jv wr => ∃ (j : Nat) (S1 S2 : List Nat), Hid (S = S1 ++ S2 ∧ j = a + S1.length ∧ ∀ y ∈ S2, c x y < 0) ∧ a ≤ j ∧ j ≤ k ∧ jv = .int .i64 j ∧ Kp (fun k => k = g) w0 wr ∧ Hid (Blk wr g ((p ++ S1 ++ x :: S2 ++ R' ++ q).map (valInt z) ++ rest) 3)) (fun j _ => (intOf j).toNat)
      case atStart => exact ⟨k, S, [], ⟨by simp, EK.out, by simp⟩, by have := EK.out; omega, Nat.le_refl _, rfl, hkp, hb.out.congrL (by simp)⟩
      case round =>
        obtain ⟨j, S1, S2, HJ, haj, hjk, rfl, hkp1, hb1⟩ := hrel
        by_cases hgt : a < j
        · obtain ⟨j, rfl⟩ : ∃ j', j = j' + 1 := ⟨j - 1, by omega⟩
          have key : ∃ S1' y, S1 = S1' ++ [y] ∧ j = a + S1'.length := by
            obtain ⟨h1, h2, h3⟩ := HJ.out
            rcases List.eq_nil_or_concat S1 with rfl | ⟨l, y, rfl⟩
            · simp at h2; omega
            · exact ⟨l, y, by simp, by simp at h2; omega⟩
          obtain ⟨S1', y, rfl, ej⟩ := key
          obtain ⟨s1, s2, c1, c2⟩ := swapCells (f := valInt z) (rest := rest) (u := p ++ S1') (v := []) (t := S2 ++ R' ++ q) (x := y) (y := x) (i := j) (j := j + 1) (hb1.out.congrL (by simp)) (by have := EA.out; simp; omega) (by have := EA.out; simp; omega)
          have f1 := hb1.out.free j
          have f2 := hb1.out.free (j + 1)
          have hxN : x < N ∧ y < N := by
            have hp := HH.out.2.1
            have h1 := HJ.out.1
            refine ⟨HNs.out x (hp.subset (by simp)), HNs.out y (hp.subset (by rw [h1]; simp))⟩
          have hcall := fun W hW => HC.out W hW x y hxN.1 hxN.2
          have HCall := Lib.hid hcall; clear hcall
          have S1H := Lib.hid s1; have S2H := Lib.hid s2
          have EJ := Lib.hid ej; clear ej
          clear s1 s2 hxN
          unfold valInt at c1 c2
          obtain ⟨i1, i2, i3, i4, i5, i6, i7⟩ := idx_pred (k := j) (n := n) (by omega) hm
          have g1 : decide ((a : Int) < (j : Int) + 1) = true := by simp; omega
          generalize hcc : c x y = cc at HCall
          have HCC := Lib.hid hcc; clear hcc
          by_cases hneg : cc < 0
          · go_wp2
            go_still_tail 14, (by kernel_rfl)
            go_wp2_with fail
            refine (HCall.out _ hkp1.drew).mono ?_
            rintro e w1 ⟨rfl, hk2⟩
            have hkp2 : Kp (fun k => k = g) w0 w1 := hkp1.drew.ext hk2
            have hb2 : Blk w1 g ((p ++ (S1' ++ [y]) ++ x :: S2 ++ R' ++ q).map (valInt z) ++ rest) 3 := hb1.out.drew.ext hk2
            clear c1 c2 f1 f2 S1H S2H hk2
            obtain ⟨s1, s2, c1, c2⟩ := swapCells (f := valInt z) (rest := rest) (u := p ++ S1') (v := []) (t := S2 ++ R' ++ q) (x := y) (y := x) (i := j) (j := j + 1) (hb2.congrL (by simp)) (by have := EA.out; have := EJ.out; simp; omega) (by have := EA.out; have := EJ.out; simp; omega)
            have f1 := hb2.free j
            have f2 := hb2.free (j + 1)
            have S1H := Lib.hid s1; have S2H := Lib.hid s2
            clear s1 s2 hb2
            unfold valInt at c1 c2
            go_wp2
            go_region
            clear i1 i2 i3 i4 i5 i6 i7
            go_wp2
            go_roundw
            case rel =>
              refine ⟨j, S1', y :: S2, ⟨by have := HJ.out.1; simpa using this, EJ.out, ?_⟩, by omega, by omega, by go_num, ?_, ?_⟩
              · intro y' hy'
                rcases List.mem_cons.1 hy' with rfl | h
                · rw [HCC.out]; exact hneg
                · exact HJ.out.2.2 y' h
              · first | exact ((hkp2.setCell (fun _ => rfl) _).setCell (fun _ => rfl) _).drew | exact ((hkp2.drew.setCell (fun _ => rfl) _).setCell (fun _ => rfl) _)
              · first | exact S1H.out.drew.congrL (by simp) | exact S2H.out.drew.congrL (by simp)
            case measure => first | (simp [intOf]; done) | (simp [intOf]; omega)
          · have hneg' : ¬ (cc < 0) := hneg
            go_wp2
            go_still_tail 14, (by kernel_rfl)
            go_wp2_with fail
            refine (HCall.out _ hkp1.drew).mono ?_
            rintro e w1 ⟨rfl, hk2⟩
            have hkp2 : Kp (fun k => k = g) w0 w1 := hkp1.drew.ext hk2
            have hb2 : Blk w1 g ((p ++ (S1' ++ [y]) ++ x :: S2 ++ R' ++ q).map (valInt z) ++ rest) 3 := hb1.out.drew.ext hk2
            have HB2 := Lib.hid hb2
            clear c1 c2 f1 f2 S1H S2H hk2 hb2 i1 i2 i3 i4 i5 i6 i7
            go_wp2
            go_roundw
            case rel =>
              have hs := ins_step L HH.out.2.1 HH.out.2.2.1 HH.out.2.2.2.1 HH.out.2.2.2.2 HJ.out.1 HJ.out.2.2 (by
                intro y' hy'; simp at hy'; subst hy'; rw [HCC.out]; omega)
              refine ⟨k + 1, S1' ++ [y] ++ x :: S2, R', ⟨.inr ⟨by simp, ?_, ?_⟩, hs⟩, by omega, by go_num, hkp2, HB2.out.congrL (by simp)⟩
              · have h1 := EK.out; have h2 := congrArg List.length HJ.out.1; simp at h2 ⊢; omega
              · have h1 := HSR.out; have h2 := congrArg List.length HJ.out.1; simp at h2 ⊢; omega
            case measure => first | (simp [intOf]; done) | (simp [intOf]; omega)
        · have hja : j = a := by omega
          subst hja
          have key : S1 = [] := by
            have := HJ.out.2.1
            exact List.eq_nil_of_length_eq_zero (by omega)
          subst key
          have g1 : decide ((j : Int) < (j : Int)) = false := by simp
          have HB1 := Lib.hid hb1.out
          go_wp2
          go_quiet (fail)
          go_wp2
          go_roundw
          case rel =>
            have hs := ins_step L HH.out.2.1 HH.out.2.2.1 HH.out.2.2.2.1 HH.out.2.2.2.2 HJ.out.1 HJ.out.2.2 (by
              intro y' hy'; simp at hy')
            refine ⟨k + 1, x :: S2, R', ⟨.inr ⟨by simp, ?_, ?_⟩, by simpa using hs⟩, by omega, by go_num, hkp1.drewN _, (HB1.out.drewN _).congrL (by simp)⟩
            · have h1 := EK.out; have h2 := congrArg List.length HJ.out.1; simp at h2 ⊢; omega
            · have h1 := HSR.out; have h2 := congrArg List.length HJ.out.1; simp at h2 ⊢; omega
          case measure => first | (simp [intOf]; done) | (simp [intOf]; omega)
    · go_wp2
      go_end0
      obtain ⟨h1, h2, h3, h4, h5⟩ := HH.out
      have e2 := EB.out; have e1 := EA.out
      have hR : R = [] := by
        rcases h1 with ⟨_, _, h, _⟩ | ⟨_, h, h'⟩
        · exact h
        · exact List.eq_nil_of_length_eq_zero (by omega)
      subst hR
      exact RetF.mk hkp ⟨rfl, S, by simpa using h2, h3, hb.out.congrL (by simp)⟩
end Go.Proofs.YtfkhelihepbehaaGreat

/- slices.symMergeCmpFunc at int, the right part of one element. -/
namespace Go.Proofs.YtfkhelihepbehaaGreat
open Go.RowKit
set_option linter.unusedVariables false

set_option maxRecDepth 100000 in
set_option maxHeartbeats 2000000 in
theorem symMergeInt_last (z : Nat → Int) (g n cap N : Nat) (rest : List Value) (f : FuncId) (first captured : Array Value) (c : Nat → Nat → Int) (L : CmpLaw c) (w0 w : World)
    (hcmp : CmpOn Tryz.prog f first captured g N w0 (valInt z) c) (hm : n ≤ 4611686018427387904) (hk0 : Kp (fun k => k = g) w0 w) (p A : List Nat) (x : Nat) (q : List Nat) (hA2 : 2 ≤ A.length) (hN : ∀ i ∈ p ++ A ++ x :: q, i < N) (hs : Sorted c A) (hlr : ∀ v ∈ A, v < x)
    (hn : (p ++ A ++ x :: q).length = n) (hB : Blk w g ((p ++ A ++ x :: q).map (valInt z) ++ rest) 3) (a m b : Nat) (ea : a = p.length) (em : m = a + A.length) (eb : b = m + 1) :
    Calls Tryz.prog 159 #[.slice (some ⟨g, 0, none⟩) n cap, .int .i64 a, .int .i64 m, .int .i64 b, .func (Fn.func f) first captured] w
      (RetF (fun k => k = g) w0 fun w' v => v = .tuple #[] ∧ ∃ C, C.Perm (A ++ [x]) ∧ Sorted c C ∧ Blk w' g ((p ++ C ++ q).map (valInt z) ++ rest) 3) := by
  have b1 : m < b := by omega
  have b2 : b ≤ n := by simp at hn; omega
  have b3 : a + 1 < m := by omega
  have HN := Lib.hid hn; clear hn
  have EA := Lib.hid ea; clear ea
  have HNs := Lib.hid hN; clear hN
  have hent := hcmp.1
  have HC := Lib.hid hcmp.2; clear hcmp
  have t1 : ((m : Int) - a == 1) = false := by simp; omega
  have t2 : ((b : Int) - m == 1) = true := by simp; omega
  have EMM := Lib.hid em; clear em
  have EBB0 := Lib.hid eb; clear eb
  go_enter Tryz.func159, Tryz.ntmps159
  go_wp2
  obtain ⟨low, hlow⟩ : ∃ low : Nat → Prop, low = fun t => ¬ c x ((p ++ A ++ x :: q).getD t 0) < 0 := ⟨_, rfl⟩
  obtain ⟨high, hhigh⟩ : ∃ high : Nat → Prop, high = fun t => c x ((p ++ A ++ x :: q).getD t 0) < 0 := ⟨_, rfl⟩
  have HLO := Lib.hid hlow; have HHI := Lib.hid hhigh; clear hlow hhigh
  obtain ⟨cells, hcells⟩ : ∃ cells : List Value, cells = (p ++ A ++ x :: q).map (valInt z) ++ rest := ⟨_, rfl⟩
  have HCE := Lib.hid hcells; rw [← hcells] at hB; clear hcells
  go_loopw [14, 15] (Search a m low high (fun k => k = g) w0 g cells 3) (fun i j _ => (intOf j).toNat - (intOf i).toNat)
  case atStart => exact ⟨a, m, Nat.le_refl _, by omega, Nat.le_refl _, rfl, rfl, .inl rfl, .inl rfl, hk0, hB⟩
  case round =>
    obtain ⟨i, j, hi, hij, hj, rfl, rfl, hlo, hhi, hkp, hb⟩ := hrel
    have HLi := Lib.hid hlo; have HHj := Lib.hid hhi; clear hlo hhi
    have hb' := hb
    rw [HCE.out] at hb'
    by_cases hlt : i < j
    · have c1 := hb'.at ((i + j) / 2) (by have := HN.out; omega)
      have c2 := hb'.at m (by have := HN.out; omega)
      clear hb'
      have e2 : (p ++ A ++ x :: q).getD m 0 = x := getD_mid (by have := EA.out; have := EMM.out; simp; omega)
      rw [e2] at c2
      have hy : (p ++ A ++ x :: q).getD ((i + j) / 2) 0 < N := HNs.out _ (by
        have h : (i + j) / 2 < (p ++ A ++ x :: q).length := by have := HN.out; omega
        exact getD_mem h)
      have hx : x < N := HNs.out x (by simp)
      generalize hyy : (p ++ A ++ x :: q).getD ((i + j) / 2) 0 = y at c1 hy
      have HY := Lib.hid hyy; clear hyy
      have hcall := fun W hW => HC.out W hW x y hx hy
      have HCall := Lib.hid hcall; clear hcall e2
      unfold valInt at c1 c2
      obtain ⟨k1, k2, k3, k4⟩ := idx_half (i := i) (j := j) (n := n) (by omega) hm
      have hmn : m < n := by omega
      generalize hcc : c x y = cc at HCall
      have HCC := Lib.hid hcc; clear hcc
      by_cases hneg : cc < 0
      · go_wp2
        go_still_tail 9, (by kernel_rfl)
        go_wp2_with fail
        refine (HCall.out _ hkp.drew).mono ?_
        rintro e w1 ⟨rfl, hk2⟩
        have hkp2 : Kp (fun k => k = g) w0 w1 := hkp.drew.ext hk2
        have hb2 := hb.drew.ext hk2
        clear hk2 c1 c2
        go_wp2
        clear k1 k2 k3 k4
        go_roundw
        case rel =>
          refine ⟨i, (i + j) / 2, hi, by omega, by omega, rfl, by first | rfl | (congr 1; done) | (congr 1; omega), HLi.out, .inr ?_, hkp2, hb2⟩
          rw [HHI.out]; dsimp only; rw [HY.out, HCC.out]; omega
        case measure => simp [intOf]; omega
      · have hd : decide (cc < 0) = false := by simp; omega
        go_wp2
        go_still_tail 9, (by kernel_rfl)
        go_wp2_with fail
        refine (HCall.out _ hkp.drew).mono ?_
        rintro e w1 ⟨rfl, hk2⟩
        have hkp2 : Kp (fun k => k = g) w0 w1 := hkp.drew.ext hk2
        have hb2 := hb.drew.ext hk2
        clear hk2 c1 c2
        go_wp2
        clear k1 k2 k3 k4
        go_roundw
        case rel =>
          refine ⟨(i + j) / 2 + 1, j, by omega, by omega, hj, by first | rfl | (congr 1; done) | (congr 1; omega), rfl, .inr ?_, HHj.out, hkp2, hb2⟩
          rw [HLO.out]; dsimp only; rw [Nat.add_sub_cancel, HY.out, HCC.out]; omega
        case measure => simp [intOf]; omega
    · obtain rfl : i = j := by omega
      have HL1 := HLi.out; have HH1 := HHj.out
      rw [HLO.out] at HL1; rw [HHI.out] at HH1
      have key := part_above L hs (x := x) (i := i - a) (by have := EMM.out; omega) (by
        rcases HL1 with h | h
        · left; omega
        · by_cases e : i = a
          · left; omega
          · right
            try dsimp only at h
            rw [getD_in (by have := EA.out; omega) (by have := EA.out; have := EMM.out; omega)] at h
            rw [show i - a - 1 = i - 1 - p.length by have := EA.out; omega]
            omega) (by
        rcases HH1 with h | h
        · left; have := EMM.out; omega
        · by_cases e : i = m
          · left; have := EMM.out; omega
          · right
            try dsimp only at h
            rw [getD_in (by have := EA.out; omega) (by have := EA.out; have := EMM.out; omega)] at h
            rw [show i - a = i - p.length by have := EA.out; omega]
            exact h)
      obtain ⟨A1, A2, eA, lA, hA1, hA22⟩ := key
      have hmo := merge_last L (eA ▸ hs) (eA ▸ hlr) hA1 hA22
      have HM := Lib.hid hmo
      have EAA := Lib.hid eA
      have LA := Lib.hid lA
      clear hmo eA lA hA1 hA22 HL1 HH1
      obtain ⟨wo, rfl⟩ : ∃ wo : World, wo = wr := ⟨_, rfl⟩
      go_wp2
      obtain ⟨cl, hcl⟩ : ∃ cl : List Nat → List Nat → List Value, cl = fun U V => (p ++ A1 ++ U ++ x :: V ++ q).map (valInt z) ++ rest := ⟨_, rfl⟩
      have HCL := Lib.hid hcl; clear hcl
      go_loopw [17] (Sinking i m A2 w0 g cl 3) (fun k _ => (intOf k).toNat)
      case atStart =>
        exact ⟨m, A2, [], by omega, Nat.le_refl _, rfl, by simp, by have := EAA.out; have h2 := congrArg List.length this; have := LA.out; have := EMM.out; simp at h2; omega, hkp, by rw [HCL.out]; exact hb'.congrL (by rw [EAA.out]; simp)⟩
      case round =>
        obtain ⟨k, U, V, hik, hkm, rfl, hU1, hU2, hkp1, hb1⟩ := hrel
        rw [HCL.out] at hb1
        have HU := Lib.hid (And.intro hU1 hU2); clear hU1 hU2
        have HB1 := Lib.hid hb1; clear hb1
        by_cases hlt2 : i < k
        · obtain ⟨k, rfl⟩ : ∃ k', k = k' + 1 := ⟨k - 1, by omega⟩
          have key : ∃ y U', U = U' ++ [y] := by
            rcases List.eq_nil_or_concat U with rfl | ⟨l, y, rfl⟩
            · exfalso; have h1 := HU.out.2; simp at h1; omega
            · exact ⟨y, l, by simp⟩
          obtain ⟨y, U', rfl⟩ := key
          obtain ⟨s1, s2, c1, c2⟩ := swapCells (f := valInt z) (rest := rest) (u := p ++ A1 ++ U') (v := []) (t := V ++ q) (x := y) (y := x) (i := k) (j := k + 1) (HB1.out.congrL (by simp)) (by have := EA.out; have := HU.out.2; have := LA.out; simp at *; omega) (by have := EA.out; have := HU.out.2; have := LA.out; simp at *; omega)
          have f1 := HB1.out.free k
          have f2 := HB1.out.free (k + 1)
          have S1H := Lib.hid s1; have S2H := Lib.hid s2
          clear s1 s2
          unfold valInt at c1 c2
          obtain ⟨k1, k2, k3, k4, k5, k6, k7⟩ := idx_pred (k := k) (n := n) (by omega) hm
          go_wp2
          go_region
          clear k1 k2 k3 k4 k5 k6 k7
          go_wp2
          go_roundw
          case rel =>
            refine ⟨k, U', y :: V, by omega, by omega, by go_num, by simpa using HU.out.1, by have := HU.out.2; simp at this; omega, ?_, ?_⟩
            · exact ((hkp1.setCell (fun _ => rfl) _).setCell (fun _ => rfl) _).drew
            · rw [HCL.out]; first | exact S1H.out.drew.congrL (by simp) | exact S2H.out.drew.congrL (by simp)
          case measure => first | (simp [intOf]; done) | (simp [intOf]; omega)
        · go_wp2
          go_end0
          have key : U = [] := by
            have h1 := HU.out.2
            exact List.eq_nil_of_length_eq_zero (by omega)
          subst key
          refine RetF.mk hkp1 ⟨rfl, A1 ++ x :: A2, by rw [EAA.out]; exact HM.out.1, HM.out.2, HB1.out.congrL ?_⟩
          have h1 := HU.out.1
          simp at h1
          rw [h1]; simp
end Go.Proofs.YtfkhelihepbehaaGreat

/- slices.symMergeCmpFunc at int. -/
namespace Go.Proofs.YtfkhelihepbehaaGreat
open Go.RowKit
set_option linter.unusedVariables false

set_option maxRecDepth 100000 in
set_option maxHeartbeats 2000000 in
theorem symMergeInt_one (z : Nat → Int) (g n cap N : Nat) (rest : List Value) (f : FuncId) (first captured : Array Value) (c : Nat → Nat → Int) (L : CmpLaw c) (w0 w : World)
    (hcmp : CmpOn Tryz.prog f first captured g N w0 (valInt z) c) (hm : n ≤ 4611686018427387904) (hk0 : Kp (fun k => k = g) w0 w) (p : List Nat) (x : Nat) (B q : List Nat) (hBne : B ≠ []) (hN : ∀ i ∈ p ++ x :: B ++ q, i < N) (hs : Sorted c B) (hlr : ∀ v ∈ B, x < v)
    (hn : (p ++ x :: B ++ q).length = n) (hB : Blk w g ((p ++ x :: B ++ q).map (valInt z) ++ rest) 3) (a m b : Nat) (ea : a = p.length) (em : m = a + 1) (eb : b = m + B.length) :
    Calls Tryz.prog 159 #[.slice (some ⟨g, 0, none⟩) n cap, .int .i64 a, .int .i64 m, .int .i64 b, .func (Fn.func f) first captured] w
      (RetF (fun k => k = g) w0 fun w' v => v = .tuple #[] ∧ ∃ C, C.Perm (x :: B) ∧ Sorted c C ∧ Blk w' g ((p ++ C ++ q).map (valInt z) ++ rest) 3) := by
  have b1 : m < b := by have := List.length_pos_iff.2 hBne; omega
  have b2 : b ≤ n := by simp at hn; omega
  have HN := Lib.hid hn; clear hn
  have EA := Lib.hid ea; clear ea
  have EB := Lib.hid eb; clear eb
  have HNs := Lib.hid hN; clear hN
  have hent := hcmp.1
  have HC := Lib.hid hcmp.2; clear hcmp
  have b3 : a < m := by omega
  have t1 : ((m : Int) - a == 1) = true := by simp; omega
  have EMM := Lib.hid em; clear em
  go_enter Tryz.func159, Tryz.ntmps159
  go_wp2
  obtain ⟨low, hlow⟩ : ∃ low : Nat → Prop, low = fun t => c ((p ++ x :: B ++ q).getD t 0) x < 0 := ⟨_, rfl⟩
  obtain ⟨high, hhigh⟩ : ∃ high : Nat → Prop, high = fun t => ¬ c ((p ++ x :: B ++ q).getD t 0) x < 0 := ⟨_, rfl⟩
  have HLO := Lib.hid hlow; have HHI := Lib.hid hhigh; clear hlow hhigh
  obtain ⟨cells, hcells⟩ : ∃ cells : List Value, cells = (p ++ x :: B ++ q).map (valInt z) ++ rest := ⟨_, rfl⟩
  have HCE := Lib.hid hcells; rw [← hcells] at hB; clear hcells
  go_loopw [10, 11] (Search m b low high (fun k => k = g) w0 g cells 3) (fun i j _ => (intOf j).toNat - (intOf i).toNat)
  case atStart => exact ⟨m, b, Nat.le_refl _, by omega, Nat.le_refl _, rfl, rfl, .inl rfl, .inl rfl, hk0, hB⟩
  case round =>
    obtain ⟨i, j, hi, hij, hj, rfl, rfl, hlo, hhi, hkp, hb⟩ := hrel
    have HLi := Lib.hid hlo; have HHj := Lib.hid hhi; clear hlo hhi
    have hb' := hb
    rw [HCE.out] at hb'
    by_cases hlt : i < j
    · have c1 := hb'.at ((i + j) / 2) (by have := HN.out; omega)
      have c2 := hb'.at a (by have := HN.out; omega)
      clear hb'
      have e2 : (p ++ x :: B ++ q).getD a 0 = x := by rw [List.append_assoc]; exact getD_mid EA.out
      rw [e2] at c2
      have hy : (p ++ x :: B ++ q).getD ((i + j) / 2) 0 < N := HNs.out _ (by
        have h : (i + j) / 2 < (p ++ x :: B ++ q).length := by have := HN.out; omega
        exact getD_mem h)
      have hx : x < N := HNs.out x (by simp)
      generalize hyy : (p ++ x :: B ++ q).getD ((i + j) / 2) 0 = y at c1 hy
      have HY := Lib.hid hyy; clear hyy
      have hcall := fun W hW => HC.out W hW y x hy hx
      have HCall := Lib.hid hcall; clear hcall e2
      unfold valInt at c1 c2
      obtain ⟨k1, k2, k3, k4⟩ := idx_half (i := i) (j := j) (n := n) (by omega) hm
      have han : a < n := by omega
      generalize hcc : c y x = cc at HCall
      have HCC := Lib.hid hcc; clear hcc
      by_cases hneg : cc < 0
      all_goals
        go_wp2
        go_still_tail 9, (by kernel_rfl)
        go_wp2_with fail
        refine (HCall.out _ hkp.drew).mono ?_
        rintro e w1 ⟨rfl, hk2⟩
        have hkp2 : Kp (fun k => k = g) w0 w1 := hkp.drew.ext hk2
        have hb2 := hb.drew.ext hk2
        clear hk2 c1 c2
        go_wp2
        clear k1 k2 k3 k4
        go_roundw
      case rel =>
        refine ⟨(i + j) / 2 + 1, j, by omega, by omega, hj, by first | rfl | (congr 1; done) | (congr 1; omega), rfl, .inr ?_, HHj.out, hkp2, hb2⟩
        rw [HLO.out]; dsimp only; rw [Nat.add_sub_cancel, HY.out, HCC.out]; omega
      case measure => simp [intOf]; omega
      case rel =>
        refine ⟨i, (i + j) / 2, hi, by omega, by omega, rfl, by first | rfl | (congr 1; done) | (congr 1; omega), HLi.out, .inr ?_, hkp2, hb2⟩
        rw [HHI.out]; dsimp only; rw [HY.out, HCC.out]; omega
      case measure => simp [intOf]; omega
    · obtain rfl : i = j := by omega
      have HL1 := HLi.out; have HH1 := HHj.out
      rw [HLO.out] at HL1; rw [HHI.out] at HH1
      have key := part_below L hs (x := x) (i := i - m) (by have := EB.out; omega) (by
        rcases HL1 with h | h
        · left; omega
        · by_cases e : i = m
          · left; omega
          · right
            rw [show p ++ x :: B ++ q = (p ++ [x]) ++ B ++ q by simp, getD_in (by have := EA.out; have := EMM.out; simp; omega) (by have := EA.out; have := EB.out; have := EMM.out; simp; omega)] at h
            rw [show i - m - 1 = i - 1 - (p ++ [x]).length by have := EA.out; have := EMM.out; simp; omega]
            exact h) (by
        rcases HH1 with h | h
        · left; have := EB.out; omega
        · by_cases e : i = b
          · left; have := EB.out; omega
          · right
            rw [show p ++ x :: B ++ q = (p ++ [x]) ++ B ++ q by simp, getD_in (by have := EA.out; have := EMM.out; simp; omega) (by have := EA.out; have := EB.out; have := EMM.out; simp; omega)] at h
            rw [show i - m = i - (p ++ [x]).length by have := EA.out; have := EMM.out; simp; omega]
            exact h)
      obtain ⟨B1, B2, eB, lB, hB1, hB2⟩ := key
      have hmo := merge_one L (eB ▸ hs) (eB ▸ hlr) hB1 hB2
      have HM := Lib.hid hmo
      have EBB := Lib.hid eB
      have LB := Lib.hid lB
      clear hmo eB lB hB1 hB2 HL1 HH1
      obtain ⟨wo, rfl⟩ : ∃ wo : World, wo = wr := ⟨_, rfl⟩
      go_wp2
      obtain ⟨cl, hcl⟩ : ∃ cl : List Nat → List Nat → List Value, cl = fun U V => (p ++ U ++ x :: V ++ B2 ++ q).map (valInt z) ++ rest := ⟨_, rfl⟩
      have HCL := Lib.hid hcl; clear hcl
      go_loopw [13] (Sinking a (i - 1) B1 w0 g cl 3) (fun k _ => i - (intOf k).toNat)
      case atStart => exact ⟨a, [], B1, Nat.le_refl _, by omega, rfl, rfl, rfl, hkp, by rw [HCL.out]; exact hb'.congrL (by rw [EBB.out]; simp)⟩
      case round =>
        obtain ⟨k, U, V, hak, hki, rfl, hU1, hU2, hkp1, hb1⟩ := hrel
        rw [HCL.out] at hb1
        have HU := Lib.hid (And.intro hU1 hU2); clear hU1 hU2
        have HB1 := Lib.hid hb1; clear hb1
        by_cases hlt2 : k + 1 < i
        · have key : ∃ y V', V = y :: V' := by
            cases V with
            | nil => exfalso; have h1 := HU.out; have h2 := LB.out; have h3 := EMM.out; simp at h1; obtain ⟨rfl, h1⟩ := h1; omega
            | cons y V' => exact ⟨y, V', rfl⟩
          obtain ⟨y, V', rfl⟩ := key
          obtain ⟨s1, s2, c1, c2⟩ := swapCells (f := valInt z) (rest := rest) (u := p ++ U) (v := []) (t := V' ++ B2 ++ q) (x := x) (y := y) (i := k) (j := k + 1) (HB1.out.congrL (by simp)) (by have := EA.out; have := HU.out.2; simp; omega) (by have := EA.out; have := HU.out.2; simp; omega)
          have f1 := HB1.out.free k
          have f2 := HB1.out.free (k + 1)
          have S1H := Lib.hid s1; have S2H := Lib.hid s2
          clear s1 s2
          unfold valInt at c1 c2
          obtain ⟨k1, k2, k3, k4, k5, k6, k7⟩ := idx_pred (k := k) (n := n) (by omega) hm
          go_wp2
          go_region
          clear k1 k2 k3 k4 k5 k6 k7
          go_wp2
          go_roundw
          case rel =>
            refine ⟨k + 1, U ++ [y], V', by omega, by omega, by go_num, by simpa using HU.out.1, by have := HU.out.2; simp; omega, ?_, ?_⟩
            · exact ((hkp1.setCell (fun _ => rfl) _).setCell (fun _ => rfl) _).drew
            · rw [HCL.out]; first | exact S1H.out.drew.congrL (by simp) | exact S2H.out.drew.congrL (by simp)
          case measure => simp [intOf]; omega
        · go_wp2
          go_end0
          have key : V = [] := by
            have h1 := HU.out; have h2 := LB.out; have h4 := EMM.out
            have h3 := congrArg List.length h1.1
            simp at h3
            exact List.eq_nil_of_length_eq_zero (by omega)
          subst key
          refine RetF.mk hkp1 ⟨rfl, B1 ++ x :: B2, by rw [EBB.out]; exact HM.out.1, HM.out.2, HB1.out.congrL ?_⟩
          have h1 := HU.out.1
          simp at h1
          rw [h1]; simp
end Go.Proofs.YtfkhelihepbehaaGreat

/- slices.symMergeCmpFunc at int, the great case. -/
namespace Go.Proofs.YtfkhelihepbehaaGreat
open Go.RowKit
set_option linter.unusedVariables false

/-- The search of the merge's cut, between two rounds. -/
def CutSearchInt (c : Nat → Nat → Int) (D : List Nat) (P lo hi : Nat) (w0 : World) (g : Nat) (cells : List Value) (e : TypeId) (iv jv : Value) (w : World) : Prop :=
  Search lo hi (fun t => ¬ c (D.getD (P - t) 0) (D.getD t 0) < 0) (fun t => c (D.getD (P - t) 0) (D.getD t 0) < 0) (fun k => k = g) w0 g cells e iv jv w
/-- What a row's block holds, the rest as it was. -/
def RowIsInt (w0 : World) (g : Nat) (e : TypeId) (cells : List Value) (w : World) : Prop := Kp (fun k => k = g) w0 w ∧ Blk w g cells e

/-- A stretch of the row has been put in its order. -/
def PartIsInt (c : Nat → Nat → Int) (w0 : World) (g : Nat) (e : TypeId) (S : List Nat) (cells : List Nat → List Value) (w : World) : Prop := ∃ C, C.Perm S ∧ Sorted c C ∧ RowIsInt w0 g e (cells C) w

/-- What the merge of two sorted neighbours does. -/
def SymOKInt (P : Program) (z : Nat → Int) (g n cap N : Nat) (rest : List Value) (f : FuncId) (first captured : Array Value) (c : Nat → Nat → Int) (w0 : World) (k : Nat) : Prop :=
  ∀ (w : World) (p A B q : List Nat), A.length + B.length ≤ k → A ≠ [] → B ≠ [] → Kp (fun k => k = g) w0 w → (∀ i ∈ p ++ A ++ B ++ q, i < N) → Sorted c A → Sorted c B → (∀ u ∈ A, ∀ v ∈ B, u < v) →
    (p ++ A ++ B ++ q).length = n → Blk w g ((p ++ A ++ B ++ q).map (valInt z) ++ rest) 3 → ∀ a m b : Nat, a = p.length → m = p.length + A.length → b = p.length + A.length + B.length →
    Calls P 159 #[.slice (some ⟨g, 0, none⟩) n cap, .int .i64 a, .int .i64 m, .int .i64 b, .func (Fn.func f) first captured] w
      (RetF (fun k => k = g) w0 fun w' v => v = .tuple #[] ∧ ∃ C, C.Perm (A ++ B) ∧ Sorted c C ∧ Blk w' g ((p ++ C ++ q).map (valInt z) ++ rest) 3)

set_option maxRecDepth 100000 in
set_option maxHeartbeats 4000000 in
theorem symMergeInt_great (z : Nat → Int) (g n cap N : Nat) (rest : List Value) (f : FuncId) (first captured : Array Value) (c : Nat → Nat → Int) (L : CmpLaw c) (w0 w : World)
    (hcmp : CmpOn Tryz.prog f first captured g N w0 (valInt z) c) (hm : n ≤ 4611686018427387904) (hk0 : Kp (fun k => k = g) w0 w) (p A B q : List Nat) (hA2 : 2 ≤ A.length) (hB2 : 2 ≤ B.length)
    (ih : SymOKInt Tryz.prog z g n cap N rest f first captured c w0 (A.length + B.length - 1)) (hN : ∀ i ∈ p ++ A ++ B ++ q, i < N) (hsA : Sorted c A) (hsB : Sorted c B) (hlr : ∀ u ∈ A, ∀ v ∈ B, u < v)
    (hn : (p ++ A ++ B ++ q).length = n) (hB : Blk w g ((p ++ A ++ B ++ q).map (valInt z) ++ rest) 3) (a m b : Nat) (ea : a = p.length) (em : m = a + A.length) (eb : b = m + B.length) :
    Calls Tryz.prog 159 #[.slice (some ⟨g, 0, none⟩) n cap, .int .i64 a, .int .i64 m, .int .i64 b, .func (Fn.func f) first captured] w
      (RetF (fun k => k = g) w0 fun w' v => v = .tuple #[] ∧ ∃ C, C.Perm (A ++ B) ∧ Sorted c C ∧ Blk w' g ((p ++ C ++ q).map (valInt z) ++ rest) 3) := by
  have b1 : a + 1 < m := by omega
  have b2 : b ≤ n := by simp at hn; omega
  have b3 : m + 1 < b := by omega
  obtain ⟨mid, emid⟩ : ∃ mid, mid = (a + b) / 2 := ⟨_, rfl⟩
  obtain ⟨lo, hi, hc⟩ : ∃ lo hi, (mid < m ∧ lo = mid + m - b ∧ hi = mid) ∨ (m ≤ mid ∧ lo = a ∧ hi = m) := by
    by_cases h : mid < m
    · exact ⟨_, _, .inl ⟨h, rfl, rfl⟩⟩
    · exact ⟨_, _, .inr ⟨by omega, rfl, rfl⟩⟩
  have rmid : ((a : Int) + b) / 2 = (mid : Int) := by omega
  have hmb : mid < b := by omega
  have ham : a < mid := by omega
  have hlh : lo ≤ hi ∧ hi ≤ m ∧ a ≤ lo ∧ hi ≤ mid ∧ mid + m ≤ lo + b := by omega
  obtain ⟨P, eP⟩ : ∃ P, P + 1 = mid + m := ⟨mid + m - 1, by omega⟩
  have rP : (mid : Int) + m - 1 = (P : Int) := by omega
  have t1 : ((m : Int) - a == 1) = false := by simp; omega
  have t2 : ((b : Int) - m == 1) = false := by simp; omega
  have HN := Lib.hid hn; clear hn
  have EA := Lib.hid ea; clear ea
  have EM := Lib.hid em; clear em
  have EB := Lib.hid eb; clear eb
  have HNs := Lib.hid hN; clear hN
  have hent := hcmp.1
  have HC := Lib.hid hcmp.2; clear hcmp
  have HCC0 := Lib.hid hc
  have EMID := Lib.hid emid; clear emid
  have EP := Lib.hid eP; clear eP
  have IH := Lib.hid ih; clear ih
  go_enter Tryz.func159, Tryz.ntmps159
  go_upto_if 140 with (fail)
  go_cut [20, 21] (fun s r wx => s = .int .i64 lo ∧ r = .int .i64 hi ∧ w = wx)
  case first =>
    rcases hc with ⟨h1, h2, h3⟩ | ⟨h1, h2, h3⟩
    · have r1 : (mid : Int) + m - b = (lo : Int) := by omega
      have E1 := Lib.hid h2; have E2 := Lib.hid h3; clear h2 h3
      go_wp2_with fail
      go_meet
      exact ⟨rfl, by rw [E2.out], rfl⟩
    · have E1 := Lib.hid h2; have E2 := Lib.hid h3; clear h2 h3
      go_wp2_with fail
      go_meet
      exact ⟨by rw [E1.out], by rw [E2.out], rfl⟩
  case rest =>
    obtain ⟨rfl, rfl, rfl⟩ := hcut
    clear hc
    go_wp2
    obtain ⟨cells, hcells⟩ : ∃ cells : List Value, cells = (p ++ A ++ B ++ q).map (valInt z) ++ rest := ⟨_, rfl⟩
    have HCE := Lib.hid hcells; rw [← hcells] at hB; clear hcells
    obtain ⟨D, hD⟩ : ∃ D : List Nat, D = p ++ A ++ B ++ q := ⟨_, rfl⟩
    have HD := Lib.hid hD; clear hD
    go_loopw [20, 21] (CutSearchInt c D P lo hi w0 g cells 3) (fun i j _ => (intOf j).toNat - (intOf i).toNat)
    case atStart => exact ⟨lo, hi, Nat.le_refl _, by omega, Nat.le_refl _, rfl, rfl, .inl rfl, .inl rfl, hk0, hB⟩
    case round =>
      obtain ⟨i, j, hi1, hij, hj, rfl, rfl, hlo, hhi, hkp, hb⟩ := hrel
      have HLi := Lib.hid hlo; have HHj := Lib.hid hhi; clear hlo hhi
      have HB0 := Lib.hid hb
      by_cases hlt : i < j
      · obtain ⟨t, et⟩ : ∃ t, t = (i + j) / 2 := ⟨_, rfl⟩
        have ht1 : i ≤ t := by omega
        have ht2 : t < j := by omega
        have rt : ((i : Int) + j) / 2 = (t : Int) := by omega
        obtain ⟨d, ed⟩ : ∃ d, d + t = P := ⟨P - t, by have := EP.out; omega⟩
        have hd1 : m ≤ d ∧ d < b := by have := EP.out; omega
        have rd : (P : Int) - t = (d : Int) := by omega
        have rw1 : IntKind.i64.wrap ((P : Int) - t) = (d : Int) := by rw [rd]; exact IntWalk.i64_in _ (by omega)
        have rw2 : IntKind.i64.wrap (d : Int) = (d : Int) := IntWalk.i64_in _ (by omega)
        have htn : t < n := by omega
        have hdn : d < n := by omega
        clear et
        have ED := Lib.hid ed; clear ed
        have hb' := hb
        rw [HCE.out] at hb'
        have c1 := hb'.at t (by have := HN.out; omega)
        have c2 := hb'.at d (by have := HN.out; omega)
        clear hb'
        rw [← HD.out] at c1 c2
        have hx : D.getD t 0 < N := HNs.out _ (by rw [← HD.out]; exact getD_mem (by have := HN.out; rw [HD.out]; omega))
        have hy : D.getD d 0 < N := HNs.out _ (by rw [← HD.out]; exact getD_mem (by have := HN.out; rw [HD.out]; omega))
        generalize hxx : D.getD t 0 = x at c1 hx
        generalize hyy : D.getD d 0 = y at c2 hy
        have HX := Lib.hid hxx; have HY := Lib.hid hyy; clear hxx hyy
        have hcall := fun W hW => HC.out W hW y x hy hx
        have HCall := Lib.hid hcall; clear hcall
        unfold valInt at c1 c2
        generalize hcc : c y x = cc at HCall
        have HCC := Lib.hid hcc; clear hcc
        by_cases hneg : cc < 0
        · have hdc : decide (cc < 0) = true := by simpa using hneg
          go_wp2
          go_still_tail 11, (by kernel_rfl)
          go_wp2_with fail
          refine (HCall.out _ hkp.drew).mono ?_
          rintro e w1 ⟨rfl, hk2⟩
          have hkp2 : Kp (fun k => k = g) w0 w1 := hkp.drew.ext hk2
          have hb2 := hb.drew.ext hk2
          clear hk2 c1 c2 rw1 rw2
          go_wp2
          go_roundw
          case rel =>
            refine ⟨i, t, hi1, by omega, by omega, rfl, rfl, HLi.out.imp id (fun h => by dsimp only; omega), .inr ?_, hkp2, hb2⟩
            dsimp only
            rw [show P - t = d by have := ED.out; omega, HX.out, HY.out, HCC.out]; omega
          case measure => simp [intOf]; omega
        · have hdc : decide (cc < 0) = false := by simp; omega
          go_wp2
          go_still_tail 11, (by kernel_rfl)
          go_wp2_with fail
          refine (HCall.out _ hkp.drew).mono ?_
          rintro e w1 ⟨rfl, hk2⟩
          have hkp2 : Kp (fun k => k = g) w0 w1 := hkp.drew.ext hk2
          have hb2 := hb.drew.ext hk2
          clear hk2 c1 c2 rw1 rw2
          go_wp2
          go_roundw
          case rel =>
            refine ⟨t + 1, j, by omega, by omega, hj, by first | rfl | (congr 1; done) | (congr 1; omega), rfl, .inr ?_, HHj.out, hkp2, hb2⟩
            dsimp only
            rw [Nat.add_sub_cancel, show P - t = d by have := ED.out; omega, HX.out, HY.out, HCC.out]; omega
          case measure => simp [intOf]; omega
      · obtain rfl : i = j := by omega
        have h3 := HLi.out; have h4 := HHj.out
        rw [HD.out] at h3 h4
        rw [show P = mid + m - 1 by have := EP.out; omega] at h3 h4
        obtain ⟨A1, A2, B1, B2, eA, eB, lA, lB, hAh⟩ := merge_cut L EA.out EM.out EB.out EMID.out hsA hsB hlr (by omega) (by omega) HCC0.out hi1 hj h3 h4
        clear h3 h4
        obtain ⟨e, ee⟩ : ∃ e, e + i = mid + m := ⟨mid + m - i, by omega⟩
        have re : (mid : Int) + m - i = (e : Int) := by omega
        have hle : m ≤ e ∧ e ≤ b := by omega
        have HL := Lib.hid (And.intro eA (And.intro eB (And.intro lA (And.intro (show m + B1.length = e by omega) ee))))
        have HAh := Lib.hid hAh
        clear eA eB lA lB hAh ee
        have hsb : i ≤ m := by omega
        obtain ⟨wo, rfl⟩ : ∃ wo : World, wo = wr := ⟨_, rfl⟩
        have hb0 := HB0.out
        rw [HCE.out, HL.out.1, HL.out.2.1] at hb0
        have HB1 := Lib.hid hb0; clear hb0 hb
        have HNL : (p ++ (A1 ++ A2) ++ (B1 ++ B2) ++ q).length = n := by rw [← HL.out.1, ← HL.out.2.1]; exact HN.out
        have HNN := Lib.hid HNL; clear HNL
        have HNsL : ∀ x ∈ p ++ A1 ++ B1 ++ A2 ++ B2 ++ q, x < N := fun x hx => HNs.out x (by rw [HL.out.1, HL.out.2.1]; simp at hx ⊢; rcases hx with h | h | h | h | h | h <;> simp [h])
        have HNS := Lib.hid HNsL; clear HNsL
        have hlens : a + A1.length = i ∧ i + A2.length = m ∧ m + B1.length = e ∧ e + B2.length = b ∧ e + i = mid + m := by
          have h := HL.out; have h1 := EM.out; have h2 := EB.out
          have h3 := congrArg List.length h.1; have h4 := congrArg List.length h.2.1
          simp at h3 h4; omega
        have HLE := Lib.hid hlens
        by_cases h1 : i < m <;> by_cases h2 : m < e <;> by_cases h3 : a < i <;> by_cases h4 : e < b <;> try (exfalso; omega)
        all_goals
          have h5 : i < mid ∨ mid ≤ i := by omega
          have h6 : mid < e ∨ e ≤ mid := by omega
          clear hlens
          rcases h5 with h5 | h5 <;> rcases h6 with h6 | h6 <;> try (exfalso; have := HLE.out; omega)
        all_goals
          go_wp2_with fail
          first
            | (go_at_call 176
               refine (rotateInt_any z g n cap rest _ w0 _ hkp (p ++ A1) A2 B1 (B2 ++ q) (by rintro rfl; have := HLE.out; simp at this; omega) (by rintro rfl; have := HLE.out; simp at this; omega) (by have := HNN.out; simpa using this) (HB1.out.congrL (by simp)) hm _ _ _ (by have := HLE.out; have := EA.out; simp; omega) (by have := HLE.out; have := EA.out; simp; omega) (by have := HLE.out; have := EA.out; simp; omega)).mono ?_
               rintro e1 w1 ⟨v, rfl, hk1, rfl, hb1⟩
               have hb1' : Blk w1 g ((p ++ A1 ++ B1 ++ A2 ++ B2 ++ q).map (valInt z) ++ rest) 3 := hb1.congrL (by simp)
               have HB2 := Lib.hid hb1'
               clear hb1 hb1'
               go_wp2_with fail)
            | (obtain ⟨w1, rfl⟩ : ∃ w1 : World, w1 = wo := ⟨_, rfl⟩
               have hk1 := hkp
               have hb1' : Blk w1 g ((p ++ A1 ++ B1 ++ A2 ++ B2 ++ q).map (valInt z) ++ rest) 3 := by
                 have h7 : A2 = [] ∨ B1 = [] := by
                   have := HLE.out
                   by_cases h8 : A2 = []
                   · exact .inl h8
                   · right
                     have := List.length_pos_iff.2 h8
                     exact List.eq_nil_of_length_eq_zero (by omega)
                 rcases h7 with rfl | rfl
                 · exact HB1.out.congrL (by simp)
                 · exact HB1.out.congrL (by simp)
               have HB2 := Lib.hid hb1'
               clear hb1')
          first
            | (go_at_call_of 159 (Value.int IntKind.i64 (a : Int))
               refine (IH.out w1 p A1 B1 (A2 ++ B2 ++ q) (by have := HLE.out; have := HL.out; rw [this.1, this.2.1]; simp; omega) (by rintro rfl; have := HLE.out; simp at this; omega) (by rintro rfl; have := HLE.out; simp at this; omega) hk1 (fun x hx => HNS.out x (by simpa using hx)) (Sorted.append.1 (HL.out.1 ▸ hsA)).1 (Sorted.append.1 (HL.out.2.1 ▸ hsB)).1 (fun u hu v hv => hlr u (by rw [HL.out.1]; simp [hu]) v (by rw [HL.out.2.1]; simp [hv])) (by have := HNN.out; simp at this ⊢; omega) (HB2.out.congrL (by simp)) _ _ _ (by have := EA.out; omega) (by have := HLE.out; have := EA.out; omega) (by have := HLE.out; have := EA.out; omega)).mono ?_
               rintro e1 w2 ⟨v, rfl, hk2, rfl, C1, hp1, hs1, hb2⟩
               have HC1 := Lib.hid (And.intro hp1 (And.intro hs1 hb2))
               clear hp1 hs1 hb2
               go_wp2_with fail)
            | (obtain ⟨w2, rfl⟩ : ∃ w2 : World, w2 = w1 := ⟨_, rfl⟩
               have hk2 := hk1
               have HC1 : Hid (∃ C1, C1.Perm (A1 ++ B1) ∧ Sorted c C1 ∧ Blk w2 g ((p ++ C1 ++ (A2 ++ B2 ++ q)).map (valInt z) ++ rest) 3) := by
                 refine ⟨A1 ++ B1, List.Perm.refl _, ?_, HB2.out.congrL (by simp)⟩
                 have h7 : A1 = [] ∨ B1 = [] := by
                   have := HLE.out
                   by_cases h8 : A1 = []
                   · exact .inl h8
                   · right
                     have := List.length_pos_iff.2 h8
                     exact List.eq_nil_of_length_eq_zero (by omega)
                 rcases h7 with h7 | h7
                 · rw [h7]; exact (Sorted.append.1 (HL.out.2.1 ▸ hsB)).1
                 · rw [h7, List.append_nil]; exact (Sorted.append.1 (HL.out.1 ▸ hsA)).1
               obtain ⟨C1, HC1⟩ := HC1)
          have HC1' : Hid (C1.Perm (A1 ++ B1) ∧ Sorted c C1 ∧ Blk w2 g ((p ++ C1 ++ (A2 ++ B2 ++ q)).map (valInt z) ++ rest) 3) := HC1
          have hl1 : C1.length = A1.length + B1.length := by have := HC1'.out.1.length_eq; simpa using this
          have HL1 := Lib.hid hl1; clear hl1 HC1
          first
            | (go_at_call_of 159 (Value.int IntKind.i64 (b : Int))
               refine (IH.out w2 (p ++ C1) A2 B2 q (by have := HLE.out; have := HL.out; rw [this.1, this.2.1]; simp; omega) (by rintro rfl; have := HLE.out; simp at this; omega) (by rintro rfl; have := HLE.out; simp at this; omega) hk2 (fun x hx => HNS.out x (by
                   simp at hx ⊢
                   rcases hx with h | h | h | h | h
                   · simp [h]
                   · have := HC1'.out.1.subset h; simp at this; rcases this with h | h <;> simp [h]
                   · simp [h]
                   · simp [h]
                   · simp [h])) (Sorted.append.1 (HL.out.1 ▸ hsA)).2.1 (Sorted.append.1 (HL.out.2.1 ▸ hsB)).2.1 (fun u hu v hv => hlr u (by rw [HL.out.1]; simp [hu]) v (by rw [HL.out.2.1]; simp [hv])) (by have := HNN.out; have := HL1.out; simp at *; omega) (HC1'.out.2.2.congrL (by simp)) _ _ _ (by have := HLE.out; have := EA.out; have := HL1.out; simp; omega) (by have := HLE.out; have := EA.out; have := HL1.out; simp; omega) (by have := HLE.out; have := EA.out; have := HL1.out; simp; omega)).mono ?_
               rintro e1 w3 ⟨v, rfl, hk3, rfl, C2, hp2, hs2, hb3⟩
               have HC2 := Lib.hid (And.intro hp2 (And.intro hs2 hb3))
               clear hp2 hs2 hb3
               go_wp2_with fail)
            | (obtain ⟨w3, rfl⟩ : ∃ w3 : World, w3 = w2 := ⟨_, rfl⟩
               have hk3 := hk2
               have HC2 : Hid (∃ C2, C2.Perm (A2 ++ B2) ∧ Sorted c C2 ∧ Blk w3 g ((p ++ C1 ++ C2 ++ q).map (valInt z) ++ rest) 3) := by
                 refine ⟨A2 ++ B2, List.Perm.refl _, ?_, HC1'.out.2.2.congrL (by simp)⟩
                 have h7 : A2 = [] ∨ B2 = [] := by
                   have := HLE.out
                   by_cases h8 : A2 = []
                   · exact .inl h8
                   · right
                     have := List.length_pos_iff.2 h8
                     exact List.eq_nil_of_length_eq_zero (by omega)
                 rcases h7 with h7 | h7
                 · rw [h7]; exact (Sorted.append.1 (HL.out.2.1 ▸ hsB)).2.1
                 · rw [h7, List.append_nil]; exact (Sorted.append.1 (HL.out.1 ▸ hsA)).2.1
               obtain ⟨C2, HC2⟩ := HC2)
          have HC2' : Hid (C2.Perm (A2 ++ B2) ∧ Sorted c C2 ∧ Blk w3 g ((p ++ C1 ++ C2 ++ q).map (valInt z) ++ rest) 3) := HC2
          go_end0
          have hmb := merge_both HAh.out HC1'.out.1 HC1'.out.2.1 HC2'.out.1 HC2'.out.2.1
          refine RetF.mk hk3 ⟨rfl, C1 ++ C2, by rw [HL.out.1, HL.out.2.1]; exact hmb.1, hmb.2, HC2'.out.2.2.congrL (by simp)⟩
end Go.Proofs.YtfkhelihepbehaaGreat
