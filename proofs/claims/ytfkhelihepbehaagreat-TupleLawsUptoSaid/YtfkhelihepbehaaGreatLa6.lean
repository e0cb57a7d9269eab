/- Texts joined for a claim (BinInt, CompactInt, GenInt, SetInt, NewInt, InsertInt, SetOpsInt, Known). -/
import Derived.Test.YtfkhelihepbehaaGreatLa5
import Derived.Test.YtfkhelihepbehaaGreatProg
/- slices.BinarySearchFunc at int, slices.Clone, slices.EqualFunc. -/
namespace Go.Proofs.YtfkhelihepbehaaGreat
open Go.RowKit
set_option linter.unusedVariables false

theorem elemInt : ElemT Tryz.prog 40 3 1 8 (.int .i64 0) := ⟨by kernel_rfl, by kernel_rfl, rfl, by decide⟩

/-- A comparison with one value: of any of a list's values, in every world in which all old blocks are as they were. -/
def CmpToInt (P : Program) (f : FuncId) (first captured : Array Value) (w0 : World) (vs : List Value) (t : Value) (c : Nat → Int) : Prop :=
  (∀ args w, (callFunc f args).run P w = .ok (Next.enter f args) w) ∧ ∀ w, Ext w0 w → ∀ i v, vs[i]? = some v → Calls P f (first ++ (#[v, t] ++ captured)) w fun e w' => e = .returned (.int .i64 (c i)) ∧ Ext w w'

/-- The search, between two rounds. -/
def BinAtInt (n : Nat) (c : Nat → Int) (w0 : World) (iv jv : Value) (w : World) : Prop :=
  ∃ i j : Nat, i ≤ j ∧ j ≤ n ∧ iv = .int .i64 i ∧ jv = .int .i64 j ∧ (i = 0 ∨ c (i - 1) < 0) ∧ (j = n ∨ 0 ≤ c j) ∧ Ext w0 w

set_option maxRecDepth 100000 in
set_option maxHeartbeats 2000000 in
theorem binSearchInt_any (zs : List (Int)) (z : Nat → Int) (ao : Option Addr) (cap : Nat) (t : Value) (f : FuncId) (first captured : Array Value) (c : Nat → Int) (w : World) (n : Nat)
    (hc : CellsAt w ao ((List.range n).map fun i => (Value.int .i64 (z (i))))) (hcmp : CmpToInt Tryz.prog f first captured w ((List.range n).map fun i => (Value.int .i64 (z (i)))) t c) (hm : n ≤ 4611686018427387904) :
    Calls Tryz.prog 132 #[.slice ao n cap, t, .func (Fn.func f) first captured] w
      (RetF (fun _ => False) w fun w' v => ∃ i : Nat, i ≤ n ∧ (i = 0 ∨ c (i - 1) < 0) ∧ (i = n ∨ 0 ≤ c i) ∧ v = .tuple #[.int .i64 i, .bool (decide (i < n ∧ c i = 0))]) := by
  have hent := hcmp.1
  have HC := Lib.hid hcmp.2; clear hcmp
  have cell : ∀ W : World, Ext w W → ∀ i, i < n → ∃ b off, ao = some ⟨b, off, none⟩ ∧ W.cell? ⟨b, off + i, none⟩ = some ((Value.int .i64 (z (i)))) := fun W hW i hi => by
    have := hc.ext hW
    exact this i _ (by simp [hi])
  have HCELL := Lib.hid cell; clear cell
  go_enter Tryz.func132, Tryz.ntmps132
  go_wp2
  go_loopw [9, 10] (BinAtInt n c w) (fun i j _ => (intOf j).toNat - (intOf i).toNat)
  case atStart => exact ⟨0, n, Nat.zero_le _, Nat.le_refl _, rfl, rfl, .inl rfl, .inl rfl, Kp.refl _⟩
  case round =>
    obtain ⟨i, j, hij, hj, rfl, rfl, hlo, hhi, hkp⟩ := hrel
    have HL := Lib.hid (And.intro hlo hhi); clear hlo hhi
    by_cases hlt : i < j
    · obtain ⟨h, eh⟩ : ∃ h, h = (i + j) / 2 := ⟨_, rfl⟩
      have rh : ((i : Int) + j) / 2 = (h : Int) := by omega
      have hhn : h < n := by omega
      have h1 : i ≤ h := by omega
      have h2 : h < j := by omega
      clear eh
      obtain ⟨b, off, rfl, c1⟩ := HCELL.out _ hkp h hhn
      have hcall := fun W hW => HC.out W hW h ((Value.int .i64 (z (h)))) (by simp [hhn])
      have HCall := Lib.hid hcall; clear hcall
      generalize hcc : c h = cc at HCall
      have HCC := Lib.hid hcc; clear hcc
      by_cases hneg : cc < 0
      · go_wp2_with fail
        refine (HCall.out _ hkp).mono ?_
        rintro e w1 ⟨rfl, hk2⟩
        have hkp2 := hkp.ext hk2
        clear hk2 c1
        go_wp2
        go_roundw
        case rel => exact ⟨h + 1, j, by omega, hj, by first | rfl | (congr 1; done) | (congr 1; omega), rfl, .inr (by rw [Nat.add_sub_cancel, HCC.out]; omega), HL.out.2, hkp2⟩
        case measure => simp [intOf]; omega
      · go_wp2_with fail
        refine (HCall.out _ hkp).mono ?_
        rintro e w1 ⟨rfl, hk2⟩
        have hkp2 := hkp.ext hk2
        clear hk2 c1
        go_wp2
        go_roundw
        case rel => exact ⟨i, h, by omega, by omega, rfl, by first | rfl | (congr 1; done) | (congr 1; omega), HL.out.1, .inr (by rw [HCC.out]; omega), hkp2⟩
        case measure => simp [intOf]; omega
    · obtain rfl : i = j := by omega
      by_cases hin : i < n
      · obtain ⟨b, off, rfl, c1⟩ := HCELL.out _ hkp i hin
        have hcall := fun W hW => HC.out W hW i ((Value.int .i64 (z (i)))) (by simp [hin])
        have HCall := Lib.hid hcall; clear hcall
        generalize hcc : c i = cc at HCall
        have HCC := Lib.hid hcc; clear hcc
        have key : decide (i < n ∧ c i = 0) = (cc == 0) := by rw [HCC.out]; simp [hin]; rfl
        have HK := Lib.hid key; clear key
        generalize hbb : (cc == 0) = bb at HK
        go_wp2_with fail
        refine (HCall.out _ hkp).mono ?_
        rintro e w1 ⟨rfl, hk2⟩
        have hkp2 := hkp.ext hk2
        clear hk2 c1
        go_wp2
        go_ret2
        exact RetF.mk hkp2 ⟨i, by omega, HL.out.1, HL.out.2, tup_ib HK.out⟩
      · have key : decide (i < n ∧ c i = 0) = false := by simp; omega
        have HK := Lib.hid key; clear key
        go_wp2
        go_ret2
        exact RetF.mk hkp ⟨i, by omega, HL.out.1, HL.out.2, tup_ib HK.out⟩
end Go.Proofs.YtfkhelihepbehaaGreat

/- slices.CompactFunc at int. -/
namespace Go.Proofs.YtfkhelihepbehaaGreat
open Go.RowKit
set_option linter.unusedVariables false

set_option maxRecDepth 100000 in
set_option maxHeartbeats 4000000 in
theorem compactInt_any (z : Nat → Int) (C : List Nat) (g n cap N : Nat) (rest : List Value) (f : FuncId) (first captured : Array Value) (q : Nat → Nat → Bool) (w : World)
    (hcmp : LikeOn Tryz.prog f first captured g N w (valInt z) q) (hn : n = C.length) (hC : ∀ i ∈ C, i < N) (hm : n ≤ 4611686018427387904) (hB : Blk w g (C.map (valInt z) ++ rest) 3) (hlen : (C.map (valInt z) ++ rest).length = cap) (hcm : cap ≤ maxLen) :
    Calls Tryz.prog 92 #[.slice (some ⟨g, 0, none⟩) n cap, .func (Fn.func f) first captured] w
      (RetF (fun k => k = g) w fun w' v => ∃ rest', v = .slice (some ⟨g, 0, none⟩) (keepTo q C n).length cap ∧ Blk w' g ((keepTo q C n).map (valInt z) ++ rest') 3 ∧ ((keepTo q C n).map (valInt z) ++ rest').length = cap) := by
  have hent := hcmp.1
  have HC := Lib.hid hcmp.2; clear hcmp
  have HN := Lib.hid (And.intro hn (And.intro hC hlen)); clear hn hC
  have hcap : n ≤ cap := by have := HN.out.1; simp at hlen; omega
  clear hlen
  have cell : ∀ W : World, Blk W g (C.map (valInt z) ++ rest) 3 → ∀ i, i < n → W.cell? ⟨g, i, none⟩ = some (valInt z (C.getD i 0)) := fun W h i hi => h.at i (by have := HN.out.1; omega)
  have HB := Lib.hid hB; clear hB
  by_cases hlt2 : n < 2
  · go_enter Tryz.func92, Tryz.ntmps92
    go_wp2
    go_ret
    have e : keepTo q C n = C := by
      rw [keepTo_all (by have := HN.out.1; omega) (fun j h1 h2 => by omega), List.take_of_length_le (by have := HN.out.1; omega)]
    refine RetF.mk (Kp.refl _) ⟨rest, ?_, by rw [e]; exact HB.out, by rw [e]; exact HN.out.2.2⟩
    rw [e, ← HN.out.1]; rfl
  · go_enter Tryz.func92, Tryz.ntmps92
    go_wp2
    go_loopw [5] (Compact1 n q C (fun k => False) w) (fun k _ => n - (intOf k).toNat)
    case atStart => exact ⟨1, Nat.le_refl _, by omega, rfl, fun j h1 h2 => by omega, Kp.refl _⟩
    case round =>
      obtain ⟨k, hk1, hkn, rfl, hq, hkp⟩ := hrel
      have HQ := Lib.hid hq; clear hq
      have hext : Kp (fun i => i = g) w wr := Ext.kp hkp
      by_cases hkl : k < n
      · have HBw : Blk wr g (C.map (valInt z) ++ rest) 3 := HB.out.ext hkp
        obtain ⟨p, rfl⟩ : ∃ p, k = p + 1 := ⟨k - 1, by omega⟩
        have c1 := cell wr HBw (p + 1) hkl
        have c2 := cell wr HBw p (by omega)
        have HBW := Lib.hid HBw; clear HBw
        have hx : C.getD (p + 1) 0 < N := HN.out.2.1 _ (getD_mem (by have := HN.out.1; omega))
        have hy : C.getD p 0 < N := HN.out.2.1 _ (getD_mem (by have := HN.out.1; omega))
        have hcall := fun W hW => HC.out W hW _ _ hx hy
        have HCall := Lib.hid hcall; clear hcall
        obtain ⟨x, ex⟩ : ∃ x, x = C.getD (p + 1) 0 := ⟨_, rfl⟩
        obtain ⟨y, ey⟩ : ∃ y, y = C.getD p 0 := ⟨_, rfl⟩
        rw [← ex, ← ey] at HCall
        rw [← ex] at c1
        rw [← ey] at c2
        have HE := Lib.hid (And.intro ex ey); clear ex ey hx hy
        unfold valInt at c1 c2
        obtain ⟨i1, i2, i3, i4, i5, i6, i7⟩ := idx_pred (k := p) (n := n) (by omega) hm
        cases hqk : q x y
        · rw [hqk] at HCall
          have HK := Lib.hid hqk; clear hqk
          go_wp2
          go_still_tail 10, (by kernel_rfl)
          go_wp2_with fail
          refine (HCall.out _ hext.drew).mono ?_
          rintro e w1 ⟨rfl, hk2⟩
          have hkp2 : Ext w w1 := hkp.drew.ext hk2
          clear hk2 c1 c2
          go_wp2
          go_roundw
          case rel =>
            refine ⟨p + 2, by omega, by omega, by first | rfl | (congr 1; done) | (congr 1; omega), fun j h1 h2 => ?_, hkp2⟩
            by_cases e : j = p + 1
            · subst e
              rw [← HE.out.1, Nat.add_sub_cancel, ← HE.out.2]; exact HK.out
            · exact HQ.out j h1 (by omega)
          case measure => simp [intOf]; omega
        · rw [hqk] at HCall
          have HK := Lib.hid hqk; clear hqk
          have start : Blk wr g ((keepTo q C (p + 1 + 1)).map (valInt z) ++ (C.map (valInt z) ++ rest).drop (p + 1)) 3 ∧ (keepTo q C (p + 1 + 1)).length = p + 1 := by
            have hn := HN.out.1
            have e : keepTo q C (p + 1 + 1) = C.take (p + 1) := by
              rw [keepTo_yes (by omega) (by rw [← HE.out.1, Nat.add_sub_cancel, ← HE.out.2]; exact HK.out), keepTo_all (by omega) HQ.out]
            rw [e]
            refine ⟨HBW.out.congrL ?_, by simp; omega⟩
            rw [List.drop_append_of_le_length (by simp; omega), ← List.append_assoc, ← List.map_drop, ← List.map_append, List.take_append_drop]
          have HS := Lib.hid start; clear start
          have hpc : (p : Int) + 1 ≤ (cap : Int) := by omega
          have hpn : (p : Int) + 1 ≤ (n : Int) := by omega
          go_wp2
          go_still_tail 10, (by kernel_rfl)
          go_wp2_with fail
          refine (HCall.out _ hext.drew).mono ?_
          rintro e w1 ⟨rfl, hk2⟩
          have hkp2 : Ext w w1 := hkp.drew.ext hk2
          have HS1 : Blk w1 g ((keepTo q C (p + 1 + 1)).map (valInt z) ++ (C.map (valInt z) ++ rest).drop (p + 1)) 3 := HS.out.1.drew.ext hk2
          have HS2 := Lib.hid (And.intro HS1 HS.out.2); clear HS1
          clear hk2 c1 c2
          obtain ⟨m, em⟩ : ∃ m, n - (p + 1) = m := ⟨_, rfl⟩
          have hcapk : ¬ cap = p + 1 := by omega
          go_wp2
          go_loopw [5, 7] (Compact2 n (p + 1) q C w g (valInt z) rest 3) (fun k j _ => n - (intOf j).toNat)
          case atStart => exact ⟨p + 1, 1, Nat.le_refl _, hkl, by go_num, rfl, Nat.le_refl _, by omega, HS2.out.2, Ext.kp hkp2, HS2.out.1⟩
          case round =>
            obtain ⟨k, j, hj1, hjn, rfl, rfl, hk0, hkj, hkl2, hkp3, hb3⟩ := hrel
            have f1 := hb3.free k
            have HB3 := Lib.hid (And.intro hkl2 hb3); clear hkl2
            by_cases hjm : j < m
            · obtain ⟨t, rfl⟩ : ∃ t, j = t + 1 := ⟨j - 1, by omega⟩
              have hCl := HN.out.1
              have c1 : wr.cell? ⟨g, p + 1 + (t + 1), none⟩ = some (valInt z (C.getD (p + 1 + (t + 1)) 0)) := by
                rw [hb3.cell']; exact compact_cell HB3.out.1 (by omega) (by omega)
              have c2 : wr.cell? ⟨g, p + 1 + t, none⟩ = some (valInt z (C.getD (p + 1 + t) 0)) := by
                rw [hb3.cell']; exact compact_cell HB3.out.1 (by omega) (by omega)
              have hx : C.getD (p + 1 + (t + 1)) 0 < N := HN.out.2.1 _ (getD_mem (by omega))
              have hy : C.getD (p + 1 + t) 0 < N := HN.out.2.1 _ (getD_mem (by omega))
              clear hCl hb3
              have hcall := fun W hW => HC.out W hW _ _ hx hy
              have HCall := Lib.hid hcall; clear hcall
              obtain ⟨x, ex⟩ : ∃ x, x = C.getD (p + 1 + (t + 1)) 0 := ⟨_, rfl⟩
              obtain ⟨y, ey⟩ : ∃ y, y = C.getD (p + 1 + t) 0 := ⟨_, rfl⟩
              rw [← ex, ← ey] at HCall
              rw [← ex] at c1
              rw [← ey] at c2
              have HE := Lib.hid (And.intro ex ey); clear ex ey hx hy
              unfold valInt at c1 c2
              obtain ⟨i1, i2, i3, i4, i5, i6, i7⟩ := idx_pred (k := t) (n := m) (by omega) (by omega)
              have hkn2 : k < n := by omega
              cases hqk : q x y
              · rw [hqk] at HCall
                have HK := Lib.hid hqk; clear hqk
                go_wp2
                go_still_tail 10, (by kernel_rfl)
                go_wp2_with fail
                refine (HCall.out _ hkp3.drew).mono ?_
                rintro e w2 ⟨rfl, hk2⟩
                have hkp4 : Kp (fun i => i = g) w w2 := hkp3.drew.ext hk2
                have d1 := hk2.cell c1 id
                have HB4 : Blk w2 g ((keepTo q C (p + 1 + (t + 1))).map (valInt z) ++ (C.map (valInt z) ++ rest).drop k) 3 := HB3.out.2.drew.ext hk2
                have f2 := HB4.free k
                have d2 : ∃ u, w2.cell? ⟨g, k, none⟩ = some u := ⟨_, HB4.cell k (by have h2 := HN.out.2.2; have h1 := HN.out.1; have h3 := HB3.out.1; simp at h2 ⊢; omega)⟩
                obtain ⟨u, d2⟩ := d2
                have HB5 := Lib.hid HB4; clear HB4
                clear hk2 c1 c2 f1
                go_wp2
                go_roundw
                case rel =>
                  have e : keepTo q C (p + 1 + (t + 2)) = keepTo q C (p + 1 + (t + 1)) ++ [x] := by
                    have := keepTo_no (q := q) (C := C) (k := p + 1 + (t + 1)) (by rw [← HE.out.1, show p + 1 + (t + 1) - 1 = p + 1 + t by omega, ← HE.out.2]; exact HK.out)
                    rw [HE.out.1, ← this]; rfl
                  refine ⟨k + 1, t + 2, by omega, by omega, by first | rfl | (congr 1; done) | (congr 1; omega), by first | rfl | (congr 1; done) | (congr 1; omega), by omega, by omega, by rw [e, List.length_append, HB3.out.1]; rfl, ?_, ?_⟩
                  · exact hkp4.setCell (fun _ => rfl) _
                  · rw [e]; exact (HB5.out.set k _).congrL (compact_set HB3.out.1 (by have := HN.out.1; omega))
                case measure => simp [intOf]; omega
              · rw [hqk] at HCall
                have HK := Lib.hid hqk; clear hqk
                go_wp2
                go_still_tail 10, (by kernel_rfl)
                go_wp2_with fail
                refine (HCall.out _ hkp3.drew).mono ?_
                rintro e w2 ⟨rfl, hk2⟩
                have hkp4 : Kp (fun i => i = g) w w2 := hkp3.drew.ext hk2
                have HB4 : Blk w2 g ((keepTo q C (p + 1 + (t + 1))).map (valInt z) ++ (C.map (valInt z) ++ rest).drop k) 3 := HB3.out.2.drew.ext hk2
                have HB5 := Lib.hid HB4; clear HB4
                clear hk2 c1 c2 f1
                go_wp2
                go_roundw
                case rel =>
                  have e : keepTo q C (p + 1 + (t + 2)) = keepTo q C (p + 1 + (t + 1)) := by
                    have := keepTo_yes (q := q) (C := C) (k := p + 1 + (t + 1)) (by omega) (by rw [← HE.out.1, show p + 1 + (t + 1) - 1 = p + 1 + t by omega, ← HE.out.2]; exact HK.out)
                    rw [← this]; rfl
                  exact ⟨k, t + 2, by omega, by omega, rfl, by first | rfl | (congr 1; done) | (congr 1; omega), hk0, by omega, by rw [e]; exact HB3.out.1, hkp4, by rw [e]; exact HB5.out⟩
                case measure => simp [intOf]; omega
            · have hjn' : p + 1 + j = n := by omega
              rw [hjn'] at HB3
              obtain ⟨w3, hrun, hk3, hb4⟩ := run_clearB elemInt rfl (fun w => by kernel_rfl) HB3.out.2 (off := k) (n := n - k) (c := cap - k) (sp := some ⟨g, k, none⟩) (fun _ => rfl) (by have := HB3.out.1; have h2 := HN.out.2.2; have h1 := HN.out.1; simp at h2 ⊢; omega)
              have HB4 := Lib.hid hb4; clear hb4 hb3
              have HK3 := Lib.hid hk3; clear hk3
              have hkc : ¬ cap = k := by omega
              have hkc2 : (k : Int) ≤ (cap : Int) := by omega
              have hkn2 : (k : Int) ≤ (n : Int) := by omega
              have hjj : j = m := by omega
              clear hjn'
              go_wp2
              go_ret
              have h2 := HN.out.2.2; have h1 := HN.out.1
              have hk := HB3.out.1
              refine RetF.mk (hkp3.trans HK3.out) ⟨List.replicate (n - k) (.int .i64 0) ++ ((C.map (valInt z) ++ rest).drop k).drop (n - k), ?_, ?_, ?_⟩
              · rw [hk]; rfl
              · refine HB4.out.congrL ?_
                unfold splice
                rw [List.take_append_of_le_length (by simp; omega), List.take_of_length_le (by simp; omega), List.drop_append, List.drop_of_length_le (by simp; omega), List.length_map, hk, List.length_replicate, List.nil_append, Nat.add_sub_cancel_left]
              · simp at h2 ⊢; omega
      · go_wp2
        go_ret
        have e : keepTo q C n = C := by
          rw [keepTo_all (by have := HN.out.1; omega) (fun j h1 h2 => HQ.out j h1 (by omega)), List.take_of_length_le (by have := HN.out.1; omega)]
        refine RetF.mk hext ⟨rest, ?_, by rw [e]; exact HB.out.ext hkp, by rw [e]; exact HN.out.2.2⟩
        rw [e, ← HN.out.1]; rfl
end Go.Proofs.YtfkhelihepbehaaGreat

/- slices.Clone, EqualFunc, Grow, Concat at int. -/
namespace Go.Proofs.YtfkhelihepbehaaGreat
open Go.RowKit
set_option linter.unusedVariables false

theorem cloneInt_any (vs : List Value) (ao : Option Addr) (cap : Nat) (w : World) (n : Nat) (hn : n = vs.length) (hc : CellsAt w ao vs) (h1 : ∀ u ∈ vs, u.oneCell' = true) (hm : n * 8 ≤ 140737488355328) :
    Calls Tryz.prog 89 #[.slice ao n cap] w (RetN w fun w' v => Row w' 3 1 v n vs (New w)) := by
  have hq : ∀ w : World, (binOp .eql 40 (.slice ao n cap) (.slice none 0 0)).run Tryz.prog w = .ok (.bool ao.isNone) w := fun w => Lib.run_eql_slice_nil w _ _ _ _ _ _ _ Tryz.underlying40
  have HNN := Lib.hid hn; clear hn
  have hl : n ≤ maxLen := by unfold maxLen; omega
  cases ao with
  | none =>
    have hv : vs = [] := by
      cases vs with
      | nil => rfl
      | cons x vs => obtain ⟨b, o, h, _⟩ := hc.off (by simp); cases h
    subst hv
    have h0 : n = 0 := HNN.out
    subst h0
    go_enter Tryz.func89, Tryz.ntmps89
    go_wp2
    go_ret
    exact RetN.mk (Kp.refl _) (Row.nil _ _ _ _)
  | some a =>
    go_enter Tryz.func89, Tryz.ntmps89
    go_wp2_with (first | (at_builtin; refine Halted.out ?_))
    refine Halted.mk (wp_appN elemInt rfl _ _ rfl ((Kp.refl (F := fun _ => False) w).alloc _) rfl (Row.empty w 3 1 (New w) (Nat.le_refl _)) rfl (hc.alloc _) (by rw [HNN.out, Nat.mul_one]) h1 (by omega) (by omega) ?_)
    intro v1 w1 hr1 hk1 _ _
    have HR := Lib.hid hr1; clear hr1
    go_wp2
    go_ret
    exact RetN.mk hk1 (by simpa using HR.out)



end Go.Proofs.YtfkhelihepbehaaGreat

/- tuple.Set at int: what a set is in memory; cmp, alike, Len, Items, find. -/
namespace Go.Proofs.YtfkhelihepbehaaGreat
open Go.RowKit
set_option linter.unusedVariables false

/-- A value that a set may have for its order: nil where all are alike, or a function that holds two of D against each other, in every world in which the blocks of S are as they were. -/
def OrdVInt (P : Program) (S : Nat → Prop) (w0 : World) (ov : Value) (D : Int → Prop) (c : Int → Int → Int) : Prop :=
  (ov = .nilFunc ∧ ∀ x y, D x → D y → c x y = 0) ∨ ∃ f first cap, ov = .func (Fn.func f) first cap ∧ (∀ args w, (callFunc f args).run P w = .ok (Next.enter f args) w) ∧
    ∀ w, Same S w0 w → ∀ x y, D x → D y → Calls P f (first ++ (#[(Value.int .i64 (x)), (Value.int .i64 (y))] ++ cap)) w fun e w' => e = .returned (.int .i64 (c x y)) ∧ Ext w w'

theorem OrdVInt.same {P : Program} {S : Nat → Prop} {w0 w1 : World} {ov : Value} {D : Int → Prop} {c : Int → Int → Int} (h : OrdVInt P S w0 ov D c) (hs : Same S w0 w1) : OrdVInt P S w1 ov D c := by
  rcases h with h | ⟨f, first, cap, e, he, h⟩
  · exact .inl h
  · exact .inr ⟨f, first, cap, e, he, fun w hw => h w (hs.trans hw)⟩
theorem OrdVInt.mono {P : Program} {S S' : Nat → Prop} {w0 : World} {ov : Value} {D : Int → Prop} {c : Int → Int → Int} (h : OrdVInt P S w0 ov D c) (hs : ∀ k, S k → S' k) : OrdVInt P S' w0 ov D c := by
  rcases h with h | ⟨f, first, cap, e, he, h⟩
  · exact .inl h
  · exact .inr ⟨f, first, cap, e, he, fun w hw => h w (hw.mono hs)⟩

/-- A set in memory: its order, its row, what lies behind them in the same struct. -/
structure SetAtInt (P : Program) (S : Nat → Prop) (w : World) (b : Nat) (ov iv : Value) (tail : List Value) (te : TypeId) (D : Int → Prop) (c : Int → Int → Int) (zs : List (Int)) : Prop where
  blk : Blk w b (ov :: iv :: tail) te
  row : Row w 3 1 iv zs.length (zs.map fun x => (Value.int .i64 (x))) (fun k => iv.ownBlock = some k)
  apart : iv.ownBlock ≠ some b
  inS : ∀ k, S k → k < w.heap.size
  notS : ∀ k, Owns b iv k → ¬ S k
  ord : OrdVInt P S w ov D c
  all : ∀ x ∈ zs, D x
  len : zs.length ≤ 1048576 * 1048576

section
variable {P : Program} {S : Nat → Prop} {w w' : World} {b : Nat} {ov iv : Value} {tail : List Value} {te : TypeId} {D : Int → Prop} {c : Int → Int → Int} {zs : List (Int)}
theorem SetAtInt.kp {F : Nat → Prop} (h : SetAtInt P S w b ov iv tail te D c zs) (hk : Kp F w w') (hF : ∀ k, F k → ¬ Owns b iv k) (hS : ∀ k, F k → ¬ S k) : SetAtInt P S w' b ov iv tail te D c zs :=
  ⟨h.blk.kp hk fun hf => hF _ hf (.inl rfl), h.row.kp hk fun g hg hf => hF _ hf (.inr hg), h.apart, fun k hk' => Nat.lt_of_lt_of_le (h.inS k hk') hk.size, h.notS, h.ord.same (hk.same h.inS fun k hk' hf => hS k hf hk'), h.all, h.len⟩
theorem SetAtInt.ext (h : SetAtInt P S w b ov iv tail te D c zs) (hk : Ext w w') : SetAtInt P S w' b ov iv tail te D c zs := h.kp hk (fun _ x => x.elim) (fun _ x => x.elim)
theorem SetAtInt.cells (h : SetAtInt P S w b ov iv tail te D c zs) : w.cell? ⟨b, 0, none⟩ = some ov ∧ w.cell? ⟨b, 1, none⟩ = some iv := ⟨by rw [h.blk.cell']; rfl, by rw [h.blk.cell']; rfl⟩
end

set_option maxRecDepth 100000 in
theorem setCmpInt_any (S : Nat → Prop) (w : World) (b : Nat) (ov : Value) (cs : List Value) (te : TypeId) (D : Int → Prop) (c : Int → Int → Int) (x y : Int) (hx : D x) (hy : D y) (hB : Blk w b (ov :: cs) te)
    (hS : ∀ k, S k → k < w.heap.size) (ho : OrdVInt Tryz.prog S w ov D c) :
    Calls Tryz.prog 91 #[.pointer (some ⟨b, 0, none⟩), (Value.int .i64 (x)), (Value.int .i64 (y))] w (fun e w' => e = .returned (.int .i64 (c x y)) ∧ Ext w w') := by
  have c1 : w.cell? ⟨b, 0, none⟩ = some ov := by rw [hB.cell']; rfl
  clear hB
  rcases ho with ⟨rfl, h0⟩ | ⟨f, first, cap, rfl, hent, hc⟩
  · have h00 := Lib.hid (h0 x y hx hy); clear h0
    have hq : ∀ w : World, (binOp .eql 50 .nilFunc .nilFunc).run Tryz.prog w = .ok (.bool true) w := fun _ => by kernel_rfl
    go_enter Tryz.func91, Tryz.ntmps91
    go_wp2
    go_ret
    exact ⟨by rw [h00.out]; rfl, Kp.refl _⟩
  · have HC := Lib.hid hc; clear hc
    have hq : ∀ w : World, (binOp .eql 50 (.func (Fn.func f) first cap) .nilFunc).run Tryz.prog w = .ok (.bool false) w := fun _ => by kernel_rfl
    go_enter Tryz.func91, Tryz.ntmps91
    go_wp2_with fail
    refine (HC.out w (Same.refl hS) x y hx hy).mono ?_
    rintro e w1 ⟨rfl, hk⟩
    have HK := Lib.hid hk; clear hk
    go_wp2
    go_ret
    exact ⟨rfl, HK.out⟩

set_option maxRecDepth 100000 in
theorem setAlikeInt_any (S : Nat → Prop) (w : World) (b : Nat) (ov : Value) (cs : List Value) (te : TypeId) (D : Int → Prop) (c : Int → Int → Int) (x y : Int) (hx : D x) (hy : D y) (hB : Blk w b (ov :: cs) te)
    (hS : ∀ k, S k → k < w.heap.size) (ho : OrdVInt Tryz.prog S w ov D c) :
    Calls Tryz.prog 93 #[.pointer (some ⟨b, 0, none⟩), (Value.int .i64 (x)), (Value.int .i64 (y))] w (fun e w' => e = .returned (.bool (decide (c x y = 0))) ∧ Ext w w') := by
  go_enter Tryz.func93, Tryz.ntmps93
  go_wp2_with fail
  refine (setCmpInt_any S w b ov cs te D c x y hx hy hB hS ho).mono ?_
  rintro e w1 ⟨rfl, hk⟩
  have HK := Lib.hid hk; clear hk hB ho
  go_wp2
  go_ret
  exact ⟨rfl, HK.out⟩

set_option maxRecDepth 100000 in
theorem setItemsInt_any {S : Nat → Prop} {w : World} {b : Nat} {ov iv : Value} {tail : List Value} {te : TypeId} {D : Int → Prop} {c : Int → Int → Int} {zs : List (Int)} (h : SetAtInt Tryz.prog S w b ov iv tail te D c zs) :
    Calls Tryz.prog 37 #[.pointer (some ⟨b, 0, none⟩)] w (RetN w fun w' v => Row w' 3 1 v zs.length (zs.map fun x => (Value.int .i64 (x))) (New w)) := by
  obtain ⟨c1, c2⟩ := h.cells
  obtain ⟨ao, cap, rfl, hc, _⟩ := h.row.shape
  have hl := h.len
  have HC := Lib.hid hc; clear h hc
  go_enter Tryz.func37, Tryz.ntmps37
  go_wp2_with fail
  refine (cloneInt_any (zs.map fun x => (Value.int .i64 (x))) ao cap w zs.length (by simp) HC.out (by intro u hu; obtain ⟨x, _, rfl⟩ := List.mem_map.1 hu; rfl) (by omega)).mono ?_
  rintro e w1 ⟨v, rfl, hk, hr⟩
  have HR := Lib.hid (And.intro hk hr); clear hk hr
  go_wp2
  go_ret
  exact RetN.mk HR.out.1 HR.out.2
theorem setItemsInt_nil (w : World) : Calls Tryz.prog 37 #[.pointer none] w (Ret (.slice none 0 0) w) := by
  go_enter Tryz.func37, Tryz.ntmps37
  go_wp2
  go_ret
  exact Ret.mk rfl

set_option maxRecDepth 100000 in
set_option maxHeartbeats 1000000 in
theorem setFindInt_any {S : Nat → Prop} {w : World} {b : Nat} {ov iv : Value} {tail : List Value} {te : TypeId} {D : Int → Prop} {c : Int → Int → Int} {zs : List (Int)} (O : OrdLaw c) (x : Int) (hx : D x) (hs : Strict c zs) (h : SetAtInt Tryz.prog S w b ov iv tail te D c zs) :
    Calls Tryz.prog 94 #[.pointer (some ⟨b, 0, none⟩), (Value.int .i64 (x))] w
      (RetF (fun _ => False) w fun w' v => v = .tuple #[.int .i64 (below c zs x : Nat), .bool (isIn c zs x)]) := by
  obtain ⟨c1, c2⟩ := h.cells
  obtain ⟨ao, cap, eiv, hc, _⟩ := h.row.shape
  subst eiv
  have hl := h.len
  obtain ⟨n, en⟩ : ∃ n, n = zs.length := ⟨_, rfl⟩
  have get : ∀ i (hi : i < n), zs.getD i x = zs[i]'(by omega) := fun i hi => by simp [List.getD, show i < zs.length by omega]
  have evals : (List.range n).map (fun i => (Value.int .i64 (zs.getD i x))) = zs.map fun x => (Value.int .i64 (x)) := by
    refine List.ext_getElem (by simp [en]) fun i h1 h2 => ?_
    simp only [List.getElem_map, List.getElem_range]
    rw [get i (by simpa using h1)]
  have hent : ∀ args w, (callFunc 91 args).run Tryz.prog w = .ok (.enter 91 args) w := enters_of Tryz.func91 (by kernel_rfl) rfl
  have hcmp : CmpToInt Tryz.prog 91 #[.pointer (some ⟨b, 0, none⟩)] #[] w ((List.range n).map fun i => (Value.int .i64 (zs.getD i x))) ((Value.int .i64 (x))) (fun i => c (zs.getD i x) x) := by
    refine ⟨hent, fun w' hw i v hv => ?_⟩
    have hi : i < n := by simpa using (List.getElem?_eq_some_iff.1 hv).1
    have ev : v = (Value.int .i64 (zs.getD i x)) := by simp [hi] at hv; rw [← hv, List.getD_eq_getElem?_getD]
    subst ev
    have h' := h.ext hw
    exact setCmpInt_any S w' b ov _ te D c (zs.getD i x) x (by rw [get i hi]; exact h.all _ (List.getElem_mem _)) hx h'.blk h'.inS h'.ord
  have hbin := binSearchInt_any zs (fun i => zs.getD i x) ao cap ((Value.int .i64 (x))) 91 #[.pointer (some ⟨b, 0, none⟩)] #[] (fun i => c (zs.getD i x) x) w n (by rw [evals]; exact hc) hcmp (by omega)
  rw [en] at hbin
  have HB := Lib.hid hbin
  have HH := Lib.hid (And.intro en get)
  clear hbin hcmp hc evals hent h get
  go_enter Tryz.func94, Tryz.ntmps94
  go_wp2_with fail
  refine HB.out.mono ?_
  rintro e w1 ⟨v, rfl, hk, i, hi, h1, h2, rfl⟩
  have ei : i = below c zs x := by
    refine hs.place O hi (fun y hp hy => ?_) (fun y hy => ?_)
    · have e := (List.getElem?_eq_some_iff.1 hy).2
      rcases h1 with h1 | h1
      · omega
      · rw [HH.out.2 _ (by rw [HH.out.1]; omega), e] at h1; exact h1
    · obtain ⟨hl', e⟩ := List.getElem?_eq_some_iff.1 hy
      rcases h2 with h2 | h2
      · omega
      · rw [HH.out.2 _ (by rw [HH.out.1]; omega), e] at h2; exact h2
  have eb : decide (i < zs.length ∧ c (zs.getD i x) x = 0) = isIn c zs x := by
    rw [Bool.eq_iff_iff, decide_eq_true_iff, hs.there O x, ← ei]
    constructor
    · rintro ⟨a1, a2⟩
      exact ⟨zs[i], List.getElem?_eq_getElem a1, by rw [HH.out.2 _ (by rw [HH.out.1]; omega)] at a2; exact a2⟩
    · rintro ⟨y, hy, hz⟩
      obtain ⟨hl', e⟩ := List.getElem?_eq_some_iff.1 hy
      exact ⟨hl', by rw [HH.out.2 _ (by rw [HH.out.1]; omega), e]; exact hz⟩
  rw [eb, ei]
  have HK := Lib.hid hk
  clear hk h1 h2 eb ei hi
  go_wp2
  go_ret2
  exact RetF.mk HK.out (tup_ib rfl)
end Go.Proofs.YtfkhelihepbehaaGreat

/- tuple.NewSet at int. -/
namespace Go.Proofs.YtfkhelihepbehaaGreat
open Go.RowKit
set_option linter.unusedVariables false

theorem compactInt_nil (fv : Value) (w : World) : Calls Tryz.prog 92 #[.slice none 0 0, fv] w (Ret (.slice none 0 0) w) := by
  go_enter Tryz.func92, Tryz.ntmps92
  go_wp2
  go_ret
  exact Ret.mk rfl

/-- A new row laid into a set's struct. -/
theorem setAtInt_store {P : Program} {S : Nat → Prop} {w : World} {b : Nat} {ov iv0 iv : Value} {tail : List Value} {te : TypeId} {D : Int → Prop} {c : Int → Int → Int} {zs : List (Int)} {M : Nat → Prop}
    (hB : Blk w b (ov :: iv0 :: tail) te) (hr : Row w 3 1 iv zs.length (zs.map fun x => (Value.int .i64 (x))) M) (hap : iv.ownBlock ≠ some b) (hS : ∀ k, S k → k < w.heap.size) (hn : ∀ k, Owns b iv k → ¬ S k)
    (ho : OrdVInt P S w ov D c) (hD : ∀ x ∈ zs, D x) (hl : zs.length ≤ 1048576 * 1048576) : SetAtInt P S (w.setCell ⟨b, 1, none⟩ iv) b ov iv tail te D c zs := by
  have hk : Kp (fun k => k = b) w (w.setCell ⟨b, 1, none⟩ iv) := Kp.setCell (F := fun k => k = b) (Kp.refl w) (fun _ => rfl) iv
  exact ⟨hB.set 1 iv, hr.own.kp hk fun g hg e => hap (by rw [hg, e]), hap, fun k h => Nat.lt_of_lt_of_le (hS k h) hk.size, hn, ho.same (hk.same hS fun k h e => hn k (.inl e) h), hD, hl⟩

theorem newWInt {P : Program} {S : Nat → Prop} {w w1 : World} {ov : Value} {D : Int → Prop} {c : Int → Int → Int} {g : Nat} {cs : List Value} {e : TypeId} (ho : OrdVInt P S w ov D c) (hk : Ext w w1) (hS : ∀ k, S k → k < w.heap.size) (hB : Blk w1 g cs e) (iv : Value) (te : TypeId) :
    ∃ w2, w1.alloc (.cells #[ov, iv] te) = w2 ∧ Ext w w2 ∧ Blk w2 w1.heap.size [ov, iv] te ∧ Blk w2 g cs e ∧ OrdVInt P S w2 ov D c ∧ ∀ k, S k → k < w2.heap.size :=
  ⟨_, rfl, hk.alloc _, Blk.new w1 [ov, iv] te, hB.alloc _, ho.same ((hk.alloc _).same hS fun _ _ => id), fun k h => Nat.lt_of_lt_of_le (hS k h) (hk.alloc _).size⟩

set_option maxRecDepth 100000 in
set_option maxHeartbeats 2000000 in
theorem newSetInt_any (S : Nat → Prop) (w : World) (ov : Value) (ao : Option Addr) (n cap : Nat) (D : Int → Prop) (c : Int → Int → Int) (O : OrdLaw c) (zs : List (Int)) (hn : n = zs.length) (hc : CellsAt w ao (zs.map fun x => (Value.int .i64 (x))))
    (hS : ∀ k, S k → k < w.heap.size) (ho : OrdVInt Tryz.prog S w ov D c) (hD : ∀ x ∈ zs, D x) (hl : n ≤ 1048576 * 1048576) :
    Calls Tryz.prog 34 #[ov, .slice ao n cap] w
      (RetN w fun w' v => ∃ b iv, v = .pointer (some ⟨b, 0, none⟩) ∧ w.heap.size ≤ b ∧ (∀ k, iv.ownBlock = some k → w.heap.size ≤ k) ∧ SetAtInt Tryz.prog S w' b ov iv [] 126 D c (newS c zs)) := by
  have hform : ov = .nilFunc ∨ ∃ f first cap, ov = .func f first cap := by
    rcases ho with ⟨h, _⟩ | ⟨f, first, cap, h, _⟩
    · exact .inl h
    · exact .inr ⟨_, _, _, h⟩
  have HO := Lib.hid ho; clear ho
  have HN := Lib.hid (And.intro hn hD); clear hn hD
  have HC := Lib.hid hc; clear hc
  rcases hform with rfl | ⟨f1, first1, cap2, rfl⟩
  all_goals
    go_enter Tryz.func34, Tryz.ntmps34
    go_wp2_with fail
    refine (cloneInt_any (zs.map fun x => (Value.int .i64 (x))) ao cap w n (by rw [HN.out.1, List.length_map]) HC.out (by intro u hu; obtain ⟨x, _, rfl⟩ := List.mem_map.1 hu; rfl) (by omega)).mono ?_
    rintro e w1 ⟨v, rfl, hk, hr⟩
    have HK := Lib.hid hk; clear hk
    obtain ⟨h1, ⟨rfl, h0⟩ | ⟨g, cap1, rest, rfl, hg, hB, hlen, hnc, hcm⟩⟩ := hr
    · have HZ := Lib.hid h0; clear h0 h1
      go_wp2_with fail
      refine (sortStableInt_nil none 0 _ _).mono ?_
      rintro e w' ⟨rfl, rfl⟩
      go_wp2_with fail
      refine (compactInt_nil _ _).mono ?_
      rintro e w' ⟨rfl, rfl⟩
      go_wp2
      go_ret
      have hz : zs = [] := List.eq_nil_of_length_eq_zero (by rw [← HN.out.1]; exact HZ.out)
      subst hz
      have hk1 := HK.out
      refine RetN.mk (hk1.alloc _) ⟨w1.heap.size, .slice none 0 0, rfl, hk1.size, (fun k hk => by cases hk), ?_⟩
      refine ⟨Blk.new w1 [_, _] _, Row.nil _ _ _ _, (fun h => by cases h), (fun k h => Nat.lt_of_lt_of_le (hS k h) (hk1.alloc _).size), (fun k h hs => ?_), HO.out.same ((hk1.alloc _).same hS fun _ _ => id), by simp [newS], by simp [newS]⟩
      have := hS k hs; have := hk1.size
      rcases h with h | h
      · omega
      · cases h
    · have HB := Lib.hid hB; clear hB
      have HG := Lib.hid hg; clear hg
      have hLN := Lib.hid hlen; clear hlen
      obtain ⟨b, eb⟩ : ∃ b, b = w1.heap.size := ⟨_, rfl⟩
      have hgb : g < b := by rw [eb]; exact HB.out.lt
      have hentc : ∀ args w, (callFunc 91 args).run Tryz.prog w = .ok (.enter 91 args) w := enters_of Tryz.func91 (by kernel_rfl) rfl
      have henta : ∀ args w, (callFunc 93 args).run Tryz.prog w = .ok (.enter 93 args) w := enters_of Tryz.func93 (by kernel_rfl) rfl
      have HE := Lib.hid (And.intro hentc henta); clear hentc henta
      have get : ∀ i, i < n → ∃ h : i < zs.length, zs.getD i default = zs[i] := fun i hi => ⟨by rw [← HN.out.1]; exact hi, by simp [List.getD, show i < zs.length by rw [← HN.out.1]; exact hi]⟩
      have inD : ∀ i, i < n → D (zs.getD i default) := fun i hi => by obtain ⟨h, e⟩ := get i hi; rw [e]; exact HN.out.2 _ (List.getElem_mem _)
      have evals : zs.map (fun x => (Value.int .i64 (x))) = (List.range n).map (valInt fun i => zs.getD i default) := by
        refine List.ext_getElem (by simp [HN.out.1]) fun i h1 h2 => ?_
        simp only [List.getElem_map, List.getElem_range]
        obtain ⟨h, e⟩ := get i (by simpa using h2)
        show (Value.int .i64 (zs[i])) = (Value.int .i64 (zs.getD i default))
        rw [e]
      have ezs : (List.range n).map (fun i => zs.getD i default) = zs := by
        refine List.ext_getElem (by simp [HN.out.1]) fun i h1 h2 => ?_
        simp only [List.getElem_map, List.getElem_range]
        exact (get i (by simpa using h1)).2
      have HV := Lib.hid (And.intro evals ezs)
      have HI := Lib.hid inD
      clear evals ezs inD get
      have OL := (O.idx fun i : Nat => zs.getD i default)
      go_wp2_with fail
      obtain ⟨w2, hw2, hk2, hB2, hG2, ho2, hS2⟩ := newWInt HO.out HK.out hS HB.out (.slice (some ⟨g, 0, none⟩) n cap1) 126
      rw [← eb] at hB2
      rw [HV.out.1] at hG2
      have hsz : w.heap.size ≤ b := by rw [eb]; exact HK.out.size
      rw [← eb, hw2]
      clear hw2 eb
      have hSg : ∀ k, S k → ¬ k = g := fun k h e => by have := hS k h; have := HG.out; simp only [New] at this; omega
      have hSb : ∀ k, S k → ¬ k = b := fun k h e => by have := hS k h; omega
      have hcmp : CmpOn Tryz.prog 91 #[.pointer (some ⟨b, 0, none⟩)] #[] g n w2 (valInt fun i => zs.getD i default) (fun i j => c (zs.getD i default) (zs.getD j default)) :=
        ⟨HE.out.1, fun w' hw i j hi hj => setCmpInt_any S w' b _ _ _ D c _ _ (HI.out i hi) (HI.out j hj) (hB2.kp hw (by omega)) (fun k h => Nat.lt_of_lt_of_le (hS2 k h) hw.size) (ho2.same (hw.same hS2 hSg))⟩
      refine (sortStableInt_any (fun i => zs.getD i default) g n cap1 rest 91 #[.pointer (some ⟨b, 0, none⟩)] #[] (fun i j => c (zs.getD i default) (zs.getD j default)) OL.nat w2 hcmp (by omega) hG2).mono ?_
      clear hcmp
      rintro e w3 ⟨v, rfl, hk3, rfl, C, hp, hs, hG3⟩
      have hB3 := hB2.kp hk3 (by omega)
      have ho3 := ho2.same (hk3.same hS2 hSg)
      have hS3 : ∀ k, S k → k < w3.heap.size := fun k h => Nat.lt_of_lt_of_le (hS2 k h) hk3.size
      have hCl : C.length = n := by simpa using hp.length_eq
      have c1 : w3.cell? ⟨b, 1, none⟩ = some (.slice (some ⟨g, 0, none⟩) n cap1) := by rw [hB3.cell']; rfl
      have hlike : LikeOn Tryz.prog 93 #[.pointer (some ⟨b, 0, none⟩)] #[] g n w3 (valInt fun i => zs.getD i default) (fun i j => decide (c (zs.getD i default) (zs.getD j default) = 0)) :=
        ⟨HE.out.2, fun w' hw i j hi hj => setAlikeInt_any S w' b _ _ _ D c _ _ (HI.out i hi) (HI.out j hj) (hB3.kp hw (by omega)) (fun k h => Nat.lt_of_lt_of_le (hS3 k h) hw.size) (ho3.same (hw.same hS3 hSg))⟩
      have hcomp := compactInt_any (fun i => zs.getD i default) C g n cap1 n rest 93 #[.pointer (some ⟨b, 0, none⟩)] #[] _ w3 hlike hCl.symm (fun i hi => List.mem_range.1 (hp.subset hi)) (by omega) hG3 (by have := hLN.out; simp only [List.length_append, List.length_map, hCl] at this ⊢; rw [← HN.out.1] at this; omega) hcm
      have hkeep := keep_new OL hp hs
      rw [hkeep] at hcomp
      have HCOMP := Lib.hid hcomp
      have HCM := Lib.hid hcm
      have HP := Lib.hid (And.intro hk2 (And.intro hk3 (And.intro hB3 (And.intro ho3 hS3))))
      clear hlike hcomp hkeep hk2 hk3 hB3 ho3 hS3 hp hs hG3 hB2 hG2 ho2 hS2 hcm
      go_wp2_with fail
      refine HCOMP.out.mono ?_
      rintro e w4 ⟨v, rfl, hk4, rest', rfl, hG4, hl4⟩
      obtain ⟨hk2, hk3, hB3, ho3, hS3⟩ := HP.out
      have hB4 := hB3.kp hk4 (by omega)
      have ho4 := ho3.same (hk4.same hS3 hSg)
      have hS4 : ∀ k, S k → k < w4.heap.size := fun k h => Nat.lt_of_lt_of_le (hS3 k h) hk4.size
      have d0 : w4.cell? ⟨b, 1, none⟩ = some (.slice (some ⟨g, 0, none⟩) n cap1) := by rw [hB4.cell']; rfl
      have f0 := hB4.free 1
      have hkk : Kp (fun k => k = g) w w4 := (hk2.kp.trans hk3).trans hk4
      have HQ := Lib.hid (And.intro hB4 (And.intro ho4 (And.intro hS4 (And.intro hG4 (And.intro hl4 hkk)))))
      clear hk2 hk3 hB3 ho3 hS3 hk4 hG4 hl4 hB4 ho4 hS4 hkk c1
      go_wp2
      go_ret
      obtain ⟨hB4, ho4, hS4, hG4, hl4, hkk⟩ := HQ.out
      have eN : (newS (fun i j => c (zs.getD i default) (zs.getD j default)) (List.range n)).map (fun i => zs.getD i default) = newS c zs := by rw [← newS_map, HV.out.2]
      have eL : (newS (fun i j => c (zs.getD i default) (zs.getD j default)) (List.range n)).length = (newS c zs).length := by rw [← eN, List.length_map]
      have eV : (newS (fun i j => c (zs.getD i default) (zs.getD j default)) (List.range n)).map (valInt fun i => zs.getD i default) = (newS c zs).map fun x => (Value.int .i64 (x)) := by
        rw [← eN, List.map_map]; rfl
      rw [eV] at hG4 hl4
      have hgw : w.heap.size ≤ g := HG.out
      have hex : Ext w w4 := hkk.mono fun k hk e => by omega
      refine RetN.mk (hex.setCell (fun h => absurd hsz (Nat.not_le.2 h)) _) ⟨b, .slice (some ⟨g, 0, none⟩) (newS (fun i j => c (zs.getD i default) (zs.getD j default)) (List.range n)).length cap1, rfl, hsz, (fun k hk => by have e : g = k := Option.some.inj hk; omega), ?_⟩
      have hlen := newS_len (c := c) zs
      refine setAtInt_store hB4 (M := fun _ => True) ⟨by simp, .inr ⟨g, cap1, rest', congrArg (fun t => Value.slice (some ⟨g, 0, none⟩) t cap1) eL, trivial, hG4, by rw [hl4, Nat.mul_one], by rw [← hl4]; simp, HCM.out⟩⟩ (fun h => by have e : g = b := Option.some.inj h; omega) hS4 (fun k h hs => ?_) ho4 (fun x hx => HN.out.2 x (newS_mem hx)) (by rw [← HN.out.1] at hlen; omega)
      rcases h with h | h
      · exact hSb k hs h
      · have e : g = k := Option.some.inj h
        exact hSg _ hs e.symm
end Go.Proofs.YtfkhelihepbehaaGreat

/- slices.Insert of one element at int. -/
namespace Go.Proofs.YtfkhelihepbehaaGreat
open Go.RowKit
set_option linter.unusedVariables false

set_option maxRecDepth 100000 in
set_option maxHeartbeats 4000000 in
theorem insertInt_any (xs : List Value) (iv : Value) (M : Nat → Prop) (n i : Nat) (x : Value) (vb : Nat) (ve : TypeId) (w : World) (hn : n = xs.length) (hr : Row w 3 1 iv n xs M) (hi : i ≤ n) (hx : x.oneCell' = true) (hxs : ∀ u ∈ xs, u.oneCell' = true)
    (hv : Blk w vb [x] ve) (hne : iv.ownBlock ≠ some vb) (hb : (n + 1) * 8 ≤ 140737488355328) :
    Calls Tryz.prog 95 #[iv, .int .i64 i, .slice (some ⟨vb, 0, none⟩) 1 1] w
      (RetF (fun g => iv.ownBlock = some g) w fun w' v => Row w' 3 1 v (n + 1) (xs.take i ++ x :: xs.drop i) (fun g => iv.ownBlock = some g ∨ w.heap.size ≤ g)) := by
  have hsrc : CellsAt w (some ⟨vb, 0, none⟩) [x] := CellsAt.pre (rest := []) hv
  have hl : n + 1 ≤ 9223372036854775807 := by omega
  obtain ⟨ao, cap, rfl, hcells, hcap⟩ := hr.shape
  by_cases hin : i = n
  · subst hin
    have HNN := Lib.hid hn; clear hn
    have hrM : Row w 3 1 (.slice ao i cap) i xs (fun g => (Value.slice ao i cap).ownBlock = some g ∨ w.heap.size ≤ g) := hr.own.mono fun g h => .inl h
    clear hr
    by_cases hci : cap = i
    all_goals
      first | (subst hci) | skip
      go_enter Tryz.func95, Tryz.ntmps95
      go_wp2_with (first | (at_builtin; refine Halted.out ?_))
      refine Halted.mk (wp_app elemInt rfl _ _ rfl (Kp.refl (F := fun g => (Value.slice ao _ _).ownBlock = some g) w) (M := fun g => (Value.slice ao _ _).ownBlock = some g ∨ w.heap.size ≤ g) (fun g h h' => by rcases h with h | h; exact h; omega) (fun g h => .inr h) rfl hrM rfl rfl hsrc (by simpa using hx) hb (by unfold maxLen; omega) ?_)
      intro v1 w1 hr1 hk1 _ _
      have HR := Lib.hid hr1; clear hr1 hcells hrM
      go_wp2
      go_ret
      refine RetF.mk hk1 ?_
      have := HNN.out
      rw [List.take_of_length_le (by omega), List.drop_of_length_le (by omega)]
      exact HR.out
  · have hlt : i < n := by omega
    obtain ⟨h1, ⟨h2, h3⟩ | ⟨g, cap', rest, h2, hM, hB, hlen, hnc, hcm⟩⟩ := hr
    · omega
    cases h2
    have hgv : g ≠ vb := fun e => hne (by simp [Value.ownBlock, e])
    have hfree := hv.free
    have hov : ∀ (W : World), Blk W vb [x] ve → (∀ cs, Blk w g cs 3 → True) → ∀ off lb cb (kB : Nat) (eB : TypeId), W.shape? g = some (eB, kB) → kB ≠ 0 →
        (callFunc 133 #[.slice (some ⟨vb, 0, none⟩) 1 1, .slice (some ⟨g, off, none⟩) lb cb]).run Tryz.prog W = .ok (.value (.bool false)) W := fun W hW _ off lb cb kB eB hs hk => by
      rw [run_callFunc_extern Tryz.func133 (by kernel_rfl) (by kernel_rfl) (by kernel_rfl) (e := Extern.SlicesOverlaps.overlaps #[40, 40] #[4]) (by kernel_rfl),
        Lib.run_overlaps_apart W 40 4 3 Tryz.underlying40 1 (fun w => by kernel_rfl) ⟨vb, 0, none⟩ ⟨g, off, none⟩ 1 1 lb cb (fun e => hgv e.symm) ve eB 1 kB hW.shape hs hk (hW.free 0) (hW.free 1)]
      rfl
    by_cases hroom : n + 1 ≤ cap
    · have hrest : ∃ y rest', rest = y :: rest' := by
        cases rest with
        | nil => simp at hlen h1; omega
        | cons y r => exact ⟨y, r, rfl⟩
      obtain ⟨y, rest', rfl⟩ := hrest
      have hov1 := fun off lb cb => hov w hv (fun _ _ => trivial) off lb cb _ _ hB.shape (by simp)
      have ncap : ¬ cap = i + 1 := by omega
      have ncap2 : ¬ cap = i := by omega
      have hi1 : ((i : Int) + 1).toNat = i + 1 := by omega
      have hw1 : IntKind.i64.wrap ((i : Int) + 1) = (i : Int) + 1 := IntWalk.i64_in _ (by omega)
      have hp1 : (0 : Int) ≤ (i : Int) + 1 := by omega
      have hp2 : (i : Int) ≤ (n : Int) + 1 := by omega
      have HNN := Lib.hid hn; clear hn
      have HB := Lib.hid hB; clear hB
      have HS := Lib.hid hsrc; clear hsrc
      have HV := Lib.hid hv; clear hv hov hfree
      have HXS := Lib.hid hxs; clear hxs
      have HC := Lib.hid hcells; clear hcells
      have HLN := Lib.hid (And.intro h1 hlen); clear h1 hlen
      have hcm' := hcm
      clear hM hcm hne
      unfold maxLen at hcm'
      go_enter Tryz.func95, Tryz.ntmps95
      go_wp2_with (simp only [hov1])
      go_still_tail 8, (by kernel_rfl)
      refine wp_copyB elemInt rfl _ _ rfl (w := w.drew) (HB.out.drew) (g := g) (off := i + 1) rfl rfl (cs := xs.drop i) (by have := HNN.out; simp [Nat.min_def]; first | omega | (split <;> omega)) (fun _ => rfl) (fun j u hu => ⟨g, i, rfl, by
          have hb := HB.out
          rw [hb.drew.cell']
          rw [List.getElem?_drop] at hu
          rw [List.getElem?_append_left (List.getElem?_eq_some_iff.1 hu).1]; exact hu⟩) (by have := HNN.out; simp; omega) (fun u hu => HXS.out u (List.mem_of_mem_drop hu)) ?_
      intro w2 hk2 hB2
      have hsv := (HS.out.drewN 1).kp hk2 (fun a ha e => by cases ha; exact hgv e.symm)
      obtain ⟨w3, hrun3, hk3, hB3⟩ := run_copyB elemInt (w := w2) hB2 (g := g) (off := i) (dp := some ⟨g, i, none⟩) (dLen := n + 1 - i) (dCap := cap - i) (sp := some ⟨vb, 0, none⟩) (sLen := 1) (sCap := 1) (cs := [x]) (by simp [Nat.min_def]; omega) (fun _ => rfl) hsv (by have := HNN.out; simp [splice]; omega) (by simpa using hx)
      have HK2 := Lib.hid hk2; have HK3 := Lib.hid hk3; have HB3 := Lib.hid hB3
      clear hk2 hk3 hB3 hB2 hsv hw1 hi1 hp1
      go_wp2
      go_ret
      have hk23 : Kp (fun k => k = g) w w3 := (((Kp.refl w).drew).trans (HK2.out)).trans HK3.out
      refine RetF.mk (hk23.mono fun k _ e => by rw [e]; rfl) ⟨?_, .inr ⟨g, cap, rest', rfl, .inl rfl, ?_, ?_, hroom, by unfold maxLen; omega⟩⟩
      · have := HNN.out; simp; omega
      · have := splice_ins xs rest' x y i (by have := HNN.out; omega)
        rw [← this]; exact HB3.out
      · have := HLN.out.2; have := HNN.out; simp at *; omega
    · have hcap' : n = cap := by omega
      subst hcap'
      have hk0 : 0 < n + 1 - i := by omega
      obtain ⟨w1, G, hrun1, hG, hGm, hext1, hsz1, hB1⟩ := run_app_zeros (w := w) elemInt rfl Tryz.underlying3 (ao := some ⟨g, 0, none⟩) (n := i) (cap := n) (olds := xs.take i) (fun j u hu => by
          rw [List.getElem?_take] at hu
          split at hu
          · exact hcells j u hu
          · cases hu) (by simp; omega) (k := n + 1 - i) hk0 (by omega) (by rw [show i + (n + 1 - i) = n + 1 by omega]; exact hb) (by unfold maxLen; omega)
      rw [show i + (n + 1 - i) = n + 1 by omega] at hrun1 hG
      have rk : (n : Int) + 1 - i = ((n + 1 - i : Nat) : Int) := by omega
      rw [← rk] at hrun1
      clear rk
      have hv1 := hsrc.ext hext1
      have hgh : g < w.heap.size := hB.lt
      obtain ⟨w2, hrun2, hk2, hB2⟩ := run_copyB elemInt (w := w1) hB1 (off := i) (dp := some ⟨w.heap.size, i, none⟩) (dLen := n + 1 - i) (dCap := G - i) (sp := some ⟨vb, 0, none⟩) (sLen := 1) (sCap := 1) (cs := [x]) (by simp [Nat.min_def]; omega) (fun _ => rfl) hv1 (by simp; omega) (by simpa using hx)
      have hB' : Blk w2 g (xs ++ rest) 3 := (hB.ext hext1).kp hk2 (by omega)
      have HB' := Lib.hid hB'; have HB2 := Lib.hid hB2; have HK2 := Lib.hid hk2; have HE1 := Lib.hid hext1
      have HNN := Lib.hid hn
      have HXS := Lib.hid hxs
      have HLN := Lib.hid (And.intro h1 hlen)
      have ncG : ¬ G = i := by omega
      have ncG1 : ¬ G = i + 1 := by omega
      have nci : ¬ n = i := by omega
      have hi1 : ((i : Int) + 1).toNat = i + 1 := by omega
      have hw1 : IntKind.i64.wrap ((i : Int) + 1) = (i : Int) + 1 := IntWalk.i64_in _ (by omega)
      have hp1 : (0 : Int) ≤ (i : Int) + 1 := by omega
      have hp2 : (i : Int) ≤ (n : Int) + 1 := by omega
      have hp3 : (i : Int) ≤ (n : Int) := by omega
      clear hB hB' hB2 hk2 hext1 hn hxs h1 hlen hv1 hB1 hM hcm hne hv hov hfree hsrc hcells
      unfold maxLen at hGm
      go_enter Tryz.func95, Tryz.ntmps95
      go_wp2_with (first | (at_builtin; refine Halted.out ?_))
      refine Halted.mk (wp_appRun rfl _ _ rfl rfl rfl hrun1 ?_)
      clear hrun1
      go_wp2
      go_still_tail 8, (by kernel_rfl)
      refine wp_copyB elemInt rfl _ _ rfl (w := w2.drew) (HB2.out.drew) (g := w.heap.size) (off := i + 1) rfl rfl (cs := xs.drop i) (by have := HNN.out; simp [Nat.min_def]; first | omega | (split <;> omega)) (fun _ => rfl) (fun j u hu => ⟨g, i, rfl, by
          have hb := HB'.out
          rw [hb.drew.cell']
          rw [List.getElem?_drop] at hu
          rw [List.getElem?_append_left (List.getElem?_eq_some_iff.1 hu).1]; exact hu⟩) (by have := HNN.out; simp [splice]; omega) (fun u hu => HXS.out u (List.mem_of_mem_drop hu)) ?_
      intro w3 hk3 hB3
      have HK3 := Lib.hid hk3; have HB3 := Lib.hid hB3
      clear hk3 hB3 hw1 hi1 hp1 hp2 hp3
      go_wp2
      go_ret
      have hext2 : Ext w w2 := HE1.out.trans' HK2.out (fun k hk e => by omega)
      have hext3 : Ext w w3 := (hext2.drew).trans' HK3.out (fun k hk e => by omega)
      refine RetF.mk hext3.kp ⟨?_, .inr ⟨w.heap.size, G, List.replicate (G - (n + 1)) (.int .i64 0), rfl, .inr (Nat.le_refl _), ?_, ?_, hG, by unfold maxLen; omega⟩⟩
      · have := HNN.out; simp; omega
      · have h := splice_ins2 xs x (.int .i64 0) i G (by have := HNN.out; omega) (by have := HNN.out; omega)
        have := HB3.out
        rw [h] at this
        exact this.congrL (by rw [HNN.out])
      · have := HNN.out; simp; omega
end Go.Proofs.YtfkhelihepbehaaGreat

/- tuple.Set at int: Has, Below, At, Add, Drop, Copy. -/
namespace Go.Proofs.YtfkhelihepbehaaGreat
open Go.RowKit
set_option linter.unusedVariables false

section
variable {S : Nat → Prop} {w : World} {b : Nat} {ov iv : Value} {tail : List Value} {te : TypeId} {D : Int → Prop} {c : Int → Int → Int} {zs : List (Int)}

theorem setBelowInt_nil (x : Value) (w : World) : Calls Tryz.prog 38 #[.pointer none, x] w (Ret (.int .i64 0) w) := by
  go_enter Tryz.func38, Tryz.ntmps38
  go_wp2
  go_ret
  exact Ret.mk rfl
set_option maxRecDepth 100000 in
theorem setBelowInt_any (O : OrdLaw c) (x : Int) (hx : D x) (hs : Strict c zs) (h : SetAtInt Tryz.prog S w b ov iv tail te D c zs) :
    Calls Tryz.prog 38 #[.pointer (some ⟨b, 0, none⟩), (Value.int .i64 (x))] w (RetF (fun _ => False) w fun w' v => v = .int .i64 (below c zs x : Nat)) := by
  have HF := Lib.hid (setFindInt_any O x hx hs h); clear h
  go_enter Tryz.func38, Tryz.ntmps38
  go_wp2_with fail
  refine HF.out.mono ?_
  rintro e w1 ⟨v, rfl, hk, rfl⟩
  have HK := Lib.hid hk; clear hk
  go_wp2
  go_ret
  exact RetF.mk HK.out rfl
theorem setAddInt_nil (x : Value) (w : World) : Calls Tryz.prog 39 #[.pointer none, x] w (Ret (.bool false) w) := by
  go_enter Tryz.func39, Tryz.ntmps39
  go_wp2
  go_ret
  exact Ret.mk rfl
set_option maxRecDepth 100000 in
set_option maxHeartbeats 1000000 in
theorem setAddInt_any (O : OrdLaw c) (x : Int) (hx : D x) (hs : Strict c zs) (h : SetAtInt Tryz.prog S w b ov iv tail te D c zs) (hl : zs.length + 1 ≤ 1048576 * 1048576) :
    Calls Tryz.prog 39 #[.pointer (some ⟨b, 0, none⟩), (Value.int .i64 (x))] w
      (RetF (Owns b iv) w fun w' v => v = .bool (!isIn c zs x) ∧ ∃ iv', SetAtInt Tryz.prog S w' b ov iv' tail te D c (addS c zs x) ∧ ∀ k, iv'.ownBlock = some k → iv.ownBlock = some k ∨ w.heap.size ≤ k) := by
  have HF := Lib.hid (setFindInt_any O x hx hs h)
  have HH := Lib.hid h; clear h
  go_enter Tryz.func39, Tryz.ntmps39
  go_wp2_with fail
  refine HF.out.mono ?_
  rintro e w1 ⟨v, rfl, hk, rfl⟩
  have h1 := HH.out.ext hk
  have HK := Lib.hid hk; clear hk
  cases hin : isIn c zs x
  · obtain ⟨c1, c2⟩ := h1.cells
    have H1 := Lib.hid h1; clear h1
    go_wp2_with fail
    have hb := below_le (c := c) zs x
    have hbw : b < w1.heap.size := H1.out.blk.lt
    refine (insertInt_any (zs.map fun x => (Value.int .i64 (x))) iv _ zs.length (below c zs x) ((Value.int .i64 (x))) w1.heap.size 3 _ (by simp) (H1.out.row.alloc _) hb rfl (by intro u hu; obtain ⟨y, _, rfl⟩ := List.mem_map.1 hu; rfl) (Blk.new w1 [(Value.int .i64 (x))] 3) (fun e => by
        have := H1.out.row
        obtain ⟨q1, ⟨q2, _⟩ | ⟨g, cap, rest, q2, _, q3, _⟩⟩ := this
        · rw [q2] at e; cases e
        · rw [q2] at e; have e' : g = w1.heap.size := Option.some.inj e
          have := q3.lt; omega) (by omega)).mono ?_
    rintro e w2 ⟨iv', rfl, hk2, hr⟩
    obtain ⟨ao', cap', eiv, _, _⟩ := hr.shape
    subst eiv
    have hk02 := ((Kp.refl (F := fun k => iv.ownBlock = some k) w1).alloc (.cells #[(Value.int .i64 (x))] 3)).trans hk2
    have hB2 := H1.out.blk.kp hk02 H1.out.apart
    have f1 := hB2.free 1
    have d1 : w2.cell? ⟨b, 1, none⟩ = some iv := by rw [hB2.cell']; rfl
    have HR := Lib.hid (And.intro hk02 (And.intro hB2 hr))
    clear hk02 hB2 hr hk2 c1 c2
    go_wp2
    go_ret
    obtain ⟨hk02, hB2, hr⟩ := HR.out
    have h1 := H1.out
    have hz : addS c zs x = zs.take (below c zs x) ++ x :: zs.drop (below c zs x) := by unfold addS; rw [hin]; rfl
    have hlz : (addS c zs x).length = zs.length + 1 := by rw [addS_len, hin]; rfl
    have hown : ∀ k, (Value.slice ao' (zs.length + 1) cap').ownBlock = some k → iv.ownBlock = some k ∨ w.heap.size ≤ k := fun k hk => by
      rcases hr.block k hk with hh | hh
      · exact .inl hh
      · have := HK.out.size; simp only [alloc_size] at hh; exact .inr (by omega)
    have hownb : (Value.slice ao' (zs.length + 1) cap').ownBlock ≠ some b := fun hk => by
      rcases hr.block b hk with hh | hh
      · exact h1.apart hh
      · simp only [alloc_size] at hh; omega
    have hK : Kp (Owns b iv) w w2 := ((Ext.kp HK.out).trans (hk02.mono fun k _ hk => .inr hk))
    refine RetF.mk (hK.setCell (fun _ => .inl rfl) _) ⟨by rw [hin]; rfl, .slice ao' (zs.length + 1) cap', ?_, hown⟩
    refine setAtInt_store hB2 (M := fun _ => True) ?_ hownb (fun k hk => Nat.lt_of_lt_of_le (h1.inS k hk) hk02.size) (fun k hk hS => ?_) (h1.ord.same (hk02.same h1.inS fun k hk hk' => h1.notS k (.inr hk') hk)) (fun y hy => ?_) (by rw [hlz]; exact hl)
    · rw [hlz, hz]
      have := hr.mono (M' := fun _ => True) fun _ _ => trivial
      simpa using this
    · rcases hk with hk | hk
      · exact h1.notS k (.inl hk) hS
      · rcases hr.block k hk with hh | hh
        · exact h1.notS k (.inr hh) hS
        · have := h1.inS k hS; simp only [alloc_size] at hh; omega
    · rcases mem_addS.1 hy with hy | ⟨rfl, _⟩
      · exact h1.all y hy
      · exact hx
  · have H1 := Lib.hid h1; clear h1
    go_wp2
    go_ret
    have hz : addS c zs x = zs := by unfold addS; rw [hin]; rfl
    refine RetF.mk (Ext.kp HK.out) ⟨by rw [hin]; rfl, iv, ?_, fun k hk => .inl hk⟩
    rw [hz]; exact H1.out
end
end Go.Proofs.YtfkhelihepbehaaGreat

/- The statements' known(): a set and a base that the document names. -/
namespace Go.Proofs.YtfkhelihepbehaaGreat
open Go.RowKit
set_option linter.unusedVariables false

section
variable {w w' : World} {bb r b : Nat} {n : Int} {S : Nat → Prop} {iv : Value} {arity : Nat} {LL : List (List ByteArray)}
set_option maxRecDepth 100000 in
/-- A row of another length than the relation's. -/
theorem baseAdd_arity (hB : Blk w bb [.map (some r), .int .i64 n] 65) (s : ByteArray) (hm : MapIs w r [(s, .pointer (some ⟨b, 0, none⟩))]) (hr : RowsAt S w b iv arity LL) (hs1 : 1 ≤ s.size) (hs2 : s.size ≤ 4096) (ao : Option Addr) (k cap : Nat) (hk : k ≠ arity) :
    Calls Tryz.prog 40 #[.pointer (some ⟨bb, 0, none⟩), .string s, .slice ao k cap] w (Ret (.tuple #[.bool false, .int .i64 30]) w) := by
  have c0 : w.cell? ⟨bb, 0, none⟩ = some (.map (some r)) := by rw [hB.cell']; rfl
  have c2 : w.cell? ⟨b, 2, none⟩ = some (.int .i64 arity) := by rw [hr.blk.cell']; rfl
  have hlk := run_lookup_str (P := Tryz.prog) Tryz.underlying63 Tryz.underlying9 (z := .pointer none) (by kernel_rfl) hm s
  have hl0 : (getM [(s, Value.pointer (some ⟨b, 0, none⟩))] s).getD (.pointer none) = .pointer (some ⟨b, 0, none⟩) := by simp [getM]
  rw [hl0] at hlk
  have hnm := named_any s w
  rw [show decide (1 ≤ s.size ∧ s.size ≤ 4096) = true by simp [hs1, hs2]] at hnm
  have HN := Lib.hid hnm; clear hnm
  have q1 : ((arity : Int) != (k : Int)) = true := by rw [bne_iff_ne]; omega
  clear hB hm hr hl0 hk
  go_enter Tryz.func40, Tryz.ntmps40
  go_wp2_with fail
  refine HN.out.mono ?_
  rintro e w' ⟨rfl, rfl⟩
  go_wp2
  go_ret2
  exact Ret.mk rfl
end

/-- The order of known's set. -/
theorem sub_law : OrdLaw (fun x y : Int => x - y) := ⟨fun x y => by omega, fun x y z h h' => by omega⟩
theorem knownFn_any (x y : Int) (h : wrap64 (x - y) = x - y) (w : World) : Calls Tryz.prog 35 #[.int .i64 x, .int .i64 y] w (Ret (.int .i64 (x - y)) w) := by
  go_enter Tryz.func35, Tryz.ntmps35
  go_wp2
  go_ret
  exact Ret.mk (by simp [h])
theorem known_ord (S : Nat → Prop) (w : World) : OrdVInt Tryz.prog S w (.func (Fn.func 35) #[] #[]) (fun x => x ∈ ([3, 1, 3, 2] : List Int)) (fun x y => x - y) := by
  refine .inr ⟨_, _, _, rfl, enters_of Tryz.func35 (by kernel_rfl) rfl, fun w' hw x y hx hy => ?_⟩
  have hx' : 1 ≤ x ∧ x ≤ 3 := by simp at hx; omega
  have hy' : 1 ≤ y ∧ y ≤ 3 := by simp at hy; omega
  refine (knownFn_any x y (by unfold wrap64; omega) w').mono ?_
  rintro e w2 ⟨rfl, rfl⟩
  exact ⟨rfl, Kp.refl _⟩
end Go.Proofs.YtfkhelihepbehaaGreat

namespace Go.Proofs.YtfkhelihepbehaaGreat
open Go.RowKit
set_option linter.unusedVariables false
def tA : ByteArray := ⟨#[97]⟩
def tB : ByteArray := ⟨#[98]⟩
def tP : ByteArray := ⟨#[112]⟩
def tZ : ByteArray := ⟨#[122]⟩

theorem num_any (x : Int) (w : World) : Calls Tryz.prog 24 #[.int .i64 x] w (Ret (.int .i64 x) w) := by
  go_enter Tryz.func24, Tryz.ntmps24
  go_wp2
  go_ret
  exact Ret.mk rfl

set_option maxRecDepth 100000 in
set_option maxHeartbeats 2000000 in
theorem known_any (w : World) : Calls Tryz.prog 6 #[] w (RetN w fun w' v => v = .bool true) := by
  have hnew : newS (fun x y : Int => x - y) [3, 1, 3, 2] = [1, 2, 3] := by decide
  go_enter Tryz.func6, Tryz.ntmps6
  go_wp2_with fail
  refine (newSetInt_any (fun _ => False) _ _ (some ⟨w.heap.size, 0, none⟩) 4 4 (fun x => x ∈ ([3, 1, 3, 2] : List Int)) (fun x y => x - y) sub_law [3, 1, 3, 2] rfl ?_ (fun _ h => h.elim) (known_ord _ _) (fun x h => h) (by decide)).mono ?_
  · exact CellsAt.pre (rest := []) (Blk.new w [Value.int .i64 3, .int .i64 1, .int .i64 3, .int .i64 2] 3)
  rintro e w1 ⟨v, rfl, hk1, b1, iv1, rfl, hb1, hi1, hs1⟩
  rw [hnew] at hs1
  have x1 : Ext w w1 := ((Kp.refl w).alloc _).trans hk1
  have HS := Lib.hid hs1; clear hs1 hk1 hnew
  go_wp2_with fail
  refine (setItemsInt_any HS.out).mono ?_
  rintro e w2 ⟨v, rfl, hk2, hr2⟩
  obtain ⟨ao2, cap2, ev, hc2, _⟩ := hr2.shape
  subst ev
  clear hr2
  have HC2 := Lib.hid hc2; clear hc2
  go_wp2_with fail
  refine (ints_yes [1, 2, 3] ao2 (some ⟨w2.heap.size, 0, none⟩) 3 cap2 3 _ rfl (HC2.out.alloc _) (CellsAt.pre (rest := []) (Blk.new w2 [Value.int .i64 1, .int .i64 2, .int .i64 3] 3)) (by decide)).mono ?_
  rintro e w' ⟨rfl, n3, rfl⟩
  have x3 : Ext w1 ((w2.alloc (.cells #[.int .i64 1, .int .i64 2, .int .i64 3] 3)).drewN n3) := (hk2.alloc _).drewN _
  generalize (w2.alloc (.cells #[.int .i64 1, .int .i64 2, .int .i64 3] 3)).drewN n3 = w3 at x3 ⊢
  have hst : Strict (fun x y : Int => x - y) [1, 2, 3] := by unfold Strict; decide
  have HB := Lib.hid (setBelowInt_any sub_law 3 (by simp) hst (HS.out.ext x3))
  have e2 : below (fun x y : Int => x - y) [1, 2, 3] 3 = 2 := by decide
  rw [e2] at HB
  go_wp2_with fail
  refine HB.out.mono ?_
  rintro e w4 ⟨v, rfl, hk4, rfl⟩
  have HA := Lib.hid (setAddInt_any sub_law 2 (by simp) hst (HS.out.ext (x3.trans hk4)) (by decide))
  have e3 : isIn (fun x y : Int => x - y) [1, 2, 3] 2 = true := by decide
  rw [e3] at HA
  go_wp2_with fail
  refine HA.out.mono ?_
  rintro e w5 ⟨v, rfl, hk5, rfl, _⟩
  have x5 : Ext w w5 := (x1.trans (x3.trans hk4)).trans' hk5 (fun i hi ho => by
    rw [alloc_size] at hb1
    rcases ho with ho | ho
    · omega
    · have := hi1 i ho; rw [alloc_size] at this; omega)
  have X5 := Lib.hid x5
  clear HS HB HA HC2 hst e2 e3 hk5 hk4 x3 x1 hk2 x5 hb1 hi1
  go_wp2_with fail
  refine (newBase_any w5).mono ?_
  rintro e w6 ⟨v, rfl, hk6, rfl, hB6, hm6⟩
  have H6 := Lib.hid (And.intro hk6 (And.intro hB6 hm6)); clear hk6 hB6 hm6
  go_wp2_with fail
  refine (baseAdd_first (fun _ => False) (H6.out.2.1.alloc _) (H6.out.2.2.ext ((Kp.refl w6).alloc _)) (fun _ h => h.elim) id id tP (by decide) (by decide) (ao := some ⟨w6.heap.size, 0, none⟩) (k := 2) (cap := 2) (ss := [tA, tB]) ⟨⟨rfl, CellsAt.pre (rest := []) (Blk.new w6 [Value.string tA, .string tB] 9)⟩, by decide, fun a e => by cases e; simp⟩ (by decide) (by decide)).mono ?_
  rintro e w7 ⟨v, rfl, hk7, rfl, S', b, iv, hB7, hm7, hr7, hb⟩
  have x7 : Ext w w7 := ((X5.out.trans H6.out.1).alloc (.cells #[.string tA, .string tB] 9)).trans' hk7 (fun i hi h => by have := X5.out.size; rcases h with h | h <;> omega)
  have H7 := Lib.hid (And.intro hB7 (And.intro hm7 (And.intro hr7 x7))); clear hk7 hB7 hm7 hr7 x7 hb
  go_wp2_with fail
  refine (baseAdd_arity (H7.out.1.alloc _) tP (H7.out.2.1.ext ((Kp.refl w7).alloc _)) (H7.out.2.2.1.ext ((Kp.refl w7).alloc _)) (by decide) (by decide) (some ⟨w7.heap.size, 0, none⟩) 1 1 (by decide)).mono ?_
  rintro e w' ⟨rfl, rfl⟩
  have x8 : Ext w7 (w7.alloc (.cells #[.string tA] 9)) := (Kp.refl w7).alloc _
  go_wp2_with fail
  refine (num_any 0 _).mono ?_
  rintro e w' ⟨rfl, rfl⟩
  go_wp2_with fail
  refine (num_any 30 _).mono ?_
  rintro e w' ⟨rfl, rfl⟩
  go_wp2_with fail
  have g1 := (Blk.new (w7.alloc (.cells #[.string tA] 9)) [Value.string tB] 9).alloc (.cells #[.string tA, .string tZ] 9)
  have g2 := Blk.new ((w7.alloc (.cells #[.string tA] 9)).alloc (.cells #[.string tB] 9)) [Value.string tA, .string tZ] 9
  rw [alloc_size] at g1
  rw [alloc_size, alloc_size] at g2
  have hcmp : cmpRow [tB] [tA, tZ] = 1 := by first | kernel_rfl | decide +kernel
  have hcc := tupleCompare_any [tB] [tA, tZ] _ _ 1 2 _ (CellsAt.pre (rest := []) g1) (CellsAt.pre (rest := []) g2) (by decide) (by decide)
  rw [hcmp] at hcc
  refine hcc.mono ?_
  rintro e w' ⟨rfl, rfl⟩
  have x9 : Ext w7 (((w7.alloc (.cells #[.string tA] 9)).alloc (.cells #[.string tB] 9)).alloc (.cells #[.string tA, .string tZ] 9)) := (((Kp.refl w7).alloc _).alloc _).alloc _
  clear g1 g2 hcc hcmp x8
  go_wp2_with fail
  refine (baseLen_any (H7.out.1.ext x9)).mono ?_
  rintro e w' ⟨rfl, rfl⟩
  go_wp2
  go_ret
  exact RetN.mk (H7.out.2.2.2.trans x9) rfl
end Go.Proofs.YtfkhelihepbehaaGreat
