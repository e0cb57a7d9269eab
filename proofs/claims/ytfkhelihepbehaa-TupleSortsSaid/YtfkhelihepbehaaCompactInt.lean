/- slices.CompactFunc at int. -/
import Derived.Test.YtfkhelihepbehaaKeep
import Derived.Test.YtfkhelihepbehaaSl2
import Derived.Test.YtfkhelihepbehaaBinInt
import Derived.Test.YtfkhelihepbehaaSwapInt
namespace Go.Proofs.Ytfkhelihepbehaa
open Go.RowKit
set_option linter.unusedVariables false

set_option maxRecDepth 100000 in
set_option maxHeartbeats 4000000 in
theorem compactInt_any (z : Nat → Int) (C : List Nat) (g n cap N : Nat) (rest : List Value) (f : FuncId) (first captured : Array Value) (q : Nat → Nat → Bool) (w : World)
    (hcmp : LikeOn Try.prog f first captured g N w (valInt z) q) (hn : n = C.length) (hC : ∀ i ∈ C, i < N) (hm : n ≤ 4611686018427387904) (hB : Blk w g (C.map (valInt z) ++ rest) 3) (hlen : (C.map (valInt z) ++ rest).length = cap) (hcm : cap ≤ maxLen) :
    Calls Try.prog 30 #[.slice (some ⟨g, 0, none⟩) n cap, .func (Fn.func f) first captured] w
      (RetF (fun k => k = g) w fun w' v => ∃ rest', v = .slice (some ⟨g, 0, none⟩) (keepTo q C n).length cap ∧ Blk w' g ((keepTo q C n).map (valInt z) ++ rest') 3 ∧ ((keepTo q C n).map (valInt z) ++ rest').length = cap) := by
  have hent := hcmp.1
  have HC := Lib.hid hcmp.2; clear hcmp
  have HN := Lib.hid (And.intro hn (And.intro hC hlen)); clear hn hC
  have hcap : n ≤ cap := by have := HN.out.1; simp at hlen; omega
  clear hlen
  have cell : ∀ W : World, Blk W g (C.map (valInt z) ++ rest) 3 → ∀ i, i < n → W.cell? ⟨g, i, none⟩ = some (valInt z (C.getD i 0)) := fun W h i hi => h.at i (by have := HN.out.1; omega)
  have HB := Lib.hid hB; clear hB
  by_cases hlt2 : n < 2
  · go_enter Try.func30, Try.ntmps30
    go_wp2
    go_ret
    have e : keepTo q C n = C := by
      rw [keepTo_all (by have := HN.out.1; omega) (fun j h1 h2 => by omega), List.take_of_length_le (by have := HN.out.1; omega)]
    refine RetF.mk (Kp.refl _) ⟨rest, ?_, by rw [e]; exact HB.out, by rw [e]; exact HN.out.2.2⟩
    rw [e, ← HN.out.1]; rfl
  · go_enter Try.func30, Try.ntmps30
    go_wp2
    go_loopw [5] (Compact1 n q C (fun k => False) w) (fun k _ => n - (intOf k).toNat)
    case atStart => exact ⟨1, Nat.le_refl _, by omega, rfl, fun j h1 h2 => by omega, Kp.refl _⟩
    case round =>
      obtain ⟨k, hk1, hkn, rfl, hq, hkp⟩ := hrel
      have HQ := Lib.hid hq; clear hq
      have hext : Kp (fun i => i = g) w wr := Ext.kp hkp
      by_cases hkl : k < n
      · have HBw : Blk wr g (C.map (valInt z) ++ rest) 3 := HB.out.ext hkp
        obtain ⟨p, rfl⟩ : ∃ p, k = p + 1 := ⟨k - 1, by omega⟩
        have c1 := cell wr HBw (p + 1) hkl
        have c2 := cell wr HBw p (by omega)
        have HBW := Lib.hid HBw; clear HBw
        have hx : C.getD (p + 1) 0 < N := HN.out.2.1 _ (getD_mem (by have := HN.out.1; omega))
        have hy : C.getD p 0 < N := HN.out.2.1 _ (getD_mem (by have := HN.out.1; omega))
        have hcall := fun W hW => HC.out W hW _ _ hx hy
        have HCall := Lib.hid hcall; clear hcall
        obtain ⟨x, ex⟩ : ∃ x, x = C.getD (p + 1) 0 := ⟨_, rfl⟩
        obtain ⟨y, ey⟩ : ∃ y, y = C.getD p 0 := ⟨_, rfl⟩
        rw [← ex, ← ey] at HCall
        rw [← ex] at c1
        rw [← ey] at c2
        have HE := Lib.hid (And.intro ex ey); clear ex ey hx hy
        unfold valInt at c1 c2
        obtain ⟨i1, i2, i3, i4, i5, i6, i7⟩ := idx_pred (k := p) (n := n) (by omega) hm
        cases hqk : q x y
        · rw [hqk] at HCall
          have HK := Lib.hid hqk; clear hqk
          go_wp2
          go_still_tail 10, (by kernel_rfl)
          go_wp2_with fail
          refine (HCall.out _ hext.drew).mono ?_
          rintro e w1 ⟨rfl, hk2⟩
          have hkp2 : Ext w w1 := hkp.drew.ext hk2
          clear hk2 c1 c2
          go_wp2
          go_roundw
          case rel =>
            refine ⟨p + 2, by omega, by omega, by first | rfl | (congr 1; done) | (congr 1; omega), fun j h1 h2 => ?_, hkp2⟩
            by_cases e : j = p + 1
            · subst e
              rw [← HE.out.1, Nat.add_sub_cancel, ← HE.out.2]; exact HK.out
            · exact HQ.out j h1 (by omega)
          case measure => simp [intOf]; omega
        · rw [hqk] at HCall
          have HK := Lib.hid hqk; clear hqk
          have start : Blk wr g ((keepTo q C (p + 1 + 1)).map (valInt z) ++ (C.map (valInt z) ++ rest).drop (p + 1)) 3 ∧ (keepTo q C (p + 1 + 1)).length = p + 1 := by
            have hn := HN.out.1
            have e : keepTo q C (p + 1 + 1) = C.take (p + 1) := by
              rw [keepTo_yes (by omega) (by rw [← HE.out.1, Nat.add_sub_cancel, ← HE.out.2]; exact HK.out), keepTo_all (by omega) HQ.out]
            rw [e]
            refine ⟨HBW.out.congrL ?_, by simp; omega⟩
            rw [List.drop_append_of_le_length (by simp; omega), ← List.append_assoc, ← List.map_drop, ← List.map_append, List.take_append_drop]
          have HS := Lib.hid start; clear start
          have hpc : (p : Int) + 1 ≤ (cap : Int) := by omega
          have hpn : (p : Int) + 1 ≤ (n : Int) := by omega
          go_wp2
          go_still_tail 10, (by kernel_rfl)
          go_wp2_with fail
          refine (HCall.out _ hext.drew).mono ?_
          rintro e w1 ⟨rfl, hk2⟩
          have hkp2 : Ext w w1 := hkp.drew.ext hk2
          have HS1 : Blk w1 g ((keepTo q C (p + 1 + 1)).map (valInt z) ++ (C.map (valInt z) ++ rest).drop (p + 1)) 3 := HS.out.1.drew.ext hk2
          have HS2 := Lib.hid (And.intro HS1 HS.out.2); clear HS1
          clear hk2 c1 c2
          obtain ⟨m, em⟩ : ∃ m, n - (p + 1) = m := ⟨_, rfl⟩
          have hcapk : ¬ cap = p + 1 := by omega
          go_wp2
          go_loopw [5, 7] (Compact2 n (p + 1) q C w g (valInt z) rest 3) (fun k j _ => n - (intOf j).toNat)
          case atStart => exact ⟨p + 1, 1, Nat.le_refl _, hkl, by go_num, rfl, Nat.le_refl _, by omega, HS2.out.2, Ext.kp hkp2, HS2.out.1⟩
          case round =>
            obtain ⟨k, j, hj1, hjn, rfl, rfl, hk0, hkj, hkl2, hkp3, hb3⟩ := hrel
            have f1 := hb3.free k
            have HB3 := Lib.hid (And.intro hkl2 hb3); clear hkl2
            by_cases hjm : j < m
            · obtain ⟨t, rfl⟩ : ∃ t, j = t + 1 := ⟨j - 1, by omega⟩
              have hCl := HN.out.1
              have c1 : wr.cell? ⟨g, p + 1 + (t + 1), none⟩ = some (valInt z (C.getD (p + 1 + (t + 1)) 0)) := by
                rw [hb3.cell']; exact compact_cell HB3.out.1 (by omega) (by omega)
              have c2 : wr.cell? ⟨g, p + 1 + t, none⟩ = some (valInt z (C.getD (p + 1 + t) 0)) := by
                rw [hb3.cell']; exact compact_cell HB3.out.1 (by omega) (by omega)
              have hx : C.getD (p + 1 + (t + 1)) 0 < N := HN.out.2.1 _ (getD_mem (by omega))
              have hy : C.getD (p + 1 + t) 0 < N := HN.out.2.1 _ (getD_mem (by omega))
              clear hCl hb3
              have hcall := fun W hW => HC.out W hW _ _ hx hy
              have HCall := Lib.hid hcall; clear hcall
              obtain ⟨x, ex⟩ : ∃ x, x = C.getD (p + 1 + (t + 1)) 0 := ⟨_, rfl⟩
              obtain ⟨y, ey⟩ : ∃ y, y = C.getD (p + 1 + t) 0 := ⟨_, rfl⟩
              rw [← ex, ← ey] at HCall
              rw [← ex] at c1
              rw [← ey] at c2
              have HE := Lib.hid (And.intro ex ey); clear ex ey hx hy
              unfold valInt at c1 c2
              obtain ⟨i1, i2, i3, i4, i5, i6, i7⟩ := idx_pred (k := t) (n := m) (by omega) (by omega)
              have hkn2 : k < n := by omega
              cases hqk : q x y
              · rw [hqk] at HCall
                have HK := Lib.hid hqk; clear hqk
                go_wp2
                go_still_tail 10, (by kernel_rfl)
                go_wp2_with fail
                refine (HCall.out _ hkp3.drew).mono ?_
                rintro e w2 ⟨rfl, hk2⟩
                have hkp4 : Kp (fun i => i = g) w w2 := hkp3.drew.ext hk2
                have d1 := hk2.cell c1 id
                have HB4 : Blk w2 g ((keepTo q C (p + 1 + (t + 1))).map (valInt z) ++ (C.map (valInt z) ++ rest).drop k) 3 := HB3.out.2.drew.ext hk2
                have f2 := HB4.free k
                have d2 : ∃ u, w2.cell? ⟨g, k, none⟩ = some u := ⟨_, HB4.cell k (by have h2 := HN.out.2.2; have h1 := HN.out.1; have h3 := HB3.out.1; simp at h2 ⊢; omega)⟩
                obtain ⟨u, d2⟩ := d2
                have HB5 := Lib.hid HB4; clear HB4
                clear hk2 c1 c2 f1
                go_wp2
                go_roundw
                case rel =>
                  have e : keepTo q C (p + 1 + (t + 2)) = keepTo q C (p + 1 + (t + 1)) ++ [x] := by
                    have := keepTo_no (q := q) (C := C) (k := p + 1 + (t + 1)) (by rw [← HE.out.1, show p + 1 + (t + 1) - 1 = p + 1 + t by omega, ← HE.out.2]; exact HK.out)
                    rw [HE.out.1, ← this]; rfl
                  refine ⟨k + 1, t + 2, by omega, by omega, by first | rfl | (congr 1; done) | (congr 1; omega), by first | rfl | (congr 1; done) | (congr 1; omega), by omega, by omega, by rw [e, List.length_append, HB3.out.1]; rfl, ?_, ?_⟩
                  · exact hkp4.setCell (fun _ => rfl) _
                  · rw [e]; exact (HB5.out.set k _).congrL (compact_set HB3.out.1 (by have := HN.out.1; omega))
                case measure => simp [intOf]; omega
              · rw [hqk] at HCall
                have HK := Lib.hid hqk; clear hqk
                go_wp2
                go_still_tail 10, (by kernel_rfl)
                go_wp2_with fail
                refine (HCall.out _ hkp3.drew).mono ?_
                rintro e w2 ⟨rfl, hk2⟩
                have hkp4 : Kp (fun i => i = g) w w2 := hkp3.drew.ext hk2
                have HB4 : Blk w2 g ((keepTo q C (p + 1 + (t + 1))).map (valInt z) ++ (C.map (valInt z) ++ rest).drop k) 3 := HB3.out.2.drew.ext hk2
                have HB5 := Lib.hid HB4; clear HB4
                clear hk2 c1 c2 f1
                go_wp2
                go_roundw
                case rel =>
                  have e : keepTo q C (p + 1 + (t + 2)) = keepTo q C (p + 1 + (t + 1)) := by
                    have := keepTo_yes (q := q) (C := C) (k := p + 1 + (t + 1)) (by omega) (by rw [← HE.out.1, show p + 1 + (t + 1) - 1 = p + 1 + t by omega, ← HE.out.2]; exact HK.out)
                    rw [← this]; rfl
                  exact ⟨k, t + 2, by omega, by omega, rfl, by first | rfl | (congr 1; done) | (congr 1; omega), hk0, by omega, by rw [e]; exact HB3.out.1, hkp4, by rw [e]; exact HB5.out⟩
                case measure => simp [intOf]; omega
            · have hjn' : p + 1 + j = n := by omega
              rw [hjn'] at HB3
              obtain ⟨w3, hrun, hk3, hb4⟩ := run_clearB elemInt rfl (fun w => by kernel_rfl) HB3.out.2 (off := k) (n := n - k) (c := cap - k) (sp := some ⟨g, k, none⟩) (fun _ => rfl) (by have := HB3.out.1; have h2 := HN.out.2.2; have h1 := HN.out.1; simp at h2 ⊢; omega)
              have HB4 := Lib.hid hb4; clear hb4 hb3
              have HK3 := Lib.hid hk3; clear hk3
              have hkc : ¬ cap = k := by omega
              have hkc2 : (k : Int) ≤ (cap : Int) := by omega
              have hkn2 : (k : Int) ≤ (n : Int) := by omega
              have hjj : j = m := by omega
              clear hjn'
              go_wp2
              go_ret
              have h2 := HN.out.2.2; have h1 := HN.out.1
              have hk := HB3.out.1
              refine RetF.mk (hkp3.trans HK3.out) ⟨List.replicate (n - k) (.int .i64 0) ++ ((C.map (valInt z) ++ rest).drop k).drop (n - k), ?_, ?_, ?_⟩
              · rw [hk]; rfl
              · refine HB4.out.congrL ?_
                unfold splice
                rw [List.take_append_of_le_length (by simp; omega), List.take_of_length_le (by simp; omega), List.drop_append, List.drop_of_length_le (by simp; omega), List.length_map, hk, List.length_replicate, List.nil_append, Nat.add_sub_cancel_left]
              · simp at h2 ⊢; omega
      · go_wp2
        go_ret
        have e : keepTo q C n = C := by
          rw [keepTo_all (by have := HN.out.1; omega) (fun j h1 h2 => HQ.out j h1 (by omega)), List.take_of_length_le (by have := HN.out.1; omega)]
        refine RetF.mk hext ⟨rest, ?_, by rw [e]; exact HB.out.ext hkp, by rw [e]; exact HN.out.2.2⟩
        rw [e, ← HN.out.1]; rfl
end Go.Proofs.Ytfkhelihepbehaa
