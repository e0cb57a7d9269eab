/- AggNumbers: Number, the program's. -/
import Derived.Test.YtcphalpcdcddpaaDoorNumW
namespace Go.Proofs.YtcphalpcdcddpaaDoor
open Go.RowKit
set_option linter.unusedVariables false

theorem toList_inj' {a b : ByteArray} (h : a.toList = b.toList) : a = b := by
  rw [ByteArray.toList_eq, ByteArray.toList_eq] at h
  exact ByteArray.ext (Array.toList_inj.1 h)
theorem numSpec_bad {l : List UInt8} (h : Lib.parseIntB 64 l = Lib.NumEnd.syntax ∨ Lib.parseIntB 64 l = .range) : numSpec l = (0, false) := by
  unfold numSpec; rcases h with h | h <;> rw [h]
set_option maxRecDepth 100000 in
set_option maxHeartbeats 1000000 in
theorem number_any (s : ByteArray) (hs : s.size ≤ 281474976710656) (w : World) (hN : NumW w) :
    Calls Tryd.prog 4 #[.string s] w (RetN w fun w' v => v = .tuple #[.int .i64 (numSpec s.data.toList).1, .bool (numSpec s.data.toList).2]) := by
  have hq0 : ∀ w : World, (binOp .neq 32 .nilIface .nilIface).run Tryd.prog w = .ok (.bool false) w := fun _ => by kernel_rfl
  have hq1 : ∀ (N : Nat) (w : World), (binOp .neq 32 (.iface 47 (.pointer (some ⟨N, 0, none⟩))) .nilIface).run Tryd.prog w = .ok (.bool true) w := fun _ _ => by kernel_rfl
  cases hp : Lib.parseIntB 64 s.data.toList with
  | ok v =>
    have hb := Lib.parseIntB_bounds hp
    have HP := Lib.hid (Go.Proofs.Tryd.strconv_ParseInt_10_at64_ok s (by omega) v hp w)
    have hb0 : -9223372036854775808 ≤ v := by have := hb.1; omega
    have hb1 : v ≤ 9223372036854775807 := by have := hb.2; omega
    have HW := Lib.hid (fun w1 (hw : Ext w w1) => written_any v hb0 hb1 w1 (hN.ext hw))
    obtain ⟨x, ex⟩ : ∃ x : ByteArray, x = ⟨(Lib.itoa v).toArray⟩ := ⟨_, rfl⟩
    rw [← ex] at HW
    by_cases he : x = s
    · have hsp : numSpec s.data.toList = (v, true) := by
        unfold numSpec; rw [hp]
        simp only
        rw [if_pos (by rw [← he, ex])]
      have HSP := Lib.hid hsp
      have e' : (!(x.toList == s.toList)) = false := by rw [he]; simp
      clear hb hN hsp he ex hp
      go_enter Tryd.func4, Tryd.ntmps4
      go_wp2_with fail
      refine HP.out.mono ?_
      rintro e w1 ⟨rfl, hw1⟩
      have hk : Ext w w1 := by
        rcases hw1 with rfl | ⟨t, rfl⟩
        · exact Kp.refl _
        · exact Kp.of_below (Lib.bytesWorld_below w 5 t)
      clear hw1
      go_wp2_with fail
      refine (HW.out w1 hk).mono ?_
      rintro e w2 ⟨v2, rfl, hk2, rfl⟩
      have HK := Lib.hid (hk.trans hk2); clear hk hk2
      go_wp2
      go_ret2
      exact RetN.mk HK.out (by rw [HSP.out]; rfl)
    · have hsp : numSpec s.data.toList = (0, false) := by
        unfold numSpec; rw [hp]
        simp only
        rw [if_neg (fun h => he (by rw [ex, h]))]
      have HSP := Lib.hid hsp
      have e' : (!(x.toList == s.toList)) = true := by
        cases h : (x.toList == s.toList)
        · rfl
        · exact absurd (toList_inj' (eq_of_beq h)) he
      clear hb hN hsp he ex hp
      go_enter Tryd.func4, Tryd.ntmps4
      go_wp2_with fail
      refine HP.out.mono ?_
      rintro e w1 ⟨rfl, hw1⟩
      have hk : Ext w w1 := by
        rcases hw1 with rfl | ⟨t, rfl⟩
        · exact Kp.refl _
        · exact Kp.of_below (Lib.bytesWorld_below w 5 t)
      clear hw1
      go_wp2_with fail
      refine (HW.out w1 hk).mono ?_
      rintro e w2 ⟨v2, rfl, hk2, rfl⟩
      have HK := Lib.hid (hk.trans hk2); clear hk hk2
      go_wp2
      go_ret2
      exact RetN.mk HK.out (by rw [HSP.out]; rfl)
  | range =>
    obtain ⟨tp, p, hv⟩ := hN.erng
    have HP := Lib.hid (Go.Proofs.Tryd.strconv_ParseInt_10_at64_range_var s hs hp tp p w hv)
    have HSP := Lib.hid (numSpec_bad (.inr hp))
    clear hN hv hp
    go_enter Tryd.func4, Tryd.ntmps4
    go_wp2_with fail
    refine HP.out.mono ?_
    rintro e w1 ⟨N, rfl, _, _, hbel⟩
    have hk := Kp.of_below hbel
    have HK := Lib.hid hk; clear hk hbel
    have hq := hq1 N
    go_wp2
    go_ret2
    exact RetN.mk HK.out (by rw [HSP.out]; rfl)
  | _ =>
    obtain ⟨tp, p, hv⟩ := hN.esyn
    have HP := Lib.hid (Go.Proofs.Tryd.strconv_ParseInt_10_at64_syntax_var s hs hp tp p w hv)
    have HSP := Lib.hid (numSpec_bad (.inl hp))
    clear hN hv hp
    go_enter Tryd.func4, Tryd.ntmps4
    go_wp2_with fail
    refine HP.out.mono ?_
    rintro e w1 ⟨N, rfl, _, _, hbel⟩
    have hk := Kp.of_below hbel
    have HK := Lib.hid hk; clear hk hbel
    have hq := hq1 N
    go_wp2
    go_ret2
    exact RetN.mk HK.out (by rw [HSP.out]; rfl)
end Go.Proofs.YtcphalpcdcddpaaDoor
