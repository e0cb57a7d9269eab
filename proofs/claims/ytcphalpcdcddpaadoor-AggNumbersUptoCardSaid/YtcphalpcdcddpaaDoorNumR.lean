/- AggNumbers: Number, the document's. -/
import Derived.Test.YtcphalpcdcddpaaDoorNumN
namespace Go.Proofs.YtcphalpcdcddpaaDoor
open Go.RowKit
set_option linter.unusedVariables false

/-- Between two rounds. -/
def RnAt (b : List UInt8) (nv iv : Value) : Prop := ∃ k : Nat, k ≤ b.length ∧ iv = .int .i64 k ∧ nv = .int .u64 (valD (b.take k) : Nat) ∧ Hid ((b.take k).all isDig = true)
theorem take_snoc_dig {b : List UInt8} {k : Nat} (hk : k < b.length) : b.take (k + 1) = b.take k ++ [b.getD k 0] := by
  rw [List.take_succ_eq_append_getElem hk]; simp [List.getD, hk]
theorem refTail_all {neg : Bool} {b : List UInt8} {k : Nat} (hk : k < b.length) (h : isDig (b.getD k 0) = false) : refTail neg b = (0, false) := by
  unfold refTail
  rw [if_neg]
  intro ha
  have := List.all_eq_true.1 ha (b.getD k 0) (by simp [List.getD, hk])
  rw [h] at this; cases this
theorem valD_small {b : List UInt8} (h : b.all isDig = true) (hl : b.length ≤ 18) : valD b ≤ 999999999999999999 := by
  have h1 := valD_lt b h
  have h2 : (10 : Nat) ^ b.length ≤ 10 ^ 18 := Nat.pow_le_pow_right (by decide) hl
  have h3 : (10 : Nat) ^ 18 = 1000000000000000000 := by decide
  omega
theorem valD_small' {b : List UInt8} (h : b.all isDig = true) (hl : b.length ≤ 19) : valD b ≤ 9999999999999999999 := by
  have h1 := valD_lt b h
  have h2 : (10 : Nat) ^ b.length ≤ 10 ^ 19 := Nat.pow_le_pow_right (by decide) hl
  have h3 : (10 : Nat) ^ 19 = 10000000000000000000 := by decide
  omega
theorem size_list (s : ByteArray) : s.data.toList.length = s.size := by rw [Array.length_toList]; rfl

set_option maxRecDepth 100000 in
set_option maxHeartbeats 2000000 in
theorem refNumber_plain (s : ByteArray) (c : UInt8) (r : List UInt8) (hs : s.data.toList = c :: r) (h45 : c.toNat ≠ 45) (h0 : c :: r ≠ [48]) (hm : s.size ≤ 281474976710656) (w : World) :
    Calls Tryd.prog 5 #[.string s] w (RetN w fun w' v => v = .tuple #[.int .i64 (refBody false (c :: r)).1, .bool (refBody false (c :: r)).2]) := by
  have hcv := Lib.run_convert_string_bytes (P := Tryd.prog) w 9 35 5 s (u := .string) Tryd.underlying9 Tryd.underlying35 Tryd.underlying5
  have hcells : ∀ j, j < (c :: r).length → (Lib.bytesWorld w 5 s).cell? ⟨w.heap.size, j, none⟩ = some (.int .u8 ((c :: r).getD j 0).toNat) := fun j hj => by
    have := Lib.bytesWorld_cell w 5 s j (by rw [← size_list, hs]; exact hj)
    rw [hs] at this; exact this
  have hk : Ext w (Lib.bytesWorld w 5 s) := Kp.of_below (Lib.bytesWorld_below w 5 s)
  generalize Lib.bytesWorld w 5 s = W1 at hcv hcells hk
  have hn : s.size = (c :: r).length := by rw [← size_list, hs]
  obtain ⟨n, en⟩ : ∃ n, n = (c :: r).length := ⟨_, rfl⟩
  rw [hn, ← en] at hcv
  rw [← en] at hcells
  have hn1 : 1 ≤ n := by rw [en]; simp
  have hnm : n ≤ 281474976710656 := by omega
  have hge := grownCap_ge w n 0 5
  generalize grownCap w n 0 5 = cap at hcv hge
  have e0 : (s.toList == [48]) = false := by
    cases h : (s.toList == [48])
    · rfl
    · have := eq_of_beq h
      rw [ByteArray.toList_eq, hs] at this
      exact absurd this h0
  have hc0 := hcells 0 (by omega)
  simp only [List.getD_cons_zero] at hc0
  have q45 : ((c.toNat : Int) == 45) = false := by rw [beq_eq_false_iff_ne]; omega
  have qn0 : ((n : Int) == 0) = false := by rw [beq_eq_false_iff_ne]; omega
  have qn1 : (0 : Int) < (n : Int) := by omega
  have hcb : c.toNat < 256 := UInt8.toNat_lt c
  have HK := Lib.hid hk; have HC := Lib.hid hcells; have EN := Lib.hid en
  clear hk hcells hn hs h0 en hm
  by_cases h19 : 19 < n
  · have q19 : (19 : Int) < (n : Int) := by omega
    have HR := Lib.hid (show refBody false (c :: r) = (0, false) by rw [refBody_cons, if_pos (Or.inl (by rw [← EN.out]; exact h19))])
    go_enter Tryd.func5, Tryd.ntmps5
    go_wp2
    go_ret2
    exact RetN.mk HK.out (by rw [HR.out]; rfl)
  · have q19 : ¬ (19 : Int) < (n : Int) := by omega
    by_cases hlo : c.toNat < 49
    · have qlo : (c.toNat : Int) < 49 := by omega
      have HR := Lib.hid (show refBody false (c :: r) = (0, false) by rw [refBody_cons, if_pos (Or.inr (Or.inl hlo))])
      go_enter Tryd.func5, Tryd.ntmps5
      go_wp2
      go_ret2
      exact RetN.mk HK.out (by rw [HR.out]; rfl)
    · have qlo : ¬ (c.toNat : Int) < 49 := by omega
      by_cases hhi : 57 < c.toNat
      · have qhi : (57 : Int) < (c.toNat : Int) := by omega
        have HR := Lib.hid (show refBody false (c :: r) = (0, false) by rw [refBody_cons, if_pos (Or.inr (Or.inr hhi))])
        go_enter Tryd.func5, Tryd.ntmps5
        go_wp2
        go_ret2
        exact RetN.mk HK.out (by rw [HR.out]; rfl)
      · have qhi : ¬ (57 : Int) < (c.toNat : Int) := by omega
        have HR := Lib.hid (show refBody false (c :: r) = refTail false (c :: r) by rw [refBody_cons, if_neg (fun h => by rcases h with h | h | h <;> first | omega | (rw [← EN.out] at h; omega))])
        obtain ⟨b, eb⟩ : ∃ b, b = c :: r := ⟨_, rfl⟩
        have HR := Lib.hid (show refBody false (c :: r) = refTail false b by rw [HR.out, eb])
        rw [← eb] at HC EN
        go_enter Tryd.func5, Tryd.ntmps5
        go_wp2
        clear hcv e0 hc0 q45 qn0 qn1 qlo qhi hlo hhi h45 eb
        go_loop [6, 7] (RnAt b) (fun _ iv => n - (intOf iv).toNat)
        case atStart => exact ⟨0, Nat.zero_le _, rfl, rfl, by simp [Hid]⟩
        case round =>
          obtain ⟨k, hk, rfl, rfl, hall⟩ := hrel
          have hk' : k ≤ n := by rw [EN.out]; exact hk
          clear hk
          by_cases hlt : k < n
          · have hc := HC.out k hlt
            have hkb : k < b.length := by rw [← EN.out]; exact hlt
            obtain ⟨x, ex⟩ : ∃ x, x = b.getD k 0 := ⟨_, rfl⟩
            rw [← ex] at hc
            have hx : x.toNat < 256 := UInt8.toNat_lt x
            obtain ⟨v, ev⟩ : ∃ v, v = valD (b.take k) := ⟨_, rfl⟩
            have hvb : v ≤ 999999999999999999 := by rw [ev]; exact valD_small hall.out (by rw [List.length_take]; omega)
            have q1 : (k : Int) < (n : Int) := by omega
            rw [← ev]
            by_cases hd : 48 ≤ x.toNat ∧ x.toNat ≤ 57
            · have HD := Lib.hid (show (b.take (k + 1)).all isDig = true ∧ valD (b.take (k + 1)) = 10 * v + (x.toNat - 48) by
                rw [take_snoc_dig hkb, List.all_append, hall.out, ← ex]
                refine ⟨by simp [isDig, hd], ?_⟩
                unfold valD; rw [valFrom_snoc, ev]; rfl)
              have q2 : ¬ (x.toNat : Int) < 48 := by omega
              have q3 : ¬ (57 : Int) < (x.toNat : Int) := by omega
              clear ev ex hall
              go_wp2
              go_round
              case rel => exact ⟨k + 1, hkb, by go_num, by rw [HD.out.2]; first | rfl | (congr 1; omega), HD.out.1⟩
              case measure => simp [intOf]; omega
            · have HR2 := Lib.hid (refTail_all (neg := false) hkb (by rw [← ex]; simp only [isDig]; exact decide_eq_false hd))
              clear ev ex hall
              by_cases hd2 : x.toNat < 48
              · have q2 : (x.toNat : Int) < 48 := by omega
                clear hd
                go_wp2
                go_ret2
                exact RetN.mk HK.out (by rw [HR.out, HR2.out]; rfl)
              · have q2 : ¬ (x.toNat : Int) < 48 := by omega
                have q3 : (57 : Int) < (x.toNat : Int) := by omega
                clear hd
                go_wp2
                go_ret2
                exact RetN.mk HK.out (by rw [HR.out, HR2.out]; rfl)
          · have et : b.take k = b := List.take_of_length_le (by rw [← EN.out]; omega)
            rw [et] at hall ⊢
            have hvb : valD b ≤ 9999999999999999999 := valD_small' hall.out (by rw [← EN.out]; omega)
            obtain ⟨v, ev⟩ : ∃ v, v = valD b := ⟨_, rfl⟩
            have HT := Lib.hid (show refTail false b = if 9223372036854775807 < v then (0, false) else ((v : Int), true) by unfold refTail; rw [if_pos hall.out, ev]; rfl)
            rw [← ev] at hvb ⊢
            have q1 : ¬ (k : Int) < (n : Int) := by omega
            clear et ev hall
            by_cases hb : 9223372036854775807 < v
            · have q2 : (9223372036854775807 : Int) < (v : Int) := by omega
              go_wp2
              go_ret2
              exact RetN.mk HK.out (by rw [HR.out, HT.out, if_pos hb]; rfl)
            · have q2 : ¬ (9223372036854775807 : Int) < (v : Int) := by omega
              have q3 : IntKind.i64.wrap (v : Int) = v := IntWalk.i64_in _ (by omega)
              go_wp2
              go_ret2
              exact RetN.mk HK.out (by rw [HR.out, HT.out, if_neg hb]; rfl)

set_option maxRecDepth 100000 in
set_option maxHeartbeats 2000000 in
theorem refNumber_neg (s : ByteArray) (r : List UInt8) (hs : s.data.toList = 45 :: r) (hm : s.size ≤ 281474976710656) (w : World) :
    Calls Tryd.prog 5 #[.string s] w (RetN w fun w' v => v = .tuple #[.int .i64 (refBody true r).1, .bool (refBody true r).2]) := by
  have hcv := Lib.run_convert_string_bytes (P := Tryd.prog) w 9 35 5 s (u := .string) Tryd.underlying9 Tryd.underlying35 Tryd.underlying5
  have hcells : ∀ j, j < (45 :: r).length → (Lib.bytesWorld w 5 s).cell? ⟨w.heap.size, j, none⟩ = some (.int .u8 (((45 : UInt8) :: r).getD j 0).toNat) := fun j hj => by
    have := Lib.bytesWorld_cell w 5 s j (by rw [← size_list, hs]; exact hj)
    rw [hs] at this; exact this
  have hk : Ext w (Lib.bytesWorld w 5 s) := Kp.of_below (Lib.bytesWorld_below w 5 s)
  generalize Lib.bytesWorld w 5 s = W1 at hcv hcells hk
  have hn : s.size = r.length + 1 := by rw [← size_list, hs]; rfl
  obtain ⟨n, en⟩ : ∃ n, n = r.length := ⟨_, rfl⟩
  rw [hn, ← en] at hcv
  have hc0 := hcells 0 (by simp)
  have hcells' : ∀ j, j < n → W1.cell? ⟨w.heap.size, 1 + j, none⟩ = some (.int .u8 (r.getD j 0).toNat) := fun j hj => by
    have := hcells (j + 1) (by simp; omega)
    rw [Nat.add_comm 1 j]; simpa using this
  have hnm : n ≤ 281474976710655 := by omega
  have hge := grownCap_ge w (n + 1) 0 5
  generalize grownCap w (n + 1) 0 5 = cap at hcv hge
  have e0 : (s.toList == [48]) = false := by
    cases h : (s.toList == [48])
    · rfl
    · have := eq_of_beq h
      rw [ByteArray.toList_eq, hs] at this
      cases this
  have hc0' : W1.cell? ⟨w.heap.size, 0, none⟩ = some (.int .u8 45) := hc0
  have HK := Lib.hid hk; have HC := Lib.hid hcells'; have EN := Lib.hid en
  clear hk hcells hcells' hn hs en hm hc0
  have qn1 : (0 : Int) < ((n + 1 : Nat) : Int) := by omega
  by_cases hcap : cap = 1
  · subst hcap
    obtain rfl : n = 0 := by omega
    have HR := Lib.hid (show refBody true r = (0, false) by
      have := EN.out
      cases r with
      | nil => rfl
      | cons _ _ => simp at this)
    go_enter Tryd.func5, Tryd.ntmps5
    go_wp2
    go_ret2
    exact RetN.mk HK.out (by rw [HR.out]; rfl)
  · cases r with
    | nil =>
      have HR := Lib.hid (show refBody true [] = (0, false) from rfl)
      have e1 : n = 0 := EN.out
      subst e1
      go_enter Tryd.func5, Tryd.ntmps5
      go_wp2
      go_ret2
      exact RetN.mk HK.out (by rw [HR.out]; rfl)
    | cons c r =>
      have hn0 : 1 ≤ n := by rw [EN.out]; simp
      have hc0 := HC.out 0 (by omega)
      simp only [List.getD_cons_zero, Nat.add_zero] at hc0
      have qn0 : ((n : Int) == 0) = false := by rw [beq_eq_false_iff_ne]; omega
      have hcb : c.toNat < 256 := UInt8.toNat_lt c
      by_cases h19 : 19 < n
      · have q19 : (19 : Int) < (n : Int) := by omega
        have HR := Lib.hid (show refBody true (c :: r) = (0, false) by rw [refBody_cons, if_pos (Or.inl (by rw [← EN.out]; exact h19))])
        go_enter Tryd.func5, Tryd.ntmps5
        go_wp2
        go_ret2
        exact RetN.mk HK.out (by rw [HR.out]; rfl)
      · have q19 : ¬ (19 : Int) < (n : Int) := by omega
        by_cases hlo : c.toNat < 49
        · have qlo : (c.toNat : Int) < 49 := by omega
          have HR := Lib.hid (show refBody true (c :: r) = (0, false) by rw [refBody_cons, if_pos (Or.inr (Or.inl hlo))])
          go_enter Tryd.func5, Tryd.ntmps5
          go_wp2
          go_ret2
          exact RetN.mk HK.out (by rw [HR.out]; rfl)
        · have qlo : ¬ (c.toNat : Int) < 49 := by omega
          by_cases hhi : 57 < c.toNat
          · have qhi : (57 : Int) < (c.toNat : Int) := by omega
            have HR := Lib.hid (show refBody true (c :: r) = (0, false) by rw [refBody_cons, if_pos (Or.inr (Or.inr hhi))])
            go_enter Tryd.func5, Tryd.ntmps5
            go_wp2
            go_ret2
            exact RetN.mk HK.out (by rw [HR.out]; rfl)
          · have qhi : ¬ (57 : Int) < (c.toNat : Int) := by omega
            have HR := Lib.hid (show refBody true (c :: r) = refTail true (c :: r) by rw [refBody_cons, if_neg (fun h => by rcases h with h | h | h <;> first | omega | (rw [← EN.out] at h; omega))])
            obtain ⟨b, eb⟩ : ∃ b, b = c :: r := ⟨_, rfl⟩
            have HR := Lib.hid (show refBody true (c :: r) = refTail true b by rw [HR.out, eb])
            rw [← eb] at HC EN
            go_enter Tryd.func5, Tryd.ntmps5
            go_wp2
            clear hcv e0 hc0 hc0' qn0 qn1 qlo qhi hlo hhi eb
            go_loop [6, 7] (RnAt b) (fun _ iv => n - (intOf iv).toNat)
            case atStart => exact ⟨0, Nat.zero_le _, rfl, rfl, by simp [Hid]⟩
            case round =>
              obtain ⟨k, hk, rfl, rfl, hall⟩ := hrel
              have hk' : k ≤ n := by rw [EN.out]; exact hk
              clear hk
              by_cases hlt : k < n
              · have hc := HC.out k hlt
                have hkb : k < b.length := by rw [← EN.out]; exact hlt
                obtain ⟨x, ex⟩ : ∃ x, x = b.getD k 0 := ⟨_, rfl⟩
                rw [← ex] at hc
                have hx : x.toNat < 256 := UInt8.toNat_lt x
                obtain ⟨v, ev⟩ : ∃ v, v = valD (b.take k) := ⟨_, rfl⟩
                have hvb : v ≤ 999999999999999999 := by rw [ev]; exact valD_small hall.out (by rw [List.length_take]; omega)
                have q1 : (k : Int) < (n : Int) := by omega
                rw [← ev]
                by_cases hd : 48 ≤ x.toNat ∧ x.toNat ≤ 57
                · have HD := Lib.hid (show (b.take (k + 1)).all isDig = true ∧ valD (b.take (k + 1)) = 10 * v + (x.toNat - 48) by
                    rw [take_snoc_dig hkb, List.all_append, hall.out, ← ex]
                    refine ⟨by simp [isDig, hd], ?_⟩
                    unfold valD; rw [valFrom_snoc, ev]; rfl)
                  have q2 : ¬ (x.toNat : Int) < 48 := by omega
                  have q3 : ¬ (57 : Int) < (x.toNat : Int) := by omega
                  clear ev ex hall
                  go_wp2
                  go_round
                  case rel => exact ⟨k + 1, hkb, by go_num, by rw [HD.out.2]; first | rfl | (congr 1; omega), HD.out.1⟩
                  case measure => simp [intOf]; omega
                · have HR2 := Lib.hid (refTail_all (neg := true) hkb (by rw [← ex]; simp only [isDig]; exact decide_eq_false hd))
                  clear ev ex hall
                  by_cases hd2 : x.toNat < 48
                  · have q2 : (x.toNat : Int) < 48 := by omega
                    clear hd
                    go_wp2
                    go_ret2
                    exact RetN.mk HK.out (by rw [HR.out, HR2.out]; rfl)
                  · have q2 : ¬ (x.toNat : Int) < 48 := by omega
                    have q3 : (57 : Int) < (x.toNat : Int) := by omega
                    clear hd
                    go_wp2
                    go_ret2
                    exact RetN.mk HK.out (by rw [HR.out, HR2.out]; rfl)
              · have et : b.take k = b := List.take_of_length_le (by rw [← EN.out]; omega)
                rw [et] at hall ⊢
                have hvb : valD b ≤ 9999999999999999999 := valD_small' hall.out (by rw [← EN.out]; omega)
                obtain ⟨v, ev⟩ : ∃ v, v = valD b := ⟨_, rfl⟩
                have HT := Lib.hid (show refTail true b = if 9223372036854775808 < v then (0, false) else (-(v : Int), true) by unfold refTail; rw [if_pos hall.out, ev]; rfl)
                rw [← ev] at hvb ⊢
                have q1 : ¬ (k : Int) < (n : Int) := by omega
                clear et ev hall
                by_cases hb : 9223372036854775808 < v
                · have q2 : (9223372036854775808 : Int) < (v : Int) := by omega
                  go_wp2
                  go_ret2
                  exact RetN.mk HK.out (by rw [HR.out, HT.out, if_pos hb]; rfl)
                · have q2 : ¬ (9223372036854775808 : Int) < (v : Int) := by omega
                  have q3 : IntKind.i64.wrap (IntKind.u64.wrap (-(v : Int))) = -(v : Int) := by
                    rw [IntKind.wrap_u64, IntKind.wrap_i64]; first | omega | (unfold wrap64; omega)
                  go_wp2
                  go_ret2
                  exact RetN.mk HK.out (by rw [HR.out, HT.out, if_neg hb]; rfl)

set_option maxRecDepth 100000 in
set_option maxHeartbeats 2000000 in
theorem refNumber_zero (s : ByteArray) (hs : s.data.toList = [48]) (w : World) :
    Calls Tryd.prog 5 #[.string s] w (RetN w fun w' v => v = .tuple #[.int .i64 0, .bool true]) := by
  have hcv := Lib.run_convert_string_bytes (P := Tryd.prog) w 9 35 5 s (u := .string) Tryd.underlying9 Tryd.underlying35 Tryd.underlying5
  have hk : Ext w (Lib.bytesWorld w 5 s) := Kp.of_below (Lib.bytesWorld_below w 5 s)
  generalize Lib.bytesWorld w 5 s = W1 at hcv hk
  have e0 : (s.toList == [48]) = true := by rw [ByteArray.toList_eq, hs]; rfl
  generalize grownCap w s.size 0 5 = cap at hcv
  have HK := Lib.hid hk; clear hk hs
  go_enter Tryd.func5, Tryd.ntmps5
  go_wp2
  go_ret2
  exact RetN.mk HK.out rfl
set_option maxRecDepth 100000 in
set_option maxHeartbeats 2000000 in
theorem refNumber_empty (s : ByteArray) (hs : s.data.toList = []) (w : World) :
    Calls Tryd.prog 5 #[.string s] w (RetN w fun w' v => v = .tuple #[.int .i64 0, .bool false]) := by
  have hcv := Lib.run_convert_string_bytes (P := Tryd.prog) w 9 35 5 s (u := .string) Tryd.underlying9 Tryd.underlying35 Tryd.underlying5
  have hk : Ext w (Lib.bytesWorld w 5 s) := Kp.of_below (Lib.bytesWorld_below w 5 s)
  generalize Lib.bytesWorld w 5 s = W1 at hcv hk
  have hn : s.size = 0 := by rw [← size_list, hs]; rfl
  have e0 : (s.toList == [48]) = false := by rw [ByteArray.toList_eq, hs]; rfl
  rw [hn] at hcv
  generalize grownCap w 0 0 5 = cap at hcv
  have HK := Lib.hid hk; clear hk hs hn
  go_enter Tryd.func5, Tryd.ntmps5
  go_wp2
  go_ret2
  exact RetN.mk HK.out rfl
theorem refNumber_any (s : ByteArray) (hm : s.size ≤ 281474976710656) (w : World) :
    Calls Tryd.prog 5 #[.string s] w (RetN w fun w' v => v = .tuple #[.int .i64 (numSpec s.data.toList).1, .bool (numSpec s.data.toList).2]) := by
  rw [refN_eq]
  unfold refN
  by_cases h0 : s.data.toList = [48]
  · rw [if_pos h0]
    exact refNumber_zero s h0 w
  · rw [if_neg h0]
    cases hl : s.data.toList with
    | nil => exact refNumber_empty s hl w
    | cons c r =>
      simp only
      by_cases h45 : c = 45
      · subst h45
        rw [if_pos rfl]
        exact refNumber_neg s r hl hm w
      · rw [if_neg h45]
        exact refNumber_plain s c r hl (fun e => h45 (u8_eq e)) (by rw [← hl]; exact h0) hm w
end Go.Proofs.YtcphalpcdcddpaaDoor
