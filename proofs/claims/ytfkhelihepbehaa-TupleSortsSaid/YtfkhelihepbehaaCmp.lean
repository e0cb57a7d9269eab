/- The order of texts and of rows: plain laws, and the walks of cmp.Compare[string], slices.Compare, tuple.Compare, sibylref03.Compare. -/
import Derived.Test.YtfkhelihepbehaaProg
import Derived.Test.YtfkhelihepbehaaBase
import Derived.Deep.QuietTactic
import Derived.BigQuiet
namespace Go.Proofs.Ytfkhelihepbehaa
open Go.RowKit
set_option linter.unusedVariables false

theorem bytesLess_nil (a : List UInt8) : Op.bytesLess a [] = false := by cases a <;> simp [Op.bytesLess]
theorem bytesLess_irrefl : ∀ a : List UInt8, Op.bytesLess a a = false
  | [] => by simp [Op.bytesLess]
  | a :: x => by simp [Op.bytesLess, bytesLess_irrefl x]
theorem bytesLess_total : ∀ {a b : List UInt8}, Op.bytesLess a b = false → Op.bytesLess b a = false → a = b
  | [], [], _, _ => rfl
  | [], _ :: _, h, _ => by simp [Op.bytesLess] at h
  | _ :: _, [], _, h => by simp [Op.bytesLess] at h
  | x :: xs, y :: ys, h1, h2 => by
    simp only [Op.bytesLess, Bool.or_eq_false_iff, decide_eq_false_iff_not, Bool.and_eq_false_iff] at h1 h2
    have e : x = y := by
      have := h1.1; have := h2.1
      simp only [UInt8.lt_iff_toNat_lt] at *
      exact UInt8.toNat_inj.1 (by omega)
    subst e
    simp at h1 h2
    rw [bytesLess_total h1 h2]
theorem bytesLess_trans : ∀ {a b c : List UInt8}, Op.bytesLess a b = true → Op.bytesLess b c = true → Op.bytesLess a c = true
  | _, [], _, h, _ => by rw [bytesLess_nil] at h; cases h
  | _, _ :: _, [], _, h => by rw [bytesLess_nil] at h; cases h
  | [], _ :: _, _ :: _, _, _ => by simp [Op.bytesLess]
  | x :: xs, y :: ys, z :: zs, h1, h2 => by
    simp only [Op.bytesLess, Bool.or_eq_true, decide_eq_true_eq, Bool.and_eq_true, beq_iff_eq, UInt8.lt_iff_toNat_lt] at *
    rcases h1 with h1 | ⟨rfl, h1⟩ <;> rcases h2 with h2 | ⟨rfl, h2⟩
    · left; omega
    · left; omega
    · left; omega
    · right; exact ⟨rfl, bytesLess_trans h1 h2⟩
theorem bytesLess_asymm {a b : List UInt8} (h : Op.bytesLess a b = true) : Op.bytesLess b a = false := by
  cases h2 : Op.bytesLess b a
  · rfl
  · have := bytesLess_trans h h2; rw [bytesLess_irrefl] at this; cases this

def cmpB (a b : List UInt8) : Int := if Op.bytesLess a b then -1 else if Op.bytesLess b a then 1 else 0
theorem cmpB_lt {a b : List UInt8} (h : Op.bytesLess a b = true) : cmpB a b = -1 := by simp [cmpB, h]
theorem cmpB_gt {a b : List UInt8} (h' : Op.bytesLess a b = false) (h : Op.bytesLess b a = true) : cmpB a b = 1 := by simp [cmpB, h, h']
theorem cmpB_eq {a b : List UInt8} (h' : Op.bytesLess a b = false) (h : Op.bytesLess b a = false) : cmpB a b = 0 := by simp [cmpB, h, h']
theorem cmpB_self (a : List UInt8) : cmpB a a = 0 := cmpB_eq (bytesLess_irrefl a) (bytesLess_irrefl a)
theorem cmpB_zero {a b : List UInt8} (h : cmpB a b = 0) : a = b := by
  cases h1 : Op.bytesLess a b
  · cases h2 : Op.bytesLess b a
    · exact bytesLess_total h1 h2
    · rw [cmpB_gt h1 h2] at h; cases h
  · rw [cmpB_lt h1] at h; cases h
theorem cmpB_swap (a b : List UInt8) : cmpB b a = - cmpB a b := by
  cases h1 : Op.bytesLess a b
  · cases h2 : Op.bytesLess b a
    · rw [cmpB_eq h1 h2, cmpB_eq h2 h1]; rfl
    · rw [cmpB_gt h1 h2, cmpB_lt h2]
  · rw [cmpB_lt h1, cmpB_gt (bytesLess_asymm h1) h1]; rfl
theorem cmpB_neg {a b : List UInt8} : cmpB a b < 0 ↔ Op.bytesLess a b = true := by
  cases h1 : Op.bytesLess a b
  · cases h2 : Op.bytesLess b a
    · rw [cmpB_eq h1 h2]; simp
    · rw [cmpB_gt h1 h2]; simp
  · rw [cmpB_lt h1]; simp
theorem cmpB_cases (a b : List UInt8) : cmpB a b = -1 ∨ cmpB a b = 0 ∨ cmpB a b = 1 := by
  unfold cmpB; split
  · simp
  · split <;> simp
theorem toList_inj {a b : ByteArray} (h : a.toList = b.toList) : a = b := by
  rw [ByteArray.toList_eq, ByteArray.toList_eq] at h
  exact ByteArray.ext (Array.toList_inj.1 h)

/-- The order of rows. -/
def cmpRow : List ByteArray → List ByteArray → Int
  | [], [] => 0
  | [], _ :: _ => -1
  | _ :: _, [] => 1
  | x :: xs, y :: ys => if cmpB x.toList y.toList ≠ 0 then cmpB x.toList y.toList else cmpRow xs ys
theorem cmpRow_cases : ∀ xs ys, cmpRow xs ys = -1 ∨ cmpRow xs ys = 0 ∨ cmpRow xs ys = 1
  | [], [] => by simp [cmpRow]
  | [], _ :: _ => by simp [cmpRow]
  | _ :: _, [] => by simp [cmpRow]
  | x :: xs, y :: ys => by
    unfold cmpRow
    split
    · exact cmpB_cases _ _
    · exact cmpRow_cases xs ys
theorem cmpRow_swap : ∀ xs ys, cmpRow ys xs = - cmpRow xs ys
  | [], [] => rfl
  | [], _ :: _ => rfl
  | _ :: _, [] => rfl
  | x :: xs, y :: ys => by
    unfold cmpRow
    rw [cmpB_swap x.toList y.toList]
    by_cases h : cmpB x.toList y.toList = 0
    · rw [if_neg (by simp [h]), if_neg (by simp [h]), cmpRow_swap xs ys]
    · rw [if_pos (by omega), if_pos h]
theorem cmpRow_self : ∀ xs, cmpRow xs xs = 0
  | [] => rfl
  | x :: xs => by unfold cmpRow; rw [if_neg (by simp [cmpB_self]), cmpRow_self xs]
theorem cmpRow_zero : ∀ {xs ys}, cmpRow xs ys = 0 → xs = ys
  | [], [], _ => rfl
  | [], _ :: _, h => by simp [cmpRow] at h
  | _ :: _, [], h => by simp [cmpRow] at h
  | x :: xs, y :: ys, h => by
    unfold cmpRow at h
    by_cases h1 : cmpB x.toList y.toList = 0
    · rw [if_neg (by simp [h1])] at h
      rw [cmpRow_zero h, toList_inj (cmpB_zero h1)]
    · rw [if_pos h1] at h; exact absurd h h1
theorem cmpRow_trans : ∀ {xs ys zs}, cmpRow xs ys ≤ 0 → cmpRow ys zs ≤ 0 → cmpRow xs zs ≤ 0
  | [], _, [], _, _ => by simp [cmpRow]
  | [], _, _ :: _, _, _ => by simp [cmpRow]
  | _ :: _, [], _, h, _ => by simp [cmpRow] at h
  | _ :: _, _ :: _, [], _, h => by simp [cmpRow] at h
  | x :: xs, y :: ys, z :: zs, h1, h2 => by
    unfold cmpRow at h1 h2 ⊢
    have c1 := cmpB_cases x.toList y.toList
    have c2 := cmpB_cases y.toList z.toList
    by_cases e1 : cmpB x.toList y.toList = 0
    · rw [if_neg (by simp [e1])] at h1
      rw [cmpB_zero e1] at *
      by_cases e2 : cmpB y.toList z.toList = 0
      · rw [if_neg (by simp [e2])] at h2 ⊢
        exact cmpRow_trans h1 h2
      · rw [if_pos e2] at h2 ⊢; exact h2
    · rw [if_pos e1] at h1
      have l1 := cmpB_neg.1 (show cmpB x.toList y.toList < 0 by omega)
      by_cases e2 : cmpB y.toList z.toList = 0
      · rw [← cmpB_zero e2, if_pos e1]; exact h1
      · rw [if_pos e2] at h2
        have l2 := cmpB_neg.1 (show cmpB y.toList z.toList < 0 by omega)
        have l3 := cmpB_lt (bytesLess_trans l1 l2)
        rw [if_pos (by omega), l3]; decide
theorem cmpRow_drop (xs ys : List ByteArray) (k : Nat) (h1 : k < xs.length) (h2 : k < ys.length) : cmpRow (xs.drop k) (ys.drop k) = if cmpB xs[k].toList ys[k].toList ≠ 0 then cmpB xs[k].toList ys[k].toList else cmpRow (xs.drop (k+1)) (ys.drop (k+1)) := by
  rw [List.drop_eq_getElem_cons h1, List.drop_eq_getElem_cons h2]; rfl
theorem cmpRow_end (xs ys : List ByteArray) (k : Nat) (h1 : k < xs.length) (h2 : ys.length ≤ k) : cmpRow (xs.drop k) (ys.drop k) = 1 := by
  rw [List.drop_eq_getElem_cons h1, List.drop_of_length_le h2]; rfl
theorem cmpRow_end' (xs ys : List ByteArray) (k : Nat) (h1 : xs.length ≤ k) (h2 : k < ys.length) : cmpRow (xs.drop k) (ys.drop k) = -1 := by
  rw [List.drop_eq_getElem_cons h2, List.drop_of_length_le h1]; rfl
theorem cmpRow_end0 (xs ys : List ByteArray) (k : Nat) (h1 : xs.length ≤ k) (h2 : ys.length ≤ k) : cmpRow (xs.drop k) (ys.drop k) = 0 := by
  rw [List.drop_of_length_le h2, List.drop_of_length_le h1]; rfl

theorem isNaN_any (s : ByteArray) (w : World) : Calls Try.prog 120 #[.string s] w (Ret (.bool false) w) := by
  go_enter Try.func120, Try.ntmps120
  go_wp2
  go_ret
  exact Ret.mk (by simp)

theorem cmpString_any (s t : ByteArray) (w : World) : Calls Try.prog 84 #[.string s, .string t] w (Ret (.int .i64 (cmpB s.toList t.toList)) w) := by
  cases h1 : Op.bytesLess s.toList t.toList
  · cases h2 : Op.bytesLess t.toList s.toList
    · rw [cmpB_eq h1 h2]
      have h3 : (!(s.toList == t.toList)) = false := by simp [bytesLess_total h1 h2]
      go_enter Try.func84, Try.ntmps84
      go_wp2_with (go_at_call 120; (with_reducible refine (isNaN_any _ _).mono ?_); rintro e w' ⟨rfl, rfl⟩)
      go_ret
      exact Ret.mk rfl
    · rw [cmpB_gt h1 h2]
      have h3 : (!(s.toList == t.toList)) = true := by
        cases h : (s.toList == t.toList)
        · rfl
        · rw [eq_of_beq h] at h1 h2; rw [h1] at h2; cases h2
      go_enter Try.func84, Try.ntmps84
      go_wp2_with (go_at_call 120; (with_reducible refine (isNaN_any _ _).mono ?_); rintro e w' ⟨rfl, rfl⟩)
      go_ret
      exact Ret.mk rfl
  · rw [cmpB_lt h1]
    go_enter Try.func84, Try.ntmps84
    go_wp2_with (go_at_call 120; (with_reducible refine (isNaN_any _ _).mono ?_); rintro e w' ⟨rfl, rfl⟩)
    go_ret
    exact Ret.mk rfl

set_option maxHeartbeats 400000 in
theorem slicesCompare_any (xs ys : List ByteArray) (a b : Option Addr) (c d : Nat) (w : World) (ha : CellsAt w a (strs xs)) (hb : CellsAt w b (strs ys)) (hx : xs.length ≤ maxLen) (hy : ys.length ≤ maxLen) :
    Calls Try.prog 26 #[.slice a xs.length c, .slice b ys.length d] w (Ret (.int .i64 (cmpRow xs ys)) w) := by
  unfold maxLen at hx hy
  go_enter Try.func26, Try.ntmps26
  go_wp2
  go_loop [11] (fun i => ∃ k : Nat, k ≤ xs.length ∧ k ≤ ys.length ∧ i = .int .i64 k ∧ cmpRow xs ys = cmpRow (xs.drop k) (ys.drop k)) (fun i => xs.length - (intOf i).toNat)
  case atStart => exact ⟨0, Nat.zero_le _, Nat.zero_le _, rfl, rfl⟩
  case round =>
    obtain ⟨k, hk, hk2, rfl, hr⟩ := hrel
    have H := Lib.hid hr; clear hr
    by_cases h1 : k < xs.length
    · obtain ⟨b1, o1, rfl, c1⟩ := ha.str h1
      by_cases h2 : k < ys.length
      · obtain ⟨b2, o2, rfl, c2⟩ := hb.str h2
        have hd := cmpRow_drop xs ys k h1 h2
        generalize hc : cmpB xs[k].toList ys[k].toList = c3 at hd
        by_cases h3 : c3 = 0
        · rw [if_neg (by simp [h3])] at hd
          have HD := Lib.hid hd; clear hd
          subst h3
          have HC := Lib.hid hc; clear hc
          go_wp2_with (go_at_call 84; refine (cmpString_any _ _ _).mono ?_; rintro e w' ⟨rfl, rfl⟩; rw [HC.out])
          go_round
          case rel => exact ⟨k + 1, by omega, by omega, by go_num, by rw [H.out, HD.out]⟩
          case measure => simp [intOf]; omega
        · rw [if_pos h3] at hd
          have HD := Lib.hid hd; clear hd
          have HC := Lib.hid hc; clear hc
          have h4 : (c3 != 0) = true := by simp [h3]
          go_wp2_with (go_at_call 84; refine (cmpString_any _ _ _).mono ?_; rintro e w' ⟨rfl, rfl⟩; rw [HC.out])
          go_ret
          exact Ret.mk (by rw [H.out, HD.out]; rfl)
      · have hd := cmpRow_end xs ys k h1 (by omega)
        have HD := Lib.hid hd; clear hd
        go_wp2
        go_ret
        exact Ret.mk (by rw [H.out, HD.out]; rfl)
    · by_cases h2 : k < ys.length
      · have HD := Lib.hid (cmpRow_end' xs ys k (by omega) h2)
        go_wp2
        go_ret
        exact Ret.mk (by rw [H.out, HD.out]; rfl)
      · have HD := Lib.hid (cmpRow_end0 xs ys k (by omega) (by omega))
        go_wp2
        go_ret
        exact Ret.mk (by rw [H.out, HD.out]; rfl)

theorem tupleCompare_any (xs ys : List ByteArray) (a b : Option Addr) (c d : Nat) (w : World) (ha : CellsAt w a (strs xs)) (hb : CellsAt w b (strs ys)) (hx : xs.length ≤ maxLen) (hy : ys.length ≤ maxLen) :
    Calls Try.prog 8 #[.slice a xs.length c, .slice b ys.length d] w (Ret (.int .i64 (cmpRow xs ys)) w) := by
  go_enter Try.func8, Try.ntmps8
  go_wp2_with (go_at_call 26; (with_reducible refine (slicesCompare_any _ _ _ _ _ _ _ ha hb hx hy).mono ?_); rintro e w' ⟨rfl, rfl⟩)
  go_ret
  exact Ret.mk rfl

set_option maxHeartbeats 1000000 in
theorem refCompare_any (xs ys : List ByteArray) (a b : Option Addr) (c d : Nat) (w : World) (ha : CellsAt w a (strs xs)) (hb : CellsAt w b (strs ys)) (hx : xs.length ≤ maxLen) (hy : ys.length ≤ maxLen) :
    Calls Try.prog 9 #[.slice a xs.length c, .slice b ys.length d] w (RetD (.int .i64 (cmpRow xs ys)) w) := by
  unfold maxLen at hx hy
  go_enter Try.func9, Try.ntmps9
  go_wp2
  go_loopw [5] (fun i wr => ∃ k n : Nat, k ≤ xs.length ∧ k ≤ ys.length ∧ i = .int .i64 k ∧ wr = w.drewN n ∧ cmpRow xs ys = cmpRow (xs.drop k) (ys.drop k)) (fun i _ => xs.length - (intOf i).toNat)
  case atStart => exact ⟨0, 0, Nat.zero_le _, Nat.zero_le _, rfl, rfl, rfl⟩
  case round =>
    obtain ⟨k, n, hk, hk2, rfl, rfl, hr⟩ := hrel
    have H := Lib.hid hr; clear hr
    by_cases h1 : k < xs.length
    · obtain ⟨b1, o1, rfl, c1⟩ := ha.str h1
      by_cases h2 : k < ys.length
      · obtain ⟨b2, o2, rfl, c2⟩ := hb.str h2
        have hd := cmpRow_drop xs ys k h1 h2
        generalize xs[k] = x at *
        generalize ys[k] = y at *
        cases e1 : Op.bytesLess x.toList y.toList
        · cases e2 : Op.bytesLess y.toList x.toList
          · rw [if_neg (by simp [cmpB_eq e1 e2])] at hd
            have HD := Lib.hid hd; clear hd
            have e3 : (!(x.toList == y.toList)) = false := by simp [bytesLess_total e1 e2]
            go_wp2
            go_quiet (fail)
            go_wp2
            go_quiet (fail)
            go_wp2
            go_roundw
            case rel => exact ⟨k + 1, _, by omega, by omega, by go_num, rfl, by rw [H.out, HD.out]⟩
            case measure => simp [intOf]; omega
          · rw [if_pos (by simp [cmpB_gt e1 e2]), cmpB_gt e1 e2] at hd
            have HD := Lib.hid hd; clear hd
            have e3 : (!(x.toList == y.toList)) = true := by
              cases h : (x.toList == y.toList)
              · rfl
              · rw [eq_of_beq h] at e1 e2; rw [e1] at e2; cases e2
            go_wp2
            go_quiet (fail)
            go_wp2
            go_quiet (fail)
            go_wp2
            go_ret
            refine RetD.mk' ?_ ?_
            · rw [H.out, HD.out]; rfl
            · first | exact ⟨_, rfl⟩ | exact drew_ex2 _ _ _ | exact drew_ex3 _ _ _ | exact ⟨_, by rw [World.drewN_drewN, World.drewN_drewN]⟩
        · rw [if_pos (by simp [cmpB_lt e1]), cmpB_lt e1] at hd
          have HD := Lib.hid hd; clear hd
          go_wp2
          go_quiet (fail)
          go_wp2
          go_ret
          refine RetD.mk' ?_ ?_
          · rw [H.out, HD.out]; rfl
          · first | exact ⟨_, rfl⟩ | exact drew_ex2 _ _ _ | exact drew_ex3 _ _ _ | exact ⟨_, by rw [World.drewN_drewN, World.drewN_drewN]⟩
      · have HD := Lib.hid (cmpRow_end xs ys k h1 (by omega))
        go_wp2
        go_ret
        refine RetD.mk' ?_ ?_
        · rw [H.out, HD.out]; rfl
        · first | exact ⟨_, rfl⟩ | exact drew_ex2 _ _ _ | exact drew_ex3 _ _ _ | exact ⟨_, by rw [World.drewN_drewN, World.drewN_drewN]⟩
    · by_cases h2 : k < ys.length
      · have HD := Lib.hid (cmpRow_end' xs ys k (by omega) h2)
        go_wp2
        go_ret
        refine RetD.mk' ?_ ?_
        · rw [H.out, HD.out]; rfl
        · first | exact ⟨_, rfl⟩ | exact drew_ex2 _ _ _ | exact drew_ex3 _ _ _ | exact ⟨_, by rw [World.drewN_drewN, World.drewN_drewN]⟩
      · have HD := Lib.hid (cmpRow_end0 xs ys k (by omega) (by omega))
        go_wp2
        go_ret
        refine RetD.mk' ?_ ?_
        · rw [H.out, HD.out]; rfl
        · first | exact ⟨_, rfl⟩ | exact drew_ex2 _ _ _ | exact drew_ex3 _ _ _ | exact ⟨_, by rw [World.drewN_drewN, World.drewN_drewN]⟩
end Go.Proofs.Ytfkhelihepbehaa
