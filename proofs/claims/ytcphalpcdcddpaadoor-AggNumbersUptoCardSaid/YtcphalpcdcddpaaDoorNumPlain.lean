/- Numbers out of texts and into them: plain laws, no program in sight. -/
import Derived.Lib.ParseIntBCases
import Derived.Lib.ItoaNum
namespace Go.Proofs.YtcphalpcdcddpaaDoor
open Go.Lib
set_option linter.unusedVariables false

/-- A digit; what digits spell. -/
def isDig (c : UInt8) : Bool := decide (48 ≤ c.toNat ∧ c.toNat ≤ 57)
def valFrom (a : Nat) (b : List UInt8) : Nat := b.foldl (fun n c => 10 * n + (c.toNat - 48)) a
def valD (b : List UInt8) : Nat := valFrom 0 b
theorem valFrom_nil (a : Nat) : valFrom a [] = a := rfl
theorem valFrom_cons (a : Nat) (c : UInt8) (b : List UInt8) : valFrom a (c :: b) = valFrom (10 * a + (c.toNat - 48)) b := by
  unfold valFrom; rw [List.foldl_cons]
theorem valFrom_snoc (a : Nat) (b : List UInt8) (c : UInt8) : valFrom a (b ++ [c]) = 10 * valFrom a b + (c.toNat - 48) := by
  unfold valFrom; rw [List.foldl_append]; rfl
theorem valFrom_ge : ∀ (b : List UInt8) (a : Nat), a ≤ valFrom a b
  | [], a => Nat.le_refl _
  | c :: b, a => by rw [valFrom_cons]; have := valFrom_ge b (10 * a + (c.toNat - 48)); omega
theorem valFrom_lt : ∀ (b : List UInt8) (a : Nat), b.all isDig = true → valFrom a b < (a + 1) * 10 ^ b.length
  | [], a, _ => by simp [valFrom]
  | c :: b, a, h => by
    simp only [List.all_cons, Bool.and_eq_true] at h
    have h1 := of_decide_eq_true h.1
    have := valFrom_lt b (10 * a + (c.toNat - 48)) h.2
    rw [valFrom_cons, List.length_cons, Nat.pow_succ]
    have h3 : (10 * a + (c.toNat - 48) + 1) * 10 ^ b.length ≤ (10 * a + 10) * 10 ^ b.length := Nat.mul_le_mul_right _ (by omega)
    have h4 : (10 * a + 10) * 10 ^ b.length = (a + 1) * (10 ^ b.length * 10) := by
      rw [show 10 * a + 10 = (a + 1) * 10 by omega, Nat.mul_assoc, Nat.mul_comm 10 (10 ^ b.length)]
    omega
theorem valD_lt (b : List UInt8) (h : b.all isDig = true) : valD b < 10 ^ b.length := by have := valFrom_lt b 0 h; simpa [valD] using this

theorem ofNat_dig {c : UInt8} (h : isDig c = true) : UInt8.ofNat (48 + (c.toNat - 48)) = c := by
  have := of_decide_eq_true h
  rw [show 48 + (c.toNat - 48) = c.toNat by omega]; simp
theorem dig_of {d : Nat} (h : d < 10) : isDig (UInt8.ofNat (48 + d)) = true ∧ (UInt8.ofNat (48 + d)).toNat = 48 + d := by
  have e : (UInt8.ofNat (48 + d)).toNat = 48 + d := by simp [UInt8.toNat_ofNat']; omega
  exact ⟨decide_eq_true (by rw [e]; omega), e⟩

/-- A numeral: digits, the first not 0. -/
def Canon (b : List UInt8) : Prop := b.all isDig = true ∧ ∃ c r, b = c :: r ∧ c.toNat ≠ 48
theorem Canon.snoc_inv {b : List UInt8} {c : UInt8} (h : Canon (b ++ [c])) (hb : b ≠ []) : Canon b ∧ isDig c = true := by
  obtain ⟨h1, d, r, e, hd⟩ := h
  simp only [List.all_append, List.all_cons, List.all_nil, Bool.and_true, Bool.and_eq_true] at h1
  cases b with
  | nil => exact absurd rfl hb
  | cons x b =>
    simp only [List.cons_append, List.cons.injEq] at e
    exact ⟨⟨h1.1, x, b, rfl, by rw [e.1]; exact hd⟩, h1.2⟩
theorem canon_digits : ∀ (n : Nat) (b : List UInt8), b.length = n → Canon b → decDigits (valD b) = b ∧ 1 ≤ valD b
  | 0, b, hl, ⟨_, c, r, e, _⟩ => by rw [e] at hl; simp at hl
  | n + 1, b, hl, h => by
    rcases List.eq_nil_or_concat b with rfl | ⟨b', c, rfl⟩
    · simp at hl
    rw [List.concat_eq_append] at *
    by_cases hb : b' = []
    · subst hb
      obtain ⟨h1, d, r, e, hd⟩ := h
      simp only [List.nil_append, List.cons.injEq] at e
      obtain ⟨rfl, _⟩ := e
      simp only [List.nil_append, List.all_cons, List.all_nil, Bool.and_true] at h1
      have h2 := of_decide_eq_true h1
      have ev : valD ([] ++ [c]) = c.toNat - 48 := by simp [valD, valFrom]
      rw [ev, decDigits_one (by omega), ofNat_dig h1]
      exact ⟨rfl, by omega⟩
    · obtain ⟨h1, h2⟩ := h.snoc_inv hb
      have hlen : b'.length = n := by simpa using hl
      obtain ⟨i1, i2⟩ := canon_digits n b' hlen h1
      have hc := of_decide_eq_true h2
      have ev : valD (b' ++ [c]) = 10 * valD b' + (c.toNat - 48) := valFrom_snoc _ _ _
      rw [ev]
      refine ⟨?_, by omega⟩
      rw [decDigits, dif_neg (by omega), show (10 * valD b' + (c.toNat - 48)) / 10 = valD b' by omega, show (10 * valD b' + (c.toNat - 48)) % 10 = c.toNat - 48 by omega, i1, ofNat_dig h2]
theorem digits_canon (u : Nat) : valD (decDigits u) = u ∧ (decDigits u).all isDig = true ∧ (1 ≤ u → Canon (decDigits u)) := by
  induction u using Nat.strongRecOn with
  | _ u ih =>
    by_cases h : u < 10
    · rw [decDigits_one h]
      obtain ⟨h1, h2⟩ := dig_of h
      have hall : ([UInt8.ofNat (48 + u)] : List UInt8).all isDig = true := by rw [List.all_cons, h1]; rfl
      refine ⟨?_, hall, fun hu => ⟨hall, _, _, rfl, by rw [h2]; omega⟩⟩
      unfold valD; rw [valFrom_cons, valFrom_nil, h2]; omega
    · obtain ⟨i1, i2, i3⟩ := ih (u / 10) (by omega)
      rw [decDigits, dif_neg h]
      obtain ⟨h1, h2⟩ := dig_of (show u % 10 < 10 by omega)
      have hall : (decDigits (u / 10) ++ [UInt8.ofNat (48 + u % 10)]).all isDig = true := by
        rw [List.all_append, i2, List.all_cons, h1]; rfl
      refine ⟨?_, hall, fun _ => ⟨hall, ?_⟩⟩
      · rw [valD, valFrom_snoc]; rw [valD] at i1; rw [i1, h2]; omega
      · obtain ⟨_, c, r, e, hc⟩ := i3 (by omega)
        exact ⟨c, r ++ [UInt8.ofNat (48 + u % 10)], by rw [e]; rfl, hc⟩
theorem parse_digits (M : Nat) (hM : M ≤ 18446744073709551615) : ∀ (b : List UInt8) (a : Nat), b.all isDig = true → a ≤ M → parseUintM M a b = if valFrom a b ≤ M then .ok (valFrom a b) else .range
  | [], a, _, ha => by rw [valFrom_nil, if_pos ha]; rfl
  | c :: b, a, h, ha => by
    simp only [List.all_cons, Bool.and_eq_true] at h
    have h1 := of_decide_eq_true h.1
    have hg := valFrom_ge b (10 * a + (c.toNat - 48))
    rw [valFrom_cons]
    unfold parseUintM
    rw [if_pos h1]
    by_cases h2 : 1844674407370955162 ≤ a
    · rw [if_pos h2, if_neg (by omega)]
    · rw [if_neg h2]
      by_cases h3 : M < a * 10 + (c.toNat - 48)
      · rw [if_pos h3, if_neg (by omega)]
      · rw [if_neg h3, show a * 10 + (c.toNat - 48) = 10 * a + (c.toNat - 48) by omega]
        exact parse_digits M hM b _ h.2 (by omega)
theorem parse_ok_digits (M : Nat) : ∀ (b : List UInt8) (a u : Nat), parseUintM M a b = .ok u → b.all isDig = true ∧ u = valFrom a b
  | [], a, u, h => by simp only [parseUintM] at h; injection h with h; exact ⟨rfl, by rw [← h]; rfl⟩
  | c :: b, a, u, h => by
    unfold parseUintM at h
    by_cases h1 : 48 ≤ c.toNat ∧ c.toNat ≤ 57
    · rw [if_pos h1] at h
      split at h
      · cases h
      · split at h
        · cases h
        · obtain ⟨i1, i2⟩ := parse_ok_digits M b _ u h
          refine ⟨by simp [isDig, h1, i1], ?_⟩
          rw [i2, valFrom_cons, show a * 10 + (c.toNat - 48) = 10 * a + (c.toNat - 48) by omega]
    · rw [if_neg h1] at h; cases h

/-- What the program answers. -/
def numSpec (l : List UInt8) : Int × Bool :=
  match parseIntB 64 l with
  | .ok v => if itoa v = l then (v, true) else (0, false)
  | _ => (0, false)
/-- What the document answers, of the digits behind the sign. -/
def refTail (neg : Bool) (b : List UInt8) : Int × Bool :=
  if b.all isDig = true then
    if neg then (if 9223372036854775808 < valD b then (0, false) else (-(valD b : Int), true))
    else (if 9223372036854775807 < valD b then (0, false) else ((valD b : Int), true))
  else (0, false)
def refBody (neg : Bool) (b : List UInt8) : Int × Bool :=
  match b with
  | [] => (0, false)
  | c :: r => if 19 < (c :: r).length ∨ c.toNat < 49 ∨ 57 < c.toNat then (0, false) else refTail neg (c :: r)
theorem refBody_cons (neg : Bool) (c : UInt8) (r : List UInt8) : refBody neg (c :: r) = if 19 < (c :: r).length ∨ c.toNat < 49 ∨ 57 < c.toNat then (0, false) else refTail neg (c :: r) := rfl
def refN (l : List UInt8) : Int × Bool :=
  if l = [48] then (0, true) else match l with
  | [] => (0, false)
  | c :: r => if c = 45 then refBody true r else refBody false (c :: r)

theorem u8_eq {a b : UInt8} (h : a.toNat = b.toNat) : a = b := UInt8.toNat_inj.1 h
theorem canon_of {c : UInt8} {r : List UInt8} (h1 : ¬ c.toNat < 49) (h : (c :: r).all isDig = true) : Canon (c :: r) := ⟨h, c, r, rfl, by omega⟩
theorem canon_len {b : List UInt8} (h : Canon b) : 10 ^ (b.length - 1) ≤ valD b := by
  obtain ⟨ha, c, r, rfl, hc⟩ := h
  simp only [List.all_cons, Bool.and_eq_true] at ha
  have h1 := of_decide_eq_true ha.1
  rw [valD, valFrom_cons]
  have key : ∀ (r : List UInt8) (a : Nat), a * 10 ^ r.length ≤ valFrom a r := by
    intro r
    induction r with
    | nil => intro a; simp [valFrom]
    | cons d r ih =>
      intro a
      rw [valFrom_cons, List.length_cons, Nat.pow_succ]
      have := ih (10 * a + (d.toNat - 48))
      have h3 : 10 * a * 10 ^ r.length ≤ (10 * a + (d.toNat - 48)) * 10 ^ r.length := Nat.mul_le_mul_right _ (by omega)
      have h4 : 10 * a * 10 ^ r.length = a * (10 ^ r.length * 10) := by rw [Nat.mul_comm 10 a, Nat.mul_assoc, Nat.mul_comm 10]
      omega
  have := key r (10 * 0 + (c.toNat - 48))
  have h5 : 1 * 10 ^ r.length ≤ (10 * 0 + (c.toNat - 48)) * 10 ^ r.length := Nat.mul_le_mul_right _ (by omega)
  simp only [List.length_cons, Nat.add_sub_cancel]
  omega
theorem pow19 {n : Nat} (h : 10 ^ (n - 1) ≤ 9223372036854775808) : n ≤ 19 := by
  rcases Nat.lt_or_ge 19 n with h1 | h1
  · have : 10 ^ 19 ≤ 10 ^ (n - 1) := Nat.pow_le_pow_right (by decide) (by omega)
    have h2 : (10 : Nat) ^ 19 = 10000000000000000000 := by decide
    omega
  · exact h1
/-- Behind the sign: the two answer alike. -/
theorem body_pos (c : UInt8) (r : List UInt8) (h43 : c.toNat ≠ 43) (h45 : c.toNat ≠ 45) (h0 : c :: r ≠ [48]) : numSpec (c :: r) = refBody false (c :: r) := by
  have hb : parseUintB 64 (c :: r) = parseUintM 18446744073709551615 0 (c :: r) := by simp [parseUintB]
  unfold numSpec
  rw [parseIntB_plain 64 c r h43 h45, hb]
  by_cases hd : (c :: r).all isDig = true
  · rw [parse_digits _ (by decide) _ _ hd (by decide)]
    have hv : valFrom 0 (c :: r) = valD (c :: r) := rfl
    rw [hv]
    rw [refBody_cons]
    by_cases hc : c.toNat < 49
    · rw [if_pos (Or.inr (Or.inl hc))]
      -- a leading 0: what is written is another text
      have hc48 : c.toNat = 48 := by
        simp only [List.all_cons, Bool.and_eq_true] at hd
        have := of_decide_eq_true hd.1; omega
      have hne : ∀ u : Nat, decDigits u ≠ c :: r := fun u e => by
        obtain ⟨e1, _, e3⟩ := digits_canon u
        rcases Nat.eq_zero_or_pos u with rfl | hu
        · rw [decDigits_one (by decide)] at e
          have : (UInt8.ofNat (48 + 0)) = 48 := rfl
          rw [this] at e
          exact h0 e.symm
        · obtain ⟨_, c', r', e4, hc'⟩ := e3 hu
          rw [e] at e4
          cases e4
          exact hc' hc48
      have hni : ∀ v : Int, itoa v ≠ c :: r := fun v e => by
        unfold itoa at e
        split at e
        · simp only [List.cons.injEq] at e
          obtain ⟨e, _⟩ := e
          subst e
          exact absurd hc48 (by decide)
        · exact hne _ e
      split
      · rw [if_neg (hni _)]
      · rfl
    · have hcan := canon_of hc hd
      obtain ⟨k1, k2⟩ := canon_digits _ _ rfl hcan
      have hlen := canon_len hcan
      have h57 : ¬ 57 < c.toNat := by
        simp only [List.all_cons, Bool.and_eq_true] at hd
        have := of_decide_eq_true hd.1; omega
      by_cases hbig : 9223372036854775807 < valD (c :: r)
      · have l1 : signlessC (2 ^ (64 - 1)) (if valD (c :: r) ≤ 18446744073709551615 then NumEnd.ok (valD (c :: r)) else NumEnd.range) = .range := by
          by_cases h : valD (c :: r) ≤ 18446744073709551615
          · rw [if_pos h]; simp only [signlessC]; rw [if_pos (by omega)]
          · rw [if_neg h]; rfl
        rw [l1]
        show ((0 : Int), false) = _
        split
        · rfl
        · unfold refTail; rw [if_pos hd, if_neg (by simp), if_pos hbig]
      · rw [if_pos (by omega)]
        have e1 : signlessC (2 ^ (64 - 1)) (.ok (valD (c :: r))) = .ok ((valD (c :: r) : Nat) : Int) := by
          simp only [signlessC]; rw [if_neg (by omega)]
        rw [e1]
        have : itoa ((valD (c :: r) : Nat) : Int) = decDigits (valD (c :: r)) := by unfold itoa; rw [if_neg (by omega)]; simp
        simp only
        rw [this, k1, if_pos rfl]
        have h19 := pow19 (Nat.le_trans hlen (by omega))
        rw [if_neg (by rintro (h | h | h) <;> omega)]
        unfold refTail; rw [if_pos hd, if_neg (by simp), if_neg hbig]
  · have hr : refBody false (c :: r) = (0, false) := by
      rw [refBody_cons]; unfold refTail; rw [if_neg hd]; split <;> rfl
    rw [hr]
    split
    · rename_i v hv
      exfalso
      cases hp : parseUintM 18446744073709551615 0 (c :: r) with
      | ok u => exact hd (parse_ok_digits _ _ _ _ hp).1
      | _ => rw [hp] at hv; cases hv
    · rfl
theorem body_neg (r : List UInt8) : numSpec (45 :: r) = refBody true r := by
  unfold numSpec
  rw [parseIntB_minus]
  cases r with
  | nil => simp [parseUintB, signedC, refBody]
  | cons c r =>
    have hb : parseUintB 64 (c :: r) = parseUintM 18446744073709551615 0 (c :: r) := by simp [parseUintB]
    rw [hb]
    by_cases hd : (c :: r).all isDig = true
    · rw [parse_digits _ (by decide) _ _ hd (by decide)]
      have hv : valFrom 0 (c :: r) = valD (c :: r) := rfl
      rw [hv]
      rw [refBody_cons]
      by_cases hc : c.toNat < 49
      · rw [if_pos (Or.inr (Or.inl hc))]
        have hc48 : c.toNat = 48 := by
          simp only [List.all_cons, Bool.and_eq_true] at hd
          have := of_decide_eq_true hd.1; omega
        have hne : ∀ v : Int, itoa v ≠ 45 :: c :: r := fun v e => by
          unfold itoa at e
          split at e
          · rename_i hneg
            simp only [List.cons.injEq, true_and] at e
            obtain ⟨_, _, e3⟩ := digits_canon v.natAbs
            obtain ⟨_, c', r', e4, hc'⟩ := e3 (by omega)
            rw [e] at e4
            cases e4
            exact hc' hc48
          · obtain ⟨_, e2, _⟩ := digits_canon v.toNat
            rw [e] at e2
            simp [isDig] at e2
        split
        · rw [if_neg (hne _)]
        · rfl
      · have hcan := canon_of hc hd
        obtain ⟨k1, k2⟩ := canon_digits _ _ rfl hcan
        have hlen := canon_len hcan
        have h57 : ¬ 57 < c.toNat := by
          simp only [List.all_cons, Bool.and_eq_true] at hd
          have := of_decide_eq_true hd.1; omega
        by_cases hbig : 9223372036854775808 < valD (c :: r)
        · have l1 : signedC (2 ^ (64 - 1)) (if valD (c :: r) ≤ 18446744073709551615 then NumEnd.ok (valD (c :: r)) else NumEnd.range) = .range := by
            by_cases h : valD (c :: r) ≤ 18446744073709551615
            · rw [if_pos h]; simp only [signedC]; rw [if_pos (by omega)]
            · rw [if_neg h]; rfl
          rw [l1]
          show ((0 : Int), false) = _
          split
          · rfl
          · unfold refTail; rw [if_pos hd, if_pos rfl, if_pos hbig]
        · rw [if_pos (by omega)]
          have e1 : signedC (2 ^ (64 - 1)) (.ok (valD (c :: r))) = .ok (-((valD (c :: r) : Nat) : Int)) := by
            simp only [signedC]; rw [if_neg (by omega)]
          rw [e1]
          have : itoa (-((valD (c :: r) : Nat) : Int)) = 45 :: decDigits (valD (c :: r)) := by unfold itoa; rw [if_pos (by omega)]; simp
          simp only
          rw [this, k1, if_pos rfl]
          have h19 := pow19 (Nat.le_trans hlen (by omega))
          rw [if_neg (by rintro (h | h | h) <;> omega)]
          unfold refTail; rw [if_pos hd, if_pos rfl, if_neg hbig]
    · have hr : refBody true (c :: r) = (0, false) := by
        rw [refBody_cons]; unfold refTail; rw [if_neg hd]; split <;> rfl
      rw [hr]
      split
      · rename_i v hv
        exfalso
        cases hp : parseUintM 18446744073709551615 0 (c :: r) with
        | ok u => exact hd (parse_ok_digits _ _ _ _ hp).1
        | _ => rw [hp] at hv; cases hv
      · rfl
theorem refN_eq (l : List UInt8) : numSpec l = refN l := by
  unfold refN
  split
  · rename_i h
    subst h
    decide +kernel
  · rename_i h0
    cases l with
    | nil => rfl
    | cons c r =>
      simp only
      split
      · rename_i h; subst h; exact body_neg r
      · rename_i h45
        have h45' : c.toNat ≠ 45 := fun e => h45 (u8_eq e)
        by_cases h43 : c.toNat = 43
        · -- a plus sign
          have e : c = 43 := u8_eq h43
          subst e
          have hr : refBody false (43 :: r) = (0, false) := by rw [refBody_cons, if_pos (Or.inr (Or.inl (by decide)))]
          rw [hr]
          unfold numSpec
          split
          · rw [if_neg]
            intro e
            rename_i v _
            unfold itoa at e
            split at e
            · simp at e
            · obtain ⟨_, e2, _⟩ := digits_canon v.toNat
              rw [e] at e2
              simp [isDig] at e2
          · rfl
        · exact body_pos c r h43 h45' h0
end Go.Proofs.YtcphalpcdcddpaaDoor
